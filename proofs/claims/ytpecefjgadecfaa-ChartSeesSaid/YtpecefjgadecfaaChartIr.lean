/- The compact form of the functions that are reached (written by program), and that it is theirs. -/
import Derived.Test.YtpecefjgadecfaaAe28
import Derived.Test.YtpecefjgadecfaaProg
import Derived.KernelRfl
namespace Go.Proofs.Ytpecefjgadecfaa.Chart
open Go Go.Proofs.Ytpecefjgadecfaa.AE
set_option maxRecDepth 100000
set_option linter.unusedVariables false

def quiet : FuncId → Bool := fun f => [8, 9, 10, 11, 12, 13, 14, 15, 16, 17, 18, 19, 20, 21, 22, 23, 24, 25, 26, 27, 28, 29, 30, 33, 34, 35, 36, 37, 39, 40, 41, 45, 49, 52, 53, 54, 55, 56, 57, 58, 59, 60, 61, 62, 63, 64, 65, 66, 67, 68, 69, 70, 71, 73, 74, 75, 76, 77, 78, 79, 80, 81, 82, 84, 85, 86, 87, 88, 89, 90, 91].contains f

def y (d : Nat) (op : IOp) : IOper := ⟨some d, op, none, [], [], false⟩
def x (op : IOp) : IOper := ⟨none, op, none, [], [], false⟩

/-- wainscot/wainscotlaw21.ChartPlaces -/
def i3 : IFun := ⟨78,
  (.seq
   (.region [
     y 3 (.box 24 6 (.t 0)),
     y 6 (.mv (.c (.bool false)))])
  (.seq
   (.region [
     y 9 (.load true 6 (.t 3)),
     y 10 (.call (.c (.func (.func 8) #[] #[])) [(.t 9)] true),
     y 11 (.load true 6 (.t 3)),
     y 12 (.call (.c (.func (.func 9) #[] #[])) [(.t 11)] true),
     y 13 (.load true 6 (.t 3)),
     y 14 (.mv (.t 1)),
     y 15 (.call (.c (.func (.func 10) #[] #[])) [(.t 13), (.t 14)] true),
     y 16 (.load true 6 (.t 3)),
     y 17 (.mv (.t 1)),
     y 18 (.call (.c (.func (.func 11) #[] #[])) [(.t 16), (.t 17)] true),
     y 19 (.load true 6 (.t 3)),
     y 20 (.call (.c (.func (.func 12) #[] #[])) [(.t 19)] true),
     y 21 (.load true 6 (.t 3)),
     y 22 (.call (.c (.func (.func 13) #[] #[])) [(.t 21)] true),
     y 23 (.load true 6 (.t 3)),
     y 24 (.call (.c (.func (.func 14) #[] #[])) [(.t 23)] true),
     y 25 (.load true 6 (.t 3)),
     y 26 (.mv (.t 1)),
     y 27 (.call (.c (.func (.func 15) #[] #[])) [(.t 25), (.t 26)] true),
     y 28 (.load true 6 (.t 3)),
     y 29 (.mv (.t 1)),
     y 30 (.call (.c (.func (.func 16) #[] #[])) [(.t 28), (.t 29)] true),
     y 31 (.load true 6 (.t 3)),
     y 32 (.mv (.t 1)),
     y 33 (.mv (.t 2)),
     y 34 (.call (.c (.func (.func 17) #[] #[])) [(.t 31), (.t 32), (.t 33)] true),
     y 35 (.buildSlice 3 [(.int .i64 0), (.int .i64 0), (.int .i64 0), (.int .i64 0), (.int .i64 0), (.int .i64 0), (.int .i64 0), (.int .i64 0), (.int .i64 0), (.int .i64 0)] 10 [(0, 1, (.t 10)), (1, 1, (.t 12)), (2, 1, (.t 15)), (3, 1, (.t 18)), (4, 1, (.t 20)), (5, 1, (.t 22)), (6, 1, (.t 24)), (7, 1, (.t 27)), (8, 1, (.t 30)), (9, 1, (.t 34))]),
     y 7 (.mv (.t 35))])
  (.seq
   (.region [
     y 36 (.load true 6 (.t 3)),
     y 37 (.call (.c (.func (.func 18) #[] #[])) [(.t 36)] true),
     y 38 (.load true 6 (.t 3)),
     y 39 (.call (.c (.func (.func 19) #[] #[])) [(.t 38)] true),
     y 40 (.load true 6 (.t 3)),
     y 41 (.mv (.t 1)),
     y 42 (.call (.c (.func (.func 20) #[] #[])) [(.t 40), (.t 41)] true),
     y 43 (.load true 6 (.t 3)),
     y 44 (.mv (.t 1)),
     y 45 (.call (.c (.func (.func 21) #[] #[])) [(.t 43), (.t 44)] true),
     y 46 (.load true 6 (.t 3)),
     y 47 (.call (.c (.func (.func 22) #[] #[])) [(.t 46)] true),
     y 48 (.load true 6 (.t 3)),
     y 49 (.call (.c (.func (.func 23) #[] #[])) [(.t 48)] true),
     y 50 (.load true 6 (.t 3)),
     y 51 (.call (.c (.func (.func 24) #[] #[])) [(.t 50)] true),
     y 52 (.load true 6 (.t 3)),
     y 53 (.mv (.t 1)),
     y 54 (.call (.c (.func (.func 25) #[] #[])) [(.t 52), (.t 53)] true),
     y 55 (.load true 6 (.t 3)),
     y 56 (.mv (.t 1)),
     y 57 (.call (.c (.func (.func 26) #[] #[])) [(.t 55), (.t 56)] true),
     y 58 (.load true 6 (.t 3)),
     y 59 (.mv (.t 1)),
     y 60 (.mv (.t 2)),
     y 61 (.call (.c (.func (.func 27) #[] #[])) [(.t 58), (.t 59), (.t 60)] true),
     y 62 (.buildSlice 3 [(.int .i64 0), (.int .i64 0), (.int .i64 0), (.int .i64 0), (.int .i64 0), (.int .i64 0), (.int .i64 0), (.int .i64 0), (.int .i64 0), (.int .i64 0)] 10 [(0, 1, (.t 37)), (1, 1, (.t 39)), (2, 1, (.t 42)), (3, 1, (.t 45)), (4, 1, (.t 47)), (5, 1, (.t 49)), (6, 1, (.t 51)), (7, 1, (.t 54)), (8, 1, (.t 57)), (9, 1, (.t 61))]),
     y 8 (.mv (.t 62))])
  (.seq
   (.region [
     y 63 (.mv (.t 7)),
     y 64 (.mv (.t 8)),
     y 65 (.call (.c (.func (.func 28) #[] #[])) [(.t 63), (.t 64)] true),
     y 66 (.mv (.t 65)),
     ⟨(some 67), .load true 6 (.t 3), (some (66, true)), [], [], false⟩,
     ⟨(some 68), .mv (.t 1), (some (66, true)), [], [], false⟩,
     ⟨(some 69), .call (.c (.func (.func 29) #[] #[])) [(.t 67), (.t 68)] true, (some (66, true)), [], [], false⟩,
     ⟨(some 70), .load true 6 (.t 3), (some (66, true)), [], [], false⟩,
     ⟨(some 71), .mv (.t 1), (some (66, true)), [], [], false⟩,
     ⟨(some 72), .call (.c (.func (.func 30) #[] #[])) [(.t 70), (.t 71)] true, (some (66, true)), [], [], false⟩,
     ⟨(some 73), .bin .eql .int (.t 69) (.t 72), (some (66, true)), [], [], false⟩,
     y 74 (.pick (.t 66) (.t 73) (.c (.bool false))),
     y 75 (.mv (.t 74)),
     ⟨(some 76), .call (.c (.func (.func 31) #[] #[])) [] false, (some (75, true)), [], [], false⟩,
     y 77 (.pick (.t 75) (.t 76) (.c (.bool false))),
     y 6 (.mv (.t 77))])
  .ret)))),
  [.tmp 6]⟩

/-- wainscot/wainscotlaw21.ChartSees -/
def i4 : IFun := ⟨62,
  (.seq
   (.region [
     y 3 (.box 24 6 (.t 1)),
     y 4 (.mv (.c (.bool false)))])
  (.seq
   (.seq
    (.region [
      y 12 (.mv (.t 0)),
      y 13 (.lenS (.t 12)),
      y 14 (.bin .rem .int (.t 13) (.c (.int .i64 7))),
      y 15 (.bin .neq .int (.t 14) (.c (.int .i64 3)))])
   (.cond (.t 15)
    (.region [
      y 16 (.mv (.t 0)),
      y 17 (.load true 6 (.t 3)),
      y 18 (.call (.c (.func (.func 32) #[] #[])) [(.t 16), (.t 17)] false),
      y 0 (.mv (.t 18))])
    .skip))
  (.seq
   (.region [
     y 5 (.mv (.c (.slice none 0 0)))])
  (.seq
   (.region [
     y 19 (.mv (.t 5)),
     y 20 (.mv (.t 0)),
     y 21 (.append 22 1 8 (.t 19) (.t 20)),
     y 5 (.mv (.t 21))])
  (.seq
   (.region [
     y 23 (.mv (.t 5)),
     y 24 (.load true 6 (.t 3)),
     y 25 (.call (.c (.func (.func 33) #[] #[])) [(.t 23), (.t 24)] true),
     y 22 (.mv (.t 25)),
     y 26 (.extract (.t 22) 0),
     y 27 (.extract (.t 22) 1),
     y 6 (.new 40 [(.slice none 0 0), (.slice none 0 0), (.bool false), (.slice none 0 0)]),
     x (.store 4 (.t 6) (.t 26)),
     y 7 (.mv (.t 27))])
  (.seq
   (.region [
     y 29 (.mv (.t 0)),
     y 30 (.load true 6 (.t 3)),
     y 31 (.call (.c (.func (.func 34) #[] #[])) [(.t 29), (.t 30)] true),
     y 28 (.mv (.t 31)),
     y 32 (.extract (.t 28) 0),
     y 33 (.extract (.t 28) 1),
     y 8 (.new 40 [(.slice none 0 0), (.slice none 0 0), (.bool false), (.slice none 0 0)]),
     x (.store 4 (.t 8) (.t 32)),
     y 9 (.mv (.t 33))])
  (.seq
   (.region [
     y 34 (.load true 4 (.t 6)),
     y 35 (.load true 4 (.t 8)),
     y 36 (.call (.c (.func (.func 35) #[] #[])) [(.t 34), (.t 35)] true),
     y 37 (.mv (.t 36)),
     ⟨(some 38), .mv (.t 7), (some (37, true)), [], [], false⟩,
     ⟨(some 39), .mv (.t 9), (some (37, true)), [], [], false⟩,
     ⟨(some 40), .bin .eql .int (.t 38) (.t 39), (some (37, true)), [], [], false⟩,
     y 41 (.pick (.t 37) (.t 40) (.c (.bool false))),
     y 10 (.mv (.t 41))])
  (.seq
   (.seq
    (.region [
      y 11 (.mv (.c (.int .i64 0)))])
   (.block 0
    (.loop
     (.seq
      (.seq
       (.region [
         y 42 (.mv (.t 11)),
         y 43 (.addOff 1 (.t 6)),
         y 44 (.load false 1 (.t 43)),
         y 45 (.lenS (.t 44)),
         y 46 (.bin .lss .int (.t 42) (.t 45))])
      (.cond (.t 46)
       .skip
       (.exit 0)))
     (.seq
      (.block 1
       (.region [
         y 49 (.addOff 1 (.t 6)),
         y 50 (.load false 1 (.t 49)),
         y 51 (.mv (.t 11)),
         y 52 (.idxS 1 (.t 50) (.t 51)),
         x (.store 1 (.t 52) (.c (.int .i64 (-9))))]))
     (.region [
       y 47 (.mv (.t 11)),
       y 48 (.bin .add .int (.t 47) (.c (.int .i64 1))),
       y 11 (.mv (.t 48))]))))))
  (.seq
   (.region [
     y 53 (.mv (.t 10)),
     y 54 (.mv (.t 53)),
     ⟨(some 55), .mv (.t 5), (some (54, true)), [], [], false⟩,
     ⟨(some 56), .mv (.t 0), (some (54, true)), [], [], false⟩,
     ⟨(some 57), .call (.c (.func (.func 36) #[] #[])) [(.t 55), (.t 56)] true, (some (54, true)), [], [], false⟩,
     y 58 (.pick (.t 54) (.t 57) (.c (.bool false))),
     y 59 (.mv (.t 58)),
     ⟨(some 60), .call (.c (.func (.func 31) #[] #[])) [] false, (some (59, true)), [], [], false⟩,
     y 61 (.pick (.t 59) (.t 60) (.c (.bool false))),
     y 4 (.mv (.t 61))])
  .ret))))))))),
  [.tmp 4]⟩

/-- wainscot/wainscotlaw21.ChartApart -/
def i5 : IFun := ⟨61,
  (.seq
   (.region [
     y 1 (.box 24 6 (.t 0)),
     y 2 (.mv (.c (.bool false)))])
  (.seq
   (.region [
     y 7 (.load true 6 (.t 1)),
     y 8 (.call (.c (.func (.func 37) #[] #[])) [(.t 7)] true),
     x (.store 6 (.t 1) (.t 8))])
  (.seq
   (.region [
     y 9 (.load true 6 (.t 1)),
     y 10 (.call (.c (.func (.func 9) #[] #[])) [(.t 9)] true),
     y 3 (.mv (.t 10))])
  (.seq
   (.seq
    (.region [
      y 11 (.load true 6 (.t 1)),
      y 12 (.call (.c (.func (.func 8) #[] #[])) [(.t 11)] true),
      y 13 (.bin .neq .int (.t 12) (.c (.int .i64 0))),
      y 14 (.mv (.t 13)),
      ⟨(some 15), .mv (.t 3), (some (14, false)), [], [], false⟩,
      ⟨(some 16), .bin .lss .int (.t 15) (.c (.int .i64 1)), (some (14, false)), [], [], false⟩,
      y 17 (.pick (.t 14) (.c (.bool true)) (.t 16)),
      y 18 (.mv (.t 17)),
      ⟨(some 19), .mv (.t 3), (some (18, false)), [], [], false⟩,
      ⟨(some 20), .bin .gtr .int (.t 19) (.c (.int .i64 4096)), (some (18, false)), [], [], false⟩,
      y 21 (.pick (.t 18) (.c (.bool true)) (.t 20))])
   (.cond (.t 21)
    (.seq
     (.region [
       y 2 (.mv (.c (.bool false)))])
    .ret)
    .skip))
  (.seq
   (.region [
     y 22 (.mv (.t 3)),
     y 23 (.mkSlice 4 (.bool false) 1 (.t 22) (.t 22)),
     y 4 (.mv (.t 23))])
  (.seq
   (.region [
     y 24 (.load true 6 (.t 1)),
     y 25 (.call (.c (.func (.func 38) #[] #[])) [(.t 24)] false),
     y 5 (.mv (.t 25))])
  (.seq
   (.seq
    (.region [
      y 6 (.mv (.c (.int .i64 0)))])
   (.block 0
    (.loop
     (.seq
      (.seq
       (.region [
         y 26 (.mv (.t 6)),
         y 27 (.mv (.t 5)),
         y 28 (.lenS (.t 27)),
         y 29 (.bin .lss .int (.t 26) (.t 28))])
      (.cond (.t 29)
       .skip
       (.exit 0)))
     (.seq
      (.block 1
       (.seq
        (.seq
         (.region [
           y 32 (.mv (.t 5)),
           y 33 (.mv (.t 6)),
           y 34 (.idxS 1 (.t 32) (.t 33)),
           y 35 (.load false 1 (.t 34)),
           y 36 (.bin .lss .int (.t 35) (.c (.int .i64 0))),
           y 37 (.mv (.t 36)),
           ⟨(some 38), .mv (.t 5), (some (37, false)), [], [], false⟩,
           ⟨(some 39), .mv (.t 6), (some (37, false)), [], [], false⟩,
           ⟨(some 40), .idxS 1 (.t 38) (.t 39), (some (37, false)), [], [], false⟩,
           ⟨(some 41), .load false 1 (.t 40), (some (37, false)), [], [], false⟩,
           ⟨(some 42), .mv (.t 3), (some (37, false)), [], [], false⟩,
           ⟨(some 43), .bin .geq .int (.t 41) (.t 42), (some (37, false)), [], [], false⟩,
           y 44 (.pick (.t 37) (.c (.bool true)) (.t 43)),
           y 45 (.mv (.t 44)),
           ⟨(some 46), .mv (.t 4), (some (45, false)), [], [], false⟩,
           ⟨(some 47), .mv (.t 5), (some (45, false)), [], [], false⟩,
           ⟨(some 48), .mv (.t 6), (some (45, false)), [], [], false⟩,
           ⟨(some 49), .idxS 1 (.t 47) (.t 48), (some (45, false)), [], [], false⟩,
           ⟨(some 50), .load false 1 (.t 49), (some (45, false)), [], [], false⟩,
           ⟨(some 51), .idxS 1 (.t 46) (.t 50), (some (45, false)), [], [], false⟩,
           ⟨(some 52), .load false 1 (.t 51), (some (45, false)), [], [], false⟩,
           y 53 (.pick (.t 45) (.c (.bool true)) (.t 52))])
        (.cond (.t 53)
         (.seq
          (.region [
            y 2 (.mv (.c (.bool false)))])
         .ret)
         .skip))
       (.region [
         y 54 (.mv (.t 4)),
         y 55 (.mv (.t 5)),
         y 56 (.mv (.t 6)),
         y 57 (.idxS 1 (.t 55) (.t 56)),
         y 58 (.load false 1 (.t 57)),
         y 59 (.idxS 1 (.t 54) (.t 58)),
         x (.store 1 (.t 59) (.c (.bool true)))])))
     (.region [
       y 30 (.mv (.t 6)),
       y 31 (.bin .add .int (.t 30) (.c (.int .i64 1))),
       y 6 (.mv (.t 31))]))))))
  (.seq
   (.region [
     y 60 (.call (.c (.func (.func 31) #[] #[])) [] false),
     y 2 (.mv (.t 60))])
  .ret)))))))),
  [.tmp 2]⟩

/-- wainscot/wainscotlaw21.ChartBlind -/
def i6 : IFun := ⟨114,
  (.seq
   (.region [
     y 4 (.box 24 6 (.t 1)),
     y 6 (.mv (.c (.bool false)))])
  (.seq
   (.region [
     y 18 (.load true 6 (.t 4)),
     y 19 (.call (.c (.func (.func 37) #[] #[])) [(.t 18)] true),
     x (.store 6 (.t 4) (.t 19))])
  (.seq
   (.region [
     y 20 (.load true 6 (.t 4)),
     y 21 (.call (.c (.func (.func 9) #[] #[])) [(.t 20)] true),
     y 7 (.mv (.t 21))])
  (.seq
   (.seq
    (.region [
      y 22 (.mv (.t 7)),
      y 23 (.bin .lss .int (.t 22) (.c (.int .i64 1))),
      y 24 (.mv (.t 23)),
      ⟨(some 25), .mv (.t 7), (some (24, false)), [], [], false⟩,
      ⟨(some 26), .bin .gtr .int (.t 25) (.c (.int .i64 4096)), (some (24, false)), [], [], false⟩,
      y 27 (.pick (.t 24) (.c (.bool true)) (.t 26))])
   (.cond (.t 27)
    (.seq
     (.region [
       y 6 (.mv (.c (.bool false)))])
    .ret)
    .skip))
  (.seq
   (.region [
     y 28 (.mv (.t 7)),
     y 29 (.mkSlice 22 (.int .u64 0) 8 (.t 28) (.t 28)),
     y 8 (.mv (.t 29))])
  (.seq
   (.seq
    (.region [
      y 9 (.mv (.c (.int .i64 0)))])
   (.block 0
    (.loop
     (.seq
      (.seq
       (.region [
         y 30 (.mv (.t 9)),
         y 31 (.mv (.t 7)),
         y 32 (.bin .lss .int (.t 30) (.t 31)),
         y 33 (.mv (.t 32)),
         ⟨(some 34), .mv (.t 9), (some (33, true)), [], [], false⟩,
         ⟨(some 35), .mv (.t 0), (some (33, true)), [], [], false⟩,
         ⟨(some 36), .lenS (.t 35), (some (33, true)), [], [], false⟩,
         ⟨(some 37), .bin .lss .int (.t 34) (.t 36), (some (33, true)), [], [], false⟩,
         y 38 (.pick (.t 33) (.t 37) (.c (.bool false)))])
      (.cond (.t 38)
       .skip
       (.exit 0)))
     (.seq
      (.block 1
       (.region [
         y 41 (.mv (.t 8)),
         y 42 (.mv (.t 9)),
         y 43 (.mv (.t 0)),
         y 44 (.mv (.t 9)),
         y 45 (.idxS 1 (.t 43) (.t 44)),
         y 46 (.load false 1 (.t 45)),
         y 47 (.idxS 1 (.t 41) (.t 42)),
         x (.store 1 (.t 47) (.t 46))]))
     (.region [
       y 39 (.mv (.t 9)),
       y 40 (.bin .add .int (.t 39) (.c (.int .i64 1))),
       y 9 (.mv (.t 40))]))))))
  (.seq
   (.region [
     y 49 (.mv (.t 8)),
     y 50 (.load true 6 (.t 4)),
     y 51 (.call (.c (.func (.func 33) #[] #[])) [(.t 49), (.t 50)] true),
     y 48 (.mv (.t 51)),
     y 52 (.extract (.t 48) 0),
     y 53 (.extract (.t 48) 1),
     y 10 (.new 40 [(.slice none 0 0), (.slice none 0 0), (.bool false), (.slice none 0 0)]),
     x (.store 4 (.t 10) (.t 52)),
     y 11 (.mv (.t 53))])
  (.seq
   (.region [
     y 54 (.mv (.t 7)),
     y 55 (.mkSlice 4 (.bool false) 1 (.t 54) (.t 54)),
     y 12 (.mv (.t 55))])
  (.seq
   (.region [
     y 56 (.load true 6 (.t 4)),
     y 57 (.call (.c (.func (.func 38) #[] #[])) [(.t 56)] false),
     y 13 (.mv (.t 57))])
  (.seq
   (.seq
    (.region [
      y 14 (.mv (.c (.int .i64 0)))])
   (.block 2
    (.loop
     (.seq
      (.seq
       (.region [
         y 58 (.mv (.t 14)),
         y 59 (.mv (.t 13)),
         y 60 (.lenS (.t 59)),
         y 61 (.bin .lss .int (.t 58) (.t 60))])
      (.cond (.t 61)
       .skip
       (.exit 2)))
     (.seq
      (.block 3
       (.seq
        (.region [
          y 64 (.mv (.t 13)),
          y 65 (.mv (.t 14)),
          y 66 (.idxS 1 (.t 64) (.t 65)),
          y 67 (.load false 1 (.t 66)),
          y 68 (.bin .geq .int (.t 67) (.c (.int .i64 0))),
          y 69 (.mv (.t 68)),
          ⟨(some 70), .mv (.t 13), (some (69, true)), [], [], false⟩,
          ⟨(some 71), .mv (.t 14), (some (69, true)), [], [], false⟩,
          ⟨(some 72), .idxS 1 (.t 70) (.t 71), (some (69, true)), [], [], false⟩,
          ⟨(some 73), .load false 1 (.t 72), (some (69, true)), [], [], false⟩,
          ⟨(some 74), .mv (.t 7), (some (69, true)), [], [], false⟩,
          ⟨(some 75), .bin .lss .int (.t 73) (.t 74), (some (69, true)), [], [], false⟩,
          y 76 (.pick (.t 69) (.t 75) (.c (.bool false)))])
       (.cond (.t 76)
        (.region [
          y 77 (.mv (.t 12)),
          y 78 (.mv (.t 13)),
          y 79 (.mv (.t 14)),
          y 80 (.idxS 1 (.t 78) (.t 79)),
          y 81 (.load false 1 (.t 80)),
          y 82 (.idxS 1 (.t 77) (.t 81)),
          x (.store 1 (.t 82) (.c (.bool true)))])
        .skip)))
     (.region [
       y 62 (.mv (.t 14)),
       y 63 (.bin .add .int (.t 62) (.c (.int .i64 1))),
       y 14 (.mv (.t 63))]))))))
  (.seq
   (.seq
    (.region [
      y 15 (.mv (.c (.int .i64 0)))])
   (.block 4
    (.loop
     (.seq
      (.seq
       (.region [
         y 83 (.mv (.t 15)),
         y 84 (.mv (.t 7)),
         y 85 (.bin .lss .int (.t 83) (.t 84))])
      (.cond (.t 85)
       .skip
       (.exit 4)))
     (.seq
      (.block 5
       (.seq
        (.region [
          y 88 (.mv (.t 12)),
          y 89 (.mv (.t 15)),
          y 90 (.idxS 1 (.t 88) (.t 89)),
          y 91 (.load false 1 (.t 90)),
          y 92 (.un .not (.t 91))])
       (.cond (.t 92)
        (.region [
          y 93 (.mv (.t 8)),
          y 94 (.mv (.t 15)),
          y 95 (.mv (.t 2)),
          y 96 (.idxS 1 (.t 93) (.t 94)),
          x (.store 1 (.t 96) (.t 95))])
        .skip)))
     (.region [
       y 86 (.mv (.t 15)),
       y 87 (.bin .add .int (.t 86) (.c (.int .i64 1))),
       y 15 (.mv (.t 87))]))))))
  (.seq
   (.region [
     y 98 (.mv (.t 8)),
     y 99 (.load true 6 (.t 4)),
     y 100 (.call (.c (.func (.func 33) #[] #[])) [(.t 98), (.t 99)] true),
     y 97 (.mv (.t 100)),
     y 101 (.extract (.t 97) 0),
     y 102 (.extract (.t 97) 1),
     y 16 (.new 40 [(.slice none 0 0), (.slice none 0 0), (.bool false), (.slice none 0 0)]),
     x (.store 4 (.t 16) (.t 101)),
     y 17 (.mv (.t 102))])
  (.seq
   (.region [
     y 103 (.mv (.t 11)),
     y 104 (.mv (.t 17)),
     y 105 (.bin .eql .int (.t 103) (.t 104)),
     y 106 (.mv (.t 105)),
     ⟨(some 107), .load true 4 (.t 10), (some (106, true)), [], [], false⟩,
     ⟨(some 108), .load true 4 (.t 16), (some (106, true)), [], [], false⟩,
     ⟨(some 109), .call (.c (.func (.func 35) #[] #[])) [(.t 107), (.t 108)] true, (some (106, true)), [], [], false⟩,
     y 110 (.pick (.t 106) (.t 109) (.c (.bool false))),
     y 111 (.mv (.t 110)),
     ⟨(some 112), .call (.c (.func (.func 31) #[] #[])) [] false, (some (111, true)), [], [], false⟩,
     y 113 (.pick (.t 111) (.t 112) (.c (.bool false))),
     y 6 (.mv (.t 113))])
  .ret))))))))))))),
  [.tmp 6]⟩

/-- wainscot/chart.Check -/
def i8 : IFun := ⟨35,
  (.seq
   (.region [
     y 1 (.box 24 6 (.t 0)),
     y 2 (.mv (.c (.int .i64 0)))])
  (.seq
   (.block 0
    (.seq
     (.seq
      (.region [
        y 4 (.addOff 0 (.t 1)),
        y 5 (.load false 1 (.t 4)),
        y 6 (.bin .lss .int (.t 5) (.c (.int .i64 1))),
        y 3 (.mv (.t 6))])
     (.cond (.t 3)
      .skip
      (.seq
       (.region [
         y 7 (.addOff 0 (.t 1)),
         y 8 (.load false 1 (.t 7)),
         y 9 (.bin .gtr .int (.t 8) (.c (.int .i64 8))),
         y 3 (.mv (.t 9))])
      (.cond (.t 3)
       .skip
       (.seq
        (.region [
          y 10 (.addOff 1 (.t 1)),
          y 11 (.load false 1 (.t 10)),
          y 12 (.bin .lss .int (.t 11) (.c (.int .i64 1))),
          y 3 (.mv (.t 12))])
       (.cond (.t 3)
        .skip
        (.seq
         (.region [
           y 13 (.addOff 1 (.t 1)),
           y 14 (.load false 1 (.t 13)),
           y 15 (.bin .gtr .int (.t 14) (.c (.int .i64 32))),
           y 3 (.mv (.t 15))])
        (.cond (.t 3)
         .skip
         (.seq
          (.region [
            y 16 (.addOff 2 (.t 1)),
            y 17 (.load false 1 (.t 16)),
            y 18 (.bin .lss .int (.t 17) (.c (.int .i64 1))),
            y 3 (.mv (.t 18))])
         (.cond (.t 3)
          .skip
          (.region [
            y 19 (.addOff 2 (.t 1)),
            y 20 (.load false 1 (.t 19)),
            y 21 (.bin .gtr .int (.t 20) (.c (.int .i64 16))),
            y 3 (.mv (.t 21))])))))))))))
    (.cond (.t 3)
     (.seq
      (.region [
        y 2 (.mv (.c (.int .i64 2)))])
     .ret)
     (.seq
      (.seq
       (.region [
         y 23 (.addOff 3 (.t 1)),
         y 24 (.load false 1 (.t 23)),
         y 25 (.bin .lss .int (.t 24) (.c (.int .i64 0))),
         y 22 (.mv (.t 25))])
      (.cond (.t 22)
       .skip
       (.seq
        (.region [
          y 26 (.addOff 3 (.t 1)),
          y 27 (.load false 1 (.t 26)),
          y 28 (.bin .gtr .int (.t 27) (.c (.int .i64 32))),
          y 22 (.mv (.t 28))])
       (.cond (.t 22)
        .skip
        (.seq
         (.region [
           y 29 (.addOff 4 (.t 1)),
           y 30 (.load false 1 (.t 29)),
           y 31 (.bin .lss .int (.t 30) (.c (.int .i64 0))),
           y 22 (.mv (.t 31))])
        (.cond (.t 22)
         .skip
         (.region [
           y 32 (.addOff 4 (.t 1)),
           y 33 (.load false 1 (.t 32)),
           y 34 (.bin .gtr .int (.t 33) (.c (.int .i64 32))),
           y 22 (.mv (.t 34))])))))))
     (.cond (.t 22)
      (.seq
       (.region [
         y 2 (.mv (.c (.int .i64 2)))])
      .ret)
      .skip)))))
  (.seq
   (.region [
     y 2 (.mv (.c (.int .i64 0)))])
  .ret))),
  [.tmp 2]⟩

/-- wainscot/chart.Words -/
def i9 : IFun := ⟨14,
  (.seq
   (.region [
     y 1 (.box 24 6 (.t 0)),
     y 2 (.mv (.c (.int .i64 0)))])
  (.seq
   (.seq
    (.region [
      y 3 (.load true 6 (.t 1)),
      y 4 (.call (.c (.func (.func 8) #[] #[])) [(.t 3)] true),
      y 5 (.bin .neq .int (.t 4) (.c (.int .i64 0)))])
   (.cond (.t 5)
    (.seq
     (.region [
       y 2 (.mv (.c (.int .i64 0)))])
    .ret)
    .skip))
  (.seq
   (.region [
     y 6 (.load true 6 (.t 1)),
     y 7 (.call (.c (.func (.func 40) #[] #[])) [(.t 6)] true),
     y 8 (.addOff 1 (.t 1)),
     y 9 (.load false 1 (.t 8)),
     y 10 (.addOff 2 (.t 1)),
     y 11 (.load false 1 (.t 10)),
     y 12 (.bin .mul .int (.t 9) (.t 11)),
     y 13 (.bin .add .int (.t 7) (.t 12)),
     y 2 (.mv (.t 13))])
  .ret))),
  [.tmp 2]⟩

/-- wainscot/chart.Head -/
def i10 : IFun := ⟨11,
  (.seq
   (.region [
     y 2 (.box 24 6 (.t 0)),
     y 3 (.box 3 1 (.t 1)),
     y 4 (.mv (.c (.int .i64 0)))])
  (.seq
   (.region [
     y 5 (.load true 6 (.t 2)),
     y 6 (.load false 1 (.t 3)),
     y 7 (.addOff 0 (.t 2)),
     y 8 (.load false 1 (.t 7)),
     y 9 (.mkFunc 42 [] [(.t 3)]),
     y 10 (.call (.c (.func (.func 41) #[] #[])) [(.t 5), (.t 6), (.t 8), (.t 9)] true),
     y 4 (.mv (.t 10))])
  .ret)),
  [.tmp 4]⟩

/-- wainscot/chart.Part -/
def i11 : IFun := ⟨11,
  (.seq
   (.region [
     y 2 (.box 24 6 (.t 0)),
     y 3 (.box 3 1 (.t 1)),
     y 4 (.mv (.c (.int .i64 0)))])
  (.seq
   (.region [
     y 5 (.load true 6 (.t 2)),
     y 6 (.load false 1 (.t 3)),
     y 7 (.addOff 0 (.t 2)),
     y 8 (.load false 1 (.t 7)),
     y 9 (.mkFunc 43 [] [(.t 3)]),
     y 10 (.call (.c (.func (.func 41) #[] #[])) [(.t 5), (.t 6), (.t 8), (.t 9)] true),
     y 4 (.mv (.t 10))])
  .ret)),
  [.tmp 4]⟩

/-- wainscot/chart.Lock -/
def i12 : IFun := ⟨6,
  (.seq
   (.region [
     y 1 (.box 24 6 (.t 0)),
     y 2 (.mv (.c (.int .i64 0)))])
  (.seq
   (.region [
     y 3 (.load true 6 (.t 1)),
     y 4 (.mkFunc 44 [] [(.t 1)]),
     y 5 (.call (.c (.func (.func 41) #[] #[])) [(.t 3), (.c (.int .i64 0)), (.c (.int .i64 1)), (.t 4)] true),
     y 2 (.mv (.t 5))])
  .ret)),
  [.tmp 2]⟩

/-- wainscot/chart.Shelf -/
def i13 : IFun := ⟨6,
  (.seq
   (.region [
     y 1 (.box 24 6 (.t 0)),
     y 2 (.mv (.c (.int .i64 0)))])
  (.seq
   (.region [
     y 3 (.load true 6 (.t 1)),
     y 4 (.mkFunc 46 [] [(.t 1)]),
     y 5 (.call (.c (.func (.func 41) #[] #[])) [(.t 3), (.c (.int .i64 0)), (.c (.int .i64 1)), (.t 4)] true),
     y 2 (.mv (.t 5))])
  .ret)),
  [.tmp 2]⟩

/-- wainscot/chart.Held -/
def i14 : IFun := ⟨6,
  (.seq
   (.region [
     y 1 (.box 24 6 (.t 0)),
     y 2 (.mv (.c (.int .i64 0)))])
  (.seq
   (.region [
     y 3 (.load true 6 (.t 1)),
     y 4 (.mkFunc 47 [] [(.t 1)]),
     y 5 (.call (.c (.func (.func 41) #[] #[])) [(.t 3), (.c (.int .i64 0)), (.c (.int .i64 1)), (.t 4)] true),
     y 2 (.mv (.t 5))])
  .ret)),
  [.tmp 2]⟩

/-- wainscot/chart.First -/
def i15 : IFun := ⟨11,
  (.seq
   (.region [
     y 2 (.box 24 6 (.t 0)),
     y 3 (.box 3 1 (.t 1)),
     y 4 (.mv (.c (.int .i64 0)))])
  (.seq
   (.region [
     y 5 (.load true 6 (.t 2)),
     y 6 (.load false 1 (.t 3)),
     y 7 (.addOff 1 (.t 2)),
     y 8 (.load false 1 (.t 7)),
     y 9 (.mkFunc 48 [] [(.t 2), (.t 3)]),
     y 10 (.call (.c (.func (.func 41) #[] #[])) [(.t 5), (.t 6), (.t 8), (.t 9)] true),
     y 4 (.mv (.t 10))])
  .ret)),
  [.tmp 4]⟩

/-- wainscot/chart.Next -/
def i16 : IFun := ⟨11,
  (.seq
   (.region [
     y 2 (.box 24 6 (.t 0)),
     y 3 (.box 3 1 (.t 1)),
     y 4 (.mv (.c (.int .i64 0)))])
  (.seq
   (.region [
     y 5 (.load true 6 (.t 2)),
     y 6 (.load false 1 (.t 3)),
     y 7 (.addOff 1 (.t 2)),
     y 8 (.load false 1 (.t 7)),
     y 9 (.mkFunc 50 [] [(.t 2), (.t 3)]),
     y 10 (.call (.c (.func (.func 41) #[] #[])) [(.t 5), (.t 6), (.t 8), (.t 9)] true),
     y 4 (.mv (.t 10))])
  .ret)),
  [.tmp 4]⟩

/-- wainscot/chart.Link -/
def i17 : IFun := ⟨21,
  (.seq
   (.region [
     y 3 (.box 24 6 (.t 0)),
     y 4 (.box 3 1 (.t 1)),
     y 5 (.box 3 1 (.t 2)),
     y 6 (.mv (.c (.int .i64 0)))])
  (.seq
   (.seq
    (.region [
      y 7 (.load false 1 (.t 4)),
      y 8 (.bin .lss .int (.t 7) (.c (.int .i64 0))),
      y 9 (.mv (.t 8)),
      ⟨(some 10), .load false 1 (.t 4), (some (9, false)), [], [], false⟩,
      ⟨(some 11), .addOff 1 (.t 3), (some (9, false)), [], [], false⟩,
      ⟨(some 12), .load false 1 (.t 11), (some (9, false)), [], [], false⟩,
      ⟨(some 13), .bin .geq .int (.t 10) (.t 12), (some (9, false)), [], [], false⟩,
      y 14 (.pick (.t 9) (.c (.bool true)) (.t 13))])
   (.cond (.t 14)
    (.seq
     (.region [
       y 6 (.mv (.c (.int .i64 (-1))))])
    .ret)
    .skip))
  (.seq
   (.region [
     y 15 (.load true 6 (.t 3)),
     y 16 (.load false 1 (.t 5)),
     y 17 (.addOff 2 (.t 3)),
     y 18 (.load false 1 (.t 17)),
     y 19 (.mkFunc 51 [] [(.t 3), (.t 4), (.t 5)]),
     y 20 (.call (.c (.func (.func 41) #[] #[])) [(.t 15), (.t 16), (.t 18), (.t 19)] true),
     y 6 (.mv (.t 20))])
  .ret))),
  [.tmp 6]⟩

/-- wainscot/wainscotref21.Check -/
def i18 : IFun := ⟨34,
  (.seq
   (.region [
     y 1 (.box 24 6 (.t 0)),
     y 2 (.mv (.c (.int .i64 0)))])
  (.seq
   (.seq
    (.region [
      y 3 (.addOff 0 (.t 1)),
      y 4 (.load false 1 (.t 3)),
      y 5 (.bin .sub .int (.t 4) (.c (.int .i64 1))),
      y 6 (.call (.c (.func (.func 52) #[] #[])) [(.t 5), (.c (.int .i64 8))] true),
      y 7 (.un .not (.t 6)),
      y 8 (.mv (.t 7)),
      ⟨(some 9), .addOff 1 (.t 1), (some (8, false)), [], [], false⟩,
      ⟨(some 10), .load false 1 (.t 9), (some (8, false)), [], [], false⟩,
      ⟨(some 11), .bin .sub .int (.t 10) (.c (.int .i64 1)), (some (8, false)), [], [], false⟩,
      ⟨(some 12), .call (.c (.func (.func 52) #[] #[])) [(.t 11), (.c (.int .i64 32))] true, (some (8, false)), [], [], false⟩,
      ⟨(some 13), .un .not (.t 12), (some (8, false)), [], [], false⟩,
      y 14 (.pick (.t 8) (.c (.bool true)) (.t 13)),
      y 15 (.mv (.t 14)),
      ⟨(some 16), .addOff 2 (.t 1), (some (15, false)), [], [], false⟩,
      ⟨(some 17), .load false 1 (.t 16), (some (15, false)), [], [], false⟩,
      ⟨(some 18), .bin .sub .int (.t 17) (.c (.int .i64 1)), (some (15, false)), [], [], false⟩,
      ⟨(some 19), .call (.c (.func (.func 52) #[] #[])) [(.t 18), (.c (.int .i64 16))] true, (some (15, false)), [], [], false⟩,
      ⟨(some 20), .un .not (.t 19), (some (15, false)), [], [], false⟩,
      y 21 (.pick (.t 15) (.c (.bool true)) (.t 20)),
      y 22 (.mv (.t 21)),
      ⟨(some 23), .addOff 3 (.t 1), (some (22, false)), [], [], false⟩,
      ⟨(some 24), .load false 1 (.t 23), (some (22, false)), [], [], false⟩,
      ⟨(some 25), .call (.c (.func (.func 52) #[] #[])) [(.t 24), (.c (.int .i64 33))] true, (some (22, false)), [], [], false⟩,
      ⟨(some 26), .un .not (.t 25), (some (22, false)), [], [], false⟩,
      y 27 (.pick (.t 22) (.c (.bool true)) (.t 26)),
      y 28 (.mv (.t 27)),
      ⟨(some 29), .addOff 4 (.t 1), (some (28, false)), [], [], false⟩,
      ⟨(some 30), .load false 1 (.t 29), (some (28, false)), [], [], false⟩,
      ⟨(some 31), .call (.c (.func (.func 52) #[] #[])) [(.t 30), (.c (.int .i64 33))] true, (some (28, false)), [], [], false⟩,
      ⟨(some 32), .un .not (.t 31), (some (28, false)), [], [], false⟩,
      y 33 (.pick (.t 28) (.c (.bool true)) (.t 32))])
   (.cond (.t 33)
    (.seq
     (.region [
       y 2 (.mv (.c (.int .i64 2)))])
    .ret)
    .skip))
  (.seq
   (.region [
     y 2 (.mv (.c (.int .i64 0)))])
  .ret))),
  [.tmp 2]⟩

/-- wainscot/wainscotref21.Words -/
def i19 : IFun := ⟨20,
  (.seq
   (.region [
     y 1 (.box 24 6 (.t 0)),
     y 2 (.mv (.c (.int .i64 0)))])
  (.seq
   (.region [
     y 3 (.load true 6 (.t 1)),
     y 4 (.addOff 0 (.t 1)),
     y 5 (.load false 1 (.t 4)),
     y 6 (.bin .mul .int (.c (.int .i64 4)) (.t 5)),
     y 7 (.bin .add .int (.t 6) (.c (.int .i64 4))),
     y 8 (.addOff 1 (.t 1)),
     y 9 (.load false 1 (.t 8)),
     y 10 (.bin .mul .int (.c (.int .i64 4)) (.t 9)),
     y 11 (.bin .add .int (.t 7) (.t 10)),
     y 12 (.addOff 1 (.t 1)),
     y 13 (.load false 1 (.t 12)),
     y 14 (.addOff 2 (.t 1)),
     y 15 (.load false 1 (.t 14)),
     y 16 (.bin .mul .int (.t 13) (.t 15)),
     y 17 (.bin .add .int (.t 11) (.t 16)),
     y 18 (.call (.c (.func (.func 53) #[] #[])) [(.t 3), (.c (.bool true)), (.t 17)] true),
     y 19 (.minmax true (.t 18) [(.c (.int .i64 0))]),
     y 2 (.mv (.t 19))])
  .ret)),
  [.tmp 2]⟩

/-- wainscot/wainscotref21.Head -/
def i20 : IFun := ⟨13,
  (.seq
   (.region [
     y 2 (.box 24 6 (.t 0)),
     y 4 (.mv (.c (.int .i64 0)))])
  (.seq
   (.region [
     y 5 (.load true 6 (.t 2)),
     y 6 (.mv (.t 1)),
     y 7 (.addOff 0 (.t 2)),
     y 8 (.load false 1 (.t 7)),
     y 9 (.call (.c (.func (.func 52) #[] #[])) [(.t 6), (.t 8)] true),
     y 10 (.mv (.t 1)),
     y 11 (.bin .mul .int (.c (.int .i64 4)) (.t 10)),
     y 12 (.call (.c (.func (.func 53) #[] #[])) [(.t 5), (.t 9), (.t 11)] true),
     y 4 (.mv (.t 12))])
  .ret)),
  [.tmp 4]⟩

/-- wainscot/wainscotref21.Part -/
def i21 : IFun := ⟨14,
  (.seq
   (.region [
     y 2 (.box 24 6 (.t 0)),
     y 4 (.mv (.c (.int .i64 0)))])
  (.seq
   (.region [
     y 5 (.load true 6 (.t 2)),
     y 6 (.mv (.t 1)),
     y 7 (.addOff 0 (.t 2)),
     y 8 (.load false 1 (.t 7)),
     y 9 (.call (.c (.func (.func 52) #[] #[])) [(.t 6), (.t 8)] true),
     y 10 (.mv (.t 1)),
     y 11 (.bin .mul .int (.c (.int .i64 4)) (.t 10)),
     y 12 (.bin .add .int (.t 11) (.c (.int .i64 2))),
     y 13 (.call (.c (.func (.func 53) #[] #[])) [(.t 5), (.t 9), (.t 12)] true),
     y 4 (.mv (.t 13))])
  .ret)),
  [.tmp 4]⟩

/-- wainscot/wainscotref21.Lock -/
def i22 : IFun := ⟨8,
  (.seq
   (.region [
     y 1 (.box 24 6 (.t 0)),
     y 2 (.mv (.c (.int .i64 0)))])
  (.seq
   (.region [
     y 3 (.load true 6 (.t 1)),
     y 4 (.addOff 0 (.t 1)),
     y 5 (.load false 1 (.t 4)),
     y 6 (.bin .mul .int (.c (.int .i64 4)) (.t 5)),
     y 7 (.call (.c (.func (.func 53) #[] #[])) [(.t 3), (.c (.bool true)), (.t 6)] true),
     y 2 (.mv (.t 7))])
  .ret)),
  [.tmp 2]⟩

/-- wainscot/wainscotref21.Shelf -/
def i23 : IFun := ⟨9,
  (.seq
   (.region [
     y 1 (.box 24 6 (.t 0)),
     y 2 (.mv (.c (.int .i64 0)))])
  (.seq
   (.region [
     y 3 (.load true 6 (.t 1)),
     y 4 (.addOff 0 (.t 1)),
     y 5 (.load false 1 (.t 4)),
     y 6 (.bin .mul .int (.c (.int .i64 4)) (.t 5)),
     y 7 (.bin .add .int (.t 6) (.c (.int .i64 1))),
     y 8 (.call (.c (.func (.func 53) #[] #[])) [(.t 3), (.c (.bool true)), (.t 7)] true),
     y 2 (.mv (.t 8))])
  .ret)),
  [.tmp 2]⟩

/-- wainscot/wainscotref21.Held -/
def i24 : IFun := ⟨9,
  (.seq
   (.region [
     y 1 (.box 24 6 (.t 0)),
     y 2 (.mv (.c (.int .i64 0)))])
  (.seq
   (.region [
     y 3 (.load true 6 (.t 1)),
     y 4 (.addOff 0 (.t 1)),
     y 5 (.load false 1 (.t 4)),
     y 6 (.bin .mul .int (.c (.int .i64 4)) (.t 5)),
     y 7 (.bin .add .int (.t 6) (.c (.int .i64 2))),
     y 8 (.call (.c (.func (.func 53) #[] #[])) [(.t 3), (.c (.bool true)), (.t 7)] true),
     y 2 (.mv (.t 8))])
  .ret)),
  [.tmp 2]⟩

/-- wainscot/wainscotref21.First -/
def i25 : IFun := ⟨18,
  (.seq
   (.region [
     y 2 (.box 24 6 (.t 0)),
     y 4 (.mv (.c (.int .i64 0)))])
  (.seq
   (.region [
     y 5 (.load true 6 (.t 2)),
     y 6 (.mv (.t 1)),
     y 7 (.addOff 1 (.t 2)),
     y 8 (.load false 1 (.t 7)),
     y 9 (.call (.c (.func (.func 52) #[] #[])) [(.t 6), (.t 8)] true),
     y 10 (.addOff 0 (.t 2)),
     y 11 (.load false 1 (.t 10)),
     y 12 (.bin .mul .int (.c (.int .i64 4)) (.t 11)),
     y 13 (.bin .add .int (.t 12) (.c (.int .i64 4))),
     y 14 (.mv (.t 1)),
     y 15 (.bin .mul .int (.c (.int .i64 4)) (.t 14)),
     y 16 (.bin .add .int (.t 13) (.t 15)),
     y 17 (.call (.c (.func (.func 53) #[] #[])) [(.t 5), (.t 9), (.t 16)] true),
     y 4 (.mv (.t 17))])
  .ret)),
  [.tmp 4]⟩

/-- wainscot/wainscotref21.Next -/
def i26 : IFun := ⟨19,
  (.seq
   (.region [
     y 2 (.box 24 6 (.t 0)),
     y 4 (.mv (.c (.int .i64 0)))])
  (.seq
   (.region [
     y 5 (.load true 6 (.t 2)),
     y 6 (.mv (.t 1)),
     y 7 (.addOff 1 (.t 2)),
     y 8 (.load false 1 (.t 7)),
     y 9 (.call (.c (.func (.func 52) #[] #[])) [(.t 6), (.t 8)] true),
     y 10 (.addOff 0 (.t 2)),
     y 11 (.load false 1 (.t 10)),
     y 12 (.bin .mul .int (.c (.int .i64 4)) (.t 11)),
     y 13 (.bin .add .int (.t 12) (.c (.int .i64 4))),
     y 14 (.mv (.t 1)),
     y 15 (.bin .mul .int (.c (.int .i64 4)) (.t 14)),
     y 16 (.bin .add .int (.t 13) (.t 15)),
     y 17 (.bin .add .int (.t 16) (.c (.int .i64 2))),
     y 18 (.call (.c (.func (.func 53) #[] #[])) [(.t 5), (.t 9), (.t 17)] true),
     y 4 (.mv (.t 18))])
  .ret)),
  [.tmp 4]⟩

/-- wainscot/wainscotref21.Link -/
def i27 : IFun := ⟨34,
  (.seq
   (.region [
     y 3 (.box 24 6 (.t 0)),
     y 6 (.mv (.c (.int .i64 0)))])
  (.seq
   (.region [
     y 7 (.load true 6 (.t 3)),
     y 8 (.mv (.t 1)),
     y 9 (.addOff 1 (.t 3)),
     y 10 (.load false 1 (.t 9)),
     y 11 (.call (.c (.func (.func 52) #[] #[])) [(.t 8), (.t 10)] true),
     y 12 (.mv (.t 11)),
     ⟨(some 13), .mv (.t 2), (some (12, true)), [], [], false⟩,
     ⟨(some 14), .addOff 2 (.t 3), (some (12, true)), [], [], false⟩,
     ⟨(some 15), .load false 1 (.t 14), (some (12, true)), [], [], false⟩,
     ⟨(some 16), .call (.c (.func (.func 52) #[] #[])) [(.t 13), (.t 15)] true, (some (12, true)), [], [], false⟩,
     y 17 (.pick (.t 12) (.t 16) (.c (.bool false))),
     y 18 (.addOff 0 (.t 3)),
     y 19 (.load false 1 (.t 18)),
     y 20 (.bin .mul .int (.c (.int .i64 4)) (.t 19)),
     y 21 (.bin .add .int (.t 20) (.c (.int .i64 4))),
     y 22 (.addOff 1 (.t 3)),
     y 23 (.load false 1 (.t 22)),
     y 24 (.bin .mul .int (.c (.int .i64 4)) (.t 23)),
     y 25 (.bin .add .int (.t 21) (.t 24)),
     y 26 (.mv (.t 1)),
     y 27 (.addOff 2 (.t 3)),
     y 28 (.load false 1 (.t 27)),
     y 29 (.bin .mul .int (.t 26) (.t 28)),
     y 30 (.bin .add .int (.t 25) (.t 29)),
     y 31 (.mv (.t 2)),
     y 32 (.bin .add .int (.t 30) (.t 31)),
     y 33 (.call (.c (.func (.func 53) #[] #[])) [(.t 7), (.t 17), (.t 32)] true),
     y 6 (.mv (.t 33))])
  .ret)),
  [.tmp 6]⟩

/-- wainscot/wainscotref00.EqInts -/
def i28 : IFun := ⟨26,
  (.seq
   (.region [
     y 4 (.mv (.c (.bool false)))])
  (.seq
   (.seq
    (.region [
      y 6 (.mv (.t 0)),
      y 7 (.lenS (.t 6)),
      y 8 (.mv (.t 1)),
      y 9 (.lenS (.t 8)),
      y 10 (.bin .neq .int (.t 7) (.t 9))])
   (.cond (.t 10)
    (.seq
     (.region [
       y 4 (.mv (.c (.bool false)))])
    .ret)
    .skip))
  (.seq
   (.seq
    (.region [
      y 5 (.mv (.c (.int .i64 0)))])
   (.block 0
    (.loop
     (.seq
      (.seq
       (.region [
         y 11 (.mv (.t 5)),
         y 12 (.mv (.t 0)),
         y 13 (.lenS (.t 12)),
         y 14 (.bin .lss .int (.t 11) (.t 13))])
      (.cond (.t 14)
       .skip
       (.exit 0)))
     (.seq
      (.block 1
       (.seq
        (.region [
          y 17 (.mv (.t 0)),
          y 18 (.mv (.t 5)),
          y 19 (.idxS 1 (.t 17) (.t 18)),
          y 20 (.load false 1 (.t 19)),
          y 21 (.mv (.t 1)),
          y 22 (.mv (.t 5)),
          y 23 (.idxS 1 (.t 21) (.t 22)),
          y 24 (.load false 1 (.t 23)),
          y 25 (.bin .neq .int (.t 20) (.t 24))])
       (.cond (.t 25)
        (.seq
         (.region [
           y 4 (.mv (.c (.bool false)))])
        .ret)
        .skip)))
     (.region [
       y 15 (.mv (.t 5)),
       y 16 (.bin .add .int (.t 15) (.c (.int .i64 1))),
       y 5 (.mv (.t 16))]))))))
  (.seq
   (.region [
     y 4 (.mv (.c (.bool true)))])
  .ret)))),
  [.tmp 4]⟩

/-- wainscot/chart.Key -/
def i29 : IFun := ⟨11,
  (.seq
   (.region [
     y 2 (.box 24 6 (.t 0)),
     y 4 (.mv (.c (.int .u64 0)))])
  (.seq
   (.region [
     y 5 (.addOff 5 (.t 2)),
     y 6 (.load false 1 (.t 5)),
     y 7 (.mv (.t 1)),
     y 8 (.conv .u64 (.t 7)),
     y 9 (.bin .mul .int (.t 8) (.c (.int .u64 11400714819323198485))),
     y 10 (.bin .add .int (.t 6) (.t 9)),
     y 4 (.mv (.t 10))])
  .ret)),
  [.tmp 4]⟩

/-- wainscot/wainscotref21.Key -/
def i30 : IFun := ⟨11,
  (.seq
   (.region [
     y 2 (.box 24 6 (.t 0)),
     y 4 (.mv (.c (.int .u64 0)))])
  (.seq
   (.region [
     y 5 (.addOff 5 (.t 2)),
     y 6 (.load false 1 (.t 5)),
     y 7 (.mv (.t 1)),
     y 8 (.conv .u64 (.t 7)),
     y 9 (.bin .mul .int (.t 8) (.c (.int .u64 11400714819323198485))),
     y 10 (.bin .add .int (.t 6) (.t 9)),
     y 4 (.mv (.t 10))])
  .ret)),
  [.tmp 4]⟩

/-- wainscot/wainscotlaw21.works -/
def i31 : IFun := ⟨87,
  (.seq
   (.region [
     y 0 (.mv (.c (.bool false)))])
  (.seq
   (.region [
     y 4 (.call (.c (.func (.func 39) #[] #[])) [] true),
     y 1 (.new 24 [(.int .i64 0), (.int .i64 0), (.int .i64 0), (.int .i64 0), (.int .i64 0), (.int .u64 0)]),
     x (.store 6 (.t 1) (.t 4))])
  (.seq
   (.region [
     y 6 (.mkSlice 22 (.int .u64 0) 8 (.c (.int .i64 36)) (.c (.int .i64 36))),
     y 7 (.load true 6 (.t 1)),
     y 8 (.call (.c (.func (.func 33) #[] #[])) [(.t 6), (.t 7)] true),
     y 5 (.mv (.t 8)),
     y 9 (.extract (.t 5) 0),
     y 10 (.extract (.t 5) 1),
     y 2 (.new 40 [(.slice none 0 0), (.slice none 0 0), (.bool false), (.slice none 0 0)]),
     x (.store 4 (.t 2) (.t 9)),
     y 3 (.mv (.t 10))])
  (.seq
   (.region [
     y 11 (.load true 6 (.t 1)),
     y 12 (.call (.c (.func (.func 9) #[] #[])) [(.t 11)] true),
     y 13 (.bin .eql .int (.t 12) (.c (.int .i64 36))),
     y 14 (.mv (.t 13)),
     ⟨(some 15), .load true 6 (.t 1), (some (14, true)), [], [], false⟩,
     ⟨(some 16), .call (.c (.func (.func 10) #[] #[])) [(.t 15), (.c (.int .i64 1))] true, (some (14, true)), [], [], false⟩,
     ⟨(some 17), .bin .eql .int (.t 16) (.c (.int .i64 4)), (some (14, true)), [], [], false⟩,
     y 18 (.pick (.t 14) (.t 17) (.c (.bool false))),
     y 19 (.mv (.t 18)),
     ⟨(some 20), .load true 6 (.t 1), (some (19, true)), [], [], false⟩,
     ⟨(some 21), .call (.c (.func (.func 11) #[] #[])) [(.t 20), (.c (.int .i64 1))] true, (some (19, true)), [], [], false⟩,
     ⟨(some 22), .bin .eql .int (.t 21) (.c (.int .i64 6)), (some (19, true)), [], [], false⟩,
     y 23 (.pick (.t 19) (.t 22) (.c (.bool false))),
     y 24 (.mv (.t 23)),
     ⟨(some 25), .load true 6 (.t 1), (some (24, true)), [], [], false⟩,
     ⟨(some 26), .call (.c (.func (.func 12) #[] #[])) [(.t 25)] true, (some (24, true)), [], [], false⟩,
     ⟨(some 27), .bin .eql .int (.t 26) (.c (.int .i64 8)), (some (24, true)), [], [], false⟩,
     y 28 (.pick (.t 24) (.t 27) (.c (.bool false))),
     y 29 (.mv (.t 28)),
     ⟨(some 30), .load true 6 (.t 1), (some (29, true)), [], [], false⟩,
     ⟨(some 31), .call (.c (.func (.func 14) #[] #[])) [(.t 30)] true, (some (29, true)), [], [], false⟩,
     ⟨(some 32), .bin .eql .int (.t 31) (.c (.int .i64 10)), (some (29, true)), [], [], false⟩,
     y 33 (.pick (.t 29) (.t 32) (.c (.bool false))),
     y 34 (.mv (.t 33)),
     ⟨(some 35), .load true 6 (.t 1), (some (34, true)), [], [], false⟩,
     ⟨(some 36), .call (.c (.func (.func 15) #[] #[])) [(.t 35), (.c (.int .i64 0))] true, (some (34, true)), [], [], false⟩,
     ⟨(some 37), .bin .eql .int (.t 36) (.c (.int .i64 12)), (some (34, true)), [], [], false⟩,
     y 38 (.pick (.t 34) (.t 37) (.c (.bool false))),
     y 39 (.mv (.t 38)),
     ⟨(some 40), .load true 6 (.t 1), (some (39, true)), [], [], false⟩,
     ⟨(some 41), .call (.c (.func (.func 16) #[] #[])) [(.t 40), (.c (.int .i64 2))] true, (some (39, true)), [], [], false⟩,
     ⟨(some 42), .bin .eql .int (.t 41) (.c (.int .i64 22)), (some (39, true)), [], [], false⟩,
     y 43 (.pick (.t 39) (.t 42) (.c (.bool false))),
     y 44 (.mv (.t 43)),
     ⟨(some 45), .load true 6 (.t 1), (some (44, true)), [], [], false⟩,
     ⟨(some 46), .call (.c (.func (.func 17) #[] #[])) [(.t 45), (.c (.int .i64 2)), (.c (.int .i64 3))] true, (some (44, true)), [], [], false⟩,
     ⟨(some 47), .bin .eql .int (.t 46) (.c (.int .i64 35)), (some (44, true)), [], [], false⟩,
     y 48 (.pick (.t 44) (.t 47) (.c (.bool false))),
     y 49 (.mv (.t 48)),
     ⟨(some 50), .load true 6 (.t 1), (some (49, true)), [], [], false⟩,
     ⟨(some 51), .call (.c (.func (.func 17) #[] #[])) [(.t 50), (.c (.int .i64 2)), (.c (.int .i64 4))] true, (some (49, true)), [], [], false⟩,
     ⟨(some 52), .bin .eql .int (.t 51) (.c (.int .i64 (-1))), (some (49, true)), [], [], false⟩,
     y 53 (.pick (.t 49) (.t 52) (.c (.bool false))),
     y 54 (.mv (.t 53)),
     ⟨(some 55), .mv (.t 3), (some (54, true)), [], [], false⟩,
     ⟨(some 56), .bin .eql .int (.t 55) (.c (.int .i64 0)), (some (54, true)), [], [], false⟩,
     y 57 (.pick (.t 54) (.t 56) (.c (.bool false))),
     y 58 (.mv (.t 57)),
     ⟨(some 59), .addOff 0 (.t 2), (some (58, true)), [], [], false⟩,
     ⟨(some 60), .load false 1 (.t 59), (some (58, true)), [], [], false⟩,
     ⟨(some 61), .lenS (.t 60), (some (58, true)), [], [], false⟩,
     ⟨(some 62), .bin .eql .int (.t 61) (.c (.int .i64 2)), (some (58, true)), [], [], false⟩,
     y 63 (.pick (.t 58) (.t 62) (.c (.bool false))),
     y 64 (.mv (.t 63)),
     ⟨(some 65), .addOff 0 (.t 2), (some (64, true)), [], [], false⟩,
     ⟨(some 66), .load false 1 (.t 65), (some (64, true)), [], [], false⟩,
     ⟨(some 67), .idxS 4 (.t 66) (.c (.int .i64 0)), (some (64, true)), [], [], false⟩,
     ⟨(some 68), .addOff 0 (.t 67), (some (64, true)), [], [], false⟩,
     ⟨(some 69), .load false 1 (.t 68), (some (64, true)), [], [], false⟩,
     ⟨(some 70), .bin .eql .int (.t 69) (.c (.int .i64 (-1))), (some (64, true)), [], [], false⟩,
     y 71 (.pick (.t 64) (.t 70) (.c (.bool false))),
     y 72 (.mv (.t 71)),
     ⟨(some 73), .addOff 3 (.t 2), (some (72, true)), [], [], false⟩,
     ⟨(some 74), .load false 1 (.t 73), (some (72, true)), [], [], false⟩,
     ⟨(some 75), .lenS (.t 74), (some (72, true)), [], [], false⟩,
     ⟨(some 76), .bin .eql .int (.t 75) (.c (.int .i64 3)), (some (72, true)), [], [], false⟩,
     y 77 (.pick (.t 72) (.t 76) (.c (.bool false))),
     y 78 (.mv (.t 77)),
     ⟨(some 79), .addOff 3 (.t 2), (some (78, true)), [], [], false⟩,
     ⟨(some 80), .load false 1 (.t 79), (some (78, true)), [], [], false⟩,
     ⟨(some 81), .idxS 5 (.t 80) (.c (.int .i64 0)), (some (78, true)), [], [], false⟩,
     ⟨(some 82), .addOff 0 (.t 81), (some (78, true)), [], [], false⟩,
     ⟨(some 83), .addOff 3 (.t 82), (some (78, true)), [], [], false⟩,
     ⟨(some 84), .load false 1 (.t 83), (some (78, true)), [], [], false⟩,
     ⟨(some 85), .un .not (.t 84), (some (78, true)), [], [], false⟩,
     y 86 (.pick (.t 78) (.t 85) (.c (.bool false))),
     y 0 (.mv (.t 86))])
  .ret)))),
  [.tmp 0]⟩

/-- wainscot/wainscotlaw21.fitted -/
def i32 : IFun := ⟨30,
  (.seq
   (.region [
     y 3 (.box 24 6 (.t 1)),
     y 4 (.mv (.c (.slice none 0 0)))])
  (.seq
   (.region [
     y 7 (.load true 6 (.t 3)),
     y 8 (.call (.c (.func (.func 19) #[] #[])) [(.t 7)] true),
     y 9 (.mkSlice 22 (.int .u64 0) 8 (.t 8) (.t 8)),
     y 5 (.mv (.t 9))])
  (.seq
   (.seq
    (.region [
      y 6 (.mv (.c (.int .i64 0)))])
   (.block 0
    (.loop
     (.seq
      (.seq
       (.region [
         y 10 (.mv (.t 6)),
         y 11 (.mv (.t 5)),
         y 12 (.lenS (.t 11)),
         y 13 (.bin .lss .int (.t 10) (.t 12)),
         y 14 (.mv (.t 13)),
         ⟨(some 15), .mv (.t 6), (some (14, true)), [], [], false⟩,
         ⟨(some 16), .mv (.t 0), (some (14, true)), [], [], false⟩,
         ⟨(some 17), .lenS (.t 16), (some (14, true)), [], [], false⟩,
         ⟨(some 18), .bin .lss .int (.t 15) (.t 17), (some (14, true)), [], [], false⟩,
         y 19 (.pick (.t 14) (.t 18) (.c (.bool false)))])
      (.cond (.t 19)
       .skip
       (.exit 0)))
     (.seq
      (.block 1
       (.region [
         y 22 (.mv (.t 5)),
         y 23 (.mv (.t 6)),
         y 24 (.mv (.t 0)),
         y 25 (.mv (.t 6)),
         y 26 (.idxS 1 (.t 24) (.t 25)),
         y 27 (.load false 1 (.t 26)),
         y 28 (.idxS 1 (.t 22) (.t 23)),
         x (.store 1 (.t 28) (.t 27))]))
     (.region [
       y 20 (.mv (.t 6)),
       y 21 (.bin .add .int (.t 20) (.c (.int .i64 1))),
       y 6 (.mv (.t 21))]))))))
  (.seq
   (.region [
     y 29 (.mv (.t 5)),
     y 4 (.mv (.t 29))])
  .ret)))),
  [.tmp 4]⟩

/-- wainscot/chart.See -/
def i33 : IFun := ⟨95,
  (.seq
   (.region [
     y 3 (.box 24 6 (.t 1)),
     y 4 (.new 40 [(.slice none 0 0), (.slice none 0 0), (.bool false), (.slice none 0 0)]),
     y 5 (.mv (.c (.int .i64 0)))])
  (.seq
   (.seq
    (.region [
      y 16 (.load true 6 (.t 3)),
      y 17 (.call (.c (.func (.func 8) #[] #[])) [(.t 16)] true),
      y 18 (.bin .neq .int (.t 17) (.c (.int .i64 0))),
      y 19 (.mv (.t 18)),
      ⟨(some 20), .mv (.t 0), (some (19, false)), [], [], false⟩,
      ⟨(some 21), .lenS (.t 20), (some (19, false)), [], [], false⟩,
      ⟨(some 22), .load true 6 (.t 3), (some (19, false)), [], [], false⟩,
      ⟨(some 23), .call (.c (.func (.func 9) #[] #[])) [(.t 22)] true, (some (19, false)), [], [], false⟩,
      ⟨(some 24), .bin .neq .int (.t 21) (.t 23), (some (19, false)), [], [], false⟩,
      y 25 (.pick (.t 19) (.c (.bool true)) (.t 24))])
   (.cond (.t 25)
    (.seq
     (.region [
       y 26 (.build [(.slice none 0 0), (.slice none 0 0), (.bool false), (.slice none 0 0)] []),
       x (.store 4 (.t 4) (.t 26)),
       y 5 (.mv (.c (.int .i64 2)))])
    .ret)
    .skip))
  (.seq
   (.region [
     y 27 (.mv (.t 0)),
     y 28 (.load true 6 (.t 3)),
     y 29 (.build [(.slice none 0 0), (.int .i64 0), (.int .i64 0), (.int .i64 0), (.int .i64 0), (.int .i64 0), (.int .u64 0)] [(0, 1, (.t 27)), (1, 6, (.t 28))]),
     y 6 (.new 64 [(.slice none 0 0), (.int .i64 0), (.int .i64 0), (.int .i64 0), (.int .i64 0), (.int .i64 0), (.int .u64 0)]),
     x (.store 7 (.t 6) (.t 29))])
  (.seq
   (.region [
     y 30 (.mv (.t 0)),
     y 31 (.load true 6 (.t 3)),
     y 32 (.call (.c (.func (.func 12) #[] #[])) [(.t 31)] true),
     y 33 (.idxS 1 (.t 30) (.t 32)),
     y 34 (.load false 1 (.t 33)),
     y 35 (.bin .neq .int (.t 34) (.c (.int .u64 0))),
     y 36 (.build [(.slice none 0 0), (.slice none 0 0), (.bool false), (.slice none 0 0)] [(2, 1, (.t 35))]),
     y 7 (.new 40 [(.slice none 0 0), (.slice none 0 0), (.bool false), (.slice none 0 0)]),
     x (.store 4 (.t 7) (.t 36))])
  (.seq
   (.seq
    (.region [
      y 37 (.addOff 0 (.t 3)),
      y 38 (.load false 1 (.t 37)),
      y 39 (.mv (.c (.int .i64 0)))])
   (.block 0
    (.loop
     (.seq
      (.region [
        y 40 (.bin .lss .int (.t 39) (.t 38))])
     (.seq
      (.cond (.t 40)
       .skip
       (.exit 0))
     (.seq
      (.block 1
       (.seq
        (.region [
          y 41 (.mv (.t 39)),
          y 8 (.mv (.t 41))])
       (.seq
        (.region [
          y 43 (.load true 7 (.t 6)),
          y 44 (.mv (.t 8)),
          y 45 (.call (.c (.func (.func 54) #[] #[])) [(.t 43), (.t 44)] true),
          y 42 (.mv (.t 45)),
          y 46 (.extract (.t 42) 0),
          y 47 (.extract (.t 42) 1),
          y 9 (.new 58 [(.int .i64 0), (.slice none 0 0), (.int .u64 0), (.slice none 0 0)]),
          x (.store 4 (.t 9) (.t 46)),
          y 10 (.mv (.t 47))])
       (.seq
        (.seq
         (.region [
           y 48 (.mv (.t 10)),
           y 49 (.un .not (.t 48))])
        (.cond (.t 49)
         (.seq
          (.region [
            y 50 (.build [(.slice none 0 0), (.slice none 0 0), (.bool false), (.slice none 0 0)] []),
            x (.store 4 (.t 4) (.t 50)),
            y 5 (.mv (.c (.int .i64 150)))])
         .ret)
         .skip))
       (.region [
         y 51 (.addOff 0 (.t 7)),
         y 52 (.load false 1 (.t 51)),
         y 53 (.load true 4 (.t 9)),
         y 54 (.buildSlice 58 [(.int .i64 0), (.slice none 0 0), (.int .u64 0), (.slice none 0 0)] 1 [(0, 4, (.t 53))]),
         y 55 (.append 58 4 64 (.t 52) (.t 54)),
         y 56 (.addOff 0 (.t 7)),
         x (.store 1 (.t 56) (.t 55))])))))
     (.region [
       y 57 (.bin .add .int (.t 39) (.c (.int .i64 1))),
       y 39 (.mv (.t 57))])))))))
  (.seq
   (.region [
     y 59 (.load true 7 (.t 6)),
     y 60 (.mv (.t 0)),
     y 61 (.load true 6 (.t 3)),
     y 62 (.call (.c (.func (.func 13) #[] #[])) [(.t 61)] true),
     y 63 (.idxS 1 (.t 60) (.t 62)),
     y 64 (.load false 1 (.t 63)),
     y 65 (.call (.c (.func (.func 55) #[] #[])) [(.t 59), (.t 64), (.c (.func (.func 56) #[] #[]))] true),
     y 58 (.mv (.t 65)),
     y 66 (.extract (.t 58) 0),
     y 67 (.extract (.t 58) 1),
     y 11 (.mv (.t 66)),
     y 12 (.mv (.t 67))])
  (.seq
   (.seq
    (.region [
      y 68 (.mv (.t 12)),
      y 69 (.un .not (.t 68))])
   (.cond (.t 69)
    (.seq
     (.region [
       y 70 (.build [(.slice none 0 0), (.slice none 0 0), (.bool false), (.slice none 0 0)] []),
       x (.store 4 (.t 4) (.t 70)),
       y 5 (.mv (.c (.int .i64 150)))])
    .ret)
    .skip))
  (.seq
   (.region [
     y 71 (.mv (.t 11)),
     y 72 (.addOff 1 (.t 7)),
     x (.store 1 (.t 72) (.t 71))])
  (.seq
   (.seq
    (.region [
      y 73 (.addOff 1 (.t 3)),
      y 74 (.load false 1 (.t 73)),
      y 75 (.mv (.c (.int .i64 0)))])
   (.block 2
    (.loop
     (.seq
      (.region [
        y 76 (.bin .lss .int (.t 75) (.t 74))])
     (.seq
      (.cond (.t 76)
       .skip
       (.exit 2))
     (.seq
      (.block 3
       (.seq
        (.region [
          y 77 (.mv (.t 75)),
          y 13 (.mv (.t 77))])
       (.seq
        (.region [
          y 79 (.load true 7 (.t 6)),
          y 80 (.mv (.t 13)),
          y 81 (.call (.c (.func (.func 57) #[] #[])) [(.t 79), (.t 80)] true),
          y 78 (.mv (.t 81)),
          y 82 (.extract (.t 78) 0),
          y 83 (.extract (.t 78) 1),
          y 14 (.new 62 [(.int .i64 0), (.int .i64 0), (.bool false), (.bool false), (.slice none 0 0)]),
          x (.store 5 (.t 14) (.t 82)),
          y 15 (.mv (.t 83))])
       (.seq
        (.seq
         (.region [
           y 84 (.mv (.t 15)),
           y 85 (.un .not (.t 84))])
        (.cond (.t 85)
         (.seq
          (.region [
            y 86 (.build [(.slice none 0 0), (.slice none 0 0), (.bool false), (.slice none 0 0)] []),
            x (.store 4 (.t 4) (.t 86)),
            y 5 (.mv (.c (.int .i64 150)))])
         .ret)
         .skip))
       (.region [
         y 87 (.addOff 3 (.t 7)),
         y 88 (.load false 1 (.t 87)),
         y 89 (.load true 5 (.t 14)),
         y 90 (.buildSlice 62 [(.int .i64 0), (.int .i64 0), (.bool false), (.bool false), (.slice none 0 0)] 1 [(0, 5, (.t 89))]),
         y 91 (.append 62 5 48 (.t 88) (.t 90)),
         y 92 (.addOff 3 (.t 7)),
         x (.store 1 (.t 92) (.t 91))])))))
     (.region [
       y 93 (.bin .add .int (.t 75) (.c (.int .i64 1))),
       y 75 (.mv (.t 93))])))))))
  (.seq
   (.region [
     y 94 (.load true 4 (.t 7)),
     x (.store 4 (.t 4) (.t 94)),
     y 5 (.mv (.c (.int .i64 0)))])
  .ret)))))))))),
  [.cell 4 true 4, .tmp 5]⟩

/-- wainscot/wainscotref21.See -/
def i34 : IFun := ⟨92,
  (.seq
   (.region [
     y 3 (.box 24 6 (.t 1)),
     y 4 (.new 40 [(.slice none 0 0), (.slice none 0 0), (.bool false), (.slice none 0 0)]),
     y 5 (.mv (.c (.int .i64 0)))])
  (.seq
   (.seq
    (.region [
      y 15 (.load true 6 (.t 3)),
      y 16 (.call (.c (.func (.func 18) #[] #[])) [(.t 15)] true),
      y 17 (.bin .neq .int (.t 16) (.c (.int .i64 0))),
      y 18 (.mv (.t 17)),
      ⟨(some 19), .mv (.t 0), (some (18, false)), [], [], false⟩,
      ⟨(some 20), .lenS (.t 19), (some (18, false)), [], [], false⟩,
      ⟨(some 21), .load true 6 (.t 3), (some (18, false)), [], [], false⟩,
      ⟨(some 22), .call (.c (.func (.func 19) #[] #[])) [(.t 21)] true, (some (18, false)), [], [], false⟩,
      ⟨(some 23), .bin .neq .int (.t 20) (.t 22), (some (18, false)), [], [], false⟩,
      y 24 (.pick (.t 18) (.c (.bool true)) (.t 23))])
   (.cond (.t 24)
    (.seq
     (.region [
       y 25 (.build [(.slice none 0 0), (.slice none 0 0), (.bool false), (.slice none 0 0)] []),
       x (.store 4 (.t 4) (.t 25)),
       y 5 (.mv (.c (.int .i64 2)))])
    .ret)
    .skip))
  (.seq
   (.region [
     y 26 (.mv (.t 0)),
     y 27 (.load true 6 (.t 3)),
     y 28 (.call (.c (.func (.func 22) #[] #[])) [(.t 27)] true),
     y 29 (.idxS 1 (.t 26) (.t 28)),
     y 30 (.load false 1 (.t 29)),
     y 31 (.bin .neq .int (.t 30) (.c (.int .u64 0))),
     y 32 (.build [(.slice none 0 0), (.slice none 0 0), (.bool false), (.slice none 0 0)] [(2, 1, (.t 31))]),
     y 6 (.new 40 [(.slice none 0 0), (.slice none 0 0), (.bool false), (.slice none 0 0)]),
     x (.store 4 (.t 6) (.t 32))])
  (.seq
   (.seq
    (.region [
      y 7 (.mv (.c (.int .i64 0)))])
   (.block 0
    (.loop
     (.seq
      (.seq
       (.region [
         y 33 (.mv (.t 7)),
         y 34 (.addOff 0 (.t 3)),
         y 35 (.load false 1 (.t 34)),
         y 36 (.bin .lss .int (.t 33) (.t 35))])
      (.cond (.t 36)
       .skip
       (.exit 0)))
     (.seq
      (.block 1
       (.seq
        (.region [
          y 40 (.mv (.t 0)),
          y 41 (.load true 6 (.t 3)),
          y 42 (.mv (.t 7)),
          y 43 (.call (.c (.func (.func 58) #[] #[])) [(.t 40), (.t 41), (.t 42)] true),
          y 39 (.mv (.t 43)),
          y 44 (.extract (.t 39) 0),
          y 45 (.extract (.t 39) 1),
          y 8 (.new 58 [(.int .i64 0), (.slice none 0 0), (.int .u64 0), (.slice none 0 0)]),
          x (.store 4 (.t 8) (.t 44)),
          y 9 (.mv (.t 45))])
       (.seq
        (.seq
         (.region [
           y 46 (.mv (.t 9)),
           y 47 (.bin .neq .int (.t 46) (.c (.int .i64 0)))])
        (.cond (.t 47)
         (.seq
          (.region [
            y 48 (.build [(.slice none 0 0), (.slice none 0 0), (.bool false), (.slice none 0 0)] []),
            y 49 (.mv (.t 9)),
            x (.store 4 (.t 4) (.t 48)),
            y 5 (.mv (.t 49))])
         .ret)
         .skip))
       (.region [
         y 50 (.addOff 0 (.t 6)),
         y 51 (.load false 1 (.t 50)),
         y 52 (.load true 4 (.t 8)),
         y 53 (.buildSlice 58 [(.int .i64 0), (.slice none 0 0), (.int .u64 0), (.slice none 0 0)] 1 [(0, 4, (.t 52))]),
         y 54 (.append 58 4 64 (.t 51) (.t 53)),
         y 55 (.addOff 0 (.t 6)),
         x (.store 1 (.t 55) (.t 54))]))))
     (.region [
       y 37 (.mv (.t 7)),
       y 38 (.bin .add .int (.t 37) (.c (.int .i64 1))),
       y 7 (.mv (.t 38))]))))))
  (.seq
   (.region [
     y 57 (.mv (.t 0)),
     y 58 (.load true 6 (.t 3)),
     y 59 (.call (.c (.func (.func 59) #[] #[])) [(.t 57), (.t 58)] true),
     y 56 (.mv (.t 59)),
     y 60 (.extract (.t 56) 0),
     y 61 (.extract (.t 56) 1),
     y 10 (.mv (.t 60)),
     y 11 (.mv (.t 61))])
  (.seq
   (.seq
    (.region [
      y 62 (.mv (.t 11)),
      y 63 (.bin .neq .int (.t 62) (.c (.int .i64 0)))])
   (.cond (.t 63)
    (.seq
     (.region [
       y 64 (.build [(.slice none 0 0), (.slice none 0 0), (.bool false), (.slice none 0 0)] []),
       y 65 (.mv (.t 11)),
       x (.store 4 (.t 4) (.t 64)),
       y 5 (.mv (.t 65))])
    .ret)
    .skip))
  (.seq
   (.region [
     y 66 (.mv (.t 10)),
     y 67 (.addOff 1 (.t 6)),
     x (.store 1 (.t 67) (.t 66))])
  (.seq
   (.seq
    (.region [
      y 12 (.mv (.c (.int .i64 0)))])
   (.block 2
    (.loop
     (.seq
      (.seq
       (.region [
         y 68 (.mv (.t 12)),
         y 69 (.addOff 1 (.t 3)),
         y 70 (.load false 1 (.t 69)),
         y 71 (.bin .lss .int (.t 68) (.t 70))])
      (.cond (.t 71)
       .skip
       (.exit 2)))
     (.seq
      (.block 3
       (.seq
        (.region [
          y 75 (.mv (.t 0)),
          y 76 (.load true 6 (.t 3)),
          y 77 (.mv (.t 12)),
          y 78 (.call (.c (.func (.func 60) #[] #[])) [(.t 75), (.t 76), (.t 77)] true),
          y 74 (.mv (.t 78)),
          y 79 (.extract (.t 74) 0),
          y 80 (.extract (.t 74) 1),
          y 13 (.new 62 [(.int .i64 0), (.int .i64 0), (.bool false), (.bool false), (.slice none 0 0)]),
          x (.store 5 (.t 13) (.t 79)),
          y 14 (.mv (.t 80))])
       (.seq
        (.seq
         (.region [
           y 81 (.mv (.t 14)),
           y 82 (.bin .neq .int (.t 81) (.c (.int .i64 0)))])
        (.cond (.t 82)
         (.seq
          (.region [
            y 83 (.build [(.slice none 0 0), (.slice none 0 0), (.bool false), (.slice none 0 0)] []),
            y 84 (.mv (.t 14)),
            x (.store 4 (.t 4) (.t 83)),
            y 5 (.mv (.t 84))])
         .ret)
         .skip))
       (.region [
         y 85 (.addOff 3 (.t 6)),
         y 86 (.load false 1 (.t 85)),
         y 87 (.load true 5 (.t 13)),
         y 88 (.buildSlice 62 [(.int .i64 0), (.int .i64 0), (.bool false), (.bool false), (.slice none 0 0)] 1 [(0, 5, (.t 87))]),
         y 89 (.append 62 5 48 (.t 86) (.t 88)),
         y 90 (.addOff 3 (.t 6)),
         x (.store 1 (.t 90) (.t 89))]))))
     (.region [
       y 72 (.mv (.t 12)),
       y 73 (.bin .add .int (.t 72) (.c (.int .i64 1))),
       y 12 (.mv (.t 73))]))))))
  (.seq
   (.region [
     y 91 (.load true 4 (.t 6)),
     x (.store 4 (.t 4) (.t 91)),
     y 5 (.mv (.c (.int .i64 0)))])
  .ret))))))))),
  [.cell 4 true 4, .tmp 5]⟩

/-- wainscot/wainscotref21.Same -/
def i35 : IFun := ⟨121,
  (.seq
   (.region [
     y 2 (.box 40 4 (.t 0)),
     y 3 (.box 40 4 (.t 1)),
     y 4 (.mv (.c (.bool false)))])
  (.seq
   (.seq
    (.region [
      y 9 (.addOff 0 (.t 2)),
      y 10 (.load false 1 (.t 9)),
      y 11 (.lenS (.t 10)),
      y 12 (.addOff 0 (.t 3)),
      y 13 (.load false 1 (.t 12)),
      y 14 (.lenS (.t 13)),
      y 15 (.bin .neq .int (.t 11) (.t 14)),
      y 16 (.mv (.t 15)),
      ⟨(some 17), .addOff 3 (.t 2), (some (16, false)), [], [], false⟩,
      ⟨(some 18), .load false 1 (.t 17), (some (16, false)), [], [], false⟩,
      ⟨(some 19), .lenS (.t 18), (some (16, false)), [], [], false⟩,
      ⟨(some 20), .addOff 3 (.t 3), (some (16, false)), [], [], false⟩,
      ⟨(some 21), .load false 1 (.t 20), (some (16, false)), [], [], false⟩,
      ⟨(some 22), .lenS (.t 21), (some (16, false)), [], [], false⟩,
      ⟨(some 23), .bin .neq .int (.t 19) (.t 22), (some (16, false)), [], [], false⟩,
      y 24 (.pick (.t 16) (.c (.bool true)) (.t 23)),
      y 25 (.mv (.t 24)),
      ⟨(some 26), .addOff 1 (.t 2), (some (25, false)), [], [], false⟩,
      ⟨(some 27), .load false 1 (.t 26), (some (25, false)), [], [], false⟩,
      ⟨(some 28), .addOff 1 (.t 3), (some (25, false)), [], [], false⟩,
      ⟨(some 29), .load false 1 (.t 28), (some (25, false)), [], [], false⟩,
      ⟨(some 30), .call (.c (.func (.func 28) #[] #[])) [(.t 27), (.t 29)] true, (some (25, false)), [], [], false⟩,
      ⟨(some 31), .un .not (.t 30), (some (25, false)), [], [], false⟩,
      y 32 (.pick (.t 25) (.c (.bool true)) (.t 31)),
      y 33 (.mv (.t 32)),
      ⟨(some 34), .addOff 2 (.t 2), (some (33, false)), [], [], false⟩,
      ⟨(some 35), .load false 1 (.t 34), (some (33, false)), [], [], false⟩,
      ⟨(some 36), .addOff 2 (.t 3), (some (33, false)), [], [], false⟩,
      ⟨(some 37), .load false 1 (.t 36), (some (33, false)), [], [], false⟩,
      ⟨(some 38), .bin .neq .bool (.t 35) (.t 37), (some (33, false)), [], [], false⟩,
      y 39 (.pick (.t 33) (.c (.bool true)) (.t 38))])
   (.cond (.t 39)
    (.seq
     (.region [
       y 4 (.mv (.c (.bool false)))])
    .ret)
    .skip))
  (.seq
   (.seq
    (.region [
      y 5 (.mv (.c (.int .i64 0)))])
   (.block 0
    (.loop
     (.seq
      (.seq
       (.region [
         y 40 (.mv (.t 5)),
         y 41 (.addOff 0 (.t 2)),
         y 42 (.load false 1 (.t 41)),
         y 43 (.lenS (.t 42)),
         y 44 (.bin .lss .int (.t 40) (.t 43))])
      (.cond (.t 44)
       .skip
       (.exit 0)))
     (.seq
      (.block 1
       (.seq
        (.region [
          y 47 (.addOff 0 (.t 2)),
          y 48 (.load false 1 (.t 47)),
          y 49 (.mv (.t 5)),
          y 50 (.idxS 4 (.t 48) (.t 49)),
          y 51 (.load true 4 (.t 50)),
          y 52 (.addOff 0 (.t 3)),
          y 53 (.load false 1 (.t 52)),
          y 54 (.mv (.t 5)),
          y 55 (.idxS 4 (.t 53) (.t 54)),
          y 56 (.load true 4 (.t 55)),
          y 6 (.new 58 [(.int .i64 0), (.slice none 0 0), (.int .u64 0), (.slice none 0 0)]),
          y 7 (.new 58 [(.int .i64 0), (.slice none 0 0), (.int .u64 0), (.slice none 0 0)]),
          ⟨none, .store 4 (.t 6) (.t 51), none, [], [6, 9], false⟩,
          x (.store 4 (.t 7) (.t 56))])
       (.seq
        (.region [
          y 57 (.addOff 0 (.t 6)),
          y 58 (.load false 1 (.t 57)),
          y 59 (.addOff 0 (.t 7)),
          y 60 (.load false 1 (.t 59)),
          y 61 (.bin .neq .int (.t 58) (.t 60)),
          y 62 (.mv (.t 61)),
          ⟨(some 63), .addOff 2 (.t 6), (some (62, false)), [], [], false⟩,
          ⟨(some 64), .load false 1 (.t 63), (some (62, false)), [], [], false⟩,
          ⟨(some 65), .addOff 2 (.t 7), (some (62, false)), [], [], false⟩,
          ⟨(some 66), .load false 1 (.t 65), (some (62, false)), [], [], false⟩,
          ⟨(some 67), .bin .neq .int (.t 64) (.t 66), (some (62, false)), [], [], false⟩,
          y 68 (.pick (.t 62) (.c (.bool true)) (.t 67)),
          y 69 (.mv (.t 68)),
          ⟨(some 70), .addOff 1 (.t 6), (some (69, false)), [], [], false⟩,
          ⟨(some 71), .load false 1 (.t 70), (some (69, false)), [], [], false⟩,
          ⟨(some 72), .addOff 1 (.t 7), (some (69, false)), [], [], false⟩,
          ⟨(some 73), .load false 1 (.t 72), (some (69, false)), [], [], false⟩,
          ⟨(some 74), .call (.c (.func (.func 28) #[] #[])) [(.t 71), (.t 73)] true, (some (69, false)), [], [], false⟩,
          ⟨(some 75), .un .not (.t 74), (some (69, false)), [], [], false⟩,
          y 76 (.pick (.t 69) (.c (.bool true)) (.t 75)),
          y 77 (.mv (.t 76)),
          ⟨(some 78), .addOff 3 (.t 6), (some (77, false)), [], [], false⟩,
          ⟨(some 79), .load false 1 (.t 78), (some (77, false)), [], [], false⟩,
          ⟨(some 80), .addOff 3 (.t 7), (some (77, false)), [], [], false⟩,
          ⟨(some 81), .load false 1 (.t 80), (some (77, false)), [], [], false⟩,
          ⟨(some 82), .call (.c (.func (.func 28) #[] #[])) [(.t 79), (.t 81)] true, (some (77, false)), [], [], false⟩,
          ⟨(some 83), .un .not (.t 82), (some (77, false)), [], [], false⟩,
          y 84 (.pick (.t 77) (.c (.bool true)) (.t 83))])
       (.cond (.t 84)
        (.seq
         (.region [
           y 4 (.mv (.c (.bool false)))])
        .ret)
        .skip))))
     (.region [
       y 45 (.mv (.t 5)),
       y 46 (.bin .add .int (.t 45) (.c (.int .i64 1))),
       y 5 (.mv (.t 46))]))))))
  (.seq
   (.seq
    (.region [
      y 8 (.mv (.c (.int .i64 0)))])
   (.block 2
    (.loop
     (.seq
      (.seq
       (.region [
         y 85 (.mv (.t 8)),
         y 86 (.addOff 3 (.t 2)),
         y 87 (.load false 1 (.t 86)),
         y 88 (.lenS (.t 87)),
         y 89 (.bin .lss .int (.t 85) (.t 88))])
      (.cond (.t 89)
       .skip
       (.exit 2)))
     (.seq
      (.block 3
       (.seq
        (.region [
          y 92 (.addOff 3 (.t 2)),
          y 93 (.load false 1 (.t 92)),
          y 94 (.mv (.t 8)),
          y 95 (.idxS 5 (.t 93) (.t 94)),
          y 96 (.addOff 0 (.t 95)),
          y 97 (.load true 4 (.t 96)),
          y 98 (.addOff 3 (.t 3)),
          y 99 (.load false 1 (.t 98)),
          y 100 (.mv (.t 8)),
          y 101 (.idxS 5 (.t 99) (.t 100)),
          y 102 (.addOff 0 (.t 101)),
          y 103 (.load true 4 (.t 102)),
          y 104 (.bin .neq (.plain [(some .i64), (some .i64), none, none]) (.t 97) (.t 103)),
          y 105 (.mv (.t 104)),
          ⟨(some 106), .addOff 3 (.t 2), (some (105, false)), [], [], false⟩,
          ⟨(some 107), .load false 1 (.t 106), (some (105, false)), [], [], false⟩,
          ⟨(some 108), .mv (.t 8), (some (105, false)), [], [], false⟩,
          ⟨(some 109), .idxS 5 (.t 107) (.t 108), (some (105, false)), [], [], false⟩,
          ⟨(some 110), .addOff 4 (.t 109), (some (105, false)), [], [], false⟩,
          ⟨(some 111), .load false 1 (.t 110), (some (105, false)), [], [], false⟩,
          ⟨(some 112), .addOff 3 (.t 3), (some (105, false)), [], [], false⟩,
          ⟨(some 113), .load false 1 (.t 112), (some (105, false)), [], [], false⟩,
          ⟨(some 114), .mv (.t 8), (some (105, false)), [], [], false⟩,
          ⟨(some 115), .idxS 5 (.t 113) (.t 114), (some (105, false)), [], [], false⟩,
          ⟨(some 116), .addOff 4 (.t 115), (some (105, false)), [], [], false⟩,
          ⟨(some 117), .load false 1 (.t 116), (some (105, false)), [], [], false⟩,
          ⟨(some 118), .call (.c (.func (.func 28) #[] #[])) [(.t 111), (.t 117)] true, (some (105, false)), [], [], false⟩,
          ⟨(some 119), .un .not (.t 118), (some (105, false)), [], [], false⟩,
          y 120 (.pick (.t 105) (.c (.bool true)) (.t 119))])
       (.cond (.t 120)
        (.seq
         (.region [
           y 4 (.mv (.c (.bool false)))])
        .ret)
        .skip)))
     (.region [
       y 90 (.mv (.t 8)),
       y 91 (.bin .add .int (.t 90) (.c (.int .i64 1))),
       y 8 (.mv (.t 91))]))))))
  (.seq
   (.region [
     y 4 (.mv (.c (.bool true)))])
  .ret))))),
  [.tmp 4]⟩

/-- wainscot/wainscotref00.EqWords -/
def i36 : IFun := ⟨26,
  (.seq
   (.region [
     y 4 (.mv (.c (.bool false)))])
  (.seq
   (.seq
    (.region [
      y 6 (.mv (.t 0)),
      y 7 (.lenS (.t 6)),
      y 8 (.mv (.t 1)),
      y 9 (.lenS (.t 8)),
      y 10 (.bin .neq .int (.t 7) (.t 9))])
   (.cond (.t 10)
    (.seq
     (.region [
       y 4 (.mv (.c (.bool false)))])
    .ret)
    .skip))
  (.seq
   (.seq
    (.region [
      y 5 (.mv (.c (.int .i64 0)))])
   (.block 0
    (.loop
     (.seq
      (.seq
       (.region [
         y 11 (.mv (.t 5)),
         y 12 (.mv (.t 0)),
         y 13 (.lenS (.t 12)),
         y 14 (.bin .lss .int (.t 11) (.t 13))])
      (.cond (.t 14)
       .skip
       (.exit 0)))
     (.seq
      (.block 1
       (.seq
        (.region [
          y 17 (.mv (.t 0)),
          y 18 (.mv (.t 5)),
          y 19 (.idxS 1 (.t 17) (.t 18)),
          y 20 (.load false 1 (.t 19)),
          y 21 (.mv (.t 1)),
          y 22 (.mv (.t 5)),
          y 23 (.idxS 1 (.t 21) (.t 22)),
          y 24 (.load false 1 (.t 23)),
          y 25 (.bin .neq .int (.t 20) (.t 24))])
       (.cond (.t 25)
        (.seq
         (.region [
           y 4 (.mv (.c (.bool false)))])
        .ret)
        .skip)))
     (.region [
       y 15 (.mv (.t 5)),
       y 16 (.bin .add .int (.t 15) (.c (.int .i64 1))),
       y 5 (.mv (.t 16))]))))))
  (.seq
   (.region [
     y 4 (.mv (.c (.bool true)))])
  .ret)))),
  [.tmp 4]⟩

/-- wainscot/wainscotlaw21.made -/
def i37 : IFun := ⟨27,
  (.seq
   (.region [
     y 1 (.box 24 6 (.t 0)),
     y 2 (.new 24 [(.int .i64 0), (.int .i64 0), (.int .i64 0), (.int .i64 0), (.int .i64 0), (.int .u64 0)])])
  (.seq
   (.region [
     y 3 (.addOff 0 (.t 1)),
     y 4 (.load false 1 (.t 3)),
     y 5 (.call (.c (.func (.func 61) #[] #[])) [(.t 4), (.c (.int .i64 8))] true),
     y 6 (.bin .add .int (.c (.int .i64 1)) (.t 5)),
     y 7 (.addOff 0 (.t 1)),
     x (.store 1 (.t 7) (.t 6))])
  (.seq
   (.region [
     y 8 (.addOff 1 (.t 1)),
     y 9 (.load false 1 (.t 8)),
     y 10 (.call (.c (.func (.func 61) #[] #[])) [(.t 9), (.c (.int .i64 32))] true),
     y 11 (.bin .add .int (.c (.int .i64 1)) (.t 10)),
     y 12 (.addOff 1 (.t 1)),
     x (.store 1 (.t 12) (.t 11))])
  (.seq
   (.region [
     y 13 (.addOff 2 (.t 1)),
     y 14 (.load false 1 (.t 13)),
     y 15 (.call (.c (.func (.func 61) #[] #[])) [(.t 14), (.c (.int .i64 16))] true),
     y 16 (.bin .add .int (.c (.int .i64 1)) (.t 15)),
     y 17 (.addOff 2 (.t 1)),
     x (.store 1 (.t 17) (.t 16))])
  (.seq
   (.region [
     y 18 (.addOff 3 (.t 1)),
     y 19 (.load false 1 (.t 18)),
     y 20 (.call (.c (.func (.func 61) #[] #[])) [(.t 19), (.c (.int .i64 33))] true),
     y 21 (.addOff 3 (.t 1)),
     x (.store 1 (.t 21) (.t 20))])
  (.seq
   (.region [
     y 22 (.addOff 4 (.t 1)),
     y 23 (.load false 1 (.t 22)),
     y 24 (.call (.c (.func (.func 61) #[] #[])) [(.t 23), (.c (.int .i64 33))] true),
     y 25 (.addOff 4 (.t 1)),
     x (.store 1 (.t 25) (.t 24))])
  (.seq
   (.region [
     y 26 (.load true 6 (.t 1)),
     x (.store 6 (.t 2) (.t 26))])
  .ret))))))),
  [.cell 2 true 6]⟩

/-- wainscot/wainscotlaw21.places -/
def i38 : IFun := ⟨70,
  (.seq
   (.region [
     y 1 (.box 24 6 (.t 0)),
     y 2 (.mv (.c (.slice none 0 0)))])
  (.seq
   (.region [
     y 7 (.load true 6 (.t 1)),
     y 8 (.call (.c (.func (.func 12) #[] #[])) [(.t 7)] true),
     y 9 (.load true 6 (.t 1)),
     y 10 (.call (.c (.func (.func 13) #[] #[])) [(.t 9)] true),
     y 11 (.load true 6 (.t 1)),
     y 12 (.call (.c (.func (.func 14) #[] #[])) [(.t 11)] true),
     y 13 (.buildSlice 3 [(.int .i64 0), (.int .i64 0), (.int .i64 0)] 3 [(0, 1, (.t 8)), (1, 1, (.t 10)), (2, 1, (.t 12))]),
     y 3 (.mv (.t 13))])
  (.seq
   (.seq
    (.region [
      y 4 (.mv (.c (.int .i64 0)))])
   (.block 0
    (.loop
     (.seq
      (.seq
       (.region [
         y 14 (.mv (.t 4)),
         y 15 (.addOff 0 (.t 1)),
         y 16 (.load false 1 (.t 15)),
         y 17 (.bin .lss .int (.t 14) (.t 16))])
      (.cond (.t 17)
       .skip
       (.exit 0)))
     (.seq
      (.block 1
       (.region [
         y 20 (.mv (.t 3)),
         y 21 (.load true 6 (.t 1)),
         y 22 (.mv (.t 4)),
         y 23 (.call (.c (.func (.func 10) #[] #[])) [(.t 21), (.t 22)] true),
         y 24 (.load true 6 (.t 1)),
         y 25 (.mv (.t 4)),
         y 26 (.call (.c (.func (.func 10) #[] #[])) [(.t 24), (.t 25)] true),
         y 27 (.bin .add .int (.t 26) (.c (.int .i64 1))),
         y 28 (.load true 6 (.t 1)),
         y 29 (.mv (.t 4)),
         y 30 (.call (.c (.func (.func 11) #[] #[])) [(.t 28), (.t 29)] true),
         y 31 (.load true 6 (.t 1)),
         y 32 (.mv (.t 4)),
         y 33 (.call (.c (.func (.func 11) #[] #[])) [(.t 31), (.t 32)] true),
         y 34 (.bin .add .int (.t 33) (.c (.int .i64 1))),
         y 35 (.buildSlice 3 [(.int .i64 0), (.int .i64 0), (.int .i64 0), (.int .i64 0)] 4 [(0, 1, (.t 23)), (1, 1, (.t 27)), (2, 1, (.t 30)), (3, 1, (.t 34))]),
         y 36 (.append 3 1 8 (.t 20) (.t 35)),
         y 3 (.mv (.t 36))]))
     (.region [
       y 18 (.mv (.t 4)),
       y 19 (.bin .add .int (.t 18) (.c (.int .i64 1))),
       y 4 (.mv (.t 19))]))))))
  (.seq
   (.seq
    (.region [
      y 5 (.mv (.c (.int .i64 0)))])
   (.block 2
    (.loop
     (.seq
      (.seq
       (.region [
         y 37 (.mv (.t 5)),
         y 38 (.addOff 1 (.t 1)),
         y 39 (.load false 1 (.t 38)),
         y 40 (.bin .lss .int (.t 37) (.t 39))])
      (.cond (.t 40)
       .skip
       (.exit 2)))
     (.seq
      (.block 3
       (.seq
        (.region [
          y 43 (.mv (.t 3)),
          y 44 (.load true 6 (.t 1)),
          y 45 (.mv (.t 5)),
          y 46 (.call (.c (.func (.func 15) #[] #[])) [(.t 44), (.t 45)] true),
          y 47 (.load true 6 (.t 1)),
          y 48 (.mv (.t 5)),
          y 49 (.call (.c (.func (.func 15) #[] #[])) [(.t 47), (.t 48)] true),
          y 50 (.bin .add .int (.t 49) (.c (.int .i64 1))),
          y 51 (.load true 6 (.t 1)),
          y 52 (.mv (.t 5)),
          y 53 (.call (.c (.func (.func 16) #[] #[])) [(.t 51), (.t 52)] true),
          y 54 (.buildSlice 3 [(.int .i64 0), (.int .i64 0), (.int .i64 0)] 3 [(0, 1, (.t 46)), (1, 1, (.t 50)), (2, 1, (.t 53))]),
          y 55 (.append 3 1 8 (.t 43) (.t 54)),
          y 3 (.mv (.t 55))])
       (.seq
        (.region [
          y 6 (.mv (.c (.int .i64 0)))])
       (.block 4
        (.loop
         (.seq
          (.seq
           (.region [
             y 56 (.mv (.t 6)),
             y 57 (.addOff 2 (.t 1)),
             y 58 (.load false 1 (.t 57)),
             y 59 (.bin .lss .int (.t 56) (.t 58))])
          (.cond (.t 59)
           .skip
           (.exit 4)))
         (.seq
          (.block 5
           (.region [
             y 62 (.mv (.t 3)),
             y 63 (.load true 6 (.t 1)),
             y 64 (.mv (.t 5)),
             y 65 (.mv (.t 6)),
             y 66 (.call (.c (.func (.func 17) #[] #[])) [(.t 63), (.t 64), (.t 65)] true),
             y 67 (.buildSlice 3 [(.int .i64 0)] 1 [(0, 1, (.t 66))]),
             y 68 (.append 3 1 8 (.t 62) (.t 67)),
             y 3 (.mv (.t 68))]))
         (.region [
           y 60 (.mv (.t 6)),
           y 61 (.bin .add .int (.t 60) (.c (.int .i64 1))),
           y 6 (.mv (.t 61))]))))))))
     (.region [
       y 41 (.mv (.t 5)),
       y 42 (.bin .add .int (.t 41) (.c (.int .i64 1))),
       y 5 (.mv (.t 42))]))))))
  (.seq
   (.region [
     y 69 (.mv (.t 3)),
     y 2 (.mv (.t 69))])
  .ret))))),
  [.tmp 2]⟩

/-- wainscot/wainscotlaw21.small -/
def i39 : IFun := ⟨2,
  (.seq
   (.region [
     y 0 (.new 24 [(.int .i64 0), (.int .i64 0), (.int .i64 0), (.int .i64 0), (.int .i64 0), (.int .u64 0)])])
  (.seq
   (.region [
     y 1 (.build [(.int .i64 0), (.int .i64 0), (.int .i64 0), (.int .i64 0), (.int .i64 0), (.int .u64 0)] [(0, 1, (.c (.int .i64 2))), (1, 1, (.c (.int .i64 3))), (2, 1, (.c (.int .i64 4)))]),
     x (.store 6 (.t 0) (.t 1))])
  .ret)),
  [.cell 0 true 6]⟩

/-- wainscot/chart.links -/
def i40 : IFun := ⟨9,
  (.seq
   (.region [
     y 1 (.box 24 6 (.t 0)),
     y 2 (.mv (.c (.int .i64 0)))])
  (.seq
   (.region [
     y 3 (.load true 6 (.t 1)),
     y 4 (.call (.c (.func (.func 49) #[] #[])) [(.t 3)] true),
     y 5 (.addOff 1 (.t 1)),
     y 6 (.load false 1 (.t 5)),
     y 7 (.bin .mul .int (.c (.int .i64 4)) (.t 6)),
     y 8 (.bin .add .int (.t 4) (.t 7)),
     y 2 (.mv (.t 8))])
  .ret)),
  [.tmp 2]⟩

/-- wainscot/chart.guarded -/
def i41 : IFun := ⟨23,
  (.seq
   (.region [
     y 4 (.box 24 6 (.t 0)),
     y 8 (.mv (.c (.int .i64 0)))])
  (.seq
   (.seq
    (.region [
      y 9 (.load true 6 (.t 4)),
      y 10 (.call (.c (.func (.func 8) #[] #[])) [(.t 9)] true),
      y 11 (.bin .neq .int (.t 10) (.c (.int .i64 0))),
      y 12 (.mv (.t 11)),
      ⟨(some 13), .mv (.t 1), (some (12, false)), [], [], false⟩,
      ⟨(some 14), .bin .lss .int (.t 13) (.c (.int .i64 0)), (some (12, false)), [], [], false⟩,
      y 15 (.pick (.t 12) (.c (.bool true)) (.t 14)),
      y 16 (.mv (.t 15)),
      ⟨(some 17), .mv (.t 1), (some (16, false)), [], [], false⟩,
      ⟨(some 18), .mv (.t 2), (some (16, false)), [], [], false⟩,
      ⟨(some 19), .bin .geq .int (.t 17) (.t 18), (some (16, false)), [], [], false⟩,
      y 20 (.pick (.t 16) (.c (.bool true)) (.t 19))])
   (.cond (.t 20)
    (.seq
     (.region [
       y 8 (.mv (.c (.int .i64 (-1))))])
    .ret)
    .skip))
  (.seq
   (.region [
     y 21 (.mv (.t 3)),
     y 22 (.call (.t 21) [] false),
     y 8 (.mv (.t 22))])
  .ret))),
  [.tmp 8]⟩

/-- wainscot/chart.Head$1 -/
def i42 : IFun := ⟨4,
  (.seq
   (.region [
     y 1 (.mv (.c (.int .i64 0)))])
  (.seq
   (.region [
     y 2 (.load false 1 (.t 0)),
     y 3 (.bin .mul .int (.c (.int .i64 4)) (.t 2)),
     y 1 (.mv (.t 3))])
  .ret)),
  [.tmp 1]⟩

/-- wainscot/chart.Part$1 -/
def i43 : IFun := ⟨5,
  (.seq
   (.region [
     y 1 (.mv (.c (.int .i64 0)))])
  (.seq
   (.region [
     y 2 (.load false 1 (.t 0)),
     y 3 (.bin .mul .int (.c (.int .i64 4)) (.t 2)),
     y 4 (.bin .add .int (.t 3) (.c (.int .i64 2))),
     y 1 (.mv (.t 4))])
  .ret)),
  [.tmp 1]⟩

/-- wainscot/chart.Lock$1 -/
def i44 : IFun := ⟨4,
  (.seq
   (.region [
     y 1 (.mv (.c (.int .i64 0)))])
  (.seq
   (.region [
     y 2 (.load true 6 (.t 0)),
     y 3 (.call (.c (.func (.func 45) #[] #[])) [(.t 2)] true),
     y 1 (.mv (.t 3))])
  .ret)),
  [.tmp 1]⟩

/-- wainscot/chart.base -/
def i45 : IFun := ⟨6,
  (.seq
   (.region [
     y 1 (.box 24 6 (.t 0)),
     y 2 (.mv (.c (.int .i64 0)))])
  (.seq
   (.region [
     y 3 (.addOff 0 (.t 1)),
     y 4 (.load false 1 (.t 3)),
     y 5 (.bin .mul .int (.c (.int .i64 4)) (.t 4)),
     y 2 (.mv (.t 5))])
  .ret)),
  [.tmp 2]⟩

/-- wainscot/chart.Shelf$1 -/
def i46 : IFun := ⟨5,
  (.seq
   (.region [
     y 1 (.mv (.c (.int .i64 0)))])
  (.seq
   (.region [
     y 2 (.load true 6 (.t 0)),
     y 3 (.call (.c (.func (.func 45) #[] #[])) [(.t 2)] true),
     y 4 (.bin .add .int (.t 3) (.c (.int .i64 1))),
     y 1 (.mv (.t 4))])
  .ret)),
  [.tmp 1]⟩

/-- wainscot/chart.Held$1 -/
def i47 : IFun := ⟨5,
  (.seq
   (.region [
     y 1 (.mv (.c (.int .i64 0)))])
  (.seq
   (.region [
     y 2 (.load true 6 (.t 0)),
     y 3 (.call (.c (.func (.func 45) #[] #[])) [(.t 2)] true),
     y 4 (.bin .add .int (.t 3) (.c (.int .i64 2))),
     y 1 (.mv (.t 4))])
  .ret)),
  [.tmp 1]⟩

/-- wainscot/chart.First$1 -/
def i48 : IFun := ⟨8,
  (.seq
   (.region [
     y 2 (.mv (.c (.int .i64 0)))])
  (.seq
   (.region [
     y 3 (.load true 6 (.t 0)),
     y 4 (.call (.c (.func (.func 49) #[] #[])) [(.t 3)] true),
     y 5 (.load false 1 (.t 1)),
     y 6 (.bin .mul .int (.c (.int .i64 4)) (.t 5)),
     y 7 (.bin .add .int (.t 4) (.t 6)),
     y 2 (.mv (.t 7))])
  .ret)),
  [.tmp 2]⟩

/-- wainscot/chart.slabs -/
def i49 : IFun := ⟨6,
  (.seq
   (.region [
     y 1 (.box 24 6 (.t 0)),
     y 2 (.mv (.c (.int .i64 0)))])
  (.seq
   (.region [
     y 3 (.load true 6 (.t 1)),
     y 4 (.call (.c (.func (.func 45) #[] #[])) [(.t 3)] true),
     y 5 (.bin .add .int (.t 4) (.c (.int .i64 4))),
     y 2 (.mv (.t 5))])
  .ret)),
  [.tmp 2]⟩

/-- wainscot/chart.Next$1 -/
def i50 : IFun := ⟨9,
  (.seq
   (.region [
     y 2 (.mv (.c (.int .i64 0)))])
  (.seq
   (.region [
     y 3 (.load true 6 (.t 0)),
     y 4 (.call (.c (.func (.func 49) #[] #[])) [(.t 3)] true),
     y 5 (.load false 1 (.t 1)),
     y 6 (.bin .mul .int (.c (.int .i64 4)) (.t 5)),
     y 7 (.bin .add .int (.t 4) (.t 6)),
     y 8 (.bin .add .int (.t 7) (.c (.int .i64 2))),
     y 2 (.mv (.t 8))])
  .ret)),
  [.tmp 2]⟩

/-- wainscot/chart.Link$1 -/
def i51 : IFun := ⟨13,
  (.seq
   (.region [
     y 3 (.mv (.c (.int .i64 0)))])
  (.seq
   (.region [
     y 4 (.load true 6 (.t 0)),
     y 5 (.call (.c (.func (.func 40) #[] #[])) [(.t 4)] true),
     y 6 (.load false 1 (.t 1)),
     y 7 (.addOff 2 (.t 0)),
     y 8 (.load false 1 (.t 7)),
     y 9 (.bin .mul .int (.t 6) (.t 8)),
     y 10 (.bin .add .int (.t 5) (.t 9)),
     y 11 (.load false 1 (.t 2)),
     y 12 (.bin .add .int (.t 10) (.t 11)),
     y 3 (.mv (.t 12))])
  .ret)),
  [.tmp 3]⟩

/-- wainscot/wainscotref21.within -/
def i52 : IFun := ⟨12,
  (.seq
   (.region [
     y 4 (.mv (.c (.bool false)))])
  (.seq
   (.region [
     y 5 (.mv (.t 0)),
     y 6 (.bin .geq .int (.t 5) (.c (.int .i64 0))),
     y 7 (.mv (.t 6)),
     ⟨(some 8), .mv (.t 0), (some (7, true)), [], [], false⟩,
     ⟨(some 9), .mv (.t 1), (some (7, true)), [], [], false⟩,
     ⟨(some 10), .bin .lss .int (.t 8) (.t 9), (some (7, true)), [], [], false⟩,
     y 11 (.pick (.t 7) (.t 10) (.c (.bool false))),
     y 4 (.mv (.t 11))])
  .ret)),
  [.tmp 4]⟩

/-- wainscot/wainscotref21.at -/
def i53 : IFun := ⟨15,
  (.seq
   (.region [
     y 3 (.box 24 6 (.t 0)),
     y 6 (.mv (.c (.int .i64 0)))])
  (.seq
   (.seq
    (.region [
      y 7 (.load true 6 (.t 3)),
      y 8 (.call (.c (.func (.func 18) #[] #[])) [(.t 7)] true),
      y 9 (.bin .neq .int (.t 8) (.c (.int .i64 0))),
      y 10 (.mv (.t 9)),
      ⟨(some 11), .mv (.t 1), (some (10, false)), [], [], false⟩,
      ⟨(some 12), .un .not (.t 11), (some (10, false)), [], [], false⟩,
      y 13 (.pick (.t 10) (.c (.bool true)) (.t 12))])
   (.cond (.t 13)
    (.seq
     (.region [
       y 6 (.mv (.c (.int .i64 (-1))))])
    .ret)
    .skip))
  (.seq
   (.region [
     y 14 (.mv (.t 2)),
     y 6 (.mv (.t 14))])
  .ret))),
  [.tmp 6]⟩

/-- (wainscot/chart.reader).slot -/
def i54 : IFun := ⟨71,
  (.seq
   (.region [
     y 2 (.box 64 7 (.t 0)),
     y 4 (.new 58 [(.int .i64 0), (.slice none 0 0), (.int .u64 0), (.slice none 0 0)]),
     y 5 (.mv (.c (.bool false)))])
  (.seq
   (.region [
     y 10 (.addOff 1 (.t 2)),
     y 11 (.load true 6 (.t 10)),
     y 12 (.mv (.t 1)),
     y 13 (.call (.c (.func (.func 10) #[] #[])) [(.t 11), (.t 12)] true),
     y 6 (.mv (.t 13))])
  (.seq
   (.region [
     y 15 (.addOff 0 (.t 2)),
     y 16 (.load false 1 (.t 15)),
     y 17 (.mv (.t 6)),
     y 18 (.idxS 1 (.t 16) (.t 17)),
     y 19 (.load false 1 (.t 18)),
     y 20 (.call (.c (.func (.func 62) #[] #[])) [(.t 19)] true),
     y 14 (.mv (.t 20)),
     y 21 (.extract (.t 14) 0),
     y 22 (.extract (.t 14) 1),
     y 23 (.extract (.t 14) 2),
     y 7 (.mv (.t 21)),
     y 8 (.mv (.t 22)),
     y 9 (.mv (.t 23))])
  (.seq
   (.seq
    (.region [
      y 24 (.mv (.t 9)),
      y 25 (.un .not (.t 24)),
      y 26 (.mv (.t 25)),
      ⟨(some 27), .mv (.t 7), (some (26, false)), [], [], false⟩,
      ⟨(some 28), .addOff 1 (.t 2), (some (26, false)), [], [], false⟩,
      ⟨(some 29), .addOff 1 (.t 28), (some (26, false)), [], [], false⟩,
      ⟨(some 30), .load false 1 (.t 29), (some (26, false)), [], [], false⟩,
      ⟨(some 31), .bin .geq .int (.t 27) (.t 30), (some (26, false)), [], [], false⟩,
      y 32 (.pick (.t 26) (.c (.bool true)) (.t 31))])
   (.cond (.t 32)
    (.seq
     (.region [
       y 33 (.build [(.int .i64 0), (.slice none 0 0), (.int .u64 0), (.slice none 0 0)] []),
       x (.store 4 (.t 4) (.t 33)),
       y 5 (.mv (.c (.bool false)))])
    .ret)
    .skip))
  (.seq
   (.region [
     y 34 (.mv (.t 7)),
     y 35 (.addOff 0 (.t 2)),
     y 36 (.load false 1 (.t 35)),
     y 37 (.mv (.t 6)),
     y 38 (.bin .add .int (.t 37) (.c (.int .i64 1))),
     y 39 (.idxS 1 (.t 36) (.t 38)),
     y 40 (.load false 1 (.t 39)),
     y 41 (.build [(.int .i64 0), (.slice none 0 0), (.int .u64 0), (.slice none 0 0)] [(0, 1, (.t 34)), (2, 1, (.t 40))]),
     x (.store 4 (.t 4) (.t 41))])
  (.seq
   (.seq
    (.region [
      y 42 (.mv (.t 7)),
      y 43 (.bin .neq .int (.t 42) (.c (.int .i64 (-1))))])
   (.cond (.t 43)
    (.seq
     (.region [
       y 45 (.load true 7 (.t 2)),
       y 46 (.mv (.t 7)),
       y 47 (.mv (.t 8)),
       y 48 (.call (.c (.func (.func 63) #[] #[])) [(.t 45), (.t 46), (.t 47)] true),
       y 44 (.mv (.t 48)),
       y 49 (.extract (.t 44) 0),
       y 50 (.extract (.t 44) 1),
       y 51 (.addOff 1 (.t 4)),
       x (.store 1 (.t 51) (.t 49)),
       y 5 (.mv (.t 50))])
    (.seq
     (.region [
       y 52 (.mv (.t 5)),
       y 53 (.un .not (.t 52))])
    (.cond (.t 53)
     (.seq
      (.region [
        y 54 (.build [(.int .i64 0), (.slice none 0 0), (.int .u64 0), (.slice none 0 0)] []),
        x (.store 4 (.t 4) (.t 54)),
        y 5 (.mv (.c (.bool false)))])
     .ret)
     .skip)))
    .skip))
  (.seq
   (.seq
    (.region [
      y 56 (.load true 7 (.t 2)),
      y 57 (.addOff 0 (.t 2)),
      y 58 (.load false 1 (.t 57)),
      y 59 (.mv (.t 6)),
      y 60 (.bin .add .int (.t 59) (.c (.int .i64 2))),
      y 61 (.idxS 1 (.t 58) (.t 60)),
      y 62 (.load false 1 (.t 61)),
      y 63 (.call (.c (.func (.func 55) #[] #[])) [(.t 56), (.t 62), (.c (.func (.func 64) #[] #[]))] true),
      y 55 (.mv (.t 63)),
      y 64 (.extract (.t 55) 0),
      y 65 (.extract (.t 55) 1),
      y 66 (.addOff 3 (.t 4)),
      x (.store 1 (.t 66) (.t 64)),
      y 5 (.mv (.t 65))])
   (.seq
    (.region [
      y 67 (.mv (.t 5)),
      y 68 (.un .not (.t 67))])
   (.cond (.t 68)
    (.seq
     (.region [
       y 69 (.build [(.int .i64 0), (.slice none 0 0), (.int .u64 0), (.slice none 0 0)] []),
       x (.store 4 (.t 4) (.t 69)),
       y 5 (.mv (.c (.bool false)))])
    .ret)
    .skip)))
  (.seq
   (.region [
     y 70 (.load true 4 (.t 4)),
     x (.store 4 (.t 4) (.t 70)),
     y 5 (.mv (.c (.bool true)))])
  .ret)))))))),
  [.cell 4 true 4, .tmp 5]⟩

/-- (wainscot/chart.reader).chain -/
def i55 : IFun := ⟨48,
  (.seq
   (.region [
     y 3 (.box 64 7 (.t 0)),
     y 6 (.mv (.c (.slice none 0 0))),
     y 7 (.mv (.c (.bool false)))])
  (.seq
   (.region [
     y 11 (.mkMap),
     y 8 (.mv (.t 11))])
  (.block 0
   (.loop
    (.block 1
     (.seq
      (.region [
        y 13 (.mv (.t 2)),
        y 14 (.mv (.t 1)),
        y 15 (.call (.t 13) [(.t 14)] false),
        y 12 (.mv (.t 15)),
        y 16 (.extract (.t 12) 0),
        y 17 (.extract (.t 12) 1),
        y 9 (.mv (.t 16)),
        y 10 (.mv (.t 17))])
     (.seq
      (.block 2
       (.seq
        (.seq
         (.region [
           y 19 (.mv (.t 10)),
           y 20 (.un .not (.t 19)),
           y 18 (.mv (.t 20))])
        (.cond (.t 18)
         .skip
         (.seq
          (.region [
            y 21 (.mv (.t 9)),
            y 22 (.addOff 1 (.t 3)),
            y 23 (.addOff 1 (.t 22)),
            y 24 (.load false 1 (.t 23)),
            y 25 (.bin .geq .int (.t 21) (.t 24)),
            y 18 (.mv (.t 25))])
         (.cond (.t 18)
          .skip
          (.region [
            y 26 (.mv (.t 8)),
            y 27 (.mv (.t 9)),
            y 28 (.lookup (.int .i64 0) false (.t 26) (.t 27)),
            y 29 (.bin .gtr .int (.t 28) (.c (.int .i64 0))),
            y 18 (.mv (.t 29))])))))
       (.cond (.t 18)
        (.seq
         (.region [
           y 6 (.mv (.c (.slice none 0 0))),
           y 7 (.mv (.c (.bool false)))])
        .ret)
        (.seq
         (.region [
           y 31 (.mv (.t 9)),
           y 32 (.bin .eql .int (.t 31) (.c (.int .i64 (-1)))),
           y 30 (.mv (.t 32))])
        (.cond (.t 30)
         (.seq
          (.region [
            y 33 (.mv (.t 6)),
            y 6 (.mv (.t 33)),
            y 7 (.mv (.c (.bool true)))])
         .ret)
         .skip)))))
     (.seq
      (.region [
        y 34 (.mv (.t 8)),
        y 35 (.mv (.t 9)),
        x (.mapSet (.t 34) (.t 35) (.c (.int .i64 1)))])
     (.seq
      (.region [
        y 36 (.mv (.t 6)),
        y 37 (.mv (.t 9)),
        y 38 (.buildSlice 3 [(.int .i64 0)] 1 [(0, 1, (.t 37))]),
        y 39 (.append 3 1 8 (.t 36) (.t 38)),
        y 6 (.mv (.t 39))])
     (.region [
       y 40 (.addOff 0 (.t 3)),
       y 41 (.load false 1 (.t 40)),
       y 42 (.addOff 1 (.t 3)),
       y 43 (.load true 6 (.t 42)),
       y 44 (.mv (.t 9)),
       y 45 (.call (.c (.func (.func 16) #[] #[])) [(.t 43), (.t 44)] true),
       y 46 (.idxS 1 (.t 41) (.t 45)),
       y 47 (.load false 1 (.t 46)),
       y 1 (.mv (.t 47))])))))))))),
  [.tmp 6, .tmp 7]⟩

/-- wainscot/chart.shelfOf -/
def i56 : IFun := ⟨9,
  (.seq
   (.region [
     y 2 (.mv (.c (.int .i64 0))),
     y 3 (.mv (.c (.bool false)))])
  (.seq
   (.region [
     y 4 (.mv (.t 0)),
     y 5 (.conv .i64 (.t 4)),
     y 6 (.bin .sub .int (.t 5) (.c (.int .i64 1))),
     y 7 (.mv (.t 0)),
     y 8 (.bin .leq .int (.t 7) (.c (.int .u64 32))),
     y 2 (.mv (.t 6)),
     y 3 (.mv (.t 8))])
  .ret)),
  [.tmp 2, .tmp 3]⟩

/-- (wainscot/chart.reader).slab -/
def i57 : IFun := ⟨53,
  (.seq
   (.region [
     y 2 (.box 64 7 (.t 0)),
     y 4 (.new 62 [(.int .i64 0), (.int .i64 0), (.bool false), (.bool false), (.slice none 0 0)]),
     y 5 (.mv (.c (.bool false)))])
  (.seq
   (.region [
     y 8 (.addOff 1 (.t 2)),
     y 9 (.load true 6 (.t 8)),
     y 10 (.mv (.t 1)),
     y 11 (.call (.c (.func (.func 15) #[] #[])) [(.t 9), (.t 10)] true),
     y 6 (.mv (.t 11))])
  (.seq
   (.region [
     y 12 (.addOff 0 (.t 2)),
     y 13 (.load false 1 (.t 12)),
     y 14 (.mv (.t 6)),
     y 15 (.idxS 1 (.t 13) (.t 14)),
     y 16 (.load false 1 (.t 15)),
     y 7 (.mv (.t 16))])
  (.seq
   (.seq
    (.region [
      y 18 (.addOff 0 (.t 2)),
      y 19 (.load false 1 (.t 18)),
      y 20 (.mv (.t 6)),
      y 21 (.bin .add .int (.t 20) (.c (.int .i64 1))),
      y 22 (.idxS 1 (.t 19) (.t 21)),
      y 23 (.load false 1 (.t 22)),
      y 24 (.call (.c (.func (.func 65) #[] #[])) [(.t 23)] true),
      y 17 (.mv (.t 24)),
      y 25 (.extract (.t 17) 0),
      y 26 (.extract (.t 17) 1),
      y 27 (.addOff 0 (.t 4)),
      x (.store 4 (.t 27) (.t 25)),
      y 5 (.mv (.t 26))])
   (.seq
    (.region [
      y 28 (.mv (.t 5)),
      y 29 (.un .not (.t 28)),
      y 30 (.mv (.t 29)),
      ⟨(some 31), .mv (.t 7), (some (30, false)), [], [], false⟩,
      ⟨(some 32), .addOff 1 (.t 2), (some (30, false)), [], [], false⟩,
      ⟨(some 33), .addOff 2 (.t 32), (some (30, false)), [], [], false⟩,
      ⟨(some 34), .load false 1 (.t 33), (some (30, false)), [], [], false⟩,
      ⟨(some 35), .conv .u64 (.t 34), (some (30, false)), [], [], false⟩,
      ⟨(some 36), .bin .gtr .int (.t 31) (.t 35), (some (30, false)), [], [], false⟩,
      y 37 (.pick (.t 30) (.c (.bool true)) (.t 36))])
   (.cond (.t 37)
    (.seq
     (.region [
       y 38 (.build [(.int .i64 0), (.int .i64 0), (.bool false), (.bool false), (.slice none 0 0)] []),
       x (.store 5 (.t 4) (.t 38)),
       y 5 (.mv (.c (.bool false)))])
    .ret)
    .skip)))
  (.seq
   (.seq
    (.region [
      y 40 (.load true 7 (.t 2)),
      y 41 (.mv (.t 1)),
      y 42 (.mv (.t 7)),
      y 43 (.conv .i64 (.t 42)),
      y 44 (.bin .sub .int (.t 43) (.c (.int .i64 1))),
      y 45 (.call (.c (.func (.func 63) #[] #[])) [(.t 40), (.t 41), (.t 44)] true),
      y 39 (.mv (.t 45)),
      y 46 (.extract (.t 39) 0),
      y 47 (.extract (.t 39) 1),
      y 48 (.addOff 4 (.t 4)),
      x (.store 1 (.t 48) (.t 46)),
      y 5 (.mv (.t 47))])
   (.seq
    (.region [
      y 49 (.mv (.t 5)),
      y 50 (.un .not (.t 49))])
   (.cond (.t 50)
    (.seq
     (.region [
       y 51 (.build [(.int .i64 0), (.int .i64 0), (.bool false), (.bool false), (.slice none 0 0)] []),
       x (.store 5 (.t 4) (.t 51)),
       y 5 (.mv (.c (.bool false)))])
    .ret)
    .skip)))
  (.seq
   (.region [
     y 52 (.load true 5 (.t 4)),
     x (.store 5 (.t 4) (.t 52)),
     y 5 (.mv (.c (.bool true)))])
  .ret)))))),
  [.cell 4 true 5, .tmp 5]⟩

/-- wainscot/wainscotref21.slot -/
def i58 : IFun := ⟨71,
  (.seq
   (.region [
     y 4 (.box 24 6 (.t 1)),
     y 6 (.new 58 [(.int .i64 0), (.slice none 0 0), (.int .u64 0), (.slice none 0 0)]),
     y 7 (.mv (.c (.int .i64 0)))])
  (.seq
   (.region [
     y 16 (.load true 6 (.t 4)),
     y 17 (.mv (.t 2)),
     y 18 (.call (.c (.func (.func 20) #[] #[])) [(.t 16), (.t 17)] true),
     y 8 (.mv (.t 18))])
  (.seq
   (.region [
     y 20 (.mv (.t 0)),
     y 21 (.mv (.t 8)),
     y 22 (.idxS 1 (.t 20) (.t 21)),
     y 23 (.load false 1 (.t 22)),
     y 24 (.call (.c (.func (.func 66) #[] #[])) [(.t 23)] true),
     y 19 (.mv (.t 24)),
     y 25 (.extract (.t 19) 0),
     y 26 (.extract (.t 19) 1),
     y 27 (.extract (.t 19) 2),
     y 9 (.mv (.t 25)),
     y 10 (.mv (.t 26)),
     y 11 (.mv (.t 27))])
  (.seq
   (.region [
     y 28 (.mv (.t 9)),
     y 29 (.mv (.t 0)),
     y 30 (.mv (.t 8)),
     y 31 (.bin .add .int (.t 30) (.c (.int .i64 1))),
     y 32 (.idxS 1 (.t 29) (.t 31)),
     y 33 (.load false 1 (.t 32)),
     y 34 (.build [(.int .i64 0), (.slice none 0 0), (.int .u64 0), (.slice none 0 0)] [(0, 1, (.t 28)), (2, 1, (.t 33))]),
     y 12 (.new 58 [(.int .i64 0), (.slice none 0 0), (.int .u64 0), (.slice none 0 0)]),
     x (.store 4 (.t 12) (.t 34))])
  (.seq
   (.seq
    (.region [
      y 35 (.mv (.t 11)),
      y 36 (.un .not (.t 35))])
   (.cond (.t 36)
    (.seq
     (.region [
       y 37 (.build [(.int .i64 0), (.slice none 0 0), (.int .u64 0), (.slice none 0 0)] []),
       x (.store 4 (.t 6) (.t 37)),
       y 7 (.mv (.c (.int .i64 150)))])
    .ret)
    .skip))
  (.seq
   (.region [
     y 13 (.mv (.c (.int .i64 0)))])
  (.seq
   (.seq
    (.region [
      y 38 (.mv (.t 9)),
      y 39 (.bin .geq .int (.t 38) (.c (.int .i64 0)))])
   (.cond (.t 39)
    (.region [
      y 41 (.mv (.t 0)),
      y 42 (.load true 6 (.t 4)),
      y 43 (.mv (.t 9)),
      y 44 (.mv (.t 10)),
      y 45 (.call (.c (.func (.func 67) #[] #[])) [(.t 41), (.t 42), (.t 43), (.t 44)] true),
      y 40 (.mv (.t 45)),
      y 46 (.extract (.t 40) 0),
      y 47 (.extract (.t 40) 1),
      y 48 (.addOff 1 (.t 12)),
      x (.store 1 (.t 48) (.t 46)),
      y 13 (.mv (.t 47))])
    .skip))
  (.seq
   (.seq
    (.region [
      y 49 (.mv (.t 13)),
      y 50 (.bin .neq .int (.t 49) (.c (.int .i64 0)))])
   (.cond (.t 50)
    (.seq
     (.region [
       y 51 (.build [(.int .i64 0), (.slice none 0 0), (.int .u64 0), (.slice none 0 0)] []),
       y 52 (.mv (.t 13)),
       x (.store 4 (.t 6) (.t 51)),
       y 7 (.mv (.t 52))])
    .ret)
    .skip))
  (.seq
   (.region [
     y 54 (.mv (.t 0)),
     y 55 (.load true 6 (.t 4)),
     y 56 (.mv (.t 0)),
     y 57 (.mv (.t 8)),
     y 58 (.bin .add .int (.t 57) (.c (.int .i64 2))),
     y 59 (.idxS 1 (.t 56) (.t 58)),
     y 60 (.load false 1 (.t 59)),
     y 61 (.call (.c (.func (.func 68) #[] #[])) [(.t 54), (.t 55), (.t 60)] true),
     y 53 (.mv (.t 61)),
     y 62 (.extract (.t 53) 0),
     y 63 (.extract (.t 53) 1),
     y 14 (.mv (.t 62)),
     y 15 (.mv (.t 63))])
  (.seq
   (.seq
    (.region [
      y 64 (.mv (.t 15)),
      y 65 (.bin .neq .int (.t 64) (.c (.int .i64 0)))])
   (.cond (.t 65)
    (.seq
     (.region [
       y 66 (.build [(.int .i64 0), (.slice none 0 0), (.int .u64 0), (.slice none 0 0)] []),
       y 67 (.mv (.t 15)),
       x (.store 4 (.t 6) (.t 66)),
       y 7 (.mv (.t 67))])
    .ret)
    .skip))
  (.seq
   (.region [
     y 68 (.mv (.t 14)),
     y 69 (.addOff 3 (.t 12)),
     x (.store 1 (.t 69) (.t 68))])
  (.seq
   (.region [
     y 70 (.load true 4 (.t 12)),
     x (.store 4 (.t 6) (.t 70)),
     y 7 (.mv (.c (.int .i64 0)))])
  .ret)))))))))))),
  [.cell 6 true 4, .tmp 7]⟩

/-- wainscot/wainscotref21.shelf -/
def i59 : IFun := ⟨42,
  (.seq
   (.region [
     y 3 (.box 24 6 (.t 1)),
     y 4 (.mv (.c (.slice none 0 0))),
     y 5 (.mv (.c (.int .i64 0)))])
  (.seq
   (.region [
     y 6 (.mv (.c (.slice none 0 0)))])
  (.seq
   (.region [
     y 8 (.mv (.t 0)),
     y 9 (.load true 6 (.t 3)),
     y 10 (.call (.c (.func (.func 23) #[] #[])) [(.t 9)] true),
     y 11 (.idxS 1 (.t 8) (.t 10)),
     y 12 (.load false 1 (.t 11)),
     y 7 (.mv (.t 12))])
  (.seq
   (.block 0
    (.loop
     (.seq
      (.seq
       (.region [
         y 13 (.mv (.t 7)),
         y 14 (.bin .neq .int (.t 13) (.c (.int .u64 0)))])
      (.cond (.t 14)
       .skip
       (.exit 0)))
     (.block 1
      (.seq
       (.seq
        (.region [
          y 15 (.mv (.t 7)),
          y 16 (.addOff 1 (.t 3)),
          y 17 (.load false 1 (.t 16)),
          y 18 (.conv .u64 (.t 17)),
          y 19 (.bin .gtr .int (.t 15) (.t 18)),
          y 20 (.mv (.t 19)),
          ⟨(some 21), .mv (.t 6), (some (20, false)), [], [], false⟩,
          ⟨(some 22), .mv (.t 7), (some (20, false)), [], [], false⟩,
          ⟨(some 23), .conv .i64 (.t 22), (some (20, false)), [], [], false⟩,
          ⟨(some 24), .bin .sub .int (.t 23) (.c (.int .i64 1)), (some (20, false)), [], [], false⟩,
          ⟨(some 25), .call (.c (.func (.func 69) #[] #[])) [(.t 21), (.t 24)] true, (some (20, false)), [], [], false⟩,
          y 26 (.pick (.t 20) (.c (.bool true)) (.t 25))])
       (.cond (.t 26)
        (.seq
         (.region [
           y 4 (.mv (.c (.slice none 0 0))),
           y 5 (.mv (.c (.int .i64 150)))])
        .ret)
        .skip))
      (.seq
       (.region [
         y 27 (.mv (.t 6)),
         y 28 (.mv (.t 7)),
         y 29 (.conv .i64 (.t 28)),
         y 30 (.bin .sub .int (.t 29) (.c (.int .i64 1))),
         y 31 (.buildSlice 3 [(.int .i64 0)] 1 [(0, 1, (.t 30))]),
         y 32 (.append 3 1 8 (.t 27) (.t 31)),
         y 6 (.mv (.t 32))])
      (.region [
        y 33 (.mv (.t 0)),
        y 34 (.load true 6 (.t 3)),
        y 35 (.mv (.t 7)),
        y 36 (.conv .i64 (.t 35)),
        y 37 (.bin .sub .int (.t 36) (.c (.int .i64 1))),
        y 38 (.call (.c (.func (.func 26) #[] #[])) [(.t 34), (.t 37)] true),
        y 39 (.idxS 1 (.t 33) (.t 38)),
        y 40 (.load false 1 (.t 39)),
        y 7 (.mv (.t 40))])))))))
  (.seq
   (.region [
     y 41 (.mv (.t 6)),
     y 4 (.mv (.t 41)),
     y 5 (.mv (.c (.int .i64 0)))])
  .ret))))),
  [.tmp 4, .tmp 5]⟩

/-- wainscot/wainscotref21.slab -/
def i60 : IFun := ⟨58,
  (.seq
   (.region [
     y 4 (.box 24 6 (.t 1)),
     y 6 (.new 62 [(.int .i64 0), (.int .i64 0), (.bool false), (.bool false), (.slice none 0 0)]),
     y 7 (.mv (.c (.int .i64 0)))])
  (.seq
   (.region [
     y 13 (.load true 6 (.t 4)),
     y 14 (.mv (.t 2)),
     y 15 (.call (.c (.func (.func 25) #[] #[])) [(.t 13), (.t 14)] true),
     y 8 (.mv (.t 15))])
  (.seq
   (.region [
     y 17 (.mv (.t 0)),
     y 18 (.mv (.t 8)),
     y 19 (.bin .add .int (.t 18) (.c (.int .i64 1))),
     y 20 (.idxS 1 (.t 17) (.t 19)),
     y 21 (.load false 1 (.t 20)),
     y 22 (.call (.c (.func (.func 70) #[] #[])) [(.t 21)] true),
     y 16 (.mv (.t 22)),
     y 23 (.extract (.t 16) 0),
     y 24 (.extract (.t 16) 1),
     y 9 (.new 60 [(.int .i64 0), (.int .i64 0), (.bool false), (.bool false)]),
     x (.store 4 (.t 9) (.t 23)),
     y 10 (.mv (.t 24))])
  (.seq
   (.seq
    (.region [
      y 25 (.mv (.t 10)),
      y 26 (.un .not (.t 25)),
      y 27 (.mv (.t 26)),
      ⟨(some 28), .mv (.t 0), (some (27, false)), [], [], false⟩,
      ⟨(some 29), .mv (.t 8), (some (27, false)), [], [], false⟩,
      ⟨(some 30), .idxS 1 (.t 28) (.t 29), (some (27, false)), [], [], false⟩,
      ⟨(some 31), .load false 1 (.t 30), (some (27, false)), [], [], false⟩,
      ⟨(some 32), .addOff 2 (.t 4), (some (27, false)), [], [], false⟩,
      ⟨(some 33), .load false 1 (.t 32), (some (27, false)), [], [], false⟩,
      ⟨(some 34), .conv .u64 (.t 33), (some (27, false)), [], [], false⟩,
      ⟨(some 35), .bin .gtr .int (.t 31) (.t 34), (some (27, false)), [], [], false⟩,
      y 36 (.pick (.t 27) (.c (.bool true)) (.t 35))])
   (.cond (.t 36)
    (.seq
     (.region [
       y 37 (.build [(.int .i64 0), (.int .i64 0), (.bool false), (.bool false), (.slice none 0 0)] []),
       x (.store 5 (.t 6) (.t 37)),
       y 7 (.mv (.c (.int .i64 150)))])
    .ret)
    .skip))
  (.seq
   (.region [
     y 39 (.mv (.t 0)),
     y 40 (.load true 6 (.t 4)),
     y 41 (.mv (.t 2)),
     y 42 (.mv (.t 0)),
     y 43 (.mv (.t 8)),
     y 44 (.idxS 1 (.t 42) (.t 43)),
     y 45 (.load false 1 (.t 44)),
     y 46 (.conv .i64 (.t 45)),
     y 47 (.bin .sub .int (.t 46) (.c (.int .i64 1))),
     y 48 (.call (.c (.func (.func 67) #[] #[])) [(.t 39), (.t 40), (.t 41), (.t 47)] true),
     y 38 (.mv (.t 48)),
     y 49 (.extract (.t 38) 0),
     y 50 (.extract (.t 38) 1),
     y 11 (.mv (.t 49)),
     y 12 (.mv (.t 50))])
  (.seq
   (.seq
    (.region [
      y 51 (.mv (.t 12)),
      y 52 (.bin .neq .int (.t 51) (.c (.int .i64 0)))])
   (.cond (.t 52)
    (.seq
     (.region [
       y 53 (.build [(.int .i64 0), (.int .i64 0), (.bool false), (.bool false), (.slice none 0 0)] []),
       y 54 (.mv (.t 12)),
       x (.store 5 (.t 6) (.t 53)),
       y 7 (.mv (.t 54))])
    .ret)
    .skip))
  (.seq
   (.region [
     y 55 (.load true 4 (.t 9)),
     y 56 (.mv (.t 11)),
     y 57 (.build [(.int .i64 0), (.int .i64 0), (.bool false), (.bool false), (.slice none 0 0)] [(0, 4, (.t 55)), (4, 1, (.t 56))]),
     x (.store 5 (.t 6) (.t 57)),
     y 7 (.mv (.c (.int .i64 0)))])
  .ret))))))),
  [.cell 6 true 5, .tmp 7]⟩

/-- wainscot/wainscotref00.Bring -/
def i61 : IFun := ⟨14,
  (.seq
   (.region [
     y 4 (.mv (.c (.int .i64 0)))])
  (.seq
   (.region [
     y 5 (.mv (.t 0)),
     y 6 (.mv (.t 1)),
     y 7 (.bin .rem .int (.t 5) (.t 6)),
     y 0 (.mv (.t 7))])
  (.seq
   (.seq
    (.region [
      y 8 (.mv (.t 0)),
      y 9 (.bin .lss .int (.t 8) (.c (.int .i64 0)))])
   (.cond (.t 9)
    (.region [
      y 10 (.mv (.t 0)),
      y 11 (.mv (.t 1)),
      y 12 (.bin .add .int (.t 10) (.t 11)),
      y 0 (.mv (.t 12))])
    .skip))
  (.seq
   (.region [
     y 13 (.mv (.t 0)),
     y 4 (.mv (.t 13))])
  .ret)))),
  [.tmp 4]⟩

/-- wainscot/count.HeadOf -/
def i62 : IFun := ⟨15,
  (.seq
   (.region [
     y 2 (.mv (.c (.int .i64 0))),
     y 3 (.mv (.c (.int .i64 0))),
     y 4 (.mv (.c (.bool false)))])
  (.seq
   (.region [
     y 6 (.mv (.t 0)),
     y 7 (.call (.c (.func (.func 71) #[] #[])) [(.t 6), (.c (.int .i64 1)), (.c (.int .i64 1)), (.c (.func (.func 72) #[] #[]))] true),
     y 5 (.mv (.t 7)),
     y 8 (.extract (.t 5) 0),
     y 9 (.extract (.t 5) 1),
     y 10 (.extract (.t 5) 2),
     y 2 (.mv (.t 8)),
     y 3 (.mv (.t 9)),
     y 4 (.mv (.t 10))])
  (.seq
   (.seq
    (.region [
      y 11 (.mv (.t 4)),
      y 12 (.un .not (.t 11))])
   (.cond (.t 12)
    (.seq
     (.region [
       y 2 (.mv (.c (.int .i64 (-1)))),
       y 3 (.mv (.c (.int .i64 (-1)))),
       y 4 (.mv (.c (.bool false)))])
    .ret)
    .skip))
  (.seq
   (.region [
     y 13 (.mv (.t 2)),
     y 14 (.mv (.t 3)),
     y 2 (.mv (.t 13)),
     y 3 (.mv (.t 14)),
     y 4 (.mv (.c (.bool true)))])
  .ret)))),
  [.tmp 2, .tmp 3, .tmp 4]⟩

/-- (wainscot/chart.reader).list -/
def i63 : IFun := ⟨41,
  (.seq
   (.region [
     y 3 (.box 64 7 (.t 0)),
     y 6 (.mv (.c (.slice none 0 0))),
     y 7 (.mv (.c (.bool false)))])
  (.seq
   (.seq
    (.region [
      y 11 (.mv (.t 2)),
      y 12 (.addOff 1 (.t 3)),
      y 13 (.addOff 2 (.t 12)),
      y 14 (.load false 1 (.t 13)),
      y 15 (.bin .geq .int (.t 11) (.t 14))])
   (.cond (.t 15)
    (.seq
     (.region [
       y 6 (.mv (.c (.slice none 0 0))),
       y 7 (.mv (.c (.bool false)))])
    .ret)
    .skip))
  (.seq
   (.region [
     y 16 (.addOff 1 (.t 3)),
     y 17 (.load true 6 (.t 16)),
     y 18 (.mv (.t 1)),
     y 19 (.call (.c (.func (.func 17) #[] #[])) [(.t 17), (.t 18), (.c (.int .i64 0))] true),
     y 8 (.mv (.t 19))])
  (.seq
   (.region [
     y 21 (.addOff 0 (.t 3)),
     y 22 (.load false 1 (.t 21)),
     y 23 (.mv (.t 8)),
     y 24 (.mv (.t 8)),
     y 25 (.addOff 1 (.t 3)),
     y 26 (.addOff 2 (.t 25)),
     y 27 (.load false 1 (.t 26)),
     y 28 (.bin .add .int (.t 24) (.t 27)),
     y 29 (.slice 22 (.t 22) (some (.t 23)) (some (.t 28)) none),
     y 30 (.addOff 1 (.t 3)),
     y 31 (.load true 6 (.t 30)),
     y 32 (.mv (.t 1)),
     y 33 (.call (.c (.func (.func 29) #[] #[])) [(.t 31), (.t 32)] true),
     y 34 (.mv (.t 2)),
     y 35 (.call (.c (.func (.func 74) #[] #[])) [(.t 29), (.t 33), (.t 34)] true),
     y 20 (.mv (.t 35)),
     y 36 (.extract (.t 20) 0),
     y 37 (.extract (.t 20) 1),
     y 9 (.mv (.t 36)),
     y 10 (.mv (.t 37))])
  (.seq
   (.region [
     y 38 (.mv (.t 9)),
     y 39 (.mv (.t 10)),
     y 40 (.bin .eql .int (.t 39) (.c (.int .i64 0))),
     y 6 (.mv (.t 38)),
     y 7 (.mv (.t 40))])
  .ret))))),
  [.tmp 6, .tmp 7]⟩

/-- wainscot/chart.partOf -/
def i64 : IFun := ⟨15,
  (.seq
   (.region [
     y 2 (.mv (.c (.int .i64 0))),
     y 3 (.mv (.c (.bool false)))])
  (.seq
   (.region [
     y 8 (.mv (.t 0)),
     y 9 (.call (.c (.func (.func 75) #[] #[])) [(.t 8)] true),
     y 7 (.mv (.t 9)),
     y 10 (.extract (.t 7) 0),
     y 11 (.extract (.t 7) 1),
     y 12 (.extract (.t 7) 2),
     y 4 (.mv (.t 10)),
     y 5 (.mv (.t 11)),
     y 6 (.mv (.t 12))])
  (.seq
   (.region [
     y 13 (.mv (.t 4)),
     y 14 (.mv (.t 6)),
     y 2 (.mv (.t 13)),
     y 3 (.mv (.t 14))])
  .ret))),
  [.tmp 2, .tmp 3]⟩

/-- wainscot/count.Counts -/
def i65 : IFun := ⟨28,
  (.seq
   (.region [
     y 2 (.new 60 [(.int .i64 0), (.int .i64 0), (.bool false), (.bool false)]),
     y 3 (.mv (.c (.bool false)))])
  (.seq
   (.region [
     y 5 (.mv (.t 0)),
     y 6 (.bin .and .int (.t 5) (.c (.int .u64 255))),
     y 7 (.conv .i64 (.t 6)),
     y 8 (.mv (.t 0)),
     y 9 (.bin .shr .int (.t 8) (.c (.int .u64 8))),
     y 10 (.bin .and .int (.t 9) (.c (.int .u64 255))),
     y 11 (.conv .i64 (.t 10)),
     y 12 (.mv (.t 0)),
     y 13 (.bin .and .int (.t 12) (.c (.int .u64 65536))),
     y 14 (.bin .neq .int (.t 13) (.c (.int .u64 0))),
     y 15 (.mv (.t 0)),
     y 16 (.bin .and .int (.t 15) (.c (.int .u64 131072))),
     y 17 (.bin .neq .int (.t 16) (.c (.int .u64 0))),
     y 18 (.build [(.int .i64 0), (.int .i64 0), (.bool false), (.bool false)] [(0, 1, (.t 7)), (1, 1, (.t 11)), (2, 1, (.t 14)), (3, 1, (.t 17))]),
     y 4 (.new 60 [(.int .i64 0), (.int .i64 0), (.bool false), (.bool false)]),
     x (.store 4 (.t 4) (.t 18))])
  (.seq
   (.seq
    (.region [
      y 19 (.mv (.t 0)),
      y 20 (.bin .geq .int (.t 19) (.c (.int .u64 262144))),
      y 21 (.mv (.t 20)),
      ⟨(some 22), .load true 4 (.t 4), (some (21, false)), [], [], false⟩,
      ⟨(some 23), .call (.c (.func (.func 76) #[] #[])) [(.t 22)] true, (some (21, false)), [], [], false⟩,
      ⟨(some 24), .un .not (.t 23), (some (21, false)), [], [], false⟩,
      y 25 (.pick (.t 21) (.c (.bool true)) (.t 24))])
   (.cond (.t 25)
    (.seq
     (.region [
       y 26 (.build [(.int .i64 0), (.int .i64 0), (.bool false), (.bool false)] []),
       x (.store 4 (.t 2) (.t 26)),
       y 3 (.mv (.c (.bool false)))])
    .ret)
    .skip))
  (.seq
   (.region [
     y 27 (.load true 4 (.t 4)),
     x (.store 4 (.t 2) (.t 27)),
     y 3 (.mv (.c (.bool true)))])
  .ret)))),
  [.cell 2 true 4, .tmp 3]⟩

/-- wainscot/wainscotref17.HeadOf -/
def i66 : IFun := ⟨32,
  (.seq
   (.region [
     y 2 (.mv (.c (.int .i64 0))),
     y 3 (.mv (.c (.int .i64 0))),
     y 4 (.mv (.c (.bool false)))])
  (.seq
   (.seq
    (.region [
      y 5 (.mv (.c (.int .i64 (-1))))])
   (.block 0
    (.loop
     (.seq
      (.seq
       (.region [
         y 9 (.mv (.t 5)),
         y 10 (.bin .lss .int (.t 9) (.c (.int .i64 32)))])
      (.cond (.t 10)
       .skip
       (.exit 0)))
     (.seq
      (.block 1
       (.seq
        (.region [
          y 6 (.mv (.c (.int .i64 (-1))))])
       (.block 2
        (.loop
         (.seq
          (.seq
           (.region [
             y 13 (.mv (.t 6)),
             y 14 (.bin .lss .int (.t 13) (.c (.int .i64 16)))])
          (.cond (.t 14)
           .skip
           (.exit 2)))
         (.seq
          (.block 3
           (.seq
            (.region [
              y 18 (.mv (.t 5)),
              y 19 (.mv (.t 6)),
              y 20 (.call (.c (.func (.func 77) #[] #[])) [(.t 18), (.t 19)] true),
              y 17 (.mv (.t 20)),
              y 21 (.extract (.t 17) 0),
              y 22 (.extract (.t 17) 1),
              y 7 (.mv (.t 21)),
              y 8 (.mv (.t 22))])
           (.seq
            (.region [
              y 23 (.mv (.t 8)),
              y 24 (.bin .eql .int (.t 23) (.c (.int .i64 0))),
              y 25 (.mv (.t 24)),
              ⟨(some 26), .mv (.t 7), (some (25, true)), [], [], false⟩,
              ⟨(some 27), .mv (.t 0), (some (25, true)), [], [], false⟩,
              ⟨(some 28), .bin .eql .int (.t 26) (.t 27), (some (25, true)), [], [], false⟩,
              y 29 (.pick (.t 25) (.t 28) (.c (.bool false)))])
           (.cond (.t 29)
            (.seq
             (.region [
               y 30 (.mv (.t 5)),
               y 31 (.mv (.t 6)),
               y 2 (.mv (.t 30)),
               y 3 (.mv (.t 31)),
               y 4 (.mv (.c (.bool true)))])
            .ret)
            .skip))))
         (.region [
           y 15 (.mv (.t 6)),
           y 16 (.bin .add .int (.t 15) (.c (.int .i64 1))),
           y 6 (.mv (.t 16))])))))))
     (.region [
       y 11 (.mv (.t 5)),
       y 12 (.bin .add .int (.t 11) (.c (.int .i64 1))),
       y 5 (.mv (.t 12))]))))))
  (.seq
   (.region [
     y 2 (.mv (.c (.int .i64 (-1)))),
     y 3 (.mv (.c (.int .i64 (-1)))),
     y 4 (.mv (.c (.bool false)))])
  .ret))),
  [.tmp 2, .tmp 3, .tmp 4]⟩

/-- wainscot/wainscotref21.list -/
def i67 : IFun := ⟨48,
  (.seq
   (.region [
     y 5 (.box 24 6 (.t 1)),
     y 8 (.mv (.c (.slice none 0 0))),
     y 9 (.mv (.c (.int .i64 0)))])
  (.seq
   (.seq
    (.region [
      y 13 (.mv (.t 2)),
      y 14 (.bin .lss .int (.t 13) (.c (.int .i64 0))),
      y 15 (.mv (.t 14)),
      ⟨(some 16), .mv (.t 2), (some (15, false)), [], [], false⟩,
      ⟨(some 17), .addOff 1 (.t 5), (some (15, false)), [], [], false⟩,
      ⟨(some 18), .load false 1 (.t 17), (some (15, false)), [], [], false⟩,
      ⟨(some 19), .bin .geq .int (.t 16) (.t 18), (some (15, false)), [], [], false⟩,
      y 20 (.pick (.t 15) (.c (.bool true)) (.t 19)),
      y 21 (.mv (.t 20)),
      ⟨(some 22), .mv (.t 3), (some (21, false)), [], [], false⟩,
      ⟨(some 23), .addOff 2 (.t 5), (some (21, false)), [], [], false⟩,
      ⟨(some 24), .load false 1 (.t 23), (some (21, false)), [], [], false⟩,
      ⟨(some 25), .bin .geq .int (.t 22) (.t 24), (some (21, false)), [], [], false⟩,
      y 26 (.pick (.t 21) (.c (.bool true)) (.t 25))])
   (.cond (.t 26)
    (.seq
     (.region [
       y 8 (.mv (.c (.slice none 0 0))),
       y 9 (.mv (.c (.int .i64 150)))])
    .ret)
    .skip))
  (.seq
   (.region [
     y 27 (.load true 6 (.t 5)),
     y 28 (.mv (.t 2)),
     y 29 (.call (.c (.func (.func 27) #[] #[])) [(.t 27), (.t 28), (.c (.int .i64 0))] true),
     y 10 (.mv (.t 29))])
  (.seq
   (.region [
     y 31 (.mv (.t 0)),
     y 32 (.mv (.t 10)),
     y 33 (.mv (.t 10)),
     y 34 (.addOff 2 (.t 5)),
     y 35 (.load false 1 (.t 34)),
     y 36 (.bin .add .int (.t 33) (.t 35)),
     y 37 (.slice 22 (.t 31) (some (.t 32)) (some (.t 36)) none),
     y 38 (.load true 6 (.t 5)),
     y 39 (.mv (.t 2)),
     y 40 (.call (.c (.func (.func 30) #[] #[])) [(.t 38), (.t 39)] true),
     y 41 (.mv (.t 3)),
     y 42 (.call (.c (.func (.func 78) #[] #[])) [(.t 37), (.t 40), (.t 41)] true),
     y 30 (.mv (.t 42)),
     y 43 (.extract (.t 30) 0),
     y 44 (.extract (.t 30) 1),
     y 11 (.mv (.t 43)),
     y 12 (.mv (.t 44))])
  (.seq
   (.seq
    (.region [
      y 45 (.mv (.t 12)),
      y 46 (.bin .neq .int (.t 45) (.c (.int .i64 0)))])
   (.cond (.t 46)
    (.seq
     (.region [
       y 8 (.mv (.c (.slice none 0 0))),
       y 9 (.mv (.c (.int .i64 150)))])
    .ret)
    .skip))
  (.seq
   (.region [
     y 47 (.mv (.t 11)),
     y 8 (.mv (.t 47)),
     y 9 (.mv (.c (.int .i64 0)))])
  .ret)))))),
  [.tmp 8, .tmp 9]⟩

/-- wainscot/wainscotref21.parts -/
def i68 : IFun := ⟨44,
  (.seq
   (.region [
     y 4 (.box 24 6 (.t 1)),
     y 6 (.mv (.c (.slice none 0 0))),
     y 7 (.mv (.c (.int .i64 0)))])
  (.seq
   (.region [
     y 8 (.mv (.c (.slice none 0 0)))])
  (.block 0
   (.loop
    (.block 1
     (.seq
      (.region [
        y 13 (.mv (.t 2)),
        y 14 (.call (.c (.func (.func 79) #[] #[])) [(.t 13)] true),
        y 12 (.mv (.t 14)),
        y 15 (.extract (.t 12) 0),
        y 16 (.extract (.t 12) 1),
        y 17 (.extract (.t 12) 2),
        y 9 (.mv (.t 15)),
        y 10 (.mv (.t 16)),
        y 11 (.mv (.t 17))])
     (.seq
      (.seq
       (.region [
         y 18 (.mv (.t 11)),
         y 19 (.un .not (.t 18)),
         y 20 (.mv (.t 19)),
         ⟨(some 21), .mv (.t 9), (some (20, false)), [], [], false⟩,
         ⟨(some 22), .addOff 1 (.t 4), (some (20, false)), [], [], false⟩,
         ⟨(some 23), .load false 1 (.t 22), (some (20, false)), [], [], false⟩,
         ⟨(some 24), .bin .geq .int (.t 21) (.t 23), (some (20, false)), [], [], false⟩,
         y 25 (.pick (.t 20) (.c (.bool true)) (.t 24)),
         y 26 (.mv (.t 25)),
         ⟨(some 27), .mv (.t 8), (some (26, false)), [], [], false⟩,
         ⟨(some 28), .mv (.t 9), (some (26, false)), [], [], false⟩,
         ⟨(some 29), .call (.c (.func (.func 69) #[] #[])) [(.t 27), (.t 28)] true, (some (26, false)), [], [], false⟩,
         y 30 (.pick (.t 26) (.c (.bool true)) (.t 29))])
      (.cond (.t 30)
       (.seq
        (.region [
          y 6 (.mv (.c (.slice none 0 0))),
          y 7 (.mv (.c (.int .i64 150)))])
       .ret)
       .skip))
     (.seq
      (.seq
       (.region [
         y 31 (.mv (.t 9)),
         y 32 (.bin .lss .int (.t 31) (.c (.int .i64 0)))])
      (.cond (.t 32)
       (.seq
        (.region [
          y 33 (.mv (.t 8)),
          y 6 (.mv (.t 33)),
          y 7 (.mv (.c (.int .i64 0)))])
       .ret)
       .skip))
     (.seq
      (.region [
        y 34 (.mv (.t 8)),
        y 35 (.mv (.t 9)),
        y 36 (.buildSlice 3 [(.int .i64 0)] 1 [(0, 1, (.t 35))]),
        y 37 (.append 3 1 8 (.t 34) (.t 36)),
        y 8 (.mv (.t 37))])
     (.region [
       y 38 (.mv (.t 0)),
       y 39 (.load true 6 (.t 4)),
       y 40 (.mv (.t 9)),
       y 41 (.call (.c (.func (.func 26) #[] #[])) [(.t 39), (.t 40)] true),
       y 42 (.idxS 1 (.t 38) (.t 41)),
       y 43 (.load false 1 (.t 42)),
       y 2 (.mv (.t 43))])))))))))),
  [.tmp 6, .tmp 7]⟩

/-- wainscot/wainscotref21.has -/
def i69 : IFun := ⟨18,
  (.seq
   (.region [
     y 4 (.mv (.c (.bool false)))])
  (.seq
   (.seq
    (.region [
      y 5 (.mv (.c (.int .i64 0)))])
   (.block 0
    (.loop
     (.seq
      (.seq
       (.region [
         y 6 (.mv (.t 5)),
         y 7 (.mv (.t 0)),
         y 8 (.lenS (.t 7)),
         y 9 (.bin .lss .int (.t 6) (.t 8))])
      (.cond (.t 9)
       .skip
       (.exit 0)))
     (.seq
      (.block 1
       (.seq
        (.region [
          y 12 (.mv (.t 0)),
          y 13 (.mv (.t 5)),
          y 14 (.idxS 1 (.t 12) (.t 13)),
          y 15 (.load false 1 (.t 14)),
          y 16 (.mv (.t 1)),
          y 17 (.bin .eql .int (.t 15) (.t 16))])
       (.cond (.t 17)
        (.seq
         (.region [
           y 4 (.mv (.c (.bool true)))])
        .ret)
        .skip)))
     (.region [
       y 10 (.mv (.t 5)),
       y 11 (.bin .add .int (.t 10) (.c (.int .i64 1))),
       y 5 (.mv (.t 11))]))))))
  (.seq
   (.region [
     y 4 (.mv (.c (.bool false)))])
  .ret))),
  [.tmp 4]⟩

/-- wainscot/wainscotref17.Counts -/
def i70 : IFun := ⟨37,
  (.seq
   (.region [
     y 2 (.new 60 [(.int .i64 0), (.int .i64 0), (.bool false), (.bool false)]),
     y 3 (.mv (.c (.bool false)))])
  (.seq
   (.region [
     y 7 (.mv (.t 0)),
     y 8 (.bin .rem .int (.t 7) (.c (.int .u64 256))),
     y 9 (.conv .i64 (.t 8)),
     y 10 (.mv (.t 0)),
     y 11 (.bin .quo .int (.t 10) (.c (.int .u64 256))),
     y 12 (.bin .rem .int (.t 11) (.c (.int .u64 256))),
     y 13 (.conv .i64 (.t 12)),
     y 14 (.mv (.t 0)),
     y 15 (.bin .quo .int (.t 14) (.c (.int .u64 65536))),
     y 16 (.bin .rem .int (.t 15) (.c (.int .u64 2))),
     y 17 (.bin .eql .int (.t 16) (.c (.int .u64 1))),
     y 18 (.mv (.t 0)),
     y 19 (.bin .quo .int (.t 18) (.c (.int .u64 131072))),
     y 20 (.bin .rem .int (.t 19) (.c (.int .u64 2))),
     y 21 (.bin .eql .int (.t 20) (.c (.int .u64 1))),
     y 22 (.build [(.int .i64 0), (.int .i64 0), (.bool false), (.bool false)] [(0, 1, (.t 9)), (1, 1, (.t 13)), (2, 1, (.t 17)), (3, 1, (.t 21))]),
     y 4 (.new 60 [(.int .i64 0), (.int .i64 0), (.bool false), (.bool false)]),
     x (.store 4 (.t 4) (.t 22))])
  (.seq
   (.region [
     y 24 (.load true 4 (.t 4)),
     y 25 (.call (.c (.func (.func 80) #[] #[])) [(.t 24)] true),
     y 23 (.mv (.t 25)),
     y 26 (.extract (.t 23) 0),
     y 27 (.extract (.t 23) 1),
     y 5 (.mv (.t 26)),
     y 6 (.mv (.t 27))])
  (.seq
   (.seq
    (.region [
      y 28 (.mv (.t 6)),
      y 29 (.bin .neq .int (.t 28) (.c (.int .i64 0))),
      y 30 (.mv (.t 29)),
      ⟨(some 31), .mv (.t 5), (some (30, false)), [], [], false⟩,
      ⟨(some 32), .mv (.t 0), (some (30, false)), [], [], false⟩,
      ⟨(some 33), .bin .neq .int (.t 31) (.t 32), (some (30, false)), [], [], false⟩,
      y 34 (.pick (.t 30) (.c (.bool true)) (.t 33))])
   (.cond (.t 34)
    (.seq
     (.region [
       y 35 (.build [(.int .i64 0), (.int .i64 0), (.bool false), (.bool false)] []),
       x (.store 4 (.t 2) (.t 35)),
       y 3 (.mv (.c (.bool false)))])
    .ret)
    .skip))
  (.seq
   (.region [
     y 36 (.load true 4 (.t 4)),
     x (.store 4 (.t 2) (.t 36)),
     y 3 (.mv (.c (.bool true)))])
  .ret))))),
  [.cell 2 true 4, .tmp 3]⟩

/-- wainscot/count.told[int] -/
def i71 : IFun := ⟨34,
  (.seq
   (.region [
     y 8 (.mv (.c (.int .i64 0))),
     y 9 (.mv (.c (.int .i64 0))),
     y 10 (.mv (.c (.bool false)))])
  (.seq
   (.region [
     y 13 (.mv (.t 0)),
     y 14 (.bin .shr .int (.t 13) (.c (.int .u64 6))),
     y 15 (.conv .i64 (.t 14)),
     y 16 (.mv (.t 1)),
     y 17 (.bin .sub .int (.t 15) (.t 16)),
     y 18 (.mv (.t 0)),
     y 19 (.bin .and .int (.t 18) (.c (.int .u64 63))),
     y 20 (.conv .i64 (.t 19)),
     y 21 (.mv (.t 2)),
     y 22 (.bin .sub .int (.t 20) (.t 21)),
     y 11 (.mv (.t 17)),
     y 12 (.mv (.t 22))])
  (.seq
   (.seq
    (.region [
      y 23 (.mv (.t 0)),
      y 24 (.bin .gtr .int (.t 23) (.c (.int .u64 4095))),
      y 25 (.mv (.t 24)),
      ⟨(some 26), .mv (.t 3), (some (25, false)), [], [], false⟩,
      ⟨(some 27), .mv (.t 11), (some (25, false)), [], [], false⟩,
      ⟨(some 28), .mv (.t 12), (some (25, false)), [], [], false⟩,
      ⟨(some 29), .call (.t 26) [(.t 27), (.t 28)] false, (some (25, false)), [], [], false⟩,
      ⟨(some 30), .un .not (.t 29), (some (25, false)), [], [], false⟩,
      y 31 (.pick (.t 25) (.c (.bool true)) (.t 30))])
   (.cond (.t 31)
    (.seq
     (.region [
       y 8 (.mv (.c (.int .i64 0))),
       y 9 (.mv (.c (.int .i64 0))),
       y 10 (.mv (.c (.bool false)))])
    .ret)
    .skip))
  (.seq
   (.region [
     y 32 (.mv (.t 11)),
     y 33 (.mv (.t 12)),
     y 8 (.mv (.t 32)),
     y 9 (.mv (.t 33)),
     y 10 (.mv (.c (.bool true)))])
  .ret)))),
  [.tmp 8, .tmp 9, .tmp 10]⟩

/-- wainscot/count.HeadOf$1 -/
def i72 : IFun := ⟨15,
  (.seq
   (.region [
     y 4 (.mv (.c (.bool false)))])
  (.seq
   (.region [
     y 8 (.mv (.t 0)),
     y 9 (.mv (.t 1)),
     y 10 (.call (.c (.func (.func 73) #[] #[])) [(.t 8), (.t 9)] true),
     y 7 (.mv (.t 10)),
     y 11 (.extract (.t 7) 0),
     y 12 (.extract (.t 7) 1),
     y 5 (.mv (.t 11)),
     y 6 (.mv (.t 12))])
  (.seq
   (.region [
     y 13 (.mv (.t 6)),
     y 14 (.bin .eql .int (.t 13) (.c (.int .i64 0))),
     y 4 (.mv (.t 14))])
  .ret))),
  [.tmp 4]⟩

/-- wainscot/count.Head -/
def i73 : IFun := ⟨33,
  (.seq
   (.region [
     y 4 (.mv (.c (.int .u64 0))),
     y 5 (.mv (.c (.int .i64 0)))])
  (.seq
   (.block 0
    (.seq
     (.region [
       y 7 (.mv (.t 0)),
       y 8 (.bin .eql .int (.t 7) (.c (.int .i64 (-1)))),
       y 9 (.mv (.t 8)),
       ⟨(some 10), .mv (.t 1), (some (9, true)), [], [], false⟩,
       ⟨(some 11), .bin .eql .int (.t 10) (.c (.int .i64 (-1))), (some (9, true)), [], [], false⟩,
       y 12 (.pick (.t 9) (.t 11) (.c (.bool false))),
       y 6 (.mv (.t 12))])
    (.cond (.t 6)
     (.seq
      (.region [
        y 4 (.mv (.c (.int .u64 0))),
        y 5 (.mv (.c (.int .i64 0)))])
     .ret)
     (.seq
      (.region [
        y 14 (.mv (.t 0)),
        y 15 (.call (.c (.func (.func 81) #[] #[])) [(.t 14)] true),
        y 16 (.un .not (.t 15)),
        y 17 (.mv (.t 16)),
        ⟨(some 18), .mv (.t 1), (some (17, false)), [], [], false⟩,
        ⟨(some 19), .bin .lss .int (.t 18) (.c (.int .i64 (-1))), (some (17, false)), [], [], false⟩,
        y 20 (.pick (.t 17) (.c (.bool true)) (.t 19)),
        y 21 (.mv (.t 20)),
        ⟨(some 22), .mv (.t 1), (some (21, false)), [], [], false⟩,
        ⟨(some 23), .bin .geq .int (.t 22) (.c (.int .i64 16)), (some (21, false)), [], [], false⟩,
        y 24 (.pick (.t 21) (.c (.bool true)) (.t 23)),
        y 13 (.mv (.t 24))])
     (.cond (.t 13)
      (.seq
       (.region [
         y 4 (.mv (.c (.int .u64 0))),
         y 5 (.mv (.c (.int .i64 2)))])
      .ret)
      .skip)))))
  (.seq
   (.region [
     y 25 (.mv (.t 0)),
     y 26 (.bin .add .int (.t 25) (.c (.int .i64 1))),
     y 27 (.conv .u64 (.t 26)),
     y 28 (.bin .shl .int (.t 27) (.c (.int .u64 6))),
     y 29 (.mv (.t 1)),
     y 30 (.bin .add .int (.t 29) (.c (.int .i64 1))),
     y 31 (.conv .u64 (.t 30)),
     y 32 (.bin .or .int (.t 28) (.t 31)),
     y 4 (.mv (.t 32)),
     y 5 (.mv (.c (.int .i64 0)))])
  .ret))),
  [.tmp 4, .tmp 5]⟩

/-- wainscot/link.List -/
def i74 : IFun := ⟨58,
  (.seq
   (.region [
     y 6 (.mv (.c (.slice none 0 0))),
     y 7 (.mv (.c (.int .i64 0)))])
  (.seq
   (.seq
    (.region [
      y 12 (.mv (.t 0)),
      y 13 (.lenS (.t 12)),
      y 14 (.bin .gtr .int (.t 13) (.c (.int .i64 16))),
      y 15 (.mv (.t 14)),
      ⟨(some 16), .mv (.t 2), (some (15, false)), [], [], false⟩,
      ⟨(some 17), .bin .lss .int (.t 16) (.c (.int .i64 (-1))), (some (15, false)), [], [], false⟩,
      y 18 (.pick (.t 15) (.c (.bool true)) (.t 17)),
      y 19 (.mv (.t 18)),
      ⟨(some 20), .mv (.t 2), (some (19, false)), [], [], false⟩,
      ⟨(some 21), .mv (.t 0), (some (19, false)), [], [], false⟩,
      ⟨(some 22), .lenS (.t 21), (some (19, false)), [], [], false⟩,
      ⟨(some 23), .bin .geq .int (.t 20) (.t 22), (some (19, false)), [], [], false⟩,
      y 24 (.pick (.t 19) (.c (.bool true)) (.t 23))])
   (.cond (.t 24)
    (.seq
     (.region [
       y 6 (.mv (.c (.slice none 0 0))),
       y 7 (.mv (.c (.int .i64 2)))])
    .ret)
    .skip))
  (.seq
   (.region [
     y 8 (.new 97 [(.bool false), (.bool false), (.bool false), (.bool false), (.bool false), (.bool false), (.bool false), (.bool false), (.bool false), (.bool false), (.bool false), (.bool false), (.bool false), (.bool false), (.bool false), (.bool false)])])
  (.seq
   (.region [
     y 9 (.mv (.c (.slice none 0 0)))])
  (.seq
   .skip
  (.seq
   (.block 0
    (.loop
     (.block 1
      (.seq
       (.block 2
        (.seq
         (.region [
           y 26 (.mv (.t 2)),
           y 27 (.bin .eql .int (.t 26) (.c (.int .i64 (-1)))),
           y 25 (.mv (.t 27))])
        (.cond (.t 25)
         (.exit 0)
         (.seq
          (.region [
            y 29 (.mv (.t 2)),
            y 30 (.idxA 16 1 (.t 8) (.t 29)),
            y 31 (.load false 1 (.t 30)),
            y 28 (.mv (.t 31))])
         (.cond (.t 28)
          (.seq
           (.region [
             y 6 (.mv (.c (.slice none 0 0))),
             y 7 (.mv (.c (.int .i64 150)))])
          .ret)
          .skip)))))
      (.seq
       (.region [
         y 32 (.mv (.t 2)),
         y 33 (.idxA 16 1 (.t 8) (.t 32)),
         x (.store 1 (.t 33) (.c (.bool true)))])
      (.seq
       (.region [
         y 34 (.mv (.t 9)),
         y 35 (.mv (.t 2)),
         y 36 (.buildSlice 3 [(.int .i64 0)] 1 [(0, 1, (.t 35))]),
         y 37 (.append 3 1 8 (.t 34) (.t 36)),
         y 9 (.mv (.t 37))])
      (.seq
       (.region [
         y 39 (.mv (.t 0)),
         y 40 (.mv (.t 2)),
         y 41 (.idxS 1 (.t 39) (.t 40)),
         y 42 (.load false 1 (.t 41)),
         y 43 (.mv (.t 1)),
         y 44 (.mv (.t 2)),
         y 45 (.call (.c (.func (.func 82) #[] #[])) [(.t 42), (.t 43), (.t 44)] true),
         y 38 (.mv (.t 45)),
         y 46 (.extract (.t 38) 0),
         y 47 (.extract (.t 38) 1),
         y 10 (.mv (.t 46)),
         y 11 (.mv (.t 47))])
      (.seq
       (.seq
        (.region [
          y 48 (.mv (.t 11)),
          y 49 (.un .not (.t 48)),
          y 50 (.mv (.t 49)),
          ⟨(some 51), .mv (.t 10), (some (50, false)), [], [], false⟩,
          ⟨(some 52), .mv (.t 0), (some (50, false)), [], [], false⟩,
          ⟨(some 53), .lenS (.t 52), (some (50, false)), [], [], false⟩,
          ⟨(some 54), .bin .geq .int (.t 51) (.t 53), (some (50, false)), [], [], false⟩,
          y 55 (.pick (.t 50) (.c (.bool true)) (.t 54))])
       (.cond (.t 55)
        (.seq
         (.region [
           y 6 (.mv (.c (.slice none 0 0))),
           y 7 (.mv (.c (.int .i64 150)))])
        .ret)
        .skip))
      (.region [
        y 56 (.mv (.t 10)),
        y 2 (.mv (.t 56))])))))))))
  (.seq
   (.region [
     y 57 (.mv (.t 9)),
     y 6 (.mv (.t 57)),
     y 7 (.mv (.c (.int .i64 0)))])
  .ret))))))),
  [.tmp 6, .tmp 7]⟩

/-- wainscot/count.PartOf -/
def i75 : IFun := ⟨15,
  (.seq
   (.region [
     y 2 (.mv (.c (.int .i64 0))),
     y 3 (.mv (.c (.int .i64 0))),
     y 4 (.mv (.c (.bool false)))])
  (.seq
   (.region [
     y 6 (.mv (.t 0)),
     y 7 (.call (.c (.func (.func 71) #[] #[])) [(.t 6), (.c (.int .i64 0)), (.c (.int .i64 1)), (.c (.func (.func 83) #[] #[]))] true),
     y 5 (.mv (.t 7)),
     y 8 (.extract (.t 5) 0),
     y 9 (.extract (.t 5) 1),
     y 10 (.extract (.t 5) 2),
     y 3 (.mv (.t 8)),
     y 2 (.mv (.t 9)),
     y 4 (.mv (.t 10))])
  (.seq
   (.seq
    (.region [
      y 11 (.mv (.t 4)),
      y 12 (.un .not (.t 11))])
   (.cond (.t 12)
    (.seq
     (.region [
       y 2 (.mv (.c (.int .i64 (-1)))),
       y 3 (.mv (.c (.int .i64 0))),
       y 4 (.mv (.c (.bool false)))])
    .ret)
    .skip))
  (.seq
   (.region [
     y 13 (.mv (.t 2)),
     y 14 (.mv (.t 3)),
     y 2 (.mv (.t 13)),
     y 3 (.mv (.t 14)),
     y 4 (.mv (.c (.bool true)))])
  .ret)))),
  [.tmp 2, .tmp 3, .tmp 4]⟩

/-- wainscot/count.may -/
def i76 : IFun := ⟨32,
  (.seq
   (.region [
     y 1 (.box 60 4 (.t 0)),
     y 2 (.mv (.c (.bool false)))])
  (.seq
   (.region [
     y 3 (.addOff 3 (.t 1)),
     y 4 (.load false 1 (.t 3)),
     y 5 (.mv (.t 4)),
     ⟨(some 6), .addOff 1 (.t 1), (some (5, true)), [], [], false⟩,
     ⟨(some 7), .load false 1 (.t 6), (some (5, true)), [], [], false⟩,
     ⟨(some 8), .bin .leq .int (.c (.int .i64 1)) (.t 7), (some (5, true)), [], [], false⟩,
     y 9 (.pick (.t 5) (.t 8) (.c (.bool false))),
     y 10 (.mv (.t 9)),
     ⟨(some 11), .addOff 1 (.t 1), (some (10, true)), [], [], false⟩,
     ⟨(some 12), .load false 1 (.t 11), (some (10, true)), [], [], false⟩,
     ⟨(some 13), .bin .leq .int (.t 12) (.c (.int .i64 16)), (some (10, true)), [], [], false⟩,
     y 14 (.pick (.t 10) (.t 13) (.c (.bool false))),
     y 15 (.mv (.t 14)),
     ⟨(some 16), .addOff 0 (.t 1), (some (15, true)), [], [], false⟩,
     ⟨(some 17), .load false 1 (.t 16), (some (15, true)), [], [], false⟩,
     ⟨(some 18), .bin .leq .int (.c (.int .i64 0)) (.t 17), (some (15, true)), [], [], false⟩,
     y 19 (.pick (.t 15) (.t 18) (.c (.bool false))),
     y 20 (.mv (.t 19)),
     ⟨(some 21), .addOff 0 (.t 1), (some (20, true)), [], [], false⟩,
     ⟨(some 22), .load false 1 (.t 21), (some (20, true)), [], [], false⟩,
     ⟨(some 23), .addOff 1 (.t 1), (some (20, true)), [], [], false⟩,
     ⟨(some 24), .load false 1 (.t 23), (some (20, true)), [], [], false⟩,
     ⟨(some 25), .bin .leq .int (.t 22) (.t 24), (some (20, true)), [], [], false⟩,
     y 26 (.pick (.t 20) (.t 25) (.c (.bool false))),
     y 27 (.mv (.t 26)),
     ⟨(some 28), .load true 4 (.t 1), (some (27, false)), [], [], false⟩,
     ⟨(some 29), .build [(.int .i64 0), (.int .i64 0), (.bool false), (.bool false)] [], (some (27, false)), [], [], false⟩,
     ⟨(some 30), .bin .eql (.plain [(some .i64), (some .i64), none, none]) (.t 28) (.t 29), (some (27, false)), [], [], false⟩,
     y 31 (.pick (.t 27) (.c (.bool true)) (.t 30)),
     y 2 (.mv (.t 31))])
  .ret)),
  [.tmp 2]⟩

/-- wainscot/wainscotref17.Head -/
def i77 : IFun := ⟨33,
  (.seq
   (.region [
     y 4 (.mv (.c (.int .u64 0))),
     y 5 (.mv (.c (.int .i64 0)))])
  (.seq
   (.seq
    (.region [
      y 6 (.mv (.t 0)),
      y 7 (.bin .eql .int (.t 6) (.c (.int .i64 (-1)))),
      y 8 (.mv (.t 7)),
      ⟨(some 9), .mv (.t 1), (some (8, true)), [], [], false⟩,
      ⟨(some 10), .bin .eql .int (.t 9) (.c (.int .i64 (-1))), (some (8, true)), [], [], false⟩,
      y 11 (.pick (.t 8) (.t 10) (.c (.bool false)))])
   (.cond (.t 11)
    (.seq
     (.region [
       y 4 (.mv (.c (.int .u64 0))),
       y 5 (.mv (.c (.int .i64 0)))])
    .ret)
    .skip))
  (.seq
   (.seq
    (.region [
      y 12 (.mv (.t 0)),
      y 13 (.bin .lss .int (.t 12) (.c (.int .i64 0))),
      y 14 (.mv (.t 13)),
      ⟨(some 15), .mv (.t 0), (some (14, false)), [], [], false⟩,
      ⟨(some 16), .bin .geq .int (.t 15) (.c (.int .i64 32)), (some (14, false)), [], [], false⟩,
      y 17 (.pick (.t 14) (.c (.bool true)) (.t 16)),
      y 18 (.mv (.t 17)),
      ⟨(some 19), .mv (.t 1), (some (18, false)), [], [], false⟩,
      ⟨(some 20), .bin .lss .int (.t 19) (.c (.int .i64 (-1))), (some (18, false)), [], [], false⟩,
      y 21 (.pick (.t 18) (.c (.bool true)) (.t 20)),
      y 22 (.mv (.t 21)),
      ⟨(some 23), .mv (.t 1), (some (22, false)), [], [], false⟩,
      ⟨(some 24), .bin .geq .int (.t 23) (.c (.int .i64 16)), (some (22, false)), [], [], false⟩,
      y 25 (.pick (.t 22) (.c (.bool true)) (.t 24))])
   (.cond (.t 25)
    (.seq
     (.region [
       y 4 (.mv (.c (.int .u64 0))),
       y 5 (.mv (.c (.int .i64 2)))])
    .ret)
    .skip))
  (.seq
   (.region [
     y 26 (.mv (.t 0)),
     y 27 (.bin .add .int (.t 26) (.c (.int .i64 1))),
     y 28 (.bin .mul .int (.c (.int .i64 64)) (.t 27)),
     y 29 (.mv (.t 1)),
     y 30 (.bin .add .int (.t 28) (.t 29)),
     y 31 (.bin .add .int (.t 30) (.c (.int .i64 1))),
     y 32 (.conv .u64 (.t 31)),
     y 4 (.mv (.t 32)),
     y 5 (.mv (.c (.int .i64 0)))])
  .ret)))),
  [.tmp 4, .tmp 5]⟩

/-- wainscot/wainscotref16.List -/
def i78 : IFun := ⟨63,
  (.seq
   (.region [
     y 6 (.mv (.c (.slice none 0 0))),
     y 7 (.mv (.c (.int .i64 0)))])
  (.seq
   (.seq
    (.region [
      y 12 (.mv (.t 0)),
      y 13 (.lenS (.t 12)),
      y 14 (.bin .gtr .int (.t 13) (.c (.int .i64 16))),
      y 15 (.mv (.t 14)),
      ⟨(some 16), .mv (.t 2), (some (15, false)), [], [], false⟩,
      ⟨(some 17), .bin .lss .int (.t 16) (.c (.int .i64 (-1))), (some (15, false)), [], [], false⟩,
      y 18 (.pick (.t 15) (.c (.bool true)) (.t 17)),
      y 19 (.mv (.t 18)),
      ⟨(some 20), .mv (.t 2), (some (19, false)), [], [], false⟩,
      ⟨(some 21), .mv (.t 0), (some (19, false)), [], [], false⟩,
      ⟨(some 22), .lenS (.t 21), (some (19, false)), [], [], false⟩,
      ⟨(some 23), .bin .geq .int (.t 20) (.t 22), (some (19, false)), [], [], false⟩,
      y 24 (.pick (.t 19) (.c (.bool true)) (.t 23))])
   (.cond (.t 24)
    (.seq
     (.region [
       y 6 (.mv (.c (.slice none 0 0))),
       y 7 (.mv (.c (.int .i64 2)))])
    .ret)
    .skip))
  (.seq
   (.region [
     y 8 (.mv (.c (.slice none 0 0)))])
  (.seq
   (.block 0
    (.loop
     (.seq
      (.seq
       (.region [
         y 25 (.mv (.t 2)),
         y 26 (.bin .geq .int (.t 25) (.c (.int .i64 0)))])
      (.cond (.t 26)
       .skip
       (.exit 0)))
     (.block 1
      (.seq
       (.seq
        (.region [
          y 9 (.mv (.c (.int .i64 0)))])
       (.block 2
        (.loop
         (.seq
          (.seq
           (.region [
             y 27 (.mv (.t 9)),
             y 28 (.mv (.t 8)),
             y 29 (.lenS (.t 28)),
             y 30 (.bin .lss .int (.t 27) (.t 29))])
          (.cond (.t 30)
           .skip
           (.exit 2)))
         (.seq
          (.block 3
           (.seq
            (.region [
              y 33 (.mv (.t 8)),
              y 34 (.mv (.t 9)),
              y 35 (.idxS 1 (.t 33) (.t 34)),
              y 36 (.load false 1 (.t 35)),
              y 37 (.mv (.t 2)),
              y 38 (.bin .eql .int (.t 36) (.t 37))])
           (.cond (.t 38)
            (.seq
             (.region [
               y 6 (.mv (.c (.slice none 0 0))),
               y 7 (.mv (.c (.int .i64 150)))])
            .ret)
            .skip)))
         (.region [
           y 31 (.mv (.t 9)),
           y 32 (.bin .add .int (.t 31) (.c (.int .i64 1))),
           y 9 (.mv (.t 32))]))))))
      (.seq
       (.region [
         y 39 (.mv (.t 8)),
         y 40 (.mv (.t 2)),
         y 41 (.buildSlice 3 [(.int .i64 0)] 1 [(0, 1, (.t 40))]),
         y 42 (.append 3 1 8 (.t 39) (.t 41)),
         y 8 (.mv (.t 42))])
      (.seq
       (.region [
         y 44 (.mv (.t 0)),
         y 45 (.mv (.t 2)),
         y 46 (.idxS 1 (.t 44) (.t 45)),
         y 47 (.load false 1 (.t 46)),
         y 48 (.mv (.t 1)),
         y 49 (.mv (.t 2)),
         y 50 (.call (.c (.func (.func 85) #[] #[])) [(.t 47), (.t 48), (.t 49)] true),
         y 43 (.mv (.t 50)),
         y 51 (.extract (.t 43) 0),
         y 52 (.extract (.t 43) 1),
         y 10 (.mv (.t 51)),
         y 11 (.mv (.t 52))])
      (.seq
       (.seq
        (.region [
          y 53 (.mv (.t 11)),
          y 54 (.un .not (.t 53)),
          y 55 (.mv (.t 54)),
          ⟨(some 56), .mv (.t 10), (some (55, false)), [], [], false⟩,
          ⟨(some 57), .mv (.t 0), (some (55, false)), [], [], false⟩,
          ⟨(some 58), .lenS (.t 57), (some (55, false)), [], [], false⟩,
          ⟨(some 59), .bin .geq .int (.t 56) (.t 58), (some (55, false)), [], [], false⟩,
          y 60 (.pick (.t 55) (.c (.bool true)) (.t 59))])
       (.cond (.t 60)
        (.seq
         (.region [
           y 6 (.mv (.c (.slice none 0 0))),
           y 7 (.mv (.c (.int .i64 150)))])
        .ret)
        .skip))
      (.region [
        y 61 (.mv (.t 10)),
        y 2 (.mv (.t 61))])))))))))
  (.seq
   (.region [
     y 62 (.mv (.t 8)),
     y 6 (.mv (.t 62)),
     y 7 (.mv (.c (.int .i64 0)))])
  .ret))))),
  [.tmp 6, .tmp 7]⟩

/-- wainscot/wainscotref17.PartOf -/
def i79 : IFun := ⟨34,
  (.seq
   (.region [
     y 2 (.mv (.c (.int .i64 0))),
     y 3 (.mv (.c (.int .i64 0))),
     y 4 (.mv (.c (.bool false)))])
  (.seq
   (.seq
    (.region [
      y 9 (.mv (.t 0)),
      y 10 (.bin .eql .int (.t 9) (.c (.int .u64 0)))])
   (.cond (.t 10)
    (.seq
     (.region [
       y 2 (.mv (.c (.int .i64 (-1)))),
       y 3 (.mv (.c (.int .i64 0))),
       y 4 (.mv (.c (.bool true)))])
    .ret)
    .skip))
  (.seq
   (.region [
     y 11 (.mv (.t 0)),
     y 12 (.bin .rem .int (.t 11) (.c (.int .u64 64))),
     y 13 (.conv .i64 (.t 12)),
     y 14 (.bin .sub .int (.t 13) (.c (.int .i64 1))),
     y 15 (.mv (.t 0)),
     y 16 (.bin .quo .int (.t 15) (.c (.int .u64 64))),
     y 17 (.bin .rem .int (.t 16) (.c (.int .u64 64))),
     y 18 (.conv .i64 (.t 17)),
     y 5 (.mv (.t 14)),
     y 6 (.mv (.t 18))])
  (.seq
   (.region [
     y 20 (.mv (.t 5)),
     y 21 (.mv (.t 6)),
     y 22 (.call (.c (.func (.func 86) #[] #[])) [(.t 20), (.t 21)] true),
     y 19 (.mv (.t 22)),
     y 23 (.extract (.t 19) 0),
     y 24 (.extract (.t 19) 1),
     y 7 (.mv (.t 23)),
     y 8 (.mv (.t 24))])
  (.seq
   (.seq
    (.region [
      y 25 (.mv (.t 8)),
      y 26 (.bin .neq .int (.t 25) (.c (.int .i64 0))),
      y 27 (.mv (.t 26)),
      ⟨(some 28), .mv (.t 7), (some (27, false)), [], [], false⟩,
      ⟨(some 29), .mv (.t 0), (some (27, false)), [], [], false⟩,
      ⟨(some 30), .bin .neq .int (.t 28) (.t 29), (some (27, false)), [], [], false⟩,
      y 31 (.pick (.t 27) (.c (.bool true)) (.t 30))])
   (.cond (.t 31)
    (.seq
     (.region [
       y 2 (.mv (.c (.int .i64 (-1)))),
       y 3 (.mv (.c (.int .i64 0))),
       y 4 (.mv (.c (.bool false)))])
    .ret)
    .skip))
  (.seq
   (.region [
     y 32 (.mv (.t 5)),
     y 33 (.mv (.t 6)),
     y 2 (.mv (.t 32)),
     y 3 (.mv (.t 33)),
     y 4 (.mv (.c (.bool true)))])
  .ret)))))),
  [.tmp 2, .tmp 3, .tmp 4]⟩

/-- wainscot/wainscotref17.Pack -/
def i80 : IFun := ⟨25,
  (.seq
   (.region [
     y 1 (.box 60 4 (.t 0)),
     y 2 (.mv (.c (.int .u64 0))),
     y 3 (.mv (.c (.int .i64 0)))])
  (.seq
   (.seq
    (.region [
      y 5 (.load true 4 (.t 1)),
      y 6 (.call (.c (.func (.func 87) #[] #[])) [(.t 5)] true),
      y 7 (.un .not (.t 6))])
   (.cond (.t 7)
    (.seq
     (.region [
       y 2 (.mv (.c (.int .u64 0))),
       y 3 (.mv (.c (.int .i64 2)))])
    .ret)
    .skip))
  (.seq
   (.region [
     y 8 (.addOff 0 (.t 1)),
     y 9 (.load false 1 (.t 8)),
     y 10 (.conv .u64 (.t 9)),
     y 11 (.addOff 1 (.t 1)),
     y 12 (.load false 1 (.t 11)),
     y 13 (.conv .u64 (.t 12)),
     y 14 (.bin .mul .int (.c (.int .u64 256)) (.t 13)),
     y 15 (.bin .add .int (.t 10) (.t 14)),
     y 4 (.mv (.t 15))])
  (.seq
   (.seq
    (.region [
      y 16 (.addOff 2 (.t 1)),
      y 17 (.load false 1 (.t 16))])
   (.cond (.t 17)
    (.region [
      y 18 (.mv (.t 4)),
      y 19 (.bin .add .int (.t 18) (.c (.int .u64 65536))),
      y 4 (.mv (.t 19))])
    .skip))
  (.seq
   (.seq
    (.region [
      y 20 (.addOff 3 (.t 1)),
      y 21 (.load false 1 (.t 20))])
   (.cond (.t 21)
    (.region [
      y 22 (.mv (.t 4)),
      y 23 (.bin .add .int (.t 22) (.c (.int .u64 131072))),
      y 4 (.mv (.t 23))])
    .skip))
  (.seq
   (.region [
     y 24 (.mv (.t 4)),
     y 2 (.mv (.t 24)),
     y 3 (.mv (.c (.int .i64 0)))])
  .ret)))))),
  [.tmp 2, .tmp 3]⟩

/-- wainscot/count.slabMay -/
def i81 : IFun := ⟨9,
  (.seq
   (.region [
     y 2 (.mv (.c (.bool false)))])
  (.seq
   (.region [
     y 3 (.mv (.t 0)),
     y 4 (.bin .leq .int (.c (.int .i64 0)) (.t 3)),
     y 5 (.mv (.t 4)),
     ⟨(some 6), .mv (.t 0), (some (5, true)), [], [], false⟩,
     ⟨(some 7), .bin .lss .int (.t 6) (.c (.int .i64 32)), (some (5, true)), [], [], false⟩,
     y 8 (.pick (.t 5) (.t 7) (.c (.bool false))),
     y 2 (.mv (.t 8))])
  .ret)),
  [.tmp 2]⟩

/-- wainscot/link.Show -/
def i82 : IFun := ⟨21,
  (.seq
   (.region [
     y 6 (.mv (.c (.int .i64 0))),
     y 7 (.mv (.c (.bool false)))])
  (.seq
   (.seq
    (.region [
      y 8 (.mv (.t 2)),
      y 9 (.call (.c (.func (.func 88) #[] #[])) [(.t 8)] true),
      y 10 (.un .not (.t 9))])
   (.cond (.t 10)
    (.seq
     (.region [
       y 6 (.mv (.c (.int .i64 0))),
       y 7 (.mv (.c (.bool false)))])
    .ret)
    .skip))
  (.seq
   (.seq
    (.region [
      y 11 (.mv (.t 0)),
      y 12 (.mv (.t 1)),
      y 13 (.mv (.t 2)),
      y 14 (.call (.c (.func (.func 89) #[] #[])) [(.t 12), (.t 13)] true),
      y 15 (.bin .xor .int (.t 11) (.t 14)),
      y 0 (.mv (.t 15))])
   (.seq
    (.region [
      y 16 (.mv (.t 0)),
      y 17 (.bin .gtr .int (.t 16) (.c (.int .u64 16)))])
   (.cond (.t 17)
    (.seq
     (.region [
       y 6 (.mv (.c (.int .i64 0))),
       y 7 (.mv (.c (.bool false)))])
    .ret)
    .skip)))
  (.seq
   (.region [
     y 18 (.mv (.t 0)),
     y 19 (.conv .i64 (.t 18)),
     y 20 (.bin .sub .int (.t 19) (.c (.int .i64 1))),
     y 6 (.mv (.t 20)),
     y 7 (.mv (.c (.bool true)))])
  .ret)))),
  [.tmp 6, .tmp 7]⟩

/-- wainscot/count.PartOf$1 -/
def i83 : IFun := ⟨15,
  (.seq
   (.region [
     y 4 (.mv (.c (.bool false)))])
  (.seq
   (.region [
     y 8 (.mv (.t 1)),
     y 9 (.mv (.t 0)),
     y 10 (.call (.c (.func (.func 84) #[] #[])) [(.t 8), (.t 9)] true),
     y 7 (.mv (.t 10)),
     y 11 (.extract (.t 7) 0),
     y 12 (.extract (.t 7) 1),
     y 5 (.mv (.t 11)),
     y 6 (.mv (.t 12))])
  (.seq
   (.region [
     y 13 (.mv (.t 6)),
     y 14 (.bin .eql .int (.t 13) (.c (.int .i64 0))),
     y 4 (.mv (.t 14))])
  .ret))),
  [.tmp 4]⟩

/-- wainscot/count.Part -/
def i84 : IFun := ⟨32,
  (.seq
   (.region [
     y 4 (.mv (.c (.int .u64 0))),
     y 5 (.mv (.c (.int .i64 0)))])
  (.seq
   (.block 0
    (.seq
     (.region [
       y 7 (.mv (.t 0)),
       y 8 (.bin .eql .int (.t 7) (.c (.int .i64 (-1)))),
       y 9 (.mv (.t 8)),
       ⟨(some 10), .mv (.t 1), (some (9, true)), [], [], false⟩,
       ⟨(some 11), .bin .eql .int (.t 10) (.c (.int .i64 0)), (some (9, true)), [], [], false⟩,
       y 12 (.pick (.t 9) (.t 11) (.c (.bool false))),
       y 6 (.mv (.t 12))])
    (.cond (.t 6)
     (.seq
      (.region [
        y 4 (.mv (.c (.int .u64 0))),
        y 5 (.mv (.c (.int .i64 0)))])
     .ret)
     (.seq
      (.region [
        y 14 (.mv (.t 0)),
        y 15 (.call (.c (.func (.func 81) #[] #[])) [(.t 14)] true),
        y 16 (.un .not (.t 15)),
        y 17 (.mv (.t 16)),
        ⟨(some 18), .mv (.t 1), (some (17, false)), [], [], false⟩,
        ⟨(some 19), .bin .lss .int (.t 18) (.c (.int .i64 1)), (some (17, false)), [], [], false⟩,
        y 20 (.pick (.t 17) (.c (.bool true)) (.t 19)),
        y 21 (.mv (.t 20)),
        ⟨(some 22), .mv (.t 1), (some (21, false)), [], [], false⟩,
        ⟨(some 23), .bin .gtr .int (.t 22) (.c (.int .i64 63)), (some (21, false)), [], [], false⟩,
        y 24 (.pick (.t 21) (.c (.bool true)) (.t 23)),
        y 13 (.mv (.t 24))])
     (.cond (.t 13)
      (.seq
       (.region [
         y 4 (.mv (.c (.int .u64 0))),
         y 5 (.mv (.c (.int .i64 2)))])
      .ret)
      .skip)))))
  (.seq
   (.region [
     y 25 (.mv (.t 1)),
     y 26 (.conv .u64 (.t 25)),
     y 27 (.bin .shl .int (.t 26) (.c (.int .u64 6))),
     y 28 (.mv (.t 0)),
     y 29 (.bin .add .int (.t 28) (.c (.int .i64 1))),
     y 30 (.conv .u64 (.t 29)),
     y 31 (.bin .or .int (.t 27) (.t 30)),
     y 4 (.mv (.t 31)),
     y 5 (.mv (.c (.int .i64 0)))])
  .ret))),
  [.tmp 4, .tmp 5]⟩

/-- wainscot/wainscotref16.Show -/
def i85 : IFun := ⟨25,
  (.seq
   (.region [
     y 6 (.mv (.c (.int .i64 0))),
     y 7 (.mv (.c (.bool false)))])
  (.seq
   (.seq
    (.region [
      y 9 (.mv (.t 2)),
      y 10 (.bin .lss .int (.t 9) (.c (.int .i64 0))),
      y 11 (.mv (.t 10)),
      ⟨(some 12), .mv (.t 2), (some (11, false)), [], [], false⟩,
      ⟨(some 13), .bin .geq .int (.t 12) (.c (.int .i64 16)), (some (11, false)), [], [], false⟩,
      y 14 (.pick (.t 11) (.c (.bool true)) (.t 13))])
   (.cond (.t 14)
    (.seq
     (.region [
       y 6 (.mv (.c (.int .i64 0))),
       y 7 (.mv (.c (.bool false)))])
    .ret)
    .skip))
  (.seq
   (.region [
     y 15 (.mv (.t 0)),
     y 16 (.mv (.t 1)),
     y 17 (.mv (.t 2)),
     y 18 (.call (.c (.func (.func 90) #[] #[])) [(.t 16), (.t 17)] true),
     y 19 (.bin .xor .int (.t 15) (.t 18)),
     y 8 (.mv (.t 19))])
  (.seq
   (.seq
    (.region [
      y 20 (.mv (.t 8)),
      y 21 (.bin .gtr .int (.t 20) (.c (.int .u64 16)))])
   (.cond (.t 21)
    (.seq
     (.region [
       y 6 (.mv (.c (.int .i64 0))),
       y 7 (.mv (.c (.bool false)))])
    .ret)
    .skip))
  (.seq
   (.region [
     y 22 (.mv (.t 8)),
     y 23 (.conv .i64 (.t 22)),
     y 24 (.bin .sub .int (.t 23) (.c (.int .i64 1))),
     y 6 (.mv (.t 24)),
     y 7 (.mv (.c (.bool true)))])
  .ret))))),
  [.tmp 6, .tmp 7]⟩

/-- wainscot/wainscotref17.Part -/
def i86 : IFun := ⟨32,
  (.seq
   (.region [
     y 4 (.mv (.c (.int .u64 0))),
     y 5 (.mv (.c (.int .i64 0)))])
  (.seq
   (.seq
    (.region [
      y 6 (.mv (.t 0)),
      y 7 (.bin .eql .int (.t 6) (.c (.int .i64 (-1)))),
      y 8 (.mv (.t 7)),
      ⟨(some 9), .mv (.t 1), (some (8, true)), [], [], false⟩,
      ⟨(some 10), .bin .eql .int (.t 9) (.c (.int .i64 0)), (some (8, true)), [], [], false⟩,
      y 11 (.pick (.t 8) (.t 10) (.c (.bool false)))])
   (.cond (.t 11)
    (.seq
     (.region [
       y 4 (.mv (.c (.int .u64 0))),
       y 5 (.mv (.c (.int .i64 0)))])
    .ret)
    .skip))
  (.seq
   (.seq
    (.region [
      y 12 (.mv (.t 0)),
      y 13 (.bin .lss .int (.t 12) (.c (.int .i64 0))),
      y 14 (.mv (.t 13)),
      ⟨(some 15), .mv (.t 0), (some (14, false)), [], [], false⟩,
      ⟨(some 16), .bin .geq .int (.t 15) (.c (.int .i64 32)), (some (14, false)), [], [], false⟩,
      y 17 (.pick (.t 14) (.c (.bool true)) (.t 16)),
      y 18 (.mv (.t 17)),
      ⟨(some 19), .mv (.t 1), (some (18, false)), [], [], false⟩,
      ⟨(some 20), .bin .lss .int (.t 19) (.c (.int .i64 1)), (some (18, false)), [], [], false⟩,
      y 21 (.pick (.t 18) (.c (.bool true)) (.t 20)),
      y 22 (.mv (.t 21)),
      ⟨(some 23), .mv (.t 1), (some (22, false)), [], [], false⟩,
      ⟨(some 24), .bin .gtr .int (.t 23) (.c (.int .i64 63)), (some (22, false)), [], [], false⟩,
      y 25 (.pick (.t 22) (.c (.bool true)) (.t 24))])
   (.cond (.t 25)
    (.seq
     (.region [
       y 4 (.mv (.c (.int .u64 0))),
       y 5 (.mv (.c (.int .i64 2)))])
    .ret)
    .skip))
  (.seq
   (.region [
     y 26 (.mv (.t 0)),
     y 27 (.bin .add .int (.t 26) (.c (.int .i64 1))),
     y 28 (.mv (.t 1)),
     y 29 (.bin .mul .int (.c (.int .i64 64)) (.t 28)),
     y 30 (.bin .add .int (.t 27) (.t 29)),
     y 31 (.conv .u64 (.t 30)),
     y 4 (.mv (.t 31)),
     y 5 (.mv (.c (.int .i64 0)))])
  .ret)))),
  [.tmp 4, .tmp 5]⟩

/-- wainscot/wainscotref17.may -/
def i87 : IFun := ⟨32,
  (.seq
   (.region [
     y 1 (.box 60 4 (.t 0)),
     y 2 (.mv (.c (.bool false)))])
  (.seq
   (.region [
     y 3 (.load true 4 (.t 1)),
     y 4 (.build [(.int .i64 0), (.int .i64 0), (.bool false), (.bool false)] []),
     y 5 (.bin .eql (.plain [(some .i64), (some .i64), none, none]) (.t 3) (.t 4)),
     y 6 (.mv (.t 5)),
     ⟨(some 7), .addOff 3 (.t 1), (some (6, false)), [], [], false⟩,
     ⟨(some 8), .load false 1 (.t 7), (some (6, false)), [], [], false⟩,
     ⟨(some 9), .mv (.t 8), (some (6, false)), [], [], false⟩,
     ⟨(some 10), .addOff 1 (.t 1), (some (9, true)), [], [], false⟩,
     ⟨(some 11), .load false 1 (.t 10), (some (9, true)), [], [], false⟩,
     ⟨(some 12), .bin .geq .int (.t 11) (.c (.int .i64 1)), (some (9, true)), [], [], false⟩,
     ⟨(some 13), .pick (.t 9) (.t 12) (.c (.bool false)), (some (6, false)), [], [], false⟩,
     ⟨(some 14), .mv (.t 13), (some (6, false)), [], [], false⟩,
     ⟨(some 15), .addOff 1 (.t 1), (some (14, true)), [], [], false⟩,
     ⟨(some 16), .load false 1 (.t 15), (some (14, true)), [], [], false⟩,
     ⟨(some 17), .bin .leq .int (.t 16) (.c (.int .i64 16)), (some (14, true)), [], [], false⟩,
     ⟨(some 18), .pick (.t 14) (.t 17) (.c (.bool false)), (some (6, false)), [], [], false⟩,
     ⟨(some 19), .mv (.t 18), (some (6, false)), [], [], false⟩,
     ⟨(some 20), .addOff 0 (.t 1), (some (19, true)), [], [], false⟩,
     ⟨(some 21), .load false 1 (.t 20), (some (19, true)), [], [], false⟩,
     ⟨(some 22), .bin .geq .int (.t 21) (.c (.int .i64 0)), (some (19, true)), [], [], false⟩,
     ⟨(some 23), .pick (.t 19) (.t 22) (.c (.bool false)), (some (6, false)), [], [], false⟩,
     ⟨(some 24), .mv (.t 23), (some (6, false)), [], [], false⟩,
     ⟨(some 25), .addOff 0 (.t 1), (some (24, true)), [], [], false⟩,
     ⟨(some 26), .load false 1 (.t 25), (some (24, true)), [], [], false⟩,
     ⟨(some 27), .addOff 1 (.t 1), (some (24, true)), [], [], false⟩,
     ⟨(some 28), .load false 1 (.t 27), (some (24, true)), [], [], false⟩,
     ⟨(some 29), .bin .leq .int (.t 26) (.t 28), (some (24, true)), [], [], false⟩,
     ⟨(some 30), .pick (.t 24) (.t 29) (.c (.bool false)), (some (6, false)), [], [], false⟩,
     y 31 (.pick (.t 6) (.c (.bool true)) (.t 30)),
     y 2 (.mv (.t 31))])
  .ret)),
  [.tmp 2]⟩

/-- wainscot/link.object -/
def i88 : IFun := ⟨9,
  (.seq
   (.region [
     y 2 (.mv (.c (.bool false)))])
  (.seq
   (.region [
     y 3 (.mv (.t 0)),
     y 4 (.bin .leq .int (.c (.int .i64 0)) (.t 3)),
     y 5 (.mv (.t 4)),
     ⟨(some 6), .mv (.t 0), (some (5, true)), [], [], false⟩,
     ⟨(some 7), .bin .lss .int (.t 6) (.c (.int .i64 16)), (some (5, true)), [], [], false⟩,
     y 8 (.pick (.t 5) (.t 7) (.c (.bool false))),
     y 2 (.mv (.t 8))])
  .ret)),
  [.tmp 2]⟩

/-- wainscot/link.turned -/
def i89 : IFun := ⟨13,
  (.seq
   (.region [
     y 4 (.mv (.c (.int .u64 0)))])
  (.seq
   (.region [
     y 5 (.mv (.t 0)),
     y 6 (.mv (.t 1)),
     y 7 (.bin .mul .int (.c (.int .i64 5)) (.t 6)),
     y 8 (.call (.c (.func (.func 91) #[] #[])) [(.t 5), (.t 7)] true),
     y 9 (.mv (.t 1)),
     y 10 (.conv .u64 (.t 9)),
     y 11 (.bin .mul .int (.t 10) (.c (.int .u64 2654435769))),
     y 12 (.bin .add .int (.t 8) (.t 11)),
     y 4 (.mv (.t 12))])
  .ret)),
  [.tmp 4]⟩

/-- wainscot/wainscotref16.turned -/
def i90 : IFun := ⟨28,
  (.seq
   (.region [
     y 4 (.mv (.c (.int .u64 0)))])
  (.seq
   (.region [
     y 8 (.mv (.t 0)),
     y 5 (.mv (.t 8))])
  (.seq
   (.seq
    (.region [
      y 6 (.mv (.c (.int .i64 0)))])
   (.block 0
    (.loop
     (.seq
      (.seq
       (.region [
         y 9 (.mv (.t 6)),
         y 10 (.mv (.t 1)),
         y 11 (.bin .mul .int (.c (.int .i64 5)) (.t 10)),
         y 12 (.bin .lss .int (.t 9) (.t 11))])
      (.cond (.t 12)
       .skip
       (.exit 0)))
     (.seq
      (.block 1
       (.region [
         y 15 (.mv (.t 5)),
         y 16 (.bin .shl .int (.t 15) (.c (.int .u64 1))),
         y 17 (.mv (.t 5)),
         y 18 (.bin .shr .int (.t 17) (.c (.int .u64 63))),
         y 19 (.bin .or .int (.t 16) (.t 18)),
         y 5 (.mv (.t 19))]))
     (.region [
       y 13 (.mv (.t 6)),
       y 14 (.bin .add .int (.t 13) (.c (.int .i64 1))),
       y 6 (.mv (.t 14))]))))))
  (.seq
   (.seq
    (.region [
      y 7 (.mv (.c (.int .i64 0)))])
   (.block 2
    (.loop
     (.seq
      (.seq
       (.region [
         y 20 (.mv (.t 7)),
         y 21 (.mv (.t 1)),
         y 22 (.bin .lss .int (.t 20) (.t 21))])
      (.cond (.t 22)
       .skip
       (.exit 2)))
     (.seq
      (.block 3
       (.region [
         y 25 (.mv (.t 5)),
         y 26 (.bin .add .int (.t 25) (.c (.int .u64 2654435769))),
         y 5 (.mv (.t 26))]))
     (.region [
       y 23 (.mv (.t 7)),
       y 24 (.bin .add .int (.t 23) (.c (.int .i64 1))),
       y 7 (.mv (.t 24))]))))))
  (.seq
   (.region [
     y 27 (.mv (.t 5)),
     y 4 (.mv (.t 27))])
  .ret))))),
  [.tmp 4]⟩

/-- math/bits.RotateLeft64 -/
def i91 : IFun := ⟨17,
  (.seq
   (.region [
     y 4 (.mv (.c (.int .u64 0)))])
  (.seq
   (.region [
     y 6 (.mv (.t 1)),
     y 7 (.conv .u64 (.t 6)),
     y 8 (.bin .and .int (.t 7) (.c (.int .u64 63))),
     y 5 (.mv (.t 8))])
  (.seq
   (.region [
     y 9 (.mv (.t 0)),
     y 10 (.mv (.t 5)),
     y 11 (.bin .shl .int (.t 9) (.t 10)),
     y 12 (.mv (.t 0)),
     y 13 (.mv (.t 5)),
     y 14 (.bin .sub .int (.c (.int .u64 64)) (.t 13)),
     y 15 (.bin .shr .int (.t 12) (.t 14)),
     y 16 (.bin .or .int (.t 11) (.t 15)),
     y 4 (.mv (.t 16))])
  .ret))),
  [.tmp 4]⟩

theorem c3 : cFun Try.prog 0 quiet Try.f3 = some i3 := by kernel_rfl
theorem g3 : Try.prog.funcs[3]? = some Try.f3 := by kernel_rfl
theorem c4 : cFun Try.prog 0 quiet Try.f4 = some i4 := by kernel_rfl
theorem g4 : Try.prog.funcs[4]? = some Try.f4 := by kernel_rfl
theorem c5 : cFun Try.prog 0 quiet Try.f5 = some i5 := by kernel_rfl
theorem g5 : Try.prog.funcs[5]? = some Try.f5 := by kernel_rfl
theorem c6 : cFun Try.prog 0 quiet Try.f6 = some i6 := by kernel_rfl
theorem g6 : Try.prog.funcs[6]? = some Try.f6 := by kernel_rfl
theorem c8 : cFun Try.prog 0 quiet Try.f8 = some i8 := by kernel_rfl
theorem g8 : Try.prog.funcs[8]? = some Try.f8 := by kernel_rfl
theorem c9 : cFun Try.prog 0 quiet Try.f9 = some i9 := by kernel_rfl
theorem g9 : Try.prog.funcs[9]? = some Try.f9 := by kernel_rfl
theorem c10 : cFun Try.prog 0 quiet Try.f10 = some i10 := by kernel_rfl
theorem g10 : Try.prog.funcs[10]? = some Try.f10 := by kernel_rfl
theorem c11 : cFun Try.prog 0 quiet Try.f11 = some i11 := by kernel_rfl
theorem g11 : Try.prog.funcs[11]? = some Try.f11 := by kernel_rfl
theorem c12 : cFun Try.prog 0 quiet Try.f12 = some i12 := by kernel_rfl
theorem g12 : Try.prog.funcs[12]? = some Try.f12 := by kernel_rfl
theorem c13 : cFun Try.prog 0 quiet Try.f13 = some i13 := by kernel_rfl
theorem g13 : Try.prog.funcs[13]? = some Try.f13 := by kernel_rfl
theorem c14 : cFun Try.prog 0 quiet Try.f14 = some i14 := by kernel_rfl
theorem g14 : Try.prog.funcs[14]? = some Try.f14 := by kernel_rfl
theorem c15 : cFun Try.prog 0 quiet Try.f15 = some i15 := by kernel_rfl
theorem g15 : Try.prog.funcs[15]? = some Try.f15 := by kernel_rfl
theorem c16 : cFun Try.prog 0 quiet Try.f16 = some i16 := by kernel_rfl
theorem g16 : Try.prog.funcs[16]? = some Try.f16 := by kernel_rfl
theorem c17 : cFun Try.prog 0 quiet Try.f17 = some i17 := by kernel_rfl
theorem g17 : Try.prog.funcs[17]? = some Try.f17 := by kernel_rfl
theorem c18 : cFun Try.prog 0 quiet Try.f18 = some i18 := by kernel_rfl
theorem g18 : Try.prog.funcs[18]? = some Try.f18 := by kernel_rfl
theorem c19 : cFun Try.prog 0 quiet Try.f19 = some i19 := by kernel_rfl
theorem g19 : Try.prog.funcs[19]? = some Try.f19 := by kernel_rfl
theorem c20 : cFun Try.prog 0 quiet Try.f20 = some i20 := by kernel_rfl
theorem g20 : Try.prog.funcs[20]? = some Try.f20 := by kernel_rfl
theorem c21 : cFun Try.prog 0 quiet Try.f21 = some i21 := by kernel_rfl
theorem g21 : Try.prog.funcs[21]? = some Try.f21 := by kernel_rfl
theorem c22 : cFun Try.prog 0 quiet Try.f22 = some i22 := by kernel_rfl
theorem g22 : Try.prog.funcs[22]? = some Try.f22 := by kernel_rfl
theorem c23 : cFun Try.prog 0 quiet Try.f23 = some i23 := by kernel_rfl
theorem g23 : Try.prog.funcs[23]? = some Try.f23 := by kernel_rfl
theorem c24 : cFun Try.prog 0 quiet Try.f24 = some i24 := by kernel_rfl
theorem g24 : Try.prog.funcs[24]? = some Try.f24 := by kernel_rfl
theorem c25 : cFun Try.prog 0 quiet Try.f25 = some i25 := by kernel_rfl
theorem g25 : Try.prog.funcs[25]? = some Try.f25 := by kernel_rfl
theorem c26 : cFun Try.prog 0 quiet Try.f26 = some i26 := by kernel_rfl
theorem g26 : Try.prog.funcs[26]? = some Try.f26 := by kernel_rfl
theorem c27 : cFun Try.prog 0 quiet Try.f27 = some i27 := by kernel_rfl
theorem g27 : Try.prog.funcs[27]? = some Try.f27 := by kernel_rfl
theorem c28 : cFun Try.prog 0 quiet Try.f28 = some i28 := by kernel_rfl
theorem g28 : Try.prog.funcs[28]? = some Try.f28 := by kernel_rfl
theorem c29 : cFun Try.prog 0 quiet Try.f29 = some i29 := by kernel_rfl
theorem g29 : Try.prog.funcs[29]? = some Try.f29 := by kernel_rfl
theorem c30 : cFun Try.prog 0 quiet Try.f30 = some i30 := by kernel_rfl
theorem g30 : Try.prog.funcs[30]? = some Try.f30 := by kernel_rfl
theorem c31 : cFun Try.prog 0 quiet Try.f31 = some i31 := by kernel_rfl
theorem g31 : Try.prog.funcs[31]? = some Try.f31 := by kernel_rfl
theorem c32 : cFun Try.prog 0 quiet Try.f32 = some i32 := by kernel_rfl
theorem g32 : Try.prog.funcs[32]? = some Try.f32 := by kernel_rfl
theorem c33 : cFun Try.prog 0 quiet Try.f33 = some i33 := by kernel_rfl
theorem g33 : Try.prog.funcs[33]? = some Try.f33 := by kernel_rfl
theorem c34 : cFun Try.prog 0 quiet Try.f34 = some i34 := by kernel_rfl
theorem g34 : Try.prog.funcs[34]? = some Try.f34 := by kernel_rfl
theorem c35 : cFun Try.prog 0 quiet Try.f35 = some i35 := by kernel_rfl
theorem g35 : Try.prog.funcs[35]? = some Try.f35 := by kernel_rfl
theorem c36 : cFun Try.prog 0 quiet Try.f36 = some i36 := by kernel_rfl
theorem g36 : Try.prog.funcs[36]? = some Try.f36 := by kernel_rfl
theorem c37 : cFun Try.prog 0 quiet Try.f37 = some i37 := by kernel_rfl
theorem g37 : Try.prog.funcs[37]? = some Try.f37 := by kernel_rfl
theorem c38 : cFun Try.prog 0 quiet Try.f38 = some i38 := by kernel_rfl
theorem g38 : Try.prog.funcs[38]? = some Try.f38 := by kernel_rfl
theorem c39 : cFun Try.prog 0 quiet Try.f39 = some i39 := by kernel_rfl
theorem g39 : Try.prog.funcs[39]? = some Try.f39 := by kernel_rfl
theorem c40 : cFun Try.prog 0 quiet Try.f40 = some i40 := by kernel_rfl
theorem g40 : Try.prog.funcs[40]? = some Try.f40 := by kernel_rfl
theorem c41 : cFun Try.prog 0 quiet Try.f41 = some i41 := by kernel_rfl
theorem g41 : Try.prog.funcs[41]? = some Try.f41 := by kernel_rfl
theorem c42 : cFun Try.prog 0 quiet Try.f42 = some i42 := by kernel_rfl
theorem g42 : Try.prog.funcs[42]? = some Try.f42 := by kernel_rfl
theorem c43 : cFun Try.prog 0 quiet Try.f43 = some i43 := by kernel_rfl
theorem g43 : Try.prog.funcs[43]? = some Try.f43 := by kernel_rfl
theorem c44 : cFun Try.prog 0 quiet Try.f44 = some i44 := by kernel_rfl
theorem g44 : Try.prog.funcs[44]? = some Try.f44 := by kernel_rfl
theorem c45 : cFun Try.prog 0 quiet Try.f45 = some i45 := by kernel_rfl
theorem g45 : Try.prog.funcs[45]? = some Try.f45 := by kernel_rfl
theorem c46 : cFun Try.prog 0 quiet Try.f46 = some i46 := by kernel_rfl
theorem g46 : Try.prog.funcs[46]? = some Try.f46 := by kernel_rfl
theorem c47 : cFun Try.prog 0 quiet Try.f47 = some i47 := by kernel_rfl
theorem g47 : Try.prog.funcs[47]? = some Try.f47 := by kernel_rfl
theorem c48 : cFun Try.prog 0 quiet Try.f48 = some i48 := by kernel_rfl
theorem g48 : Try.prog.funcs[48]? = some Try.f48 := by kernel_rfl
theorem c49 : cFun Try.prog 0 quiet Try.f49 = some i49 := by kernel_rfl
theorem g49 : Try.prog.funcs[49]? = some Try.f49 := by kernel_rfl
theorem c50 : cFun Try.prog 0 quiet Try.f50 = some i50 := by kernel_rfl
theorem g50 : Try.prog.funcs[50]? = some Try.f50 := by kernel_rfl
theorem c51 : cFun Try.prog 0 quiet Try.f51 = some i51 := by kernel_rfl
theorem g51 : Try.prog.funcs[51]? = some Try.f51 := by kernel_rfl
theorem c52 : cFun Try.prog 0 quiet Try.f52 = some i52 := by kernel_rfl
theorem g52 : Try.prog.funcs[52]? = some Try.f52 := by kernel_rfl
theorem c53 : cFun Try.prog 0 quiet Try.f53 = some i53 := by kernel_rfl
theorem g53 : Try.prog.funcs[53]? = some Try.f53 := by kernel_rfl
theorem c54 : cFun Try.prog 0 quiet Try.f54 = some i54 := by kernel_rfl
theorem g54 : Try.prog.funcs[54]? = some Try.f54 := by kernel_rfl
theorem c55 : cFun Try.prog 0 quiet Try.f55 = some i55 := by kernel_rfl
theorem g55 : Try.prog.funcs[55]? = some Try.f55 := by kernel_rfl
theorem c56 : cFun Try.prog 0 quiet Try.f56 = some i56 := by kernel_rfl
theorem g56 : Try.prog.funcs[56]? = some Try.f56 := by kernel_rfl
theorem c57 : cFun Try.prog 0 quiet Try.f57 = some i57 := by kernel_rfl
theorem g57 : Try.prog.funcs[57]? = some Try.f57 := by kernel_rfl
theorem c58 : cFun Try.prog 0 quiet Try.f58 = some i58 := by kernel_rfl
theorem g58 : Try.prog.funcs[58]? = some Try.f58 := by kernel_rfl
theorem c59 : cFun Try.prog 0 quiet Try.f59 = some i59 := by kernel_rfl
theorem g59 : Try.prog.funcs[59]? = some Try.f59 := by kernel_rfl
theorem c60 : cFun Try.prog 0 quiet Try.f60 = some i60 := by kernel_rfl
theorem g60 : Try.prog.funcs[60]? = some Try.f60 := by kernel_rfl
theorem c61 : cFun Try.prog 0 quiet Try.f61 = some i61 := by kernel_rfl
theorem g61 : Try.prog.funcs[61]? = some Try.f61 := by kernel_rfl
theorem c62 : cFun Try.prog 0 quiet Try.f62 = some i62 := by kernel_rfl
theorem g62 : Try.prog.funcs[62]? = some Try.f62 := by kernel_rfl
theorem c63 : cFun Try.prog 0 quiet Try.f63 = some i63 := by kernel_rfl
theorem g63 : Try.prog.funcs[63]? = some Try.f63 := by kernel_rfl
theorem c64 : cFun Try.prog 0 quiet Try.f64 = some i64 := by kernel_rfl
theorem g64 : Try.prog.funcs[64]? = some Try.f64 := by kernel_rfl
theorem c65 : cFun Try.prog 0 quiet Try.f65 = some i65 := by kernel_rfl
theorem g65 : Try.prog.funcs[65]? = some Try.f65 := by kernel_rfl
theorem c66 : cFun Try.prog 0 quiet Try.f66 = some i66 := by kernel_rfl
theorem g66 : Try.prog.funcs[66]? = some Try.f66 := by kernel_rfl
theorem c67 : cFun Try.prog 0 quiet Try.f67 = some i67 := by kernel_rfl
theorem g67 : Try.prog.funcs[67]? = some Try.f67 := by kernel_rfl
theorem c68 : cFun Try.prog 0 quiet Try.f68 = some i68 := by kernel_rfl
theorem g68 : Try.prog.funcs[68]? = some Try.f68 := by kernel_rfl
theorem c69 : cFun Try.prog 0 quiet Try.f69 = some i69 := by kernel_rfl
theorem g69 : Try.prog.funcs[69]? = some Try.f69 := by kernel_rfl
theorem c70 : cFun Try.prog 0 quiet Try.f70 = some i70 := by kernel_rfl
theorem g70 : Try.prog.funcs[70]? = some Try.f70 := by kernel_rfl
theorem c71 : cFun Try.prog 0 quiet Try.f71 = some i71 := by kernel_rfl
theorem g71 : Try.prog.funcs[71]? = some Try.f71 := by kernel_rfl
theorem c72 : cFun Try.prog 0 quiet Try.f72 = some i72 := by kernel_rfl
theorem g72 : Try.prog.funcs[72]? = some Try.f72 := by kernel_rfl
theorem c73 : cFun Try.prog 0 quiet Try.f73 = some i73 := by kernel_rfl
theorem g73 : Try.prog.funcs[73]? = some Try.f73 := by kernel_rfl
theorem c74 : cFun Try.prog 0 quiet Try.f74 = some i74 := by kernel_rfl
theorem g74 : Try.prog.funcs[74]? = some Try.f74 := by kernel_rfl
theorem c75 : cFun Try.prog 0 quiet Try.f75 = some i75 := by kernel_rfl
theorem g75 : Try.prog.funcs[75]? = some Try.f75 := by kernel_rfl
theorem c76 : cFun Try.prog 0 quiet Try.f76 = some i76 := by kernel_rfl
theorem g76 : Try.prog.funcs[76]? = some Try.f76 := by kernel_rfl
theorem c77 : cFun Try.prog 0 quiet Try.f77 = some i77 := by kernel_rfl
theorem g77 : Try.prog.funcs[77]? = some Try.f77 := by kernel_rfl
theorem c78 : cFun Try.prog 0 quiet Try.f78 = some i78 := by kernel_rfl
theorem g78 : Try.prog.funcs[78]? = some Try.f78 := by kernel_rfl
theorem c79 : cFun Try.prog 0 quiet Try.f79 = some i79 := by kernel_rfl
theorem g79 : Try.prog.funcs[79]? = some Try.f79 := by kernel_rfl
theorem c80 : cFun Try.prog 0 quiet Try.f80 = some i80 := by kernel_rfl
theorem g80 : Try.prog.funcs[80]? = some Try.f80 := by kernel_rfl
theorem c81 : cFun Try.prog 0 quiet Try.f81 = some i81 := by kernel_rfl
theorem g81 : Try.prog.funcs[81]? = some Try.f81 := by kernel_rfl
theorem c82 : cFun Try.prog 0 quiet Try.f82 = some i82 := by kernel_rfl
theorem g82 : Try.prog.funcs[82]? = some Try.f82 := by kernel_rfl
theorem c83 : cFun Try.prog 0 quiet Try.f83 = some i83 := by kernel_rfl
theorem g83 : Try.prog.funcs[83]? = some Try.f83 := by kernel_rfl
theorem c84 : cFun Try.prog 0 quiet Try.f84 = some i84 := by kernel_rfl
theorem g84 : Try.prog.funcs[84]? = some Try.f84 := by kernel_rfl
theorem c85 : cFun Try.prog 0 quiet Try.f85 = some i85 := by kernel_rfl
theorem g85 : Try.prog.funcs[85]? = some Try.f85 := by kernel_rfl
theorem c86 : cFun Try.prog 0 quiet Try.f86 = some i86 := by kernel_rfl
theorem g86 : Try.prog.funcs[86]? = some Try.f86 := by kernel_rfl
theorem c87 : cFun Try.prog 0 quiet Try.f87 = some i87 := by kernel_rfl
theorem g87 : Try.prog.funcs[87]? = some Try.f87 := by kernel_rfl
theorem c88 : cFun Try.prog 0 quiet Try.f88 = some i88 := by kernel_rfl
theorem g88 : Try.prog.funcs[88]? = some Try.f88 := by kernel_rfl
theorem c89 : cFun Try.prog 0 quiet Try.f89 = some i89 := by kernel_rfl
theorem g89 : Try.prog.funcs[89]? = some Try.f89 := by kernel_rfl
theorem c90 : cFun Try.prog 0 quiet Try.f90 = some i90 := by kernel_rfl
theorem g90 : Try.prog.funcs[90]? = some Try.f90 := by kernel_rfl
theorem c91 : cFun Try.prog 0 quiet Try.f91 = some i91 := by kernel_rfl
theorem g91 : Try.prog.funcs[91]? = some Try.f91 := by kernel_rfl

def table : Tree := (.node 48 i48 (.node 26 i26 (.node 15 i15 (.node 9 i9 (.node 5 i5 (.node 4 i4 (.node 3 i3 .leaf .leaf) .leaf) (.node 8 i8 (.node 6 i6 .leaf .leaf) .leaf)) (.node 12 i12 (.node 11 i11 (.node 10 i10 .leaf .leaf) .leaf) (.node 14 i14 (.node 13 i13 .leaf .leaf) .leaf))) (.node 21 i21 (.node 18 i18 (.node 17 i17 (.node 16 i16 .leaf .leaf) .leaf) (.node 20 i20 (.node 19 i19 .leaf .leaf) .leaf)) (.node 24 i24 (.node 23 i23 (.node 22 i22 .leaf .leaf) .leaf) (.node 25 i25 .leaf .leaf)))) (.node 37 i37 (.node 32 i32 (.node 29 i29 (.node 28 i28 (.node 27 i27 .leaf .leaf) .leaf) (.node 31 i31 (.node 30 i30 .leaf .leaf) .leaf)) (.node 35 i35 (.node 34 i34 (.node 33 i33 .leaf .leaf) .leaf) (.node 36 i36 .leaf .leaf))) (.node 43 i43 (.node 40 i40 (.node 39 i39 (.node 38 i38 .leaf .leaf) .leaf) (.node 42 i42 (.node 41 i41 .leaf .leaf) .leaf)) (.node 46 i46 (.node 45 i45 (.node 44 i44 .leaf .leaf) .leaf) (.node 47 i47 .leaf .leaf))))) (.node 70 i70 (.node 59 i59 (.node 54 i54 (.node 51 i51 (.node 50 i50 (.node 49 i49 .leaf .leaf) .leaf) (.node 53 i53 (.node 52 i52 .leaf .leaf) .leaf)) (.node 57 i57 (.node 56 i56 (.node 55 i55 .leaf .leaf) .leaf) (.node 58 i58 .leaf .leaf))) (.node 65 i65 (.node 62 i62 (.node 61 i61 (.node 60 i60 .leaf .leaf) .leaf) (.node 64 i64 (.node 63 i63 .leaf .leaf) .leaf)) (.node 68 i68 (.node 67 i67 (.node 66 i66 .leaf .leaf) .leaf) (.node 69 i69 .leaf .leaf)))) (.node 81 i81 (.node 76 i76 (.node 73 i73 (.node 72 i72 (.node 71 i71 .leaf .leaf) .leaf) (.node 75 i75 (.node 74 i74 .leaf .leaf) .leaf)) (.node 79 i79 (.node 78 i78 (.node 77 i77 .leaf .leaf) .leaf) (.node 80 i80 .leaf .leaf))) (.node 87 i87 (.node 84 i84 (.node 83 i83 (.node 82 i82 .leaf .leaf) .leaf) (.node 86 i86 (.node 85 i85 .leaf .leaf) .leaf)) (.node 90 i90 (.node 89 i89 (.node 88 i88 .leaf .leaf) .leaf) (.node 91 i91 .leaf .leaf))))))

theorem fits : table.All (Fits Try.prog 0 quiet) := ⟨⟨_, g48, c48⟩, ⟨⟨_, g26, c26⟩, ⟨⟨_, g15, c15⟩, ⟨⟨_, g9, c9⟩, ⟨⟨_, g5, c5⟩, ⟨⟨_, g4, c4⟩, ⟨⟨_, g3, c3⟩, trivial, trivial⟩, trivial⟩, ⟨⟨_, g8, c8⟩, ⟨⟨_, g6, c6⟩, trivial, trivial⟩, trivial⟩⟩, ⟨⟨_, g12, c12⟩, ⟨⟨_, g11, c11⟩, ⟨⟨_, g10, c10⟩, trivial, trivial⟩, trivial⟩, ⟨⟨_, g14, c14⟩, ⟨⟨_, g13, c13⟩, trivial, trivial⟩, trivial⟩⟩⟩, ⟨⟨_, g21, c21⟩, ⟨⟨_, g18, c18⟩, ⟨⟨_, g17, c17⟩, ⟨⟨_, g16, c16⟩, trivial, trivial⟩, trivial⟩, ⟨⟨_, g20, c20⟩, ⟨⟨_, g19, c19⟩, trivial, trivial⟩, trivial⟩⟩, ⟨⟨_, g24, c24⟩, ⟨⟨_, g23, c23⟩, ⟨⟨_, g22, c22⟩, trivial, trivial⟩, trivial⟩, ⟨⟨_, g25, c25⟩, trivial, trivial⟩⟩⟩⟩, ⟨⟨_, g37, c37⟩, ⟨⟨_, g32, c32⟩, ⟨⟨_, g29, c29⟩, ⟨⟨_, g28, c28⟩, ⟨⟨_, g27, c27⟩, trivial, trivial⟩, trivial⟩, ⟨⟨_, g31, c31⟩, ⟨⟨_, g30, c30⟩, trivial, trivial⟩, trivial⟩⟩, ⟨⟨_, g35, c35⟩, ⟨⟨_, g34, c34⟩, ⟨⟨_, g33, c33⟩, trivial, trivial⟩, trivial⟩, ⟨⟨_, g36, c36⟩, trivial, trivial⟩⟩⟩, ⟨⟨_, g43, c43⟩, ⟨⟨_, g40, c40⟩, ⟨⟨_, g39, c39⟩, ⟨⟨_, g38, c38⟩, trivial, trivial⟩, trivial⟩, ⟨⟨_, g42, c42⟩, ⟨⟨_, g41, c41⟩, trivial, trivial⟩, trivial⟩⟩, ⟨⟨_, g46, c46⟩, ⟨⟨_, g45, c45⟩, ⟨⟨_, g44, c44⟩, trivial, trivial⟩, trivial⟩, ⟨⟨_, g47, c47⟩, trivial, trivial⟩⟩⟩⟩⟩, ⟨⟨_, g70, c70⟩, ⟨⟨_, g59, c59⟩, ⟨⟨_, g54, c54⟩, ⟨⟨_, g51, c51⟩, ⟨⟨_, g50, c50⟩, ⟨⟨_, g49, c49⟩, trivial, trivial⟩, trivial⟩, ⟨⟨_, g53, c53⟩, ⟨⟨_, g52, c52⟩, trivial, trivial⟩, trivial⟩⟩, ⟨⟨_, g57, c57⟩, ⟨⟨_, g56, c56⟩, ⟨⟨_, g55, c55⟩, trivial, trivial⟩, trivial⟩, ⟨⟨_, g58, c58⟩, trivial, trivial⟩⟩⟩, ⟨⟨_, g65, c65⟩, ⟨⟨_, g62, c62⟩, ⟨⟨_, g61, c61⟩, ⟨⟨_, g60, c60⟩, trivial, trivial⟩, trivial⟩, ⟨⟨_, g64, c64⟩, ⟨⟨_, g63, c63⟩, trivial, trivial⟩, trivial⟩⟩, ⟨⟨_, g68, c68⟩, ⟨⟨_, g67, c67⟩, ⟨⟨_, g66, c66⟩, trivial, trivial⟩, trivial⟩, ⟨⟨_, g69, c69⟩, trivial, trivial⟩⟩⟩⟩, ⟨⟨_, g81, c81⟩, ⟨⟨_, g76, c76⟩, ⟨⟨_, g73, c73⟩, ⟨⟨_, g72, c72⟩, ⟨⟨_, g71, c71⟩, trivial, trivial⟩, trivial⟩, ⟨⟨_, g75, c75⟩, ⟨⟨_, g74, c74⟩, trivial, trivial⟩, trivial⟩⟩, ⟨⟨_, g79, c79⟩, ⟨⟨_, g78, c78⟩, ⟨⟨_, g77, c77⟩, trivial, trivial⟩, trivial⟩, ⟨⟨_, g80, c80⟩, trivial, trivial⟩⟩⟩, ⟨⟨_, g87, c87⟩, ⟨⟨_, g84, c84⟩, ⟨⟨_, g83, c83⟩, ⟨⟨_, g82, c82⟩, trivial, trivial⟩, trivial⟩, ⟨⟨_, g86, c86⟩, ⟨⟨_, g85, c85⟩, trivial, trivial⟩, trivial⟩⟩, ⟨⟨_, g90, c90⟩, ⟨⟨_, g89, c89⟩, ⟨⟨_, g88, c88⟩, trivial, trivial⟩, trivial⟩, ⟨⟨_, g91, c91⟩, trivial, trivial⟩⟩⟩⟩⟩⟩

theorem mixed : Try.prog.follows .mixedOrders = true := by kernel_rfl

theorem allOk (n : Nat) : CallOK Try.prog 0 (fCalls table.look n) := fCalls_ok (stands_look fits) mixed n

theorem allOk' (n : Nat) : CallOK Try.prog 0 (calls table.find n) := calls_ok (stands_of fits) mixed n

end Go.Proofs.Ytpecefjgadecfaa.Chart
