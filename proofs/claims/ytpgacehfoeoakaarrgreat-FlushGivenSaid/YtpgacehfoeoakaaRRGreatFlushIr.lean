/- The compact form of the functions that are reached (written by program), and that it is theirs. -/
import Derived.Test.YtpgacehfoeoakaaRRGreatAe28
import Derived.Test.YtpgacehfoeoakaaRRGreatProg
import Derived.KernelRfl
namespace Go.Proofs.YtpgacehfoeoakaaRRGreat.Flush
open Go Go.Proofs.YtpgacehfoeoakaaRRGreat.AE
set_option maxRecDepth 100000
set_option linter.unusedVariables false

def quiet : FuncId → Bool := fun f => [9, 10, 11, 15, 17, 18, 19, 25, 26, 27, 28, 29, 30, 31, 32, 35, 38, 39, 40, 41, 42, 43, 44, 45, 46, 47, 49, 50, 52, 55, 56, 57, 58, 59, 61, 62, 73, 75, 76, 79, 82, 86, 88, 93].contains f

def y (d : Nat) (op : IOp) : IOper := ⟨some d, op, none, [], [], false⟩
def x (op : IOp) : IOper := ⟨none, op, none, [], [], false⟩

/-- wainscot/wainscotlaw25.FlushGiven -/
def i3 : IFun := ⟨43,
  (.seq
   (.region [
     y 1 (.box 24 17 (.t 0)),
     y 2 (.mv (.c (.bool false)))])
  (.seq
   (.seq
    (.region [
      y 3 (.mv (.c (.int .i64 0)))])
   (.block 0
    (.loop
     (.seq
      (.seq
       (.region [
         y 9 (.mv (.t 3)),
         y 10 (.bin .lss .int (.t 9) (.c (.int .i64 5)))])
      (.cond (.t 10)
       .skip
       (.exit 0)))
     (.seq
      (.block 1
       (.seq
        (.region [
          y 13 (.load true 17 (.t 1)),
          y 4 (.new 24 [(.int .i64 0), (.int .i64 0), (.int .i64 0), (.int .i64 0), (.int .i64 0), (.int .i64 0), (.int .i64 0), (.int .u64 0), (.int .u64 0), (.int .u64 0), (.int .u64 0), (.int .u64 0), (.int .i64 0), (.int .i64 0), (.int .i64 0), (.int .i64 0), (.int .i64 0)]),
          x (.store 17 (.t 4) (.t 13))])
       (.seq
        (.seq
         (.region [
           y 14 (.mv (.t 3)),
           y 15 (.bin .gtr .int (.t 14) (.c (.int .i64 0)))])
        (.cond (.t 15)
         (.seq
          (.region [
            y 16 (.addOff 3 (.t 4)),
            x (.store 1 (.t 16) (.c (.int .i64 0)))])
         (.seq
          (.region [
            y 17 (.addOff 4 (.t 4)),
            x (.store 1 (.t 17) (.c (.int .i64 2)))])
         (.region [
           y 18 (.buildSlice 3 [(.int .i64 0), (.int .i64 0), (.int .i64 0), (.int .i64 0)] 4 [(0, 1, (.c (.int .i64 0))), (1, 1, (.c (.int .i64 73))), (2, 1, (.c (.int .i64 79))), (3, 1, (.c (.int .i64 95)))]),
           y 19 (.mv (.t 3)),
           y 20 (.bin .sub .int (.t 19) (.c (.int .i64 1))),
           y 21 (.idxS 1 (.t 18) (.t 20)),
           y 22 (.load false 1 (.t 21)),
           y 23 (.addOff 15 (.t 4)),
           x (.store 1 (.t 23) (.t 22))])))
         .skip))
       (.seq
        (.region [
          y 25 (.load true 17 (.t 4)),
          y 26 (.call (.c (.func (.func 4) #[] #[])) [(.t 25)] false),
          y 24 (.mv (.t 26)),
          y 27 (.extract (.t 24) 0),
          y 28 (.extract (.t 24) 1),
          y 5 (.new 24 [(.int .i64 0), (.int .i64 0), (.int .i64 0), (.int .i64 0), (.int .i64 0), (.int .i64 0), (.int .i64 0), (.int .u64 0), (.int .u64 0), (.int .u64 0), (.int .u64 0), (.int .u64 0), (.int .i64 0), (.int .i64 0), (.int .i64 0), (.int .i64 0), (.int .i64 0)]),
          x (.store 17 (.t 5) (.t 27)),
          y 6 (.mv (.t 28))])
       (.seq
        (.region [
          y 30 (.load true 17 (.t 4)),
          y 31 (.call (.c (.func (.func 5) #[] #[])) [(.t 30)] false),
          y 29 (.mv (.t 31)),
          y 32 (.extract (.t 29) 0),
          y 33 (.extract (.t 29) 1),
          y 7 (.new 24 [(.int .i64 0), (.int .i64 0), (.int .i64 0), (.int .i64 0), (.int .i64 0), (.int .i64 0), (.int .i64 0), (.int .u64 0), (.int .u64 0), (.int .u64 0), (.int .u64 0), (.int .u64 0), (.int .i64 0), (.int .i64 0), (.int .i64 0), (.int .i64 0), (.int .i64 0)]),
          x (.store 17 (.t 7) (.t 32)),
          y 8 (.mv (.t 33))])
       (.seq
        (.region [
          y 34 (.load true 17 (.t 5)),
          y 35 (.load true 17 (.t 7)),
          y 36 (.bin .neq (.plain [(some .i64), (some .i64), (some .i64), (some .i64), (some .i64), (some .i64), (some .i64), (some .u64), (some .u64), (some .u64), (some .u64), (some .u64), (some .i64), (some .i64), (some .i64), (some .i64), (some .i64)]) (.t 34) (.t 35)),
          y 37 (.mv (.t 36)),
          ⟨(some 38), .mv (.t 6), (some (37, false)), [], [], false⟩,
          ⟨(some 39), .mv (.t 8), (some (37, false)), [], [], false⟩,
          ⟨(some 40), .bin .neq .int (.t 38) (.t 39), (some (37, false)), [], [], false⟩,
          y 41 (.pick (.t 37) (.c (.bool true)) (.t 40))])
       (.cond (.t 41)
        (.seq
         (.region [
           y 2 (.mv (.c (.bool false)))])
        .ret)
        .skip)))))))
     (.region [
       y 11 (.mv (.t 3)),
       y 12 (.bin .add .int (.t 11) (.c (.int .i64 1))),
       y 3 (.mv (.t 12))]))))))
  (.seq
   (.region [
     y 42 (.call (.c (.func (.func 6) #[] #[])) [] false),
     y 2 (.mv (.t 42))])
  .ret))),
  [.tmp 2]⟩

/-- wainscot/flush.Given -/
def i4 : IFun := ⟨29,
  (.seq
   (.region [
     y 1 (.box 24 17 (.t 0)),
     y 2 (.new 24 [(.int .i64 0), (.int .i64 0), (.int .i64 0), (.int .i64 0), (.int .i64 0), (.int .i64 0), (.int .i64 0), (.int .u64 0), (.int .u64 0), (.int .u64 0), (.int .u64 0), (.int .u64 0), (.int .i64 0), (.int .i64 0), (.int .i64 0), (.int .i64 0), (.int .i64 0)]),
     y 3 (.mv (.c (.int .i64 0)))])
  (.seq
   (.seq
    (.region [
      y 5 (.addOff 3 (.t 1)),
      y 6 (.load false 1 (.t 5)),
      y 7 (.bin .neq .int (.t 6) (.c (.int .i64 0))),
      y 8 (.mv (.t 7)),
      ⟨(some 9), .addOff 4 (.t 1), (some (8, false)), [], [], false⟩,
      ⟨(some 10), .load false 1 (.t 9), (some (8, false)), [], [], false⟩,
      ⟨(some 11), .bin .neq .int (.t 10) (.c (.int .i64 2)), (some (8, false)), [], [], false⟩,
      y 12 (.pick (.t 8) (.c (.bool true)) (.t 11))])
   (.cond (.t 12)
    (.seq
     (.region [
       y 13 (.build [(.int .i64 0), (.int .i64 0), (.int .i64 0), (.int .i64 0), (.int .i64 0), (.int .i64 0), (.int .i64 0), (.int .u64 0), (.int .u64 0), (.int .u64 0), (.int .u64 0), (.int .u64 0), (.int .i64 0), (.int .i64 0), (.int .i64 0), (.int .i64 0), (.int .i64 0)] []),
       x (.store 17 (.t 2) (.t 13)),
       y 3 (.mv (.c (.int .i64 292)))])
    .ret)
    .skip))
  (.seq
   (.region [
     y 14 (.addOff 4 (.t 1)),
     x (.store 1 (.t 14) (.c (.int .i64 0)))])
  (.seq
   (.region [
     y 15 (.load true 17 (.t 1)),
     y 16 (.build [(.pointer none), (.int .i64 0), (.int .i64 0), (.int .i64 0), (.int .i64 0), (.int .i64 0), (.int .u64 0), (.int .i64 0), (.int .i64 0), (.int .i64 0), (.int .i64 0), (.int .i64 0), (.int .i64 0), (.int .i64 0), (.int .u64 0), (.int .u64 0), (.int .u64 0), (.int .u64 0), (.int .u64 0), (.int .i64 0), (.int .i64 0), (.int .i64 0), (.int .i64 0), (.int .i64 0), (.bool false)] [(7, 17, (.t 15))]),
     y 17 (.box 36 25 (.t 16)),
     y 4 (.mv (.t 17))])
  (.seq
   (.seq
    (.region [
      y 18 (.mv (.t 4)),
      y 19 (.call (.c (.func (.func 7) #[] #[])) [(.t 18)] false)])
   (.seq
    (.region [
      y 20 (.mv (.t 4)),
      y 21 (.nilCheck (.t 20)),
      y 22 (.addOff 24 (.t 21)),
      y 23 (.load false 1 (.t 22))])
   (.cond (.t 23)
    (.seq
     (.region [
       y 24 (.build [(.int .i64 0), (.int .i64 0), (.int .i64 0), (.int .i64 0), (.int .i64 0), (.int .i64 0), (.int .i64 0), (.int .u64 0), (.int .u64 0), (.int .u64 0), (.int .u64 0), (.int .u64 0), (.int .i64 0), (.int .i64 0), (.int .i64 0), (.int .i64 0), (.int .i64 0)] []),
       x (.store 17 (.t 2) (.t 24)),
       y 3 (.mv (.c (.int .i64 292)))])
    .ret)
    .skip)))
  (.seq
   (.region [
     y 25 (.mv (.t 4)),
     y 26 (.nilCheck (.t 25)),
     y 27 (.addOff 7 (.t 26)),
     y 28 (.load true 17 (.t 27)),
     x (.store 17 (.t 2) (.t 28)),
     y 3 (.mv (.c (.int .i64 0)))])
  .ret)))))),
  [.cell 2 true 17, .tmp 3]⟩

/-- wainscot/wainscotref25.Given -/
def i5 : IFun := ⟨25,
  (.seq
   (.region [
     y 1 (.box 24 17 (.t 0)),
     y 2 (.new 24 [(.int .i64 0), (.int .i64 0), (.int .i64 0), (.int .i64 0), (.int .i64 0), (.int .i64 0), (.int .i64 0), (.int .u64 0), (.int .u64 0), (.int .u64 0), (.int .u64 0), (.int .u64 0), (.int .i64 0), (.int .i64 0), (.int .i64 0), (.int .i64 0), (.int .i64 0)]),
     y 3 (.mv (.c (.int .i64 0)))])
  (.seq
   (.seq
    (.region [
      y 6 (.addOff 3 (.t 1)),
      y 7 (.load false 1 (.t 6)),
      y 8 (.bin .neq .int (.t 7) (.c (.int .i64 0))),
      y 9 (.mv (.t 8)),
      ⟨(some 10), .addOff 4 (.t 1), (some (9, false)), [], [], false⟩,
      ⟨(some 11), .load false 1 (.t 10), (some (9, false)), [], [], false⟩,
      ⟨(some 12), .bin .neq .int (.t 11) (.c (.int .i64 2)), (some (9, false)), [], [], false⟩,
      y 13 (.pick (.t 9) (.c (.bool true)) (.t 12))])
   (.cond (.t 13)
    (.seq
     (.region [
       y 14 (.build [(.int .i64 0), (.int .i64 0), (.int .i64 0), (.int .i64 0), (.int .i64 0), (.int .i64 0), (.int .i64 0), (.int .u64 0), (.int .u64 0), (.int .u64 0), (.int .u64 0), (.int .u64 0), (.int .i64 0), (.int .i64 0), (.int .i64 0), (.int .i64 0), (.int .i64 0)] []),
       x (.store 17 (.t 2) (.t 14)),
       y 3 (.mv (.c (.int .i64 292)))])
    .ret)
    .skip))
  (.seq
   (.region [
     y 15 (.addOff 4 (.t 1)),
     x (.store 1 (.t 15) (.c (.int .i64 0)))])
  (.seq
   (.region [
     y 17 (.load true 17 (.t 1)),
     y 18 (.call (.c (.func (.func 8) #[] #[])) [(.t 17)] false),
     y 16 (.mv (.t 18)),
     y 19 (.extract (.t 16) 0),
     y 20 (.extract (.t 16) 1),
     y 4 (.new 24 [(.int .i64 0), (.int .i64 0), (.int .i64 0), (.int .i64 0), (.int .i64 0), (.int .i64 0), (.int .i64 0), (.int .u64 0), (.int .u64 0), (.int .u64 0), (.int .u64 0), (.int .u64 0), (.int .i64 0), (.int .i64 0), (.int .i64 0), (.int .i64 0), (.int .i64 0)]),
     x (.store 17 (.t 4) (.t 19)),
     y 5 (.mv (.t 20))])
  (.seq
   (.seq
    (.region [
      y 21 (.mv (.t 5)),
      y 22 (.un .not (.t 21))])
   (.cond (.t 22)
    (.seq
     (.region [
       y 23 (.build [(.int .i64 0), (.int .i64 0), (.int .i64 0), (.int .i64 0), (.int .i64 0), (.int .i64 0), (.int .i64 0), (.int .u64 0), (.int .u64 0), (.int .u64 0), (.int .u64 0), (.int .u64 0), (.int .i64 0), (.int .i64 0), (.int .i64 0), (.int .i64 0), (.int .i64 0)] []),
       x (.store 17 (.t 2) (.t 23)),
       y 3 (.mv (.c (.int .i64 292)))])
    .ret)
    .skip))
  (.seq
   (.region [
     y 24 (.load true 17 (.t 4)),
     x (.store 17 (.t 2) (.t 24)),
     y 3 (.mv (.c (.int .i64 0)))])
  .ret)))))),
  [.cell 2 true 17, .tmp 3]⟩

/-- wainscot/wainscotlaw25.works -/
def i6 : IFun := ⟨160,
  (.seq
   (.region [
     y 0 (.mv (.c (.bool false)))])
  (.seq
   (.seq
    (.region [
      y 1 (.mv (.c (.int .i64 0)))])
   (.block 0
    (.loop
     (.seq
      (.seq
       (.region [
         y 14 (.mv (.t 1)),
         y 15 (.bin .lss .int (.t 14) (.c (.int .i64 2)))])
      (.cond (.t 15)
       .skip
       (.exit 0)))
     (.seq
      (.block 1
       (.seq
        (.region [
          y 18 (.build [(.int .i64 0), (.int .i64 0), (.int .i64 0), (.int .i64 0), (.int .i64 0), (.int .u64 0)] [(0, 1, (.c (.int .i64 1))), (1, 1, (.c (.int .i64 2))), (2, 1, (.c (.int .i64 3)))]),
          y 2 (.new 34 [(.int .i64 0), (.int .i64 0), (.int .i64 0), (.int .i64 0), (.int .i64 0), (.int .u64 0)]),
          x (.store 6 (.t 2) (.t 18))])
       (.seq
        (.region [
          y 20 (.load true 6 (.t 2)),
          y 21 (.call (.c (.func (.func 10) #[] #[])) [(.t 20)] true),
          y 22 (.minmax true (.t 21) [(.c (.int .i64 1))]),
          y 23 (.call (.c (.func (.func 9) #[] #[])) [(.t 22)] true),
          y 19 (.mv (.t 23)),
          y 24 (.extract (.t 19) 0),
          y 25 (.extract (.t 19) 1),
          y 3 (.mv (.t 24)),
          y 4 (.mv (.t 25))])
       (.seq
        (.seq
         (.region [
           y 26 (.mv (.t 4)),
           y 27 (.bin .neq .int (.t 26) (.c (.int .i64 0))),
           y 28 (.mv (.t 27)),
           ⟨(some 29), .mv (.t 3), (some (28, false)), [], [], false⟩,
           ⟨(some 30), .bin .eql .ptr (.t 29) (.c (.pointer none)), (some (28, false)), [], [], false⟩,
           y 31 (.pick (.t 28) (.c (.bool true)) (.t 30))])
        (.cond (.t 31)
         (.seq
          (.region [
            y 0 (.mv (.c (.bool false)))])
         .ret)
         .skip))
       (.seq
        (.region [
          y 33 (.mv (.t 3)),
          y 34 (.load true 6 (.t 2)),
          y 35 (.mv (.t 1)),
          y 36 (.call (.c (.func (.func 12) #[] #[])) [(.t 33), (.t 34), (.c (.int .i64 1)), (.t 35), (.c (.int .i64 3)), (.c (.bool true))] false),
          y 37 (.call (.c (.func (.func 11) #[] #[])) [(.c (.int .i64 1)), (.t 36)] true),
          y 32 (.mv (.t 37)),
          y 38 (.extract (.t 32) 0),
          y 39 (.extract (.t 32) 1),
          y 5 (.mv (.t 38)),
          y 6 (.mv (.t 39))])
       (.seq
        (.seq
         (.region [
           y 40 (.mv (.t 1)),
           y 41 (.bin .eql .int (.t 40) (.c (.int .i64 0)))])
        (.cond (.t 41)
         (.seq
          (.region [
            y 43 (.mv (.t 3)),
            y 44 (.load true 6 (.t 2)),
            y 45 (.call (.c (.func (.func 12) #[] #[])) [(.t 43), (.t 44), (.c (.int .i64 1)), (.c (.int .i64 0)), (.c (.int .i64 0)), (.c (.bool true))] false),
            y 46 (.bin .add .int (.t 45) (.c (.int .i64 2))),
            y 47 (.call (.c (.func (.func 11) #[] #[])) [(.c (.int .i64 1)), (.t 46)] true),
            y 42 (.mv (.t 47)),
            y 48 (.extract (.t 42) 0),
            y 49 (.extract (.t 42) 1),
            y 5 (.mv (.t 48))])
         (.region [
           y 50 (.mv (.t 3)),
           y 51 (.load true 6 (.t 2)),
           y 52 (.call (.c (.func (.func 13) #[] #[])) [(.t 50), (.t 51), (.c (.int .i64 1)), (.c (.int .i64 1)), (.c (.int .i64 3))] false)]))
         .skip))
       (.seq
        (.region [
          y 53 (.mv (.t 3)),
          y 54 (.load true 6 (.t 2)),
          y 55 (.call (.c (.func (.func 15) #[] #[])) [(.t 54), (.c (.int .i64 0))] true),
          y 56 (.mv (.t 5)),
          y 57 (.call (.c (.func (.func 14) #[] #[])) [(.t 53), (.t 55), (.t 56)] false)])
       (.seq
        (.region [
          y 58 (.build [(.int .i64 0), (.int .i64 0), (.int .i64 0), (.int .i64 0), (.int .i64 0), (.int .i64 0), (.int .i64 0), (.int .u64 0), (.int .u64 0), (.int .u64 0), (.int .u64 0), (.int .u64 0), (.int .i64 0), (.int .i64 0), (.int .i64 0), (.int .i64 0), (.int .i64 0)] [(0, 1, (.c (.int .i64 3))), (2, 1, (.c (.int .i64 70)))]),
          y 7 (.new 24 [(.int .i64 0), (.int .i64 0), (.int .i64 0), (.int .i64 0), (.int .i64 0), (.int .i64 0), (.int .i64 0), (.int .u64 0), (.int .u64 0), (.int .u64 0), (.int .u64 0), (.int .u64 0), (.int .i64 0), (.int .i64 0), (.int .i64 0), (.int .i64 0), (.int .i64 0)]),
          x (.store 17 (.t 7) (.t 58)),
          y 8 (.mv (.c (.int .i64 0)))])
       (.seq
        (.region [
          y 9 (.mv (.c (.int .i64 0)))])
       (.seq
        (.block 2
         (.loop
          (.seq
           (.seq
            (.region [
              y 59 (.addOff 3 (.t 7)),
              y 60 (.load false 1 (.t 59)),
              y 61 (.bin .eql .int (.t 60) (.c (.int .i64 0))),
              y 62 (.mv (.t 61)),
              ⟨(some 63), .mv (.t 8), (some (62, true)), [], [], false⟩,
              ⟨(some 64), .bin .lss .int (.t 63) (.c (.int .i64 40)), (some (62, true)), [], [], false⟩,
              y 65 (.pick (.t 62) (.t 64) (.c (.bool false)))])
           (.cond (.t 65)
            .skip
            (.exit 2)))
          (.block 3
           (.seq
            (.region [
              y 67 (.mv (.t 3)),
              y 68 (.load true 6 (.t 2)),
              y 69 (.load true 17 (.t 7)),
              y 70 (.call (.c (.func (.func 16) #[] #[])) [(.t 67), (.t 68), (.t 69)] false),
              y 66 (.mv (.t 70)),
              y 71 (.extract (.t 66) 0),
              y 72 (.extract (.t 66) 1),
              y 10 (.new 24 [(.int .i64 0), (.int .i64 0), (.int .i64 0), (.int .i64 0), (.int .i64 0), (.int .i64 0), (.int .i64 0), (.int .u64 0), (.int .u64 0), (.int .u64 0), (.int .u64 0), (.int .u64 0), (.int .i64 0), (.int .i64 0), (.int .i64 0), (.int .i64 0), (.int .i64 0)]),
              x (.store 17 (.t 10) (.t 71)),
              y 11 (.mv (.t 72))])
           (.seq
            (.seq
             (.region [
               y 73 (.mv (.t 11)),
               y 74 (.bin .eql .int (.t 73) (.c (.int .i64 1)))])
            (.cond (.t 74)
             (.region [
               y 75 (.mv (.t 9)),
               y 76 (.bin .add .int (.t 75) (.c (.int .i64 1))),
               y 9 (.mv (.t 76))])
             (.region [
               y 77 (.mv (.t 8)),
               y 78 (.bin .add .int (.t 77) (.c (.int .i64 1))),
               y 8 (.mv (.t 78))])))
           (.region [
             y 79 (.load true 17 (.t 10)),
             x (.store 17 (.t 7) (.t 79))])))))))
       (.seq
        (.region [
          y 81 (.mv (.t 3)),
          y 82 (.call (.c (.func (.func 18) #[] #[])) [(.t 81)] true),
          y 83 (.load true 6 (.t 2)),
          y 84 (.call (.c (.func (.func 17) #[] #[])) [(.t 82), (.t 83)] true),
          y 80 (.mv (.t 84)),
          y 85 (.extract (.t 80) 0),
          y 86 (.extract (.t 80) 1),
          y 12 (.new 53 [(.slice none 0 0), (.slice none 0 0), (.bool false), (.slice none 0 0)]),
          x (.store 4 (.t 12) (.t 85)),
          y 13 (.mv (.t 86))])
       (.seq
        (.seq
         (.region [
           y 87 (.mv (.t 13)),
           y 88 (.bin .neq .int (.t 87) (.c (.int .i64 0))),
           y 89 (.mv (.t 88)),
           ⟨(some 90), .addOff 3 (.t 7), (some (89, false)), [], [], false⟩,
           ⟨(some 91), .load false 1 (.t 90), (some (89, false)), [], [], false⟩,
           ⟨(some 92), .bin .neq .int (.t 91) (.c (.int .i64 1)), (some (89, false)), [], [], false⟩,
           y 93 (.pick (.t 89) (.c (.bool true)) (.t 92)),
           y 94 (.mv (.t 93)),
           ⟨(some 95), .addOff 3 (.t 12), (some (94, false)), [], [], false⟩,
           ⟨(some 96), .load false 1 (.t 95), (some (94, false)), [], [], false⟩,
           ⟨(some 97), .lenS (.t 96), (some (94, false)), [], [], false⟩,
           ⟨(some 98), .bin .neq .int (.t 97) (.c (.int .i64 2)), (some (94, false)), [], [], false⟩,
           y 99 (.pick (.t 94) (.c (.bool true)) (.t 98))])
        (.cond (.t 99)
         (.seq
          (.region [
            y 0 (.mv (.c (.bool false)))])
         .ret)
         .skip))
       (.seq
        (.seq
         (.region [
           y 100 (.mv (.t 1)),
           y 101 (.bin .eql .int (.t 100) (.c (.int .i64 0))),
           y 102 (.mv (.t 101)),
           ⟨(some 103), .mv (.t 8), (some (102, true)), [], [], false⟩,
           ⟨(some 104), .bin .neq .int (.t 103) (.c (.int .i64 17)), (some (102, true)), [], [], false⟩,
           ⟨(some 105), .mv (.t 104), (some (102, true)), [], [], false⟩,
           ⟨(some 106), .mv (.t 9), (some (105, false)), [], [], false⟩,
           ⟨(some 107), .bin .neq .int (.t 106) (.c (.int .i64 0)), (some (105, false)), [], [], false⟩,
           ⟨(some 108), .pick (.t 105) (.c (.bool true)) (.t 107), (some (102, true)), [], [], false⟩,
           ⟨(some 109), .mv (.t 108), (some (102, true)), [], [], false⟩,
           ⟨(some 110), .addOff 1 (.t 12), (some (109, false)), [], [], false⟩,
           ⟨(some 111), .load false 1 (.t 110), (some (109, false)), [], [], false⟩,
           ⟨(some 112), .buildSlice 3 [(.int .i64 0)] 1 [(0, 1, (.c (.int .i64 1)))], (some (109, false)), [], [], false⟩,
           ⟨(some 113), .call (.c (.func (.func 19) #[] #[])) [(.t 111), (.t 112)] true, (some (109, false)), [], [], false⟩,
           ⟨(some 114), .un .not (.t 113), (some (109, false)), [], [], false⟩,
           ⟨(some 115), .pick (.t 109) (.c (.bool true)) (.t 114), (some (102, true)), [], [], false⟩,
           ⟨(some 116), .mv (.t 115), (some (102, true)), [], [], false⟩,
           ⟨(some 117), .addOff 3 (.t 12), (some (116, false)), [], [], false⟩,
           ⟨(some 118), .load false 1 (.t 117), (some (116, false)), [], [], false⟩,
           ⟨(some 119), .idxS 5 (.t 118) (.c (.int .i64 1)), (some (116, false)), [], [], false⟩,
           ⟨(some 120), .addOff 4 (.t 119), (some (116, false)), [], [], false⟩,
           ⟨(some 121), .load false 1 (.t 120), (some (116, false)), [], [], false⟩,
           ⟨(some 122), .buildSlice 3 [(.int .i64 0), (.int .i64 0)] 2 [(0, 1, (.c (.int .i64 1))), (1, 1, (.c (.int .i64 2)))], (some (116, false)), [], [], false⟩,
           ⟨(some 123), .call (.c (.func (.func 19) #[] #[])) [(.t 121), (.t 122)] true, (some (116, false)), [], [], false⟩,
           ⟨(some 124), .un .not (.t 123), (some (116, false)), [], [], false⟩,
           ⟨(some 125), .pick (.t 116) (.c (.bool true)) (.t 124), (some (102, true)), [], [], false⟩,
           ⟨(some 126), .mv (.t 125), (some (102, true)), [], [], false⟩,
           ⟨(some 127), .addOff 3 (.t 12), (some (126, false)), [], [], false⟩,
           ⟨(some 128), .load false 1 (.t 127), (some (126, false)), [], [], false⟩,
           ⟨(some 129), .idxS 5 (.t 128) (.c (.int .i64 1)), (some (126, false)), [], [], false⟩,
           ⟨(some 130), .addOff 0 (.t 129), (some (126, false)), [], [], false⟩,
           ⟨(some 131), .addOff 0 (.t 130), (some (126, false)), [], [], false⟩,
           ⟨(some 132), .load false 1 (.t 131), (some (126, false)), [], [], false⟩,
           ⟨(some 133), .bin .neq .int (.t 132) (.c (.int .i64 1)), (some (126, false)), [], [], false⟩,
           ⟨(some 134), .pick (.t 126) (.c (.bool true)) (.t 133), (some (102, true)), [], [], false⟩,
           y 135 (.pick (.t 102) (.t 134) (.c (.bool false)))])
        (.cond (.t 135)
         (.seq
          (.region [
            y 0 (.mv (.c (.bool false)))])
         .ret)
         .skip))
       (.seq
        (.region [
          y 136 (.mv (.t 1)),
          y 137 (.bin .eql .int (.t 136) (.c (.int .i64 1))),
          y 138 (.mv (.t 137)),
          ⟨(some 139), .mv (.t 8), (some (138, true)), [], [], false⟩,
          ⟨(some 140), .bin .neq .int (.t 139) (.c (.int .i64 15)), (some (138, true)), [], [], false⟩,
          ⟨(some 141), .mv (.t 140), (some (138, true)), [], [], false⟩,
          ⟨(some 142), .mv (.t 9), (some (141, false)), [], [], false⟩,
          ⟨(some 143), .bin .neq .int (.t 142) (.c (.int .i64 1)), (some (141, false)), [], [], false⟩,
          ⟨(some 144), .pick (.t 141) (.c (.bool true)) (.t 143), (some (138, true)), [], [], false⟩,
          ⟨(some 145), .mv (.t 144), (some (138, true)), [], [], false⟩,
          ⟨(some 146), .addOff 1 (.t 12), (some (145, false)), [], [], false⟩,
          ⟨(some 147), .load false 1 (.t 146), (some (145, false)), [], [], false⟩,
          ⟨(some 148), .lenS (.t 147), (some (145, false)), [], [], false⟩,
          ⟨(some 149), .bin .neq .int (.t 148) (.c (.int .i64 0)), (some (145, false)), [], [], false⟩,
          ⟨(some 150), .pick (.t 145) (.c (.bool true)) (.t 149), (some (138, true)), [], [], false⟩,
          ⟨(some 151), .mv (.t 150), (some (138, true)), [], [], false⟩,
          ⟨(some 152), .addOff 3 (.t 12), (some (151, false)), [], [], false⟩,
          ⟨(some 153), .load false 1 (.t 152), (some (151, false)), [], [], false⟩,
          ⟨(some 154), .idxS 5 (.t 153) (.c (.int .i64 1)), (some (151, false)), [], [], false⟩,
          ⟨(some 155), .addOff 0 (.t 154), (some (151, false)), [], [], false⟩,
          ⟨(some 156), .addOff 3 (.t 155), (some (151, false)), [], [], false⟩,
          ⟨(some 157), .load false 1 (.t 156), (some (151, false)), [], [], false⟩,
          ⟨(some 158), .pick (.t 151) (.c (.bool true)) (.t 157), (some (138, true)), [], [], false⟩,
          y 159 (.pick (.t 138) (.t 158) (.c (.bool false)))])
       (.cond (.t 159)
        (.seq
         (.region [
           y 0 (.mv (.c (.bool false)))])
        .ret)
        .skip)))))))))))))))
     (.region [
       y 16 (.mv (.t 1)),
       y 17 (.bin .add .int (.t 16) (.c (.int .i64 1))),
       y 1 (.mv (.t 17))]))))))
  (.seq
   (.region [
     y 0 (.mv (.c (.bool true)))])
  .ret))),
  [.tmp 0]⟩

/-- (*wainscot/flush.step).goes -/
def i7 : IFun := ⟨33,
  (.seq
   .skip
  (.seq
   (.region [
     y 2 (.mv (.t 0)),
     y 3 (.nilCheck (.t 2)),
     y 4 (.addOff 7 (.t 3)),
     y 5 (.addOff 15 (.t 4)),
     y 6 (.load false 1 (.t 5))])
  (.block 0
   (.seq
    (.block 4
     (.seq
      (.block 3
       (.seq
        (.block 2
         (.seq
          (.block 1
           (.seq
            (.seq
             (.seq
              (.region [
                y 8 (.bin .eql .int (.t 6) (.c (.int .i64 79))),
                y 7 (.mv (.t 8))])
             (.cond (.t 7)
              (.exit 1)
              .skip))
            (.seq
             (.seq
              (.seq
               (.region [
                 y 10 (.bin .eql .int (.t 6) (.c (.int .i64 73))),
                 y 9 (.mv (.t 10))])
              (.cond (.t 9)
               .skip
               (.region [
                 y 11 (.bin .eql .int (.t 6) (.c (.int .i64 95))),
                 y 9 (.mv (.t 11))])))
             (.cond (.t 9)
              (.exit 2)
              .skip))
            (.seq
             (.region [
               y 13 (.bin .eql .int (.t 6) (.c (.int .i64 0))),
               y 12 (.mv (.t 13))])
            (.cond (.t 12)
             (.exit 3)
             .skip))))
           (.exit 4)))
         (.seq
          (.region [
            y 14 (.mv (.t 0)),
            y 15 (.nilCheck (.t 14)),
            y 16 (.addOff 7 (.t 15)),
            y 17 (.addOff 7 (.t 16)),
            y 18 (.load false 1 (.t 17)),
            y 19 (.bin .eql .int (.t 18) (.c (.int .u64 0)))])
         (.cond (.t 19)
          (.seq
           (.region [
             y 20 (.mv (.t 0)),
             y 21 (.call (.c (.func (.func 20) #[] #[])) [(.t 20)] false)])
          (.exit 0))
          .skip))))
       (.seq
        (.region [
          y 22 (.mv (.t 0)),
          y 23 (.mv (.t 0)),
          y 24 (.nilCheck (.t 23)),
          y 25 (.addOff 7 (.t 24)),
          y 26 (.addOff 15 (.t 25)),
          y 27 (.load false 1 (.t 26)),
          y 28 (.call (.c (.func (.func 21) #[] #[])) [(.t 22), (.t 27)] false)])
       (.exit 0))))
     (.seq
      (.region [
        y 29 (.mv (.t 0)),
        y 30 (.call (.c (.func (.func 20) #[] #[])) [(.t 29)] false)])
     (.exit 0))))
   (.seq
    (.region [
      y 31 (.mv (.t 0)),
      y 32 (.call (.c (.func (.func 22) #[] #[])) [(.t 31), (.c (.bool false))] false)])
   (.exit 0)))))),
  []⟩

/-- wainscot/wainscotref25.goes -/
def i8 : IFun := ⟨27,
  (.seq
   (.region [
     y 1 (.box 24 17 (.t 0)),
     y 2 (.new 24 [(.int .i64 0), (.int .i64 0), (.int .i64 0), (.int .i64 0), (.int .i64 0), (.int .i64 0), (.int .i64 0), (.int .u64 0), (.int .u64 0), (.int .u64 0), (.int .u64 0), (.int .u64 0), (.int .i64 0), (.int .i64 0), (.int .i64 0), (.int .i64 0), (.int .i64 0)]),
     y 3 (.mv (.c (.bool false)))])
  (.seq
   (.seq
    (.region [
      y 4 (.addOff 15 (.t 1)),
      y 5 (.load false 1 (.t 4))])
   (.block 0
    (.seq
     (.region [
       y 7 (.bin .eql .int (.t 5) (.c (.int .i64 0))),
       y 6 (.mv (.t 7))])
    (.cond (.t 6)
     (.seq
      (.region [
        y 8 (.load true 17 (.t 1)),
        y 9 (.call (.c (.func (.func 23) #[] #[])) [(.t 8)] false),
        x (.store 17 (.t 2) (.t 9)),
        y 3 (.mv (.c (.bool true)))])
     .ret)
     (.seq
      (.seq
       (.region [
         y 11 (.bin .eql .int (.t 5) (.c (.int .i64 73))),
         y 10 (.mv (.t 11))])
      (.cond (.t 10)
       .skip
       (.region [
         y 12 (.bin .eql .int (.t 5) (.c (.int .i64 95))),
         y 10 (.mv (.t 12))])))
     (.cond (.t 10)
      (.seq
       (.region [
         y 13 (.load true 17 (.t 1)),
         y 14 (.addOff 15 (.t 1)),
         y 15 (.load false 1 (.t 14)),
         y 16 (.call (.c (.func (.func 24) #[] #[])) [(.t 13), (.t 15)] false),
         x (.store 17 (.t 2) (.t 16)),
         y 3 (.mv (.c (.bool true)))])
      .ret)
      (.seq
       (.region [
         y 18 (.bin .eql .int (.t 5) (.c (.int .i64 79))),
         y 17 (.mv (.t 18))])
      (.cond (.t 17)
       (.seq
        (.seq
         (.region [
           y 19 (.addOff 7 (.t 1)),
           y 20 (.load false 1 (.t 19)),
           y 21 (.bin .neq .int (.t 20) (.c (.int .u64 0)))])
        (.cond (.t 21)
         (.seq
          (.region [
            y 22 (.load true 17 (.t 1)),
            y 23 (.call (.c (.func (.func 24) #[] #[])) [(.t 22), (.c (.int .i64 79))] false),
            x (.store 17 (.t 2) (.t 23)),
            y 3 (.mv (.c (.bool true)))])
         .ret)
         .skip))
       (.seq
        (.region [
          y 24 (.load true 17 (.t 1)),
          y 25 (.call (.c (.func (.func 23) #[] #[])) [(.t 24)] false),
          x (.store 17 (.t 2) (.t 25)),
          y 3 (.mv (.c (.bool true)))])
       .ret))
       .skip))))))))
  (.seq
   (.region [
     y 26 (.load true 17 (.t 1)),
     x (.store 17 (.t 2) (.t 26)),
     y 3 (.mv (.c (.bool false)))])
  .ret))),
  [.cell 2 true 17, .tmp 3]⟩

/-- wainscot/mem.New -/
def i9 : IFun := ⟨14,
  (.seq
   (.region [
     y 2 (.mv (.c (.pointer none))),
     y 3 (.mv (.c (.int .i64 0)))])
  (.seq
   (.seq
    (.region [
      y 4 (.mv (.t 0)),
      y 5 (.bin .lss .int (.t 4) (.c (.int .i64 1))),
      y 6 (.mv (.t 5)),
      ⟨(some 7), .mv (.t 0), (some (6, false)), [], [], false⟩,
      ⟨(some 8), .bin .gtr .int (.t 7) (.c (.int .i64 4096)), (some (6, false)), [], [], false⟩,
      y 9 (.pick (.t 6) (.c (.bool true)) (.t 8))])
   (.cond (.t 9)
    (.seq
     (.region [
       y 2 (.mv (.c (.pointer none))),
       y 3 (.mv (.c (.int .i64 9)))])
    .ret)
    .skip))
  (.seq
   (.region [
     y 10 (.mv (.t 0)),
     y 11 (.mkSlice 22 (.int .u64 0) 8 (.t 10) (.t 10)),
     y 12 (.build [(.slice none 0 0), (.int .i64 0)] [(0, 1, (.t 11))]),
     y 13 (.box 68 2 (.t 12)),
     y 2 (.mv (.t 13)),
     y 3 (.mv (.c (.int .i64 0)))])
  .ret))),
  [.tmp 2, .tmp 3]⟩

/-- wainscot/chart.Words -/
def i10 : IFun := ⟨14,
  (.seq
   (.region [
     y 1 (.box 34 6 (.t 0)),
     y 2 (.mv (.c (.int .i64 0)))])
  (.seq
   (.seq
    (.region [
      y 3 (.load true 6 (.t 1)),
      y 4 (.call (.c (.func (.func 25) #[] #[])) [(.t 3)] true),
      y 5 (.bin .neq .int (.t 4) (.c (.int .i64 0)))])
   (.cond (.t 5)
    (.seq
     (.region [
       y 2 (.mv (.c (.int .i64 0)))])
    .ret)
    .skip))
  (.seq
   (.region [
     y 6 (.load true 6 (.t 1)),
     y 7 (.call (.c (.func (.func 26) #[] #[])) [(.t 6)] true),
     y 8 (.addOff 1 (.t 1)),
     y 9 (.load false 1 (.t 8)),
     y 10 (.addOff 2 (.t 1)),
     y 11 (.load false 1 (.t 10)),
     y 12 (.bin .mul .int (.t 9) (.t 11)),
     y 13 (.bin .add .int (.t 7) (.t 12)),
     y 2 (.mv (.t 13))])
  .ret))),
  [.tmp 2]⟩

/-- wainscot/count.Head -/
def i11 : IFun := ⟨33,
  (.seq
   (.region [
     y 4 (.mv (.c (.int .u64 0))),
     y 5 (.mv (.c (.int .i64 0)))])
  (.seq
   (.block 0
    (.seq
     (.region [
       y 7 (.mv (.t 0)),
       y 8 (.bin .eql .int (.t 7) (.c (.int .i64 (-1)))),
       y 9 (.mv (.t 8)),
       ⟨(some 10), .mv (.t 1), (some (9, true)), [], [], false⟩,
       ⟨(some 11), .bin .eql .int (.t 10) (.c (.int .i64 (-1))), (some (9, true)), [], [], false⟩,
       y 12 (.pick (.t 9) (.t 11) (.c (.bool false))),
       y 6 (.mv (.t 12))])
    (.cond (.t 6)
     (.seq
      (.region [
        y 4 (.mv (.c (.int .u64 0))),
        y 5 (.mv (.c (.int .i64 0)))])
     .ret)
     (.seq
      (.region [
        y 14 (.mv (.t 0)),
        y 15 (.call (.c (.func (.func 27) #[] #[])) [(.t 14)] true),
        y 16 (.un .not (.t 15)),
        y 17 (.mv (.t 16)),
        ⟨(some 18), .mv (.t 1), (some (17, false)), [], [], false⟩,
        ⟨(some 19), .bin .lss .int (.t 18) (.c (.int .i64 (-1))), (some (17, false)), [], [], false⟩,
        y 20 (.pick (.t 17) (.c (.bool true)) (.t 19)),
        y 21 (.mv (.t 20)),
        ⟨(some 22), .mv (.t 1), (some (21, false)), [], [], false⟩,
        ⟨(some 23), .bin .geq .int (.t 22) (.c (.int .i64 16)), (some (21, false)), [], [], false⟩,
        y 24 (.pick (.t 21) (.c (.bool true)) (.t 23)),
        y 13 (.mv (.t 24))])
     (.cond (.t 13)
      (.seq
       (.region [
         y 4 (.mv (.c (.int .u64 0))),
         y 5 (.mv (.c (.int .i64 2)))])
      .ret)
      .skip)))))
  (.seq
   (.region [
     y 25 (.mv (.t 0)),
     y 26 (.bin .add .int (.t 25) (.c (.int .i64 1))),
     y 27 (.conv .u64 (.t 26)),
     y 28 (.bin .shl .int (.t 27) (.c (.int .u64 6))),
     y 29 (.mv (.t 1)),
     y 30 (.bin .add .int (.t 29) (.c (.int .i64 1))),
     y 31 (.conv .u64 (.t 30)),
     y 32 (.bin .or .int (.t 28) (.t 31)),
     y 4 (.mv (.t 32)),
     y 5 (.mv (.c (.int .i64 0)))])
  .ret))),
  [.tmp 4, .tmp 5]⟩

/-- wainscot/wainscotlaw25.slabbed -/
def i12 : IFun := ⟨52,
  (.seq
   (.region [
     y 7 (.box 34 6 (.t 1)),
     y 12 (.mv (.c (.int .i64 0)))])
  (.seq
   (.region [
     y 16 (.addOff 2 (.t 7)),
     y 17 (.load false 1 (.t 16)),
     y 18 (.mv (.t 3)),
     y 19 (.bin .sub .int (.t 17) (.t 18)),
     y 20 (.addOff 2 (.t 7)),
     y 21 (.load false 1 (.t 20)),
     y 22 (.mv (.t 5)),
     y 23 (.build [(.int .i64 0), (.int .i64 0), (.bool false), (.bool false)] [(0, 1, (.t 19)), (1, 1, (.t 21)), (2, 1, (.t 22)), (3, 1, (.c (.bool true)))]),
     y 24 (.call (.c (.func (.func 28) #[] #[])) [(.t 23)] true),
     y 15 (.mv (.t 24)),
     y 25 (.extract (.t 15) 0),
     y 26 (.extract (.t 15) 1),
     y 13 (.mv (.t 25)),
     y 14 (.mv (.t 26))])
  (.seq
   (.region [
     y 27 (.mv (.t 0)),
     y 28 (.load true 6 (.t 7)),
     y 29 (.mv (.t 2)),
     y 30 (.call (.c (.func (.func 29) #[] #[])) [(.t 28), (.t 29)] true),
     y 31 (.mv (.t 0)),
     y 32 (.load true 6 (.t 7)),
     y 33 (.mv (.t 2)),
     y 34 (.mv (.t 3)),
     y 35 (.call (.c (.func (.func 13) #[] #[])) [(.t 31), (.t 32), (.t 33), (.c (.int .i64 0)), (.t 34)] false),
     y 36 (.bin .add .int (.t 35) (.c (.int .i64 1))),
     y 37 (.conv .u64 (.t 36)),
     y 38 (.call (.c (.func (.func 14) #[] #[])) [(.t 27), (.t 30), (.t 37)] false)])
  (.seq
   (.region [
     y 39 (.mv (.t 0)),
     y 40 (.load true 6 (.t 7)),
     y 41 (.mv (.t 2)),
     y 42 (.call (.c (.func (.func 29) #[] #[])) [(.t 40), (.t 41)] true),
     y 43 (.bin .add .int (.t 42) (.c (.int .i64 1))),
     y 44 (.mv (.t 13)),
     y 45 (.call (.c (.func (.func 14) #[] #[])) [(.t 39), (.t 43), (.t 44)] false)])
  (.seq
   (.region [
     y 46 (.mv (.t 0)),
     y 47 (.load true 6 (.t 7)),
     y 48 (.mv (.t 2)),
     y 49 (.mv (.t 3)),
     y 50 (.mv (.t 4)),
     y 51 (.call (.c (.func (.func 13) #[] #[])) [(.t 46), (.t 47), (.t 48), (.t 49), (.t 50)] false),
     y 12 (.mv (.t 51))])
  .ret))))),
  [.tmp 12]⟩

/-- wainscot/wainscotlaw25.chained -/
def i13 : IFun := ⟨46,
  (.seq
   (.region [
     y 6 (.box 34 6 (.t 1)),
     y 10 (.mv (.c (.int .i64 0)))])
  (.seq
   (.seq
    (.region [
      y 15 (.mv (.t 3)),
      y 11 (.mv (.t 15))])
   (.block 0
    (.loop
     (.seq
      (.seq
       (.region [
         y 16 (.mv (.t 11)),
         y 17 (.mv (.t 4)),
         y 18 (.bin .lss .int (.t 16) (.t 17))])
      (.cond (.t 18)
       .skip
       (.exit 0)))
     (.seq
      (.block 1
       (.seq
        (.region [
          y 21 (.mv (.t 11)),
          y 22 (.bin .add .int (.t 21) (.c (.int .i64 1))),
          y 12 (.mv (.t 22))])
       (.seq
        (.seq
         (.region [
           y 23 (.mv (.t 12)),
           y 24 (.mv (.t 4)),
           y 25 (.bin .eql .int (.t 23) (.t 24))])
        (.cond (.t 25)
         (.region [
           y 12 (.mv (.c (.int .i64 (-1))))])
         .skip))
       (.seq
        (.region [
          y 27 (.mv (.t 12)),
          y 28 (.load true 6 (.t 6)),
          y 29 (.mv (.t 2)),
          y 30 (.call (.c (.func (.func 31) #[] #[])) [(.t 28), (.t 29)] true),
          y 31 (.mv (.t 11)),
          y 32 (.call (.c (.func (.func 30) #[] #[])) [(.t 27), (.t 30), (.t 31)] true),
          y 26 (.mv (.t 32)),
          y 33 (.extract (.t 26) 0),
          y 34 (.extract (.t 26) 1),
          y 13 (.mv (.t 33)),
          y 14 (.mv (.t 34))])
       (.region [
         y 35 (.mv (.t 0)),
         y 36 (.load true 6 (.t 6)),
         y 37 (.mv (.t 2)),
         y 38 (.mv (.t 11)),
         y 39 (.call (.c (.func (.func 32) #[] #[])) [(.t 36), (.t 37), (.t 38)] true),
         y 40 (.mv (.t 13)),
         y 41 (.call (.c (.func (.func 14) #[] #[])) [(.t 35), (.t 39), (.t 40)] false)])))))
     (.region [
       y 19 (.mv (.t 11)),
       y 20 (.bin .add .int (.t 19) (.c (.int .i64 1))),
       y 11 (.mv (.t 20))]))))))
  (.seq
   (.seq
    (.region [
      y 42 (.mv (.t 3)),
      y 43 (.mv (.t 4)),
      y 44 (.bin .geq .int (.t 42) (.t 43))])
   (.cond (.t 44)
    (.seq
     (.region [
       y 10 (.mv (.c (.int .i64 (-1))))])
    .ret)
    .skip))
  (.seq
   (.region [
     y 45 (.mv (.t 3)),
     y 10 (.mv (.t 45))])
  .ret)))),
  [.tmp 10]⟩

/-- (*wainscot/mem.Mem).Store -/
def i14 : IFun := ⟨11,
  (.seq
   (.region [
     y 5 (.box 22 1 (.t 2)),
     y 6 (.mv (.c (.int .i64 0)))])
  (.seq
   (.region [
     y 7 (.mv (.t 0)),
     y 8 (.mv (.t 1)),
     y 9 (.mkFunc 34 [] [(.t 5)]),
     y 10 (.call (.c (.func (.func 33) #[] #[])) [(.t 7), (.t 8), (.c (.int .i64 1)), (.t 9)] false),
     y 6 (.mv (.t 10))])
  .ret)),
  [.tmp 6]⟩

/-- wainscot/chart.Head -/
def i15 : IFun := ⟨11,
  (.seq
   (.region [
     y 2 (.box 34 6 (.t 0)),
     y 3 (.box 3 1 (.t 1)),
     y 4 (.mv (.c (.int .i64 0)))])
  (.seq
   (.region [
     y 5 (.load true 6 (.t 2)),
     y 6 (.load false 1 (.t 3)),
     y 7 (.addOff 0 (.t 2)),
     y 8 (.load false 1 (.t 7)),
     y 9 (.mkFunc 36 [] [(.t 3)]),
     y 10 (.call (.c (.func (.func 35) #[] #[])) [(.t 5), (.t 6), (.t 8), (.t 9)] true),
     y 4 (.mv (.t 10))])
  .ret)),
  [.tmp 4]⟩

/-- wainscot/wainscotlaw25.step -/
def i16 : IFun := ⟨37,
  (.seq
   (.region [
     y 4 (.box 34 6 (.t 1)),
     y 5 (.box 24 17 (.t 2)),
     y 6 (.new 24 [(.int .i64 0), (.int .i64 0), (.int .i64 0), (.int .i64 0), (.int .i64 0), (.int .i64 0), (.int .i64 0), (.int .u64 0), (.int .u64 0), (.int .u64 0), (.int .u64 0), (.int .u64 0), (.int .i64 0), (.int .i64 0), (.int .i64 0), (.int .i64 0), (.int .i64 0)]),
     y 7 (.mv (.c (.int .i64 0)))])
  (.seq
   (.seq
    (.region [
      y 12 (.addOff 4 (.t 5)),
      y 13 (.load false 1 (.t 12)),
      y 14 (.bin .eql .int (.t 13) (.c (.int .i64 2)))])
   (.cond (.t 14)
    (.seq
     (.region [
       y 16 (.load true 17 (.t 5)),
       y 17 (.call (.c (.func (.func 4) #[] #[])) [(.t 16)] false),
       y 15 (.mv (.t 17)),
       y 18 (.extract (.t 15) 0),
       y 19 (.extract (.t 15) 1),
       y 8 (.new 24 [(.int .i64 0), (.int .i64 0), (.int .i64 0), (.int .i64 0), (.int .i64 0), (.int .i64 0), (.int .i64 0), (.int .u64 0), (.int .u64 0), (.int .u64 0), (.int .u64 0), (.int .u64 0), (.int .i64 0), (.int .i64 0), (.int .i64 0), (.int .i64 0), (.int .i64 0)]),
       x (.store 17 (.t 8) (.t 18)),
       y 9 (.mv (.t 19))])
    (.seq
     (.seq
      (.region [
        y 20 (.mv (.t 9)),
        y 21 (.bin .neq .int (.t 20) (.c (.int .i64 0)))])
     (.cond (.t 21)
      (.seq
       (.region [
         y 22 (.load true 17 (.t 5)),
         x (.store 17 (.t 6) (.t 22)),
         y 7 (.mv (.c (.int .i64 (-1))))])
      .ret)
      .skip))
    (.seq
     (.region [
       y 23 (.load true 17 (.t 8)),
       y 24 (.addOff 5 (.t 5)),
       y 25 (.load false 1 (.t 24)),
       ⟨none, .store 17 (.t 6) (.t 23), none, [], [2], false⟩,
       y 7 (.mv (.t 25))])
    .ret)))
    .skip))
  (.seq
   (.region [
     y 27 (.mv (.t 0)),
     y 28 (.load true 6 (.t 4)),
     y 29 (.load true 17 (.t 5)),
     y 30 (.call (.c (.func (.func 37) #[] #[])) [(.t 27), (.t 28), (.t 29)] false),
     y 26 (.mv (.t 30)),
     y 31 (.extract (.t 26) 0),
     y 32 (.extract (.t 26) 1),
     y 10 (.new 24 [(.int .i64 0), (.int .i64 0), (.int .i64 0), (.int .i64 0), (.int .i64 0), (.int .i64 0), (.int .i64 0), (.int .u64 0), (.int .u64 0), (.int .u64 0), (.int .u64 0), (.int .u64 0), (.int .i64 0), (.int .i64 0), (.int .i64 0), (.int .i64 0), (.int .i64 0)]),
     x (.store 17 (.t 10) (.t 31)),
     y 11 (.mv (.t 32))])
  (.seq
   (.seq
    (.region [
      y 33 (.mv (.t 11)),
      y 34 (.bin .neq .int (.t 33) (.c (.int .i64 0)))])
   (.cond (.t 34)
    (.seq
     (.region [
       y 35 (.load true 17 (.t 5)),
       x (.store 17 (.t 6) (.t 35)),
       y 7 (.mv (.c (.int .i64 (-1))))])
    .ret)
    .skip))
  (.seq
   (.region [
     y 36 (.load true 17 (.t 10)),
     x (.store 17 (.t 6) (.t 36)),
     y 7 (.mv (.c (.int .i64 (-1))))])
  .ret))))),
  [.cell 6 true 17, .tmp 7]⟩

/-- wainscot/chart.See -/
def i17 : IFun := ⟨95,
  (.seq
   (.region [
     y 3 (.box 34 6 (.t 1)),
     y 4 (.new 53 [(.slice none 0 0), (.slice none 0 0), (.bool false), (.slice none 0 0)]),
     y 5 (.mv (.c (.int .i64 0)))])
  (.seq
   (.seq
    (.region [
      y 16 (.load true 6 (.t 3)),
      y 17 (.call (.c (.func (.func 25) #[] #[])) [(.t 16)] true),
      y 18 (.bin .neq .int (.t 17) (.c (.int .i64 0))),
      y 19 (.mv (.t 18)),
      ⟨(some 20), .mv (.t 0), (some (19, false)), [], [], false⟩,
      ⟨(some 21), .lenS (.t 20), (some (19, false)), [], [], false⟩,
      ⟨(some 22), .load true 6 (.t 3), (some (19, false)), [], [], false⟩,
      ⟨(some 23), .call (.c (.func (.func 10) #[] #[])) [(.t 22)] true, (some (19, false)), [], [], false⟩,
      ⟨(some 24), .bin .neq .int (.t 21) (.t 23), (some (19, false)), [], [], false⟩,
      y 25 (.pick (.t 19) (.c (.bool true)) (.t 24))])
   (.cond (.t 25)
    (.seq
     (.region [
       y 26 (.build [(.slice none 0 0), (.slice none 0 0), (.bool false), (.slice none 0 0)] []),
       x (.store 4 (.t 4) (.t 26)),
       y 5 (.mv (.c (.int .i64 2)))])
    .ret)
    .skip))
  (.seq
   (.region [
     y 27 (.mv (.t 0)),
     y 28 (.load true 6 (.t 3)),
     y 29 (.build [(.slice none 0 0), (.int .i64 0), (.int .i64 0), (.int .i64 0), (.int .i64 0), (.int .i64 0), (.int .u64 0)] [(0, 1, (.t 27)), (1, 6, (.t 28))]),
     y 6 (.new 82 [(.slice none 0 0), (.int .i64 0), (.int .i64 0), (.int .i64 0), (.int .i64 0), (.int .i64 0), (.int .u64 0)]),
     x (.store 7 (.t 6) (.t 29))])
  (.seq
   (.region [
     y 30 (.mv (.t 0)),
     y 31 (.load true 6 (.t 3)),
     y 32 (.call (.c (.func (.func 38) #[] #[])) [(.t 31)] true),
     y 33 (.idxS 1 (.t 30) (.t 32)),
     y 34 (.load false 1 (.t 33)),
     y 35 (.bin .neq .int (.t 34) (.c (.int .u64 0))),
     y 36 (.build [(.slice none 0 0), (.slice none 0 0), (.bool false), (.slice none 0 0)] [(2, 1, (.t 35))]),
     y 7 (.new 53 [(.slice none 0 0), (.slice none 0 0), (.bool false), (.slice none 0 0)]),
     x (.store 4 (.t 7) (.t 36))])
  (.seq
   (.seq
    (.region [
      y 37 (.addOff 0 (.t 3)),
      y 38 (.load false 1 (.t 37)),
      y 39 (.mv (.c (.int .i64 0)))])
   (.block 0
    (.loop
     (.seq
      (.region [
        y 40 (.bin .lss .int (.t 39) (.t 38))])
     (.seq
      (.cond (.t 40)
       .skip
       (.exit 0))
     (.seq
      (.block 1
       (.seq
        (.region [
          y 41 (.mv (.t 39)),
          y 8 (.mv (.t 41))])
       (.seq
        (.region [
          y 43 (.load true 7 (.t 6)),
          y 44 (.mv (.t 8)),
          y 45 (.call (.c (.func (.func 39) #[] #[])) [(.t 43), (.t 44)] true),
          y 42 (.mv (.t 45)),
          y 46 (.extract (.t 42) 0),
          y 47 (.extract (.t 42) 1),
          y 9 (.new 84 [(.int .i64 0), (.slice none 0 0), (.int .u64 0), (.slice none 0 0)]),
          x (.store 4 (.t 9) (.t 46)),
          y 10 (.mv (.t 47))])
       (.seq
        (.seq
         (.region [
           y 48 (.mv (.t 10)),
           y 49 (.un .not (.t 48))])
        (.cond (.t 49)
         (.seq
          (.region [
            y 50 (.build [(.slice none 0 0), (.slice none 0 0), (.bool false), (.slice none 0 0)] []),
            x (.store 4 (.t 4) (.t 50)),
            y 5 (.mv (.c (.int .i64 150)))])
         .ret)
         .skip))
       (.region [
         y 51 (.addOff 0 (.t 7)),
         y 52 (.load false 1 (.t 51)),
         y 53 (.load true 4 (.t 9)),
         y 54 (.buildSlice 84 [(.int .i64 0), (.slice none 0 0), (.int .u64 0), (.slice none 0 0)] 1 [(0, 4, (.t 53))]),
         y 55 (.append 84 4 64 (.t 52) (.t 54)),
         y 56 (.addOff 0 (.t 7)),
         x (.store 1 (.t 56) (.t 55))])))))
     (.region [
       y 57 (.bin .add .int (.t 39) (.c (.int .i64 1))),
       y 39 (.mv (.t 57))])))))))
  (.seq
   (.region [
     y 59 (.load true 7 (.t 6)),
     y 60 (.mv (.t 0)),
     y 61 (.load true 6 (.t 3)),
     y 62 (.call (.c (.func (.func 41) #[] #[])) [(.t 61)] true),
     y 63 (.idxS 1 (.t 60) (.t 62)),
     y 64 (.load false 1 (.t 63)),
     y 65 (.call (.c (.func (.func 40) #[] #[])) [(.t 59), (.t 64), (.c (.func (.func 42) #[] #[]))] true),
     y 58 (.mv (.t 65)),
     y 66 (.extract (.t 58) 0),
     y 67 (.extract (.t 58) 1),
     y 11 (.mv (.t 66)),
     y 12 (.mv (.t 67))])
  (.seq
   (.seq
    (.region [
      y 68 (.mv (.t 12)),
      y 69 (.un .not (.t 68))])
   (.cond (.t 69)
    (.seq
     (.region [
       y 70 (.build [(.slice none 0 0), (.slice none 0 0), (.bool false), (.slice none 0 0)] []),
       x (.store 4 (.t 4) (.t 70)),
       y 5 (.mv (.c (.int .i64 150)))])
    .ret)
    .skip))
  (.seq
   (.region [
     y 71 (.mv (.t 11)),
     y 72 (.addOff 1 (.t 7)),
     x (.store 1 (.t 72) (.t 71))])
  (.seq
   (.seq
    (.region [
      y 73 (.addOff 1 (.t 3)),
      y 74 (.load false 1 (.t 73)),
      y 75 (.mv (.c (.int .i64 0)))])
   (.block 2
    (.loop
     (.seq
      (.region [
        y 76 (.bin .lss .int (.t 75) (.t 74))])
     (.seq
      (.cond (.t 76)
       .skip
       (.exit 2))
     (.seq
      (.block 3
       (.seq
        (.region [
          y 77 (.mv (.t 75)),
          y 13 (.mv (.t 77))])
       (.seq
        (.region [
          y 79 (.load true 7 (.t 6)),
          y 80 (.mv (.t 13)),
          y 81 (.call (.c (.func (.func 43) #[] #[])) [(.t 79), (.t 80)] true),
          y 78 (.mv (.t 81)),
          y 82 (.extract (.t 78) 0),
          y 83 (.extract (.t 78) 1),
          y 14 (.new 62 [(.int .i64 0), (.int .i64 0), (.bool false), (.bool false), (.slice none 0 0)]),
          x (.store 5 (.t 14) (.t 82)),
          y 15 (.mv (.t 83))])
       (.seq
        (.seq
         (.region [
           y 84 (.mv (.t 15)),
           y 85 (.un .not (.t 84))])
        (.cond (.t 85)
         (.seq
          (.region [
            y 86 (.build [(.slice none 0 0), (.slice none 0 0), (.bool false), (.slice none 0 0)] []),
            x (.store 4 (.t 4) (.t 86)),
            y 5 (.mv (.c (.int .i64 150)))])
         .ret)
         .skip))
       (.region [
         y 87 (.addOff 3 (.t 7)),
         y 88 (.load false 1 (.t 87)),
         y 89 (.load true 5 (.t 14)),
         y 90 (.buildSlice 62 [(.int .i64 0), (.int .i64 0), (.bool false), (.bool false), (.slice none 0 0)] 1 [(0, 5, (.t 89))]),
         y 91 (.append 62 5 48 (.t 88) (.t 90)),
         y 92 (.addOff 3 (.t 7)),
         x (.store 1 (.t 92) (.t 91))])))))
     (.region [
       y 93 (.bin .add .int (.t 75) (.c (.int .i64 1))),
       y 75 (.mv (.t 93))])))))))
  (.seq
   (.region [
     y 94 (.load true 4 (.t 7)),
     x (.store 4 (.t 4) (.t 94)),
     y 5 (.mv (.c (.int .i64 0)))])
  .ret)))))))))),
  [.cell 4 true 4, .tmp 5]⟩

/-- (*wainscot/mem.Mem).Words -/
def i18 : IFun := ⟨10,
  (.seq
   (.region [
     y 2 (.mv (.c (.slice none 0 0)))])
  (.seq
   (.seq
    (.region [
      y 3 (.mv (.t 0)),
      y 4 (.bin .eql .ptr (.t 3) (.c (.pointer none)))])
   (.cond (.t 4)
    (.seq
     (.region [
       y 2 (.mv (.c (.slice none 0 0)))])
    .ret)
    .skip))
  (.seq
   (.region [
     y 5 (.mv (.t 0)),
     y 6 (.nilCheck (.t 5)),
     y 7 (.addOff 0 (.t 6)),
     y 8 (.load false 1 (.t 7)),
     y 9 (.call (.c (.func (.func 44) #[] #[])) [(.t 8)] true),
     y 2 (.mv (.t 9))])
  .ret))),
  [.tmp 2]⟩

/-- wainscot/wainscotref00.EqInts -/
def i19 : IFun := ⟨26,
  (.seq
   (.region [
     y 4 (.mv (.c (.bool false)))])
  (.seq
   (.seq
    (.region [
      y 6 (.mv (.t 0)),
      y 7 (.lenS (.t 6)),
      y 8 (.mv (.t 1)),
      y 9 (.lenS (.t 8)),
      y 10 (.bin .neq .int (.t 7) (.t 9))])
   (.cond (.t 10)
    (.seq
     (.region [
       y 4 (.mv (.c (.bool false)))])
    .ret)
    .skip))
  (.seq
   (.seq
    (.region [
      y 5 (.mv (.c (.int .i64 0)))])
   (.block 0
    (.loop
     (.seq
      (.seq
       (.region [
         y 11 (.mv (.t 5)),
         y 12 (.mv (.t 0)),
         y 13 (.lenS (.t 12)),
         y 14 (.bin .lss .int (.t 11) (.t 13))])
      (.cond (.t 14)
       .skip
       (.exit 0)))
     (.seq
      (.block 1
       (.seq
        (.region [
          y 17 (.mv (.t 0)),
          y 18 (.mv (.t 5)),
          y 19 (.idxS 1 (.t 17) (.t 18)),
          y 20 (.load false 1 (.t 19)),
          y 21 (.mv (.t 1)),
          y 22 (.mv (.t 5)),
          y 23 (.idxS 1 (.t 21) (.t 22)),
          y 24 (.load false 1 (.t 23)),
          y 25 (.bin .neq .int (.t 20) (.t 24))])
       (.cond (.t 25)
        (.seq
         (.region [
           y 4 (.mv (.c (.bool false)))])
        .ret)
        .skip)))
     (.region [
       y 15 (.mv (.t 5)),
       y 16 (.bin .add .int (.t 15) (.c (.int .i64 1))),
       y 5 (.mv (.t 16))]))))))
  (.seq
   (.region [
     y 4 (.mv (.c (.bool true)))])
  .ret)))),
  [.tmp 4]⟩

/-- (*wainscot/flush.step).done -/
def i20 : IFun := ⟨6,
  (.region [
    y 2 (.mv (.t 0)),
    y 3 (.nilCheck (.t 2)),
    y 4 (.addOff 7 (.t 3)),
    y 5 (.addOff 3 (.t 4)),
    x (.store 1 (.t 5) (.c (.int .i64 1)))]),
  []⟩

/-- (*wainscot/flush.step).to -/
def i21 : IFun := ⟨9,
  (.region [
    y 4 (.mv (.t 0)),
    y 5 (.mv (.t 1)),
    y 6 (.nilCheck (.t 4)),
    y 7 (.addOff 7 (.t 6)),
    y 8 (.addOff 2 (.t 7)),
    x (.store 1 (.t 8) (.t 5))]),
  []⟩

/-- (*wainscot/flush.step).must -/
def i22 : IFun := ⟨15,
  (.region [
    y 4 (.mv (.t 0)),
    y 5 (.mv (.t 0)),
    y 6 (.nilCheck (.t 5)),
    y 7 (.addOff 24 (.t 6)),
    y 8 (.load false 1 (.t 7)),
    y 9 (.mv (.t 8)),
    ⟨(some 10), .mv (.t 1), (some (9, false)), [], [], false⟩,
    ⟨(some 11), .un .not (.t 10), (some (9, false)), [], [], false⟩,
    y 12 (.pick (.t 9) (.c (.bool true)) (.t 11)),
    y 13 (.nilCheck (.t 4)),
    y 14 (.addOff 24 (.t 13)),
    x (.store 1 (.t 14) (.t 12))]),
  []⟩

/-- wainscot/wainscotref22.Done -/
def i23 : IFun := ⟨5,
  (.seq
   (.region [
     y 1 (.box 24 17 (.t 0)),
     y 2 (.new 24 [(.int .i64 0), (.int .i64 0), (.int .i64 0), (.int .i64 0), (.int .i64 0), (.int .i64 0), (.int .i64 0), (.int .u64 0), (.int .u64 0), (.int .u64 0), (.int .u64 0), (.int .u64 0), (.int .i64 0), (.int .i64 0), (.int .i64 0), (.int .i64 0), (.int .i64 0)])])
  (.seq
   (.region [
     y 3 (.addOff 3 (.t 1)),
     x (.store 1 (.t 3) (.c (.int .i64 1)))])
  (.seq
   (.region [
     y 4 (.load true 17 (.t 1)),
     x (.store 17 (.t 2) (.t 4))])
  .ret))),
  [.cell 2 true 17]⟩

/-- wainscot/wainscotref22.To -/
def i24 : IFun := ⟨8,
  (.seq
   (.region [
     y 2 (.box 24 17 (.t 0)),
     y 4 (.new 24 [(.int .i64 0), (.int .i64 0), (.int .i64 0), (.int .i64 0), (.int .i64 0), (.int .i64 0), (.int .i64 0), (.int .u64 0), (.int .u64 0), (.int .u64 0), (.int .u64 0), (.int .u64 0), (.int .i64 0), (.int .i64 0), (.int .i64 0), (.int .i64 0), (.int .i64 0)])])
  (.seq
   (.region [
     y 5 (.mv (.t 1)),
     y 6 (.addOff 2 (.t 2)),
     x (.store 1 (.t 6) (.t 5))])
  (.seq
   (.region [
     y 7 (.load true 17 (.t 2)),
     x (.store 17 (.t 4) (.t 7))])
  .ret))),
  [.cell 4 true 17]⟩

/-- wainscot/chart.Check -/
def i25 : IFun := ⟨35,
  (.seq
   (.region [
     y 1 (.box 34 6 (.t 0)),
     y 2 (.mv (.c (.int .i64 0)))])
  (.seq
   (.block 0
    (.seq
     (.seq
      (.region [
        y 4 (.addOff 0 (.t 1)),
        y 5 (.load false 1 (.t 4)),
        y 6 (.bin .lss .int (.t 5) (.c (.int .i64 1))),
        y 3 (.mv (.t 6))])
     (.cond (.t 3)
      .skip
      (.seq
       (.region [
         y 7 (.addOff 0 (.t 1)),
         y 8 (.load false 1 (.t 7)),
         y 9 (.bin .gtr .int (.t 8) (.c (.int .i64 8))),
         y 3 (.mv (.t 9))])
      (.cond (.t 3)
       .skip
       (.seq
        (.region [
          y 10 (.addOff 1 (.t 1)),
          y 11 (.load false 1 (.t 10)),
          y 12 (.bin .lss .int (.t 11) (.c (.int .i64 1))),
          y 3 (.mv (.t 12))])
       (.cond (.t 3)
        .skip
        (.seq
         (.region [
           y 13 (.addOff 1 (.t 1)),
           y 14 (.load false 1 (.t 13)),
           y 15 (.bin .gtr .int (.t 14) (.c (.int .i64 32))),
           y 3 (.mv (.t 15))])
        (.cond (.t 3)
         .skip
         (.seq
          (.region [
            y 16 (.addOff 2 (.t 1)),
            y 17 (.load false 1 (.t 16)),
            y 18 (.bin .lss .int (.t 17) (.c (.int .i64 1))),
            y 3 (.mv (.t 18))])
         (.cond (.t 3)
          .skip
          (.region [
            y 19 (.addOff 2 (.t 1)),
            y 20 (.load false 1 (.t 19)),
            y 21 (.bin .gtr .int (.t 20) (.c (.int .i64 16))),
            y 3 (.mv (.t 21))])))))))))))
    (.cond (.t 3)
     (.seq
      (.region [
        y 2 (.mv (.c (.int .i64 2)))])
     .ret)
     (.seq
      (.seq
       (.region [
         y 23 (.addOff 3 (.t 1)),
         y 24 (.load false 1 (.t 23)),
         y 25 (.bin .lss .int (.t 24) (.c (.int .i64 0))),
         y 22 (.mv (.t 25))])
      (.cond (.t 22)
       .skip
       (.seq
        (.region [
          y 26 (.addOff 3 (.t 1)),
          y 27 (.load false 1 (.t 26)),
          y 28 (.bin .gtr .int (.t 27) (.c (.int .i64 32))),
          y 22 (.mv (.t 28))])
       (.cond (.t 22)
        .skip
        (.seq
         (.region [
           y 29 (.addOff 4 (.t 1)),
           y 30 (.load false 1 (.t 29)),
           y 31 (.bin .lss .int (.t 30) (.c (.int .i64 0))),
           y 22 (.mv (.t 31))])
        (.cond (.t 22)
         .skip
         (.region [
           y 32 (.addOff 4 (.t 1)),
           y 33 (.load false 1 (.t 32)),
           y 34 (.bin .gtr .int (.t 33) (.c (.int .i64 32))),
           y 22 (.mv (.t 34))])))))))
     (.cond (.t 22)
      (.seq
       (.region [
         y 2 (.mv (.c (.int .i64 2)))])
      .ret)
      .skip)))))
  (.seq
   (.region [
     y 2 (.mv (.c (.int .i64 0)))])
  .ret))),
  [.tmp 2]⟩

/-- wainscot/chart.links -/
def i26 : IFun := ⟨9,
  (.seq
   (.region [
     y 1 (.box 34 6 (.t 0)),
     y 2 (.mv (.c (.int .i64 0)))])
  (.seq
   (.region [
     y 3 (.load true 6 (.t 1)),
     y 4 (.call (.c (.func (.func 45) #[] #[])) [(.t 3)] true),
     y 5 (.addOff 1 (.t 1)),
     y 6 (.load false 1 (.t 5)),
     y 7 (.bin .mul .int (.c (.int .i64 4)) (.t 6)),
     y 8 (.bin .add .int (.t 4) (.t 7)),
     y 2 (.mv (.t 8))])
  .ret)),
  [.tmp 2]⟩

/-- wainscot/count.slabMay -/
def i27 : IFun := ⟨9,
  (.seq
   (.region [
     y 2 (.mv (.c (.bool false)))])
  (.seq
   (.region [
     y 3 (.mv (.t 0)),
     y 4 (.bin .leq .int (.c (.int .i64 0)) (.t 3)),
     y 5 (.mv (.t 4)),
     ⟨(some 6), .mv (.t 0), (some (5, true)), [], [], false⟩,
     ⟨(some 7), .bin .lss .int (.t 6) (.c (.int .i64 32)), (some (5, true)), [], [], false⟩,
     y 8 (.pick (.t 5) (.t 7) (.c (.bool false))),
     y 2 (.mv (.t 8))])
  .ret)),
  [.tmp 2]⟩

/-- wainscot/count.Pack -/
def i28 : IFun := ⟨23,
  (.seq
   (.region [
     y 1 (.box 60 4 (.t 0)),
     y 2 (.mv (.c (.int .u64 0))),
     y 3 (.mv (.c (.int .i64 0)))])
  (.seq
   (.seq
    (.region [
      y 4 (.load true 4 (.t 1)),
      y 5 (.call (.c (.func (.func 46) #[] #[])) [(.t 4)] true),
      y 6 (.un .not (.t 5))])
   (.cond (.t 6)
    (.seq
     (.region [
       y 2 (.mv (.c (.int .u64 0))),
       y 3 (.mv (.c (.int .i64 2)))])
    .ret)
    .skip))
  (.seq
   (.region [
     y 7 (.addOff 0 (.t 1)),
     y 8 (.load false 1 (.t 7)),
     y 9 (.conv .u64 (.t 8)),
     y 10 (.addOff 1 (.t 1)),
     y 11 (.load false 1 (.t 10)),
     y 12 (.conv .u64 (.t 11)),
     y 13 (.bin .shl .int (.t 12) (.c (.int .u64 8))),
     y 14 (.bin .or .int (.t 9) (.t 13)),
     y 15 (.addOff 2 (.t 1)),
     y 16 (.load false 1 (.t 15)),
     y 17 (.call (.c (.func (.func 47) #[] #[])) [(.t 16), (.c (.int .u64 65536))] true),
     y 18 (.bin .or .int (.t 14) (.t 17)),
     y 19 (.addOff 3 (.t 1)),
     y 20 (.load false 1 (.t 19)),
     y 21 (.call (.c (.func (.func 47) #[] #[])) [(.t 20), (.c (.int .u64 131072))] true),
     y 22 (.bin .or .int (.t 18) (.t 21)),
     y 2 (.mv (.t 22)),
     y 3 (.mv (.c (.int .i64 0)))])
  .ret))),
  [.tmp 2, .tmp 3]⟩

/-- wainscot/chart.First -/
def i29 : IFun := ⟨11,
  (.seq
   (.region [
     y 2 (.box 34 6 (.t 0)),
     y 3 (.box 3 1 (.t 1)),
     y 4 (.mv (.c (.int .i64 0)))])
  (.seq
   (.region [
     y 5 (.load true 6 (.t 2)),
     y 6 (.load false 1 (.t 3)),
     y 7 (.addOff 1 (.t 2)),
     y 8 (.load false 1 (.t 7)),
     y 9 (.mkFunc 48 [] [(.t 2), (.t 3)]),
     y 10 (.call (.c (.func (.func 35) #[] #[])) [(.t 5), (.t 6), (.t 8), (.t 9)] true),
     y 4 (.mv (.t 10))])
  .ret)),
  [.tmp 4]⟩

/-- wainscot/link.Hide -/
def i30 : IFun := ⟨27,
  (.seq
   (.region [
     y 6 (.mv (.c (.int .u64 0))),
     y 7 (.mv (.c (.int .i64 0)))])
  (.seq
   (.seq
    (.region [
      y 8 (.mv (.t 0)),
      y 9 (.bin .neq .int (.t 8) (.c (.int .i64 (-1)))),
      y 10 (.mv (.t 9)),
      ⟨(some 11), .mv (.t 0), (some (10, true)), [], [], false⟩,
      ⟨(some 12), .call (.c (.func (.func 49) #[] #[])) [(.t 11)] true, (some (10, true)), [], [], false⟩,
      ⟨(some 13), .un .not (.t 12), (some (10, true)), [], [], false⟩,
      y 14 (.pick (.t 10) (.t 13) (.c (.bool false))),
      y 15 (.mv (.t 14)),
      ⟨(some 16), .mv (.t 2), (some (15, false)), [], [], false⟩,
      ⟨(some 17), .call (.c (.func (.func 49) #[] #[])) [(.t 16)] true, (some (15, false)), [], [], false⟩,
      ⟨(some 18), .un .not (.t 17), (some (15, false)), [], [], false⟩,
      y 19 (.pick (.t 15) (.c (.bool true)) (.t 18))])
   (.cond (.t 19)
    (.seq
     (.region [
       y 6 (.mv (.c (.int .u64 0))),
       y 7 (.mv (.c (.int .i64 2)))])
    .ret)
    .skip))
  (.seq
   (.region [
     y 20 (.mv (.t 0)),
     y 21 (.bin .add .int (.t 20) (.c (.int .i64 1))),
     y 22 (.conv .u64 (.t 21)),
     y 23 (.mv (.t 1)),
     y 24 (.mv (.t 2)),
     y 25 (.call (.c (.func (.func 50) #[] #[])) [(.t 23), (.t 24)] true),
     y 26 (.bin .xor .int (.t 22) (.t 25)),
     y 6 (.mv (.t 26)),
     y 7 (.mv (.c (.int .i64 0)))])
  .ret))),
  [.tmp 6, .tmp 7]⟩

/-- wainscot/chart.Key -/
def i31 : IFun := ⟨11,
  (.seq
   (.region [
     y 2 (.box 34 6 (.t 0)),
     y 4 (.mv (.c (.int .u64 0)))])
  (.seq
   (.region [
     y 5 (.addOff 5 (.t 2)),
     y 6 (.load false 1 (.t 5)),
     y 7 (.mv (.t 1)),
     y 8 (.conv .u64 (.t 7)),
     y 9 (.bin .mul .int (.t 8) (.c (.int .u64 11400714819323198485))),
     y 10 (.bin .add .int (.t 6) (.t 9)),
     y 4 (.mv (.t 10))])
  .ret)),
  [.tmp 4]⟩

/-- wainscot/chart.Link -/
def i32 : IFun := ⟨21,
  (.seq
   (.region [
     y 3 (.box 34 6 (.t 0)),
     y 4 (.box 3 1 (.t 1)),
     y 5 (.box 3 1 (.t 2)),
     y 6 (.mv (.c (.int .i64 0)))])
  (.seq
   (.seq
    (.region [
      y 7 (.load false 1 (.t 4)),
      y 8 (.bin .lss .int (.t 7) (.c (.int .i64 0))),
      y 9 (.mv (.t 8)),
      ⟨(some 10), .load false 1 (.t 4), (some (9, false)), [], [], false⟩,
      ⟨(some 11), .addOff 1 (.t 3), (some (9, false)), [], [], false⟩,
      ⟨(some 12), .load false 1 (.t 11), (some (9, false)), [], [], false⟩,
      ⟨(some 13), .bin .geq .int (.t 10) (.t 12), (some (9, false)), [], [], false⟩,
      y 14 (.pick (.t 9) (.c (.bool true)) (.t 13))])
   (.cond (.t 14)
    (.seq
     (.region [
       y 6 (.mv (.c (.int .i64 (-1))))])
    .ret)
    .skip))
  (.seq
   (.region [
     y 15 (.load true 6 (.t 3)),
     y 16 (.load false 1 (.t 5)),
     y 17 (.addOff 2 (.t 3)),
     y 18 (.load false 1 (.t 17)),
     y 19 (.mkFunc 51 [] [(.t 3), (.t 4), (.t 5)]),
     y 20 (.call (.c (.func (.func 35) #[] #[])) [(.t 15), (.t 16), (.t 18), (.t 19)] true),
     y 6 (.mv (.t 20))])
  .ret))),
  [.tmp 6]⟩

/-- (*wainscot/mem.Mem).access -/
def i33 : IFun := ⟨51,
  (.seq
   (.region [
     y 8 (.mv (.c (.int .i64 0)))])
  (.seq
   (.block 0
    (.seq
     (.region [
       y 10 (.mv (.t 0)),
       y 11 (.bin .eql .ptr (.t 10) (.c (.pointer none))),
       y 12 (.mv (.t 11)),
       ⟨(some 13), .mv (.t 0), (some (12, false)), [], [], false⟩,
       ⟨(some 14), .nilCheck (.t 13), (some (12, false)), [], [], false⟩,
       ⟨(some 15), .addOff 0 (.t 14), (some (12, false)), [], [], false⟩,
       ⟨(some 16), .load false 1 (.t 15), (some (12, false)), [], [], false⟩,
       ⟨(some 17), .bin .eql .slice (.t 16) (.c (.slice none 0 0)), (some (12, false)), [], [], false⟩,
       y 18 (.pick (.t 12) (.c (.bool true)) (.t 17)),
       y 9 (.mv (.t 18))])
    (.cond (.t 9)
     (.seq
      (.region [
        y 8 (.mv (.c (.int .i64 1)))])
     .ret)
     (.seq
      (.region [
        y 20 (.mv (.t 1)),
        y 21 (.bin .lss .int (.t 20) (.c (.int .i64 0))),
        y 22 (.mv (.t 21)),
        ⟨(some 23), .mv (.t 1), (some (22, false)), [], [], false⟩,
        ⟨(some 24), .mv (.t 0), (some (22, false)), [], [], false⟩,
        ⟨(some 25), .nilCheck (.t 24), (some (22, false)), [], [], false⟩,
        ⟨(some 26), .addOff 0 (.t 25), (some (22, false)), [], [], false⟩,
        ⟨(some 27), .load false 1 (.t 26), (some (22, false)), [], [], false⟩,
        ⟨(some 28), .lenS (.t 27), (some (22, false)), [], [], false⟩,
        ⟨(some 29), .mv (.t 2), (some (22, false)), [], [], false⟩,
        ⟨(some 30), .bin .sub .int (.t 28) (.t 29), (some (22, false)), [], [], false⟩,
        ⟨(some 31), .bin .gtr .int (.t 23) (.t 30), (some (22, false)), [], [], false⟩,
        y 32 (.pick (.t 22) (.c (.bool true)) (.t 31)),
        y 19 (.mv (.t 32))])
     (.cond (.t 19)
      (.seq
       (.region [
         y 8 (.mv (.c (.int .i64 9)))])
      .ret)
      .skip)))))
  (.seq
   (.region [
     y 33 (.mv (.t 0)),
     y 34 (.nilCheck (.t 33)),
     y 35 (.addOff 1 (.t 34)),
     y 36 (.load false 1 (.t 35)),
     y 37 (.bin .add .int (.t 36) (.c (.int .i64 1))),
     y 38 (.nilCheck (.t 33)),
     y 39 (.addOff 1 (.t 38)),
     x (.store 1 (.t 39) (.t 37))])
  (.seq
   (.region [
     y 40 (.mv (.t 3)),
     y 41 (.mv (.t 0)),
     y 42 (.nilCheck (.t 41)),
     y 43 (.addOff 0 (.t 42)),
     y 44 (.load false 1 (.t 43)),
     y 45 (.mv (.t 1)),
     y 46 (.mv (.t 1)),
     y 47 (.mv (.t 2)),
     y 48 (.bin .add .int (.t 46) (.t 47)),
     y 49 (.slice 22 (.t 44) (some (.t 45)) (some (.t 48)) none),
     y 50 (.call (.t 40) [(.t 49)] false)])
  (.seq
   (.region [
     y 8 (.mv (.c (.int .i64 0)))])
  .ret))))),
  [.tmp 8]⟩

/-- (*wainscot/mem.Mem).Store$1 -/
def i34 : IFun := ⟨6,
  (.region [
    y 3 (.mv (.t 0)),
    y 4 (.load false 1 (.t 1)),
    y 5 (.idxS 1 (.t 3) (.c (.int .i64 0))),
    x (.store 1 (.t 5) (.t 4))]),
  []⟩

/-- wainscot/chart.guarded -/
def i35 : IFun := ⟨23,
  (.seq
   (.region [
     y 4 (.box 34 6 (.t 0)),
     y 8 (.mv (.c (.int .i64 0)))])
  (.seq
   (.seq
    (.region [
      y 9 (.load true 6 (.t 4)),
      y 10 (.call (.c (.func (.func 25) #[] #[])) [(.t 9)] true),
      y 11 (.bin .neq .int (.t 10) (.c (.int .i64 0))),
      y 12 (.mv (.t 11)),
      ⟨(some 13), .mv (.t 1), (some (12, false)), [], [], false⟩,
      ⟨(some 14), .bin .lss .int (.t 13) (.c (.int .i64 0)), (some (12, false)), [], [], false⟩,
      y 15 (.pick (.t 12) (.c (.bool true)) (.t 14)),
      y 16 (.mv (.t 15)),
      ⟨(some 17), .mv (.t 1), (some (16, false)), [], [], false⟩,
      ⟨(some 18), .mv (.t 2), (some (16, false)), [], [], false⟩,
      ⟨(some 19), .bin .geq .int (.t 17) (.t 18), (some (16, false)), [], [], false⟩,
      y 20 (.pick (.t 16) (.c (.bool true)) (.t 19))])
   (.cond (.t 20)
    (.seq
     (.region [
       y 8 (.mv (.c (.int .i64 (-1))))])
    .ret)
    .skip))
  (.seq
   (.region [
     y 21 (.mv (.t 3)),
     y 22 (.call (.t 21) [] false),
     y 8 (.mv (.t 22))])
  .ret))),
  [.tmp 8]⟩

/-- wainscot/chart.Head$1 -/
def i36 : IFun := ⟨4,
  (.seq
   (.region [
     y 1 (.mv (.c (.int .i64 0)))])
  (.seq
   (.region [
     y 2 (.load false 1 (.t 0)),
     y 3 (.bin .mul .int (.c (.int .i64 4)) (.t 2)),
     y 1 (.mv (.t 3))])
  .ret)),
  [.tmp 1]⟩

/-- wainscot/flush.Step -/
def i37 : IFun := ⟨52,
  (.seq
   (.region [
     y 4 (.box 34 6 (.t 1)),
     y 5 (.box 24 17 (.t 2)),
     y 6 (.new 24 [(.int .i64 0), (.int .i64 0), (.int .i64 0), (.int .i64 0), (.int .i64 0), (.int .i64 0), (.int .i64 0), (.int .u64 0), (.int .u64 0), (.int .u64 0), (.int .u64 0), (.int .u64 0), (.int .i64 0), (.int .i64 0), (.int .i64 0), (.int .i64 0), (.int .i64 0)]),
     y 7 (.mv (.c (.int .i64 0)))])
  (.seq
   (.block 0
    (.seq
     (.region [
       y 11 (.mv (.t 0)),
       y 12 (.call (.c (.func (.func 52) #[] #[])) [(.t 11)] true),
       y 13 (.bin .eql .int (.t 12) (.c (.int .i64 0))),
       y 10 (.mv (.t 13))])
    (.cond (.t 10)
     (.seq
      (.region [
        y 14 (.build [(.int .i64 0), (.int .i64 0), (.int .i64 0), (.int .i64 0), (.int .i64 0), (.int .i64 0), (.int .i64 0), (.int .u64 0), (.int .u64 0), (.int .u64 0), (.int .u64 0), (.int .u64 0), (.int .i64 0), (.int .i64 0), (.int .i64 0), (.int .i64 0), (.int .i64 0)] []),
        x (.store 17 (.t 6) (.t 14)),
        y 7 (.mv (.c (.int .i64 1)))])
     .ret)
     (.seq
      (.region [
        y 16 (.load true 6 (.t 4)),
        y 17 (.call (.c (.func (.func 25) #[] #[])) [(.t 16)] true),
        y 18 (.bin .neq .int (.t 17) (.c (.int .i64 0))),
        y 15 (.mv (.t 18))])
     (.cond (.t 15)
      (.seq
       (.region [
         y 19 (.build [(.int .i64 0), (.int .i64 0), (.int .i64 0), (.int .i64 0), (.int .i64 0), (.int .i64 0), (.int .i64 0), (.int .u64 0), (.int .u64 0), (.int .u64 0), (.int .u64 0), (.int .u64 0), (.int .i64 0), (.int .i64 0), (.int .i64 0), (.int .i64 0), (.int .i64 0)] []),
         x (.store 17 (.t 6) (.t 19)),
         y 7 (.mv (.c (.int .i64 2)))])
      .ret)
      .skip)))))
  (.seq
   (.region [
     y 20 (.mv (.t 0)),
     y 21 (.load true 6 (.t 4)),
     y 22 (.load true 17 (.t 5)),
     y 23 (.build [(.pointer none), (.int .i64 0), (.int .i64 0), (.int .i64 0), (.int .i64 0), (.int .i64 0), (.int .u64 0), (.int .i64 0), (.int .i64 0), (.int .i64 0), (.int .i64 0), (.int .i64 0), (.int .i64 0), (.int .i64 0), (.int .u64 0), (.int .u64 0), (.int .u64 0), (.int .u64 0), (.int .u64 0), (.int .i64 0), (.int .i64 0), (.int .i64 0), (.int .i64 0), (.int .i64 0), (.bool false)] [(0, 1, (.t 20)), (1, 6, (.t 21)), (7, 17, (.t 22))]),
     y 24 (.box 36 25 (.t 23)),
     y 8 (.mv (.t 24))])
  (.seq
   (.region [
     y 25 (.mv (.t 8)),
     y 26 (.call (.c (.func (.func 53) #[] #[])) [(.t 25)] false),
     y 9 (.mv (.t 26))])
  (.seq
   (.seq
    (.region [
      y 27 (.mv (.t 9)),
      y 28 (.bin .eql .func (.t 27) (.c .nilFunc)),
      y 29 (.mv (.t 28)),
      ⟨(some 30), .addOff 3 (.t 5), (some (29, false)), [], [], false⟩,
      ⟨(some 31), .load false 1 (.t 30), (some (29, false)), [], [], false⟩,
      ⟨(some 32), .bin .neq .int (.t 31) (.c (.int .i64 0)), (some (29, false)), [], [], false⟩,
      y 33 (.pick (.t 29) (.c (.bool true)) (.t 32)),
      y 34 (.mv (.t 33)),
      ⟨(some 35), .addOff 4 (.t 5), (some (34, false)), [], [], false⟩,
      ⟨(some 36), .load false 1 (.t 35), (some (34, false)), [], [], false⟩,
      ⟨(some 37), .bin .neq .int (.t 36) (.c (.int .i64 0)), (some (34, false)), [], [], false⟩,
      y 38 (.pick (.t 34) (.c (.bool true)) (.t 37))])
   (.cond (.t 38)
    (.seq
     (.region [
       y 39 (.build [(.int .i64 0), (.int .i64 0), (.int .i64 0), (.int .i64 0), (.int .i64 0), (.int .i64 0), (.int .i64 0), (.int .u64 0), (.int .u64 0), (.int .u64 0), (.int .u64 0), (.int .u64 0), (.int .i64 0), (.int .i64 0), (.int .i64 0), (.int .i64 0), (.int .i64 0)] []),
       x (.store 17 (.t 6) (.t 39)),
       y 7 (.mv (.c (.int .i64 292)))])
    .ret)
    .skip))
  (.seq
   (.seq
    (.region [
      y 40 (.mv (.t 9)),
      y 41 (.call (.t 40) [] false)])
   (.seq
    (.region [
      y 42 (.mv (.t 8)),
      y 43 (.nilCheck (.t 42)),
      y 44 (.addOff 24 (.t 43)),
      y 45 (.load false 1 (.t 44))])
   (.cond (.t 45)
    (.seq
     (.region [
       y 46 (.addOff 3 (.t 5)),
       x (.store 1 (.t 46) (.c (.int .i64 3)))])
    (.seq
     (.region [
       y 47 (.load true 17 (.t 5)),
       x (.store 17 (.t 6) (.t 47)),
       y 7 (.mv (.c (.int .i64 0)))])
    .ret))
    .skip)))
  (.seq
   (.region [
     y 48 (.mv (.t 8)),
     y 49 (.nilCheck (.t 48)),
     y 50 (.addOff 7 (.t 49)),
     y 51 (.load true 17 (.t 50)),
     x (.store 17 (.t 6) (.t 51)),
     y 7 (.mv (.c (.int .i64 0)))])
  .ret))))))),
  [.cell 6 true 17, .tmp 7]⟩

/-- wainscot/chart.Lock -/
def i38 : IFun := ⟨6,
  (.seq
   (.region [
     y 1 (.box 34 6 (.t 0)),
     y 2 (.mv (.c (.int .i64 0)))])
  (.seq
   (.region [
     y 3 (.load true 6 (.t 1)),
     y 4 (.mkFunc 54 [] [(.t 1)]),
     y 5 (.call (.c (.func (.func 35) #[] #[])) [(.t 3), (.c (.int .i64 0)), (.c (.int .i64 1)), (.t 4)] true),
     y 2 (.mv (.t 5))])
  .ret)),
  [.tmp 2]⟩

/-- (wainscot/chart.reader).slot -/
def i39 : IFun := ⟨71,
  (.seq
   (.region [
     y 2 (.box 82 7 (.t 0)),
     y 4 (.new 84 [(.int .i64 0), (.slice none 0 0), (.int .u64 0), (.slice none 0 0)]),
     y 5 (.mv (.c (.bool false)))])
  (.seq
   (.region [
     y 10 (.addOff 1 (.t 2)),
     y 11 (.load true 6 (.t 10)),
     y 12 (.mv (.t 1)),
     y 13 (.call (.c (.func (.func 15) #[] #[])) [(.t 11), (.t 12)] true),
     y 6 (.mv (.t 13))])
  (.seq
   (.region [
     y 15 (.addOff 0 (.t 2)),
     y 16 (.load false 1 (.t 15)),
     y 17 (.mv (.t 6)),
     y 18 (.idxS 1 (.t 16) (.t 17)),
     y 19 (.load false 1 (.t 18)),
     y 20 (.call (.c (.func (.func 56) #[] #[])) [(.t 19)] true),
     y 14 (.mv (.t 20)),
     y 21 (.extract (.t 14) 0),
     y 22 (.extract (.t 14) 1),
     y 23 (.extract (.t 14) 2),
     y 7 (.mv (.t 21)),
     y 8 (.mv (.t 22)),
     y 9 (.mv (.t 23))])
  (.seq
   (.seq
    (.region [
      y 24 (.mv (.t 9)),
      y 25 (.un .not (.t 24)),
      y 26 (.mv (.t 25)),
      ⟨(some 27), .mv (.t 7), (some (26, false)), [], [], false⟩,
      ⟨(some 28), .addOff 1 (.t 2), (some (26, false)), [], [], false⟩,
      ⟨(some 29), .addOff 1 (.t 28), (some (26, false)), [], [], false⟩,
      ⟨(some 30), .load false 1 (.t 29), (some (26, false)), [], [], false⟩,
      ⟨(some 31), .bin .geq .int (.t 27) (.t 30), (some (26, false)), [], [], false⟩,
      y 32 (.pick (.t 26) (.c (.bool true)) (.t 31))])
   (.cond (.t 32)
    (.seq
     (.region [
       y 33 (.build [(.int .i64 0), (.slice none 0 0), (.int .u64 0), (.slice none 0 0)] []),
       x (.store 4 (.t 4) (.t 33)),
       y 5 (.mv (.c (.bool false)))])
    .ret)
    .skip))
  (.seq
   (.region [
     y 34 (.mv (.t 7)),
     y 35 (.addOff 0 (.t 2)),
     y 36 (.load false 1 (.t 35)),
     y 37 (.mv (.t 6)),
     y 38 (.bin .add .int (.t 37) (.c (.int .i64 1))),
     y 39 (.idxS 1 (.t 36) (.t 38)),
     y 40 (.load false 1 (.t 39)),
     y 41 (.build [(.int .i64 0), (.slice none 0 0), (.int .u64 0), (.slice none 0 0)] [(0, 1, (.t 34)), (2, 1, (.t 40))]),
     x (.store 4 (.t 4) (.t 41))])
  (.seq
   (.seq
    (.region [
      y 42 (.mv (.t 7)),
      y 43 (.bin .neq .int (.t 42) (.c (.int .i64 (-1))))])
   (.cond (.t 43)
    (.seq
     (.region [
       y 45 (.load true 7 (.t 2)),
       y 46 (.mv (.t 7)),
       y 47 (.mv (.t 8)),
       y 48 (.call (.c (.func (.func 57) #[] #[])) [(.t 45), (.t 46), (.t 47)] true),
       y 44 (.mv (.t 48)),
       y 49 (.extract (.t 44) 0),
       y 50 (.extract (.t 44) 1),
       y 51 (.addOff 1 (.t 4)),
       x (.store 1 (.t 51) (.t 49)),
       y 5 (.mv (.t 50))])
    (.seq
     (.region [
       y 52 (.mv (.t 5)),
       y 53 (.un .not (.t 52))])
    (.cond (.t 53)
     (.seq
      (.region [
        y 54 (.build [(.int .i64 0), (.slice none 0 0), (.int .u64 0), (.slice none 0 0)] []),
        x (.store 4 (.t 4) (.t 54)),
        y 5 (.mv (.c (.bool false)))])
     .ret)
     .skip)))
    .skip))
  (.seq
   (.seq
    (.region [
      y 56 (.load true 7 (.t 2)),
      y 57 (.addOff 0 (.t 2)),
      y 58 (.load false 1 (.t 57)),
      y 59 (.mv (.t 6)),
      y 60 (.bin .add .int (.t 59) (.c (.int .i64 2))),
      y 61 (.idxS 1 (.t 58) (.t 60)),
      y 62 (.load false 1 (.t 61)),
      y 63 (.call (.c (.func (.func 40) #[] #[])) [(.t 56), (.t 62), (.c (.func (.func 58) #[] #[]))] true),
      y 55 (.mv (.t 63)),
      y 64 (.extract (.t 55) 0),
      y 65 (.extract (.t 55) 1),
      y 66 (.addOff 3 (.t 4)),
      x (.store 1 (.t 66) (.t 64)),
      y 5 (.mv (.t 65))])
   (.seq
    (.region [
      y 67 (.mv (.t 5)),
      y 68 (.un .not (.t 67))])
   (.cond (.t 68)
    (.seq
     (.region [
       y 69 (.build [(.int .i64 0), (.slice none 0 0), (.int .u64 0), (.slice none 0 0)] []),
       x (.store 4 (.t 4) (.t 69)),
       y 5 (.mv (.c (.bool false)))])
    .ret)
    .skip)))
  (.seq
   (.region [
     y 70 (.load true 4 (.t 4)),
     x (.store 4 (.t 4) (.t 70)),
     y 5 (.mv (.c (.bool true)))])
  .ret)))))))),
  [.cell 4 true 4, .tmp 5]⟩

/-- (wainscot/chart.reader).chain -/
def i40 : IFun := ⟨48,
  (.seq
   (.region [
     y 3 (.box 82 7 (.t 0)),
     y 6 (.mv (.c (.slice none 0 0))),
     y 7 (.mv (.c (.bool false)))])
  (.seq
   (.region [
     y 11 (.mkMap),
     y 8 (.mv (.t 11))])
  (.block 0
   (.loop
    (.block 1
     (.seq
      (.region [
        y 13 (.mv (.t 2)),
        y 14 (.mv (.t 1)),
        y 15 (.call (.t 13) [(.t 14)] false),
        y 12 (.mv (.t 15)),
        y 16 (.extract (.t 12) 0),
        y 17 (.extract (.t 12) 1),
        y 9 (.mv (.t 16)),
        y 10 (.mv (.t 17))])
     (.seq
      (.block 2
       (.seq
        (.seq
         (.region [
           y 19 (.mv (.t 10)),
           y 20 (.un .not (.t 19)),
           y 18 (.mv (.t 20))])
        (.cond (.t 18)
         .skip
         (.seq
          (.region [
            y 21 (.mv (.t 9)),
            y 22 (.addOff 1 (.t 3)),
            y 23 (.addOff 1 (.t 22)),
            y 24 (.load false 1 (.t 23)),
            y 25 (.bin .geq .int (.t 21) (.t 24)),
            y 18 (.mv (.t 25))])
         (.cond (.t 18)
          .skip
          (.region [
            y 26 (.mv (.t 8)),
            y 27 (.mv (.t 9)),
            y 28 (.lookup (.int .i64 0) false (.t 26) (.t 27)),
            y 29 (.bin .gtr .int (.t 28) (.c (.int .i64 0))),
            y 18 (.mv (.t 29))])))))
       (.cond (.t 18)
        (.seq
         (.region [
           y 6 (.mv (.c (.slice none 0 0))),
           y 7 (.mv (.c (.bool false)))])
        .ret)
        (.seq
         (.region [
           y 31 (.mv (.t 9)),
           y 32 (.bin .eql .int (.t 31) (.c (.int .i64 (-1)))),
           y 30 (.mv (.t 32))])
        (.cond (.t 30)
         (.seq
          (.region [
            y 33 (.mv (.t 6)),
            y 6 (.mv (.t 33)),
            y 7 (.mv (.c (.bool true)))])
         .ret)
         .skip)))))
     (.seq
      (.region [
        y 34 (.mv (.t 8)),
        y 35 (.mv (.t 9)),
        x (.mapSet (.t 34) (.t 35) (.c (.int .i64 1)))])
     (.seq
      (.region [
        y 36 (.mv (.t 6)),
        y 37 (.mv (.t 9)),
        y 38 (.buildSlice 3 [(.int .i64 0)] 1 [(0, 1, (.t 37))]),
        y 39 (.append 3 1 8 (.t 36) (.t 38)),
        y 6 (.mv (.t 39))])
     (.region [
       y 40 (.addOff 0 (.t 3)),
       y 41 (.load false 1 (.t 40)),
       y 42 (.addOff 1 (.t 3)),
       y 43 (.load true 6 (.t 42)),
       y 44 (.mv (.t 9)),
       y 45 (.call (.c (.func (.func 59) #[] #[])) [(.t 43), (.t 44)] true),
       y 46 (.idxS 1 (.t 41) (.t 45)),
       y 47 (.load false 1 (.t 46)),
       y 1 (.mv (.t 47))])))))))))),
  [.tmp 6, .tmp 7]⟩

/-- wainscot/chart.Shelf -/
def i41 : IFun := ⟨6,
  (.seq
   (.region [
     y 1 (.box 34 6 (.t 0)),
     y 2 (.mv (.c (.int .i64 0)))])
  (.seq
   (.region [
     y 3 (.load true 6 (.t 1)),
     y 4 (.mkFunc 60 [] [(.t 1)]),
     y 5 (.call (.c (.func (.func 35) #[] #[])) [(.t 3), (.c (.int .i64 0)), (.c (.int .i64 1)), (.t 4)] true),
     y 2 (.mv (.t 5))])
  .ret)),
  [.tmp 2]⟩

/-- wainscot/chart.shelfOf -/
def i42 : IFun := ⟨9,
  (.seq
   (.region [
     y 2 (.mv (.c (.int .i64 0))),
     y 3 (.mv (.c (.bool false)))])
  (.seq
   (.region [
     y 4 (.mv (.t 0)),
     y 5 (.conv .i64 (.t 4)),
     y 6 (.bin .sub .int (.t 5) (.c (.int .i64 1))),
     y 7 (.mv (.t 0)),
     y 8 (.bin .leq .int (.t 7) (.c (.int .u64 32))),
     y 2 (.mv (.t 6)),
     y 3 (.mv (.t 8))])
  .ret)),
  [.tmp 2, .tmp 3]⟩

/-- (wainscot/chart.reader).slab -/
def i43 : IFun := ⟨53,
  (.seq
   (.region [
     y 2 (.box 82 7 (.t 0)),
     y 4 (.new 62 [(.int .i64 0), (.int .i64 0), (.bool false), (.bool false), (.slice none 0 0)]),
     y 5 (.mv (.c (.bool false)))])
  (.seq
   (.region [
     y 8 (.addOff 1 (.t 2)),
     y 9 (.load true 6 (.t 8)),
     y 10 (.mv (.t 1)),
     y 11 (.call (.c (.func (.func 29) #[] #[])) [(.t 9), (.t 10)] true),
     y 6 (.mv (.t 11))])
  (.seq
   (.region [
     y 12 (.addOff 0 (.t 2)),
     y 13 (.load false 1 (.t 12)),
     y 14 (.mv (.t 6)),
     y 15 (.idxS 1 (.t 13) (.t 14)),
     y 16 (.load false 1 (.t 15)),
     y 7 (.mv (.t 16))])
  (.seq
   (.seq
    (.region [
      y 18 (.addOff 0 (.t 2)),
      y 19 (.load false 1 (.t 18)),
      y 20 (.mv (.t 6)),
      y 21 (.bin .add .int (.t 20) (.c (.int .i64 1))),
      y 22 (.idxS 1 (.t 19) (.t 21)),
      y 23 (.load false 1 (.t 22)),
      y 24 (.call (.c (.func (.func 61) #[] #[])) [(.t 23)] true),
      y 17 (.mv (.t 24)),
      y 25 (.extract (.t 17) 0),
      y 26 (.extract (.t 17) 1),
      y 27 (.addOff 0 (.t 4)),
      x (.store 4 (.t 27) (.t 25)),
      y 5 (.mv (.t 26))])
   (.seq
    (.region [
      y 28 (.mv (.t 5)),
      y 29 (.un .not (.t 28)),
      y 30 (.mv (.t 29)),
      ⟨(some 31), .mv (.t 7), (some (30, false)), [], [], false⟩,
      ⟨(some 32), .addOff 1 (.t 2), (some (30, false)), [], [], false⟩,
      ⟨(some 33), .addOff 2 (.t 32), (some (30, false)), [], [], false⟩,
      ⟨(some 34), .load false 1 (.t 33), (some (30, false)), [], [], false⟩,
      ⟨(some 35), .conv .u64 (.t 34), (some (30, false)), [], [], false⟩,
      ⟨(some 36), .bin .gtr .int (.t 31) (.t 35), (some (30, false)), [], [], false⟩,
      y 37 (.pick (.t 30) (.c (.bool true)) (.t 36))])
   (.cond (.t 37)
    (.seq
     (.region [
       y 38 (.build [(.int .i64 0), (.int .i64 0), (.bool false), (.bool false), (.slice none 0 0)] []),
       x (.store 5 (.t 4) (.t 38)),
       y 5 (.mv (.c (.bool false)))])
    .ret)
    .skip)))
  (.seq
   (.seq
    (.region [
      y 40 (.load true 7 (.t 2)),
      y 41 (.mv (.t 1)),
      y 42 (.mv (.t 7)),
      y 43 (.conv .i64 (.t 42)),
      y 44 (.bin .sub .int (.t 43) (.c (.int .i64 1))),
      y 45 (.call (.c (.func (.func 57) #[] #[])) [(.t 40), (.t 41), (.t 44)] true),
      y 39 (.mv (.t 45)),
      y 46 (.extract (.t 39) 0),
      y 47 (.extract (.t 39) 1),
      y 48 (.addOff 4 (.t 4)),
      x (.store 1 (.t 48) (.t 46)),
      y 5 (.mv (.t 47))])
   (.seq
    (.region [
      y 49 (.mv (.t 5)),
      y 50 (.un .not (.t 49))])
   (.cond (.t 50)
    (.seq
     (.region [
       y 51 (.build [(.int .i64 0), (.int .i64 0), (.bool false), (.bool false), (.slice none 0 0)] []),
       x (.store 5 (.t 4) (.t 51)),
       y 5 (.mv (.c (.bool false)))])
    .ret)
    .skip)))
  (.seq
   (.region [
     y 52 (.load true 5 (.t 4)),
     x (.store 5 (.t 4) (.t 52)),
     y 5 (.mv (.c (.bool true)))])
  .ret)))))),
  [.cell 4 true 5, .tmp 5]⟩

/-- slices.Clone[[]uint64,uint64] -/
def i44 : IFun := ⟨8,
  (.seq
   (.region [
     y 2 (.mv (.c (.slice none 0 0)))])
  (.seq
   (.seq
    (.region [
      y 3 (.mv (.t 0)),
      y 4 (.bin .eql .slice (.t 3) (.c (.slice none 0 0)))])
   (.cond (.t 4)
    (.seq
     (.region [
       y 2 (.mv (.c (.slice none 0 0)))])
    .ret)
    .skip))
  (.seq
   (.region [
     y 5 (.buildSlice 22 [] 0 []),
     y 6 (.mv (.t 0)),
     y 7 (.append 22 1 8 (.t 5) (.t 6)),
     y 2 (.mv (.t 7))])
  .ret))),
  [.tmp 2]⟩

/-- wainscot/chart.slabs -/
def i45 : IFun := ⟨6,
  (.seq
   (.region [
     y 1 (.box 34 6 (.t 0)),
     y 2 (.mv (.c (.int .i64 0)))])
  (.seq
   (.region [
     y 3 (.load true 6 (.t 1)),
     y 4 (.call (.c (.func (.func 55) #[] #[])) [(.t 3)] true),
     y 5 (.bin .add .int (.t 4) (.c (.int .i64 4))),
     y 2 (.mv (.t 5))])
  .ret)),
  [.tmp 2]⟩

/-- wainscot/count.may -/
def i46 : IFun := ⟨32,
  (.seq
   (.region [
     y 1 (.box 60 4 (.t 0)),
     y 2 (.mv (.c (.bool false)))])
  (.seq
   (.region [
     y 3 (.addOff 3 (.t 1)),
     y 4 (.load false 1 (.t 3)),
     y 5 (.mv (.t 4)),
     ⟨(some 6), .addOff 1 (.t 1), (some (5, true)), [], [], false⟩,
     ⟨(some 7), .load false 1 (.t 6), (some (5, true)), [], [], false⟩,
     ⟨(some 8), .bin .leq .int (.c (.int .i64 1)) (.t 7), (some (5, true)), [], [], false⟩,
     y 9 (.pick (.t 5) (.t 8) (.c (.bool false))),
     y 10 (.mv (.t 9)),
     ⟨(some 11), .addOff 1 (.t 1), (some (10, true)), [], [], false⟩,
     ⟨(some 12), .load false 1 (.t 11), (some (10, true)), [], [], false⟩,
     ⟨(some 13), .bin .leq .int (.t 12) (.c (.int .i64 16)), (some (10, true)), [], [], false⟩,
     y 14 (.pick (.t 10) (.t 13) (.c (.bool false))),
     y 15 (.mv (.t 14)),
     ⟨(some 16), .addOff 0 (.t 1), (some (15, true)), [], [], false⟩,
     ⟨(some 17), .load false 1 (.t 16), (some (15, true)), [], [], false⟩,
     ⟨(some 18), .bin .leq .int (.c (.int .i64 0)) (.t 17), (some (15, true)), [], [], false⟩,
     y 19 (.pick (.t 15) (.t 18) (.c (.bool false))),
     y 20 (.mv (.t 19)),
     ⟨(some 21), .addOff 0 (.t 1), (some (20, true)), [], [], false⟩,
     ⟨(some 22), .load false 1 (.t 21), (some (20, true)), [], [], false⟩,
     ⟨(some 23), .addOff 1 (.t 1), (some (20, true)), [], [], false⟩,
     ⟨(some 24), .load false 1 (.t 23), (some (20, true)), [], [], false⟩,
     ⟨(some 25), .bin .leq .int (.t 22) (.t 24), (some (20, true)), [], [], false⟩,
     y 26 (.pick (.t 20) (.t 25) (.c (.bool false))),
     y 27 (.mv (.t 26)),
     ⟨(some 28), .load true 4 (.t 1), (some (27, false)), [], [], false⟩,
     ⟨(some 29), .build [(.int .i64 0), (.int .i64 0), (.bool false), (.bool false)] [], (some (27, false)), [], [], false⟩,
     ⟨(some 30), .bin .eql (.plain [(some .i64), (some .i64), none, none]) (.t 28) (.t 29), (some (27, false)), [], [], false⟩,
     y 31 (.pick (.t 27) (.c (.bool true)) (.t 30)),
     y 2 (.mv (.t 31))])
  .ret)),
  [.tmp 2]⟩

/-- wainscot/count.flag -/
def i47 : IFun := ⟨7,
  (.seq
   (.region [
     y 4 (.mv (.c (.int .u64 0)))])
  (.seq
   (.seq
    (.region [
      y 5 (.mv (.t 0))])
   (.cond (.t 5)
    (.seq
     (.region [
       y 6 (.mv (.t 1)),
       y 4 (.mv (.t 6))])
    .ret)
    .skip))
  (.seq
   (.region [
     y 4 (.mv (.c (.int .u64 0)))])
  .ret))),
  [.tmp 4]⟩

/-- wainscot/chart.First$1 -/
def i48 : IFun := ⟨8,
  (.seq
   (.region [
     y 2 (.mv (.c (.int .i64 0)))])
  (.seq
   (.region [
     y 3 (.load true 6 (.t 0)),
     y 4 (.call (.c (.func (.func 45) #[] #[])) [(.t 3)] true),
     y 5 (.load false 1 (.t 1)),
     y 6 (.bin .mul .int (.c (.int .i64 4)) (.t 5)),
     y 7 (.bin .add .int (.t 4) (.t 6)),
     y 2 (.mv (.t 7))])
  .ret)),
  [.tmp 2]⟩

/-- wainscot/link.object -/
def i49 : IFun := ⟨9,
  (.seq
   (.region [
     y 2 (.mv (.c (.bool false)))])
  (.seq
   (.region [
     y 3 (.mv (.t 0)),
     y 4 (.bin .leq .int (.c (.int .i64 0)) (.t 3)),
     y 5 (.mv (.t 4)),
     ⟨(some 6), .mv (.t 0), (some (5, true)), [], [], false⟩,
     ⟨(some 7), .bin .lss .int (.t 6) (.c (.int .i64 16)), (some (5, true)), [], [], false⟩,
     y 8 (.pick (.t 5) (.t 7) (.c (.bool false))),
     y 2 (.mv (.t 8))])
  .ret)),
  [.tmp 2]⟩

/-- wainscot/link.turned -/
def i50 : IFun := ⟨13,
  (.seq
   (.region [
     y 4 (.mv (.c (.int .u64 0)))])
  (.seq
   (.region [
     y 5 (.mv (.t 0)),
     y 6 (.mv (.t 1)),
     y 7 (.bin .mul .int (.c (.int .i64 5)) (.t 6)),
     y 8 (.call (.c (.func (.func 62) #[] #[])) [(.t 5), (.t 7)] true),
     y 9 (.mv (.t 1)),
     y 10 (.conv .u64 (.t 9)),
     y 11 (.bin .mul .int (.t 10) (.c (.int .u64 2654435769))),
     y 12 (.bin .add .int (.t 8) (.t 11)),
     y 4 (.mv (.t 12))])
  .ret)),
  [.tmp 4]⟩

/-- wainscot/chart.Link$1 -/
def i51 : IFun := ⟨13,
  (.seq
   (.region [
     y 3 (.mv (.c (.int .i64 0)))])
  (.seq
   (.region [
     y 4 (.load true 6 (.t 0)),
     y 5 (.call (.c (.func (.func 26) #[] #[])) [(.t 4)] true),
     y 6 (.load false 1 (.t 1)),
     y 7 (.addOff 2 (.t 0)),
     y 8 (.load false 1 (.t 7)),
     y 9 (.bin .mul .int (.t 6) (.t 8)),
     y 10 (.bin .add .int (.t 5) (.t 9)),
     y 11 (.load false 1 (.t 2)),
     y 12 (.bin .add .int (.t 10) (.t 11)),
     y 3 (.mv (.t 12))])
  .ret)),
  [.tmp 3]⟩

/-- (*wainscot/mem.Mem).Len -/
def i52 : IFun := ⟨10,
  (.seq
   (.region [
     y 2 (.mv (.c (.int .i64 0)))])
  (.seq
   (.seq
    (.region [
      y 3 (.mv (.t 0)),
      y 4 (.bin .eql .ptr (.t 3) (.c (.pointer none)))])
   (.cond (.t 4)
    (.seq
     (.region [
       y 2 (.mv (.c (.int .i64 0)))])
    .ret)
    .skip))
  (.seq
   (.region [
     y 5 (.mv (.t 0)),
     y 6 (.nilCheck (.t 5)),
     y 7 (.addOff 0 (.t 6)),
     y 8 (.load false 1 (.t 7)),
     y 9 (.lenS (.t 8)),
     y 2 (.mv (.t 9))])
  .ret))),
  [.tmp 2]⟩

/-- (*wainscot/flush.step).do -/
def i53 : IFun := ⟨68,
  (.seq
   (.region [
     y 2 (.mv (.c .nilFunc))])
  (.seq
   (.seq
    (.region [
      y 3 (.mv (.t 0)),
      y 4 (.nilCheck (.t 3)),
      y 5 (.addOff 7 (.t 4)),
      y 6 (.addOff 2 (.t 5)),
      y 7 (.load false 1 (.t 6))])
   (.block 0
    (.seq
     (.seq
      (.region [
        y 9 (.bin .eql .int (.t 7) (.c (.int .i64 70))),
        y 8 (.mv (.t 9))])
     (.cond (.t 8)
      .skip
      (.seq
       (.region [
         y 10 (.bin .eql .int (.t 7) (.c (.int .i64 71))),
         y 8 (.mv (.t 10))])
      (.cond (.t 8)
       .skip
       (.region [
         y 11 (.bin .eql .int (.t 7) (.c (.int .i64 72))),
         y 8 (.mv (.t 11))])))))
    (.cond (.t 8)
     (.seq
      (.region [
        y 12 (.mv (.t 0)),
        y 13 (.mkFunc 63 [(.t 12)] []),
        y 2 (.mv (.t 13))])
     .ret)
     (.seq
      (.seq
       (.region [
         y 15 (.bin .eql .int (.t 7) (.c (.int .i64 73))),
         y 14 (.mv (.t 15))])
      (.cond (.t 14)
       .skip
       (.seq
        (.region [
          y 16 (.bin .eql .int (.t 7) (.c (.int .i64 74))),
          y 14 (.mv (.t 16))])
       (.cond (.t 14)
        .skip
        (.region [
          y 17 (.bin .eql .int (.t 7) (.c (.int .i64 75))),
          y 14 (.mv (.t 17))])))))
     (.cond (.t 14)
      (.seq
       (.region [
         y 18 (.mv (.t 0)),
         y 19 (.mkFunc 64 [(.t 18)] []),
         y 2 (.mv (.t 19))])
      .ret)
      (.seq
       (.seq
        (.region [
          y 21 (.bin .eql .int (.t 7) (.c (.int .i64 76))),
          y 20 (.mv (.t 21))])
       (.cond (.t 20)
        .skip
        (.region [
          y 22 (.bin .eql .int (.t 7) (.c (.int .i64 77))),
          y 20 (.mv (.t 22))])))
      (.cond (.t 20)
       (.seq
        (.region [
          y 23 (.mv (.t 0)),
          y 24 (.mkFunc 65 [(.t 23)] []),
          y 2 (.mv (.t 24))])
       .ret)
       (.seq
        (.region [
          y 26 (.bin .eql .int (.t 7) (.c (.int .i64 79))),
          y 25 (.mv (.t 26))])
       (.cond (.t 25)
        (.seq
         (.region [
           y 27 (.mv (.t 0)),
           y 28 (.mkFunc 66 [(.t 27)] []),
           y 2 (.mv (.t 28))])
        .ret)
        (.seq
         (.seq
          (.region [
            y 30 (.bin .eql .int (.t 7) (.c (.int .i64 80))),
            y 29 (.mv (.t 30))])
         (.cond (.t 29)
          .skip
          (.region [
            y 31 (.bin .eql .int (.t 7) (.c (.int .i64 81))),
            y 29 (.mv (.t 31))])))
        (.cond (.t 29)
         (.seq
          (.region [
            y 32 (.mv (.t 0)),
            y 33 (.mkFunc 67 [(.t 32)] []),
            y 2 (.mv (.t 33))])
         .ret)
         (.seq
          (.seq
           (.region [
             y 35 (.bin .eql .int (.t 7) (.c (.int .i64 84))),
             y 34 (.mv (.t 35))])
          (.cond (.t 34)
           .skip
           (.seq
            (.region [
              y 36 (.bin .eql .int (.t 7) (.c (.int .i64 85))),
              y 34 (.mv (.t 36))])
           (.cond (.t 34)
            .skip
            (.region [
              y 37 (.bin .eql .int (.t 7) (.c (.int .i64 86))),
              y 34 (.mv (.t 37))])))))
         (.cond (.t 34)
          (.seq
           (.region [
             y 38 (.mv (.t 0)),
             y 39 (.mkFunc 68 [(.t 38)] []),
             y 2 (.mv (.t 39))])
          .ret)
          (.seq
           (.region [
             y 41 (.bin .eql .int (.t 7) (.c (.int .i64 87))),
             y 40 (.mv (.t 41))])
          (.cond (.t 40)
           (.seq
            (.region [
              y 42 (.mv (.t 0)),
              y 43 (.mkFunc 69 [(.t 42)] []),
              y 2 (.mv (.t 43))])
           .ret)
           (.seq
            (.seq
             (.region [
               y 45 (.bin .eql .int (.t 7) (.c (.int .i64 88))),
               y 44 (.mv (.t 45))])
            (.cond (.t 44)
             .skip
             (.seq
              (.region [
                y 46 (.bin .eql .int (.t 7) (.c (.int .i64 90))),
                y 44 (.mv (.t 46))])
             (.cond (.t 44)
              .skip
              (.seq
               (.region [
                 y 47 (.bin .eql .int (.t 7) (.c (.int .i64 91))),
                 y 44 (.mv (.t 47))])
              (.cond (.t 44)
               .skip
               (.seq
                (.region [
                  y 48 (.bin .eql .int (.t 7) (.c (.int .i64 92))),
                  y 44 (.mv (.t 48))])
               (.cond (.t 44)
                .skip
                (.seq
                 (.region [
                   y 49 (.bin .eql .int (.t 7) (.c (.int .i64 93))),
                   y 44 (.mv (.t 49))])
                (.cond (.t 44)
                 .skip
                 (.region [
                   y 50 (.bin .eql .int (.t 7) (.c (.int .i64 94))),
                   y 44 (.mv (.t 50))])))))))))))
           (.cond (.t 44)
            (.seq
             (.region [
               y 51 (.mv (.t 0)),
               y 52 (.mkFunc 70 [(.t 51)] []),
               y 2 (.mv (.t 52))])
            .ret)
            (.seq
             (.seq
              (.region [
                y 54 (.bin .eql .int (.t 7) (.c (.int .i64 95))),
                y 53 (.mv (.t 54))])
             (.cond (.t 53)
              .skip
              (.seq
               (.region [
                 y 55 (.bin .eql .int (.t 7) (.c (.int .i64 96))),
                 y 53 (.mv (.t 55))])
              (.cond (.t 53)
               .skip
               (.seq
                (.region [
                  y 56 (.bin .eql .int (.t 7) (.c (.int .i64 97))),
                  y 53 (.mv (.t 56))])
               (.cond (.t 53)
                .skip
                (.seq
                 (.region [
                   y 57 (.bin .eql .int (.t 7) (.c (.int .i64 98))),
                   y 53 (.mv (.t 57))])
                (.cond (.t 53)
                 .skip
                 (.region [
                   y 58 (.bin .eql .int (.t 7) (.c (.int .i64 99))),
                   y 53 (.mv (.t 58))])))))))))
            (.cond (.t 53)
             (.seq
              (.region [
                y 59 (.mv (.t 0)),
                y 60 (.mkFunc 71 [(.t 59)] []),
                y 2 (.mv (.t 60))])
             .ret)
             (.seq
              (.seq
               (.region [
                 y 62 (.bin .eql .int (.t 7) (.c (.int .i64 100))),
                 y 61 (.mv (.t 62))])
              (.cond (.t 61)
               .skip
               (.seq
                (.region [
                  y 63 (.bin .eql .int (.t 7) (.c (.int .i64 101))),
                  y 61 (.mv (.t 63))])
               (.cond (.t 61)
                .skip
                (.seq
                 (.region [
                   y 64 (.bin .eql .int (.t 7) (.c (.int .i64 102))),
                   y 61 (.mv (.t 64))])
                (.cond (.t 61)
                 .skip
                 (.region [
                   y 65 (.bin .eql .int (.t 7) (.c (.int .i64 103))),
                   y 61 (.mv (.t 65))])))))))
             (.cond (.t 61)
              (.seq
               (.region [
                 y 66 (.mv (.t 0)),
                 y 67 (.mkFunc 72 [(.t 66)] []),
                 y 2 (.mv (.t 67))])
              .ret)
              .skip))))))))))))))))))))))
  (.seq
   (.region [
     y 2 (.mv (.c .nilFunc))])
  .ret))),
  [.tmp 2]⟩

/-- wainscot/chart.Lock$1 -/
def i54 : IFun := ⟨4,
  (.seq
   (.region [
     y 1 (.mv (.c (.int .i64 0)))])
  (.seq
   (.region [
     y 2 (.load true 6 (.t 0)),
     y 3 (.call (.c (.func (.func 55) #[] #[])) [(.t 2)] true),
     y 1 (.mv (.t 3))])
  .ret)),
  [.tmp 1]⟩

/-- wainscot/chart.base -/
def i55 : IFun := ⟨6,
  (.seq
   (.region [
     y 1 (.box 34 6 (.t 0)),
     y 2 (.mv (.c (.int .i64 0)))])
  (.seq
   (.region [
     y 3 (.addOff 0 (.t 1)),
     y 4 (.load false 1 (.t 3)),
     y 5 (.bin .mul .int (.c (.int .i64 4)) (.t 4)),
     y 2 (.mv (.t 5))])
  .ret)),
  [.tmp 2]⟩

/-- wainscot/count.HeadOf -/
def i56 : IFun := ⟨15,
  (.seq
   (.region [
     y 2 (.mv (.c (.int .i64 0))),
     y 3 (.mv (.c (.int .i64 0))),
     y 4 (.mv (.c (.bool false)))])
  (.seq
   (.region [
     y 6 (.mv (.t 0)),
     y 7 (.call (.c (.func (.func 73) #[] #[])) [(.t 6), (.c (.int .i64 1)), (.c (.int .i64 1)), (.c (.func (.func 74) #[] #[]))] true),
     y 5 (.mv (.t 7)),
     y 8 (.extract (.t 5) 0),
     y 9 (.extract (.t 5) 1),
     y 10 (.extract (.t 5) 2),
     y 2 (.mv (.t 8)),
     y 3 (.mv (.t 9)),
     y 4 (.mv (.t 10))])
  (.seq
   (.seq
    (.region [
      y 11 (.mv (.t 4)),
      y 12 (.un .not (.t 11))])
   (.cond (.t 12)
    (.seq
     (.region [
       y 2 (.mv (.c (.int .i64 (-1)))),
       y 3 (.mv (.c (.int .i64 (-1)))),
       y 4 (.mv (.c (.bool false)))])
    .ret)
    .skip))
  (.seq
   (.region [
     y 13 (.mv (.t 2)),
     y 14 (.mv (.t 3)),
     y 2 (.mv (.t 13)),
     y 3 (.mv (.t 14)),
     y 4 (.mv (.c (.bool true)))])
  .ret)))),
  [.tmp 2, .tmp 3, .tmp 4]⟩

/-- (wainscot/chart.reader).list -/
def i57 : IFun := ⟨41,
  (.seq
   (.region [
     y 3 (.box 82 7 (.t 0)),
     y 6 (.mv (.c (.slice none 0 0))),
     y 7 (.mv (.c (.bool false)))])
  (.seq
   (.seq
    (.region [
      y 11 (.mv (.t 2)),
      y 12 (.addOff 1 (.t 3)),
      y 13 (.addOff 2 (.t 12)),
      y 14 (.load false 1 (.t 13)),
      y 15 (.bin .geq .int (.t 11) (.t 14))])
   (.cond (.t 15)
    (.seq
     (.region [
       y 6 (.mv (.c (.slice none 0 0))),
       y 7 (.mv (.c (.bool false)))])
    .ret)
    .skip))
  (.seq
   (.region [
     y 16 (.addOff 1 (.t 3)),
     y 17 (.load true 6 (.t 16)),
     y 18 (.mv (.t 1)),
     y 19 (.call (.c (.func (.func 32) #[] #[])) [(.t 17), (.t 18), (.c (.int .i64 0))] true),
     y 8 (.mv (.t 19))])
  (.seq
   (.region [
     y 21 (.addOff 0 (.t 3)),
     y 22 (.load false 1 (.t 21)),
     y 23 (.mv (.t 8)),
     y 24 (.mv (.t 8)),
     y 25 (.addOff 1 (.t 3)),
     y 26 (.addOff 2 (.t 25)),
     y 27 (.load false 1 (.t 26)),
     y 28 (.bin .add .int (.t 24) (.t 27)),
     y 29 (.slice 22 (.t 22) (some (.t 23)) (some (.t 28)) none),
     y 30 (.addOff 1 (.t 3)),
     y 31 (.load true 6 (.t 30)),
     y 32 (.mv (.t 1)),
     y 33 (.call (.c (.func (.func 31) #[] #[])) [(.t 31), (.t 32)] true),
     y 34 (.mv (.t 2)),
     y 35 (.call (.c (.func (.func 75) #[] #[])) [(.t 29), (.t 33), (.t 34)] true),
     y 20 (.mv (.t 35)),
     y 36 (.extract (.t 20) 0),
     y 37 (.extract (.t 20) 1),
     y 9 (.mv (.t 36)),
     y 10 (.mv (.t 37))])
  (.seq
   (.region [
     y 38 (.mv (.t 9)),
     y 39 (.mv (.t 10)),
     y 40 (.bin .eql .int (.t 39) (.c (.int .i64 0))),
     y 6 (.mv (.t 38)),
     y 7 (.mv (.t 40))])
  .ret))))),
  [.tmp 6, .tmp 7]⟩

/-- wainscot/chart.partOf -/
def i58 : IFun := ⟨15,
  (.seq
   (.region [
     y 2 (.mv (.c (.int .i64 0))),
     y 3 (.mv (.c (.bool false)))])
  (.seq
   (.region [
     y 8 (.mv (.t 0)),
     y 9 (.call (.c (.func (.func 76) #[] #[])) [(.t 8)] true),
     y 7 (.mv (.t 9)),
     y 10 (.extract (.t 7) 0),
     y 11 (.extract (.t 7) 1),
     y 12 (.extract (.t 7) 2),
     y 4 (.mv (.t 10)),
     y 5 (.mv (.t 11)),
     y 6 (.mv (.t 12))])
  (.seq
   (.region [
     y 13 (.mv (.t 4)),
     y 14 (.mv (.t 6)),
     y 2 (.mv (.t 13)),
     y 3 (.mv (.t 14))])
  .ret))),
  [.tmp 2, .tmp 3]⟩

/-- wainscot/chart.Next -/
def i59 : IFun := ⟨11,
  (.seq
   (.region [
     y 2 (.box 34 6 (.t 0)),
     y 3 (.box 3 1 (.t 1)),
     y 4 (.mv (.c (.int .i64 0)))])
  (.seq
   (.region [
     y 5 (.load true 6 (.t 2)),
     y 6 (.load false 1 (.t 3)),
     y 7 (.addOff 1 (.t 2)),
     y 8 (.load false 1 (.t 7)),
     y 9 (.mkFunc 77 [] [(.t 2), (.t 3)]),
     y 10 (.call (.c (.func (.func 35) #[] #[])) [(.t 5), (.t 6), (.t 8), (.t 9)] true),
     y 4 (.mv (.t 10))])
  .ret)),
  [.tmp 4]⟩

/-- wainscot/chart.Shelf$1 -/
def i60 : IFun := ⟨5,
  (.seq
   (.region [
     y 1 (.mv (.c (.int .i64 0)))])
  (.seq
   (.region [
     y 2 (.load true 6 (.t 0)),
     y 3 (.call (.c (.func (.func 55) #[] #[])) [(.t 2)] true),
     y 4 (.bin .add .int (.t 3) (.c (.int .i64 1))),
     y 1 (.mv (.t 4))])
  .ret)),
  [.tmp 1]⟩

/-- wainscot/count.Counts -/
def i61 : IFun := ⟨28,
  (.seq
   (.region [
     y 2 (.new 60 [(.int .i64 0), (.int .i64 0), (.bool false), (.bool false)]),
     y 3 (.mv (.c (.bool false)))])
  (.seq
   (.region [
     y 5 (.mv (.t 0)),
     y 6 (.bin .and .int (.t 5) (.c (.int .u64 255))),
     y 7 (.conv .i64 (.t 6)),
     y 8 (.mv (.t 0)),
     y 9 (.bin .shr .int (.t 8) (.c (.int .u64 8))),
     y 10 (.bin .and .int (.t 9) (.c (.int .u64 255))),
     y 11 (.conv .i64 (.t 10)),
     y 12 (.mv (.t 0)),
     y 13 (.bin .and .int (.t 12) (.c (.int .u64 65536))),
     y 14 (.bin .neq .int (.t 13) (.c (.int .u64 0))),
     y 15 (.mv (.t 0)),
     y 16 (.bin .and .int (.t 15) (.c (.int .u64 131072))),
     y 17 (.bin .neq .int (.t 16) (.c (.int .u64 0))),
     y 18 (.build [(.int .i64 0), (.int .i64 0), (.bool false), (.bool false)] [(0, 1, (.t 7)), (1, 1, (.t 11)), (2, 1, (.t 14)), (3, 1, (.t 17))]),
     y 4 (.new 60 [(.int .i64 0), (.int .i64 0), (.bool false), (.bool false)]),
     x (.store 4 (.t 4) (.t 18))])
  (.seq
   (.seq
    (.region [
      y 19 (.mv (.t 0)),
      y 20 (.bin .geq .int (.t 19) (.c (.int .u64 262144))),
      y 21 (.mv (.t 20)),
      ⟨(some 22), .load true 4 (.t 4), (some (21, false)), [], [], false⟩,
      ⟨(some 23), .call (.c (.func (.func 46) #[] #[])) [(.t 22)] true, (some (21, false)), [], [], false⟩,
      ⟨(some 24), .un .not (.t 23), (some (21, false)), [], [], false⟩,
      y 25 (.pick (.t 21) (.c (.bool true)) (.t 24))])
   (.cond (.t 25)
    (.seq
     (.region [
       y 26 (.build [(.int .i64 0), (.int .i64 0), (.bool false), (.bool false)] []),
       x (.store 4 (.t 2) (.t 26)),
       y 3 (.mv (.c (.bool false)))])
    .ret)
    .skip))
  (.seq
   (.region [
     y 27 (.load true 4 (.t 4)),
     x (.store 4 (.t 2) (.t 27)),
     y 3 (.mv (.c (.bool true)))])
  .ret)))),
  [.cell 2 true 4, .tmp 3]⟩

/-- math/bits.RotateLeft64 -/
def i62 : IFun := ⟨17,
  (.seq
   (.region [
     y 4 (.mv (.c (.int .u64 0)))])
  (.seq
   (.region [
     y 6 (.mv (.t 1)),
     y 7 (.conv .u64 (.t 6)),
     y 8 (.bin .and .int (.t 7) (.c (.int .u64 63))),
     y 5 (.mv (.t 8))])
  (.seq
   (.region [
     y 9 (.mv (.t 0)),
     y 10 (.mv (.t 5)),
     y 11 (.bin .shl .int (.t 9) (.t 10)),
     y 12 (.mv (.t 0)),
     y 13 (.mv (.t 5)),
     y 14 (.bin .sub .int (.c (.int .u64 64)) (.t 13)),
     y 15 (.bin .shr .int (.t 12) (.t 14)),
     y 16 (.bin .or .int (.t 11) (.t 15)),
     y 4 (.mv (.t 16))])
  .ret))),
  [.tmp 4]⟩

/-- (*wainscot/flush.step).head -/
def i63 : IFun := ⟨119,
  (.seq
   (.region [
     y 6 (.mv (.t 0)),
     y 7 (.nilCheck (.t 6)),
     y 8 (.addOff 1 (.t 7)),
     y 9 (.load true 6 (.t 8)),
     y 10 (.mv (.t 0)),
     y 11 (.nilCheck (.t 10)),
     y 12 (.addOff 7 (.t 11)),
     y 13 (.addOff 16 (.t 12)),
     y 14 (.load false 1 (.t 13)),
     y 15 (.call (.c (.func (.func 15) #[] #[])) [(.t 9), (.t 14)] true),
     y 2 (.mv (.t 15))])
  (.seq
   (.region [
     y 16 (.mv (.t 0)),
     y 17 (.nilCheck (.t 16)),
     y 18 (.addOff 7 (.t 17)),
     y 19 (.addOff 2 (.t 18)),
     y 20 (.load false 1 (.t 19))])
  (.block 0
   (.seq
    (.region [
      y 54 (.bin .eql .int (.t 20) (.c (.int .i64 70))),
      y 53 (.mv (.t 54))])
   (.cond (.t 53)
    (.seq
     (.region [
       y 55 (.mv (.t 0)),
       y 56 (.mv (.t 0)),
       y 57 (.mv (.t 2)),
       y 58 (.call (.c (.func (.func 79) #[] #[])) [(.t 57)] true),
       y 59 (.call (.c (.func (.func 78) #[] #[])) [(.t 56), (.t 58)] false),
       y 60 (.nilCheck (.t 55)),
       y 61 (.addOff 7 (.t 60)),
       y 62 (.addOff 8 (.t 61)),
       x (.store 1 (.t 62) (.t 59))])
    (.region [
      y 63 (.mv (.t 0)),
      y 64 (.call (.c (.func (.func 21) #[] #[])) [(.t 63), (.c (.int .i64 71))] false)]))
    (.seq
     (.region [
       y 66 (.bin .eql .int (.t 20) (.c (.int .i64 71))),
       y 65 (.mv (.t 66))])
    (.cond (.t 65)
     (.seq
      (.region [
        y 67 (.mv (.t 0)),
        y 68 (.mv (.t 0)),
        y 69 (.mv (.t 2)),
        y 70 (.call (.c (.func (.func 78) #[] #[])) [(.t 68), (.t 69)] false),
        y 71 (.nilCheck (.t 67)),
        y 72 (.addOff 7 (.t 71)),
        y 73 (.addOff 7 (.t 72)),
        x (.store 1 (.t 73) (.t 70))])
     (.seq
      (.region [
        y 75 (.mv (.t 0)),
        y 76 (.nilCheck (.t 75)),
        y 77 (.addOff 7 (.t 76)),
        y 78 (.addOff 7 (.t 77)),
        y 79 (.load false 1 (.t 78)),
        y 80 (.call (.c (.func (.func 56) #[] #[])) [(.t 79)] true),
        y 74 (.mv (.t 80)),
        y 81 (.extract (.t 74) 0),
        y 82 (.extract (.t 74) 1),
        y 83 (.extract (.t 74) 2),
        y 3 (.mv (.t 81)),
        y 4 (.mv (.t 82)),
        y 5 (.mv (.t 83))])
     (.seq
      (.region [
        y 84 (.mv (.t 0)),
        y 85 (.mv (.t 5)),
        y 86 (.mv (.t 85)),
        ⟨(some 87), .mv (.t 3), (some (86, true)), [], [], false⟩,
        ⟨(some 88), .mv (.t 0), (some (86, true)), [], [], false⟩,
        ⟨(some 89), .nilCheck (.t 88), (some (86, true)), [], [], false⟩,
        ⟨(some 90), .addOff 1 (.t 89), (some (86, true)), [], [], false⟩,
        ⟨(some 91), .addOff 1 (.t 90), (some (86, true)), [], [], false⟩,
        ⟨(some 92), .load false 1 (.t 91), (some (86, true)), [], [], false⟩,
        ⟨(some 93), .bin .lss .int (.t 87) (.t 92), (some (86, true)), [], [], false⟩,
        y 94 (.pick (.t 86) (.t 93) (.c (.bool false))),
        y 95 (.mv (.t 94)),
        ⟨(some 96), .mv (.t 4), (some (95, true)), [], [], false⟩,
        ⟨(some 97), .mv (.t 0), (some (95, true)), [], [], false⟩,
        ⟨(some 98), .nilCheck (.t 97), (some (95, true)), [], [], false⟩,
        ⟨(some 99), .addOff 1 (.t 98), (some (95, true)), [], [], false⟩,
        ⟨(some 100), .addOff 2 (.t 99), (some (95, true)), [], [], false⟩,
        ⟨(some 101), .load false 1 (.t 100), (some (95, true)), [], [], false⟩,
        ⟨(some 102), .bin .lss .int (.t 96) (.t 101), (some (95, true)), [], [], false⟩,
        y 103 (.pick (.t 95) (.t 102) (.c (.bool false))),
        y 104 (.call (.c (.func (.func 22) #[] #[])) [(.t 84), (.t 103)] false)])
     (.seq
      (.region [
        y 105 (.mv (.t 0)),
        y 106 (.mv (.t 0)),
        y 107 (.mv (.t 3)),
        y 108 (.mv (.t 4)),
        y 109 (.nilCheck (.t 105)),
        y 110 (.addOff 7 (.t 109)),
        y 111 (.addOff 5 (.t 110)),
        x (.store 1 (.t 111) (.t 107)),
        y 112 (.nilCheck (.t 106)),
        y 113 (.addOff 7 (.t 112)),
        y 114 (.addOff 6 (.t 113)),
        x (.store 1 (.t 114) (.t 108))])
     (.region [
       y 115 (.mv (.t 0)),
       y 116 (.mv (.t 3)),
       y 117 (.bin .lss .int (.t 116) (.c (.int .i64 0))),
       y 118 (.call (.c (.func (.func 80) #[] #[])) [(.t 115), (.t 117), (.c (.int .i64 73)), (.c (.int .i64 72))] false)])))))
     (.seq
      (.seq
       (.region [
         y 21 (.mv (.t 0)),
         y 22 (.mv (.t 2)),
         y 23 (.mv (.t 0)),
         y 24 (.nilCheck (.t 23)),
         y 25 (.addOff 7 (.t 24)),
         y 26 (.addOff 7 (.t 25)),
         y 27 (.load false 1 (.t 26)),
         y 28 (.mv (.t 0)),
         y 29 (.nilCheck (.t 28)),
         y 30 (.addOff 7 (.t 29)),
         y 31 (.addOff 8 (.t 30)),
         y 32 (.load false 1 (.t 31)),
         y 33 (.mv (.t 0)),
         y 34 (.nilCheck (.t 33)),
         y 35 (.addOff 7 (.t 34)),
         y 36 (.addOff 8 (.t 35)),
         y 37 (.load false 1 (.t 36)),
         y 38 (.bin .add .int (.t 37) (.c (.int .u64 1))),
         y 39 (.call (.c (.func (.func 81) #[] #[])) [(.t 21), (.t 22), (.t 27), (.t 32), (.c (.int .u64 0)), (.t 38)] false),
         y 40 (.un .not (.t 39))])
      (.cond (.t 40)
       (.seq
        (.region [
          y 41 (.mv (.t 0)),
          y 42 (.call (.c (.func (.func 21) #[] #[])) [(.t 41), (.c (.int .i64 70))] false)])
       .ret)
       .skip))
     (.seq
      (.region [
        y 43 (.mv (.t 0)),
        y 44 (.mv (.t 0)),
        y 45 (.nilCheck (.t 43)),
        y 46 (.addOff 7 (.t 45)),
        y 47 (.addOff 13 (.t 46)),
        x (.store 1 (.t 47) (.c (.int .i64 0))),
        y 48 (.nilCheck (.t 44)),
        y 49 (.addOff 7 (.t 48)),
        y 50 (.addOff 15 (.t 49)),
        x (.store 1 (.t 50) (.c (.int .i64 73)))])
     (.region [
       y 51 (.mv (.t 0)),
       y 52 (.call (.c (.func (.func 21) #[] #[])) [(.t 51), (.c (.int .i64 80))] false)])))))))))),
  []⟩

/-- (*wainscot/flush.step).parts -/
def i64 : IFun := ⟨84,
  (.seq
   (.region [
     y 5 (.mv (.t 0)),
     y 6 (.nilCheck (.t 5)),
     y 7 (.addOff 1 (.t 6)),
     y 8 (.load true 6 (.t 7)),
     y 9 (.mv (.t 0)),
     y 10 (.nilCheck (.t 9)),
     y 11 (.addOff 7 (.t 10)),
     y 12 (.addOff 16 (.t 11)),
     y 13 (.load false 1 (.t 12)),
     y 14 (.call (.c (.func (.func 82) #[] #[])) [(.t 8), (.t 13)] true),
     y 2 (.mv (.t 14))])
  (.seq
   (.region [
     y 15 (.mv (.t 0)),
     y 16 (.nilCheck (.t 15)),
     y 17 (.addOff 7 (.t 16)),
     y 18 (.addOff 2 (.t 17)),
     y 19 (.load false 1 (.t 18))])
  (.block 0
   (.seq
    (.region [
      y 54 (.bin .eql .int (.t 19) (.c (.int .i64 73))),
      y 53 (.mv (.t 54))])
   (.cond (.t 53)
    (.seq
     (.region [
       y 55 (.mv (.t 0)),
       y 56 (.mv (.t 0)),
       y 57 (.mv (.t 2)),
       y 58 (.call (.c (.func (.func 79) #[] #[])) [(.t 57)] true),
       y 59 (.call (.c (.func (.func 78) #[] #[])) [(.t 56), (.t 58)] false),
       y 60 (.nilCheck (.t 55)),
       y 61 (.addOff 7 (.t 60)),
       y 62 (.addOff 8 (.t 61)),
       x (.store 1 (.t 62) (.t 59))])
    (.region [
      y 63 (.mv (.t 0)),
      y 64 (.call (.c (.func (.func 21) #[] #[])) [(.t 63), (.c (.int .i64 74))] false)]))
    (.seq
     (.region [
       y 66 (.bin .eql .int (.t 19) (.c (.int .i64 74))),
       y 65 (.mv (.t 66))])
    (.cond (.t 65)
     (.seq
      (.region [
        y 68 (.mv (.t 0)),
        y 69 (.mv (.t 2)),
        y 70 (.call (.c (.func (.func 83) #[] #[])) [(.t 68), (.t 69)] false),
        y 67 (.mv (.t 70)),
        y 71 (.extract (.t 67) 0),
        y 72 (.extract (.t 67) 1),
        y 3 (.mv (.t 71)),
        y 4 (.mv (.t 72))])
     (.seq
      (.region [
        y 73 (.mv (.t 0)),
        y 74 (.mv (.t 3)),
        y 75 (.nilCheck (.t 73)),
        y 76 (.addOff 7 (.t 75)),
        y 77 (.addOff 11 (.t 76)),
        x (.store 1 (.t 77) (.t 74))])
     (.seq
      (.seq
       (.region [
         y 78 (.mv (.t 4)),
         y 79 (.bin .lss .int (.t 78) (.c (.int .i64 0)))])
      (.cond (.t 79)
       (.seq
        (.region [
          y 80 (.mv (.t 0)),
          y 81 (.call (.c (.func (.func 20) #[] #[])) [(.t 80)] false)])
       .ret)
       .skip))
     (.region [
       y 82 (.mv (.t 0)),
       y 83 (.call (.c (.func (.func 21) #[] #[])) [(.t 82), (.c (.int .i64 75))] false)]))))
     (.seq
      (.seq
       (.region [
         y 20 (.mv (.t 0)),
         y 21 (.mv (.t 2)),
         y 22 (.mv (.t 0)),
         y 23 (.nilCheck (.t 22)),
         y 24 (.addOff 7 (.t 23)),
         y 25 (.addOff 11 (.t 24)),
         y 26 (.load false 1 (.t 25)),
         y 27 (.mv (.t 0)),
         y 28 (.nilCheck (.t 27)),
         y 29 (.addOff 7 (.t 28)),
         y 30 (.addOff 8 (.t 29)),
         y 31 (.load false 1 (.t 30)),
         y 32 (.mv (.t 0)),
         y 33 (.nilCheck (.t 32)),
         y 34 (.addOff 7 (.t 33)),
         y 35 (.addOff 8 (.t 34)),
         y 36 (.load false 1 (.t 35)),
         y 37 (.bin .add .int (.t 36) (.c (.int .u64 1))),
         y 38 (.call (.c (.func (.func 81) #[] #[])) [(.t 20), (.t 21), (.t 26), (.t 31), (.c (.int .u64 0)), (.t 37)] false),
         y 39 (.un .not (.t 38))])
      (.cond (.t 39)
       (.seq
        (.region [
          y 40 (.mv (.t 0)),
          y 41 (.call (.c (.func (.func 21) #[] #[])) [(.t 40), (.c (.int .i64 73))] false)])
       .ret)
       .skip))
     (.seq
      (.region [
        y 42 (.mv (.t 0)),
        y 43 (.mv (.t 0)),
        y 44 (.nilCheck (.t 43)),
        y 45 (.addOff 7 (.t 44)),
        y 46 (.addOff 11 (.t 45)),
        y 47 (.load false 1 (.t 46)),
        y 48 (.nilCheck (.t 42)),
        y 49 (.addOff 7 (.t 48)),
        y 50 (.addOff 7 (.t 49)),
        x (.store 1 (.t 50) (.t 47))])
     (.region [
       y 51 (.mv (.t 0)),
       y 52 (.call (.c (.func (.func 21) #[] #[])) [(.t 51), (.c (.int .i64 79))] false)])))))))))),
  []⟩

/-- (*wainscot/flush.step).away -/
def i65 : IFun := ⟨47,
  (.seq
   (.seq
    (.region [
      y 2 (.mv (.t 0)),
      y 3 (.nilCheck (.t 2)),
      y 4 (.addOff 7 (.t 3)),
      y 5 (.addOff 2 (.t 4)),
      y 6 (.load false 1 (.t 5)),
      y 7 (.bin .eql .int (.t 6) (.c (.int .i64 77)))])
   (.cond (.t 7)
    (.seq
     (.region [
       y 8 (.mv (.t 0)),
       y 9 (.mv (.t 0)),
       y 10 (.nilCheck (.t 9)),
       y 11 (.addOff 1 (.t 10)),
       y 12 (.load true 6 (.t 11)),
       y 13 (.call (.c (.func (.func 38) #[] #[])) [(.t 12)] true),
       y 14 (.call (.c (.func (.func 84) #[] #[])) [(.t 8), (.t 13), (.c (.int .u64 0))] false)])
    (.seq
     (.region [
       y 15 (.mv (.t 0)),
       y 16 (.nilCheck (.t 15)),
       y 17 (.addOff 7 (.t 16)),
       y 18 (.addOff 4 (.t 17)),
       x (.store 1 (.t 18) (.c (.int .i64 2)))])
    (.seq
     (.region [
       y 19 (.mv (.t 0)),
       y 20 (.call (.c (.func (.func 21) #[] #[])) [(.t 19), (.c (.int .i64 78))] false)])
    .ret)))
    .skip))
  (.seq
   (.region [
     y 21 (.mv (.t 0)),
     y 22 (.mv (.t 0)),
     y 23 (.mv (.t 0)),
     y 24 (.nilCheck (.t 23)),
     y 25 (.addOff 1 (.t 24)),
     y 26 (.load true 6 (.t 25)),
     y 27 (.mv (.t 0)),
     y 28 (.nilCheck (.t 27)),
     y 29 (.addOff 7 (.t 28)),
     y 30 (.addOff 5 (.t 29)),
     y 31 (.load false 1 (.t 30)),
     y 32 (.call (.c (.func (.func 29) #[] #[])) [(.t 26), (.t 31)] true),
     y 33 (.mv (.t 0)),
     y 34 (.nilCheck (.t 33)),
     y 35 (.addOff 7 (.t 34)),
     y 36 (.addOff 9 (.t 35)),
     y 37 (.load false 1 (.t 36)),
     y 38 (.mv (.t 0)),
     y 39 (.nilCheck (.t 38)),
     y 40 (.addOff 7 (.t 39)),
     y 41 (.addOff 10 (.t 40)),
     y 42 (.load false 1 (.t 41)),
     y 43 (.call (.c (.func (.func 81) #[] #[])) [(.t 22), (.t 32), (.t 37), (.t 42), (.c (.int .u64 0)), (.c (.int .u64 0))] false),
     y 44 (.call (.c (.func (.func 22) #[] #[])) [(.t 21), (.t 43)] false)])
  (.region [
    y 45 (.mv (.t 0)),
    y 46 (.call (.c (.func (.func 21) #[] #[])) [(.t 45), (.c (.int .i64 77))] false)]))),
  []⟩

/-- (*wainscot/flush.step).link -/
def i66 : IFun := ⟨60,
  (.seq
   (.region [
     y 6 (.mv (.t 0)),
     y 7 (.nilCheck (.t 6)),
     y 8 (.addOff 7 (.t 7)),
     y 9 (.addOff 7 (.t 8)),
     y 10 (.load false 1 (.t 9)),
     y 11 (.call (.c (.func (.func 76) #[] #[])) [(.t 10)] true),
     y 5 (.mv (.t 11)),
     y 12 (.extract (.t 5) 0),
     y 13 (.extract (.t 5) 1),
     y 14 (.extract (.t 5) 2),
     y 2 (.mv (.t 12)),
     y 3 (.mv (.t 13)),
     y 4 (.mv (.t 14))])
  (.seq
   (.region [
     y 15 (.mv (.t 0)),
     y 16 (.mv (.t 4)),
     y 17 (.mv (.t 16)),
     ⟨(some 18), .mv (.t 2), (some (17, true)), [], [], false⟩,
     ⟨(some 19), .bin .geq .int (.t 18) (.c (.int .i64 0)), (some (17, true)), [], [], false⟩,
     y 20 (.pick (.t 17) (.t 19) (.c (.bool false))),
     y 21 (.call (.c (.func (.func 22) #[] #[])) [(.t 15), (.t 20)] false)])
  (.seq
   (.seq
    (.region [
      y 22 (.mv (.t 0)),
      y 23 (.nilCheck (.t 22)),
      y 24 (.addOff 24 (.t 23)),
      y 25 (.load false 1 (.t 24))])
   (.cond (.t 25)
    .ret
    .skip))
  (.seq
   (.region [
     y 27 (.mv (.t 0)),
     y 28 (.mv (.t 0)),
     y 29 (.mv (.t 0)),
     y 30 (.nilCheck (.t 29)),
     y 31 (.addOff 1 (.t 30)),
     y 32 (.load true 6 (.t 31)),
     y 33 (.mv (.t 2)),
     y 34 (.call (.c (.func (.func 59) #[] #[])) [(.t 32), (.t 33)] true),
     y 35 (.call (.c (.func (.func 83) #[] #[])) [(.t 28), (.t 34)] false),
     y 26 (.mv (.t 35)),
     y 36 (.extract (.t 26) 0),
     y 37 (.extract (.t 26) 1),
     y 38 (.nilCheck (.t 27)),
     y 39 (.addOff 7 (.t 38)),
     y 40 (.addOff 7 (.t 39)),
     x (.store 1 (.t 40) (.t 36))])
  (.seq
   (.region [
     y 41 (.mv (.t 0)),
     y 42 (.mv (.t 0)),
     y 43 (.mv (.t 0)),
     y 44 (.mv (.t 0)),
     y 45 (.mv (.t 2)),
     y 46 (.nilCheck (.t 41)),
     y 47 (.addOff 7 (.t 46)),
     y 48 (.addOff 5 (.t 47)),
     x (.store 1 (.t 48) (.t 45)),
     y 49 (.nilCheck (.t 42)),
     y 50 (.addOff 7 (.t 49)),
     y 51 (.addOff 6 (.t 50)),
     x (.store 1 (.t 51) (.c (.int .i64 (-1)))),
     y 52 (.nilCheck (.t 43)),
     y 53 (.addOff 7 (.t 52)),
     y 54 (.addOff 13 (.t 53)),
     x (.store 1 (.t 54) (.c (.int .i64 0))),
     y 55 (.nilCheck (.t 44)),
     y 56 (.addOff 7 (.t 55)),
     y 57 (.addOff 15 (.t 56)),
     x (.store 1 (.t 57) (.c (.int .i64 79)))])
  (.region [
    y 58 (.mv (.t 0)),
    y 59 (.call (.c (.func (.func 21) #[] #[])) [(.t 58), (.c (.int .i64 80))] false)])))))),
  []⟩

/-- (*wainscot/flush.step).walk -/
def i67 : IFun := ⟨118,
  (.seq
   (.seq
    (.region [
      y 5 (.mv (.t 0)),
      y 6 (.nilCheck (.t 5)),
      y 7 (.addOff 7 (.t 6)),
      y 8 (.addOff 2 (.t 7)),
      y 9 (.load false 1 (.t 8)),
      y 10 (.bin .eql .int (.t 9) (.c (.int .i64 80)))])
   (.cond (.t 10)
    (.seq
     (.block 0
      (.seq
       (.region [
         y 23 (.mv (.t 0)),
         y 24 (.call (.c (.func (.func 85) #[] #[])) [(.t 23)] false),
         y 25 (.un .not (.t 24)),
         y 22 (.mv (.t 25))])
      (.cond (.t 22)
       .skip
       (.seq
        (.region [
          y 27 (.mv (.t 0)),
          y 28 (.nilCheck (.t 27)),
          y 29 (.addOff 7 (.t 28)),
          y 30 (.addOff 6 (.t 29)),
          y 31 (.load false 1 (.t 30)),
          y 32 (.bin .lss .int (.t 31) (.c (.int .i64 0))),
          y 26 (.mv (.t 32))])
       (.cond (.t 26)
        (.region [
          y 33 (.mv (.t 0)),
          y 34 (.call (.c (.func (.func 21) #[] #[])) [(.t 33), (.c (.int .i64 84))] false)])
        (.seq
         (.region [
           y 11 (.mv (.t 0)),
           y 12 (.mv (.t 0)),
           y 13 (.nilCheck (.t 12)),
           y 14 (.addOff 7 (.t 13)),
           y 15 (.addOff 6 (.t 14)),
           y 16 (.load false 1 (.t 15)),
           y 17 (.nilCheck (.t 11)),
           y 18 (.addOff 7 (.t 17)),
           y 19 (.addOff 12 (.t 18)),
           x (.store 1 (.t 19) (.t 16))])
        (.region [
          y 20 (.mv (.t 0)),
          y 21 (.call (.c (.func (.func 21) #[] #[])) [(.t 20), (.c (.int .i64 81))] false)])))))))
    .ret)
    .skip))
  (.seq
   (.region [
     y 35 (.mv (.t 0)),
     y 36 (.mv (.t 0)),
     y 37 (.nilCheck (.t 36)),
     y 38 (.addOff 1 (.t 37)),
     y 39 (.load true 6 (.t 38)),
     y 40 (.mv (.t 0)),
     y 41 (.nilCheck (.t 40)),
     y 42 (.addOff 7 (.t 41)),
     y 43 (.addOff 5 (.t 42)),
     y 44 (.load false 1 (.t 43)),
     y 45 (.mv (.t 0)),
     y 46 (.nilCheck (.t 45)),
     y 47 (.addOff 7 (.t 46)),
     y 48 (.addOff 12 (.t 47)),
     y 49 (.load false 1 (.t 48)),
     y 50 (.call (.c (.func (.func 32) #[] #[])) [(.t 39), (.t 44), (.t 49)] true),
     y 51 (.call (.c (.func (.func 78) #[] #[])) [(.t 35), (.t 50)] false),
     y 2 (.mv (.t 51))])
  (.seq
   (.region [
     y 53 (.mv (.t 2)),
     y 54 (.mv (.t 0)),
     y 55 (.nilCheck (.t 54)),
     y 56 (.addOff 1 (.t 55)),
     y 57 (.load true 6 (.t 56)),
     y 58 (.mv (.t 0)),
     y 59 (.nilCheck (.t 58)),
     y 60 (.addOff 7 (.t 59)),
     y 61 (.addOff 5 (.t 60)),
     y 62 (.load false 1 (.t 61)),
     y 63 (.call (.c (.func (.func 31) #[] #[])) [(.t 57), (.t 62)] true),
     y 64 (.mv (.t 0)),
     y 65 (.nilCheck (.t 64)),
     y 66 (.addOff 7 (.t 65)),
     y 67 (.addOff 12 (.t 66)),
     y 68 (.load false 1 (.t 67)),
     y 69 (.call (.c (.func (.func 86) #[] #[])) [(.t 53), (.t 63), (.t 68)] true),
     y 52 (.mv (.t 69)),
     y 70 (.extract (.t 52) 0),
     y 71 (.extract (.t 52) 1),
     y 3 (.mv (.t 70)),
     y 4 (.mv (.t 71))])
  (.seq
   (.region [
     y 72 (.mv (.t 0)),
     y 73 (.mv (.t 4)),
     y 74 (.mv (.t 73)),
     ⟨(some 75), .mv (.t 3), (some (74, true)), [], [], false⟩,
     ⟨(some 76), .mv (.t 0), (some (74, true)), [], [], false⟩,
     ⟨(some 77), .nilCheck (.t 76), (some (74, true)), [], [], false⟩,
     ⟨(some 78), .addOff 1 (.t 77), (some (74, true)), [], [], false⟩,
     ⟨(some 79), .addOff 2 (.t 78), (some (74, true)), [], [], false⟩,
     ⟨(some 80), .load false 1 (.t 79), (some (74, true)), [], [], false⟩,
     ⟨(some 81), .bin .lss .int (.t 75) (.t 80), (some (74, true)), [], [], false⟩,
     y 82 (.pick (.t 74) (.t 81) (.c (.bool false))),
     y 83 (.mv (.t 82)),
     ⟨(some 84), .mv (.t 0), (some (83, true)), [], [], false⟩,
     ⟨(some 85), .nilCheck (.t 84), (some (83, true)), [], [], false⟩,
     ⟨(some 86), .addOff 7 (.t 85), (some (83, true)), [], [], false⟩,
     ⟨(some 87), .addOff 13 (.t 86), (some (83, true)), [], [], false⟩,
     ⟨(some 88), .load false 1 (.t 87), (some (83, true)), [], [], false⟩,
     ⟨(some 89), .bin .geq .int (.t 88) (.c (.int .i64 0)), (some (83, true)), [], [], false⟩,
     y 90 (.pick (.t 83) (.t 89) (.c (.bool false))),
     y 91 (.mv (.t 90)),
     ⟨(some 92), .mv (.t 0), (some (91, true)), [], [], false⟩,
     ⟨(some 93), .nilCheck (.t 92), (some (91, true)), [], [], false⟩,
     ⟨(some 94), .addOff 7 (.t 93), (some (91, true)), [], [], false⟩,
     ⟨(some 95), .addOff 13 (.t 94), (some (91, true)), [], [], false⟩,
     ⟨(some 96), .load false 1 (.t 95), (some (91, true)), [], [], false⟩,
     ⟨(some 97), .bin .lss .int (.t 96) (.c (.int .i64 16)), (some (91, true)), [], [], false⟩,
     y 98 (.pick (.t 91) (.t 97) (.c (.bool false))),
     y 99 (.call (.c (.func (.func 22) #[] #[])) [(.t 72), (.t 98)] false)])
  (.seq
   (.region [
     y 100 (.mv (.t 0)),
     y 101 (.nilCheck (.t 100)),
     y 102 (.addOff 7 (.t 101)),
     y 103 (.addOff 13 (.t 102)),
     y 104 (.load false 1 (.t 103)),
     y 105 (.bin .add .int (.t 104) (.c (.int .i64 1))),
     y 106 (.nilCheck (.t 100)),
     y 107 (.addOff 7 (.t 106)),
     y 108 (.addOff 13 (.t 107)),
     x (.store 1 (.t 108) (.t 105))])
  (.seq
   (.seq
    (.region [
      y 109 (.mv (.t 3)),
      y 110 (.bin .lss .int (.t 109) (.c (.int .i64 0)))])
   (.cond (.t 110)
    (.seq
     (.region [
       y 111 (.mv (.t 0)),
       y 112 (.call (.c (.func (.func 21) #[] #[])) [(.t 111), (.c (.int .i64 84))] false)])
    .ret)
    .skip))
  (.region [
    y 113 (.mv (.t 0)),
    y 114 (.mv (.t 3)),
    y 115 (.nilCheck (.t 113)),
    y 116 (.addOff 7 (.t 115)),
    y 117 (.addOff 12 (.t 116)),
    x (.store 1 (.t 117) (.t 114))]))))))),
  []⟩

/-- (*wainscot/flush.step).read -/
def i68 : IFun := ⟨149,
  (.seq
   (.region [
     y 6 (.mv (.t 0)),
     y 7 (.nilCheck (.t 6)),
     y 8 (.addOff 1 (.t 7)),
     y 9 (.load true 6 (.t 8)),
     y 10 (.mv (.t 0)),
     y 11 (.nilCheck (.t 10)),
     y 12 (.addOff 7 (.t 11)),
     y 13 (.addOff 5 (.t 12)),
     y 14 (.load false 1 (.t 13)),
     y 15 (.call (.c (.func (.func 29) #[] #[])) [(.t 9), (.t 14)] true),
     y 2 (.mv (.t 15))])
  (.seq
   (.region [
     y 16 (.mv (.t 0)),
     y 17 (.nilCheck (.t 16)),
     y 18 (.addOff 7 (.t 17)),
     y 19 (.addOff 2 (.t 18)),
     y 20 (.load false 1 (.t 19))])
  (.block 0
   (.seq
    (.region [
      y 91 (.bin .eql .int (.t 20) (.c (.int .i64 84))),
      y 90 (.mv (.t 91))])
   (.cond (.t 90)
    (.seq
     (.region [
       y 92 (.mv (.t 0)),
       y 93 (.mv (.t 0)),
       y 94 (.mv (.t 2)),
       y 95 (.call (.c (.func (.func 78) #[] #[])) [(.t 93), (.t 94)] false),
       y 96 (.nilCheck (.t 92)),
       y 97 (.addOff 7 (.t 96)),
       y 98 (.addOff 9 (.t 97)),
       x (.store 1 (.t 98) (.t 95))])
    (.seq
     (.region [
       y 99 (.mv (.t 0)),
       y 100 (.mv (.t 0)),
       y 101 (.nilCheck (.t 100)),
       y 102 (.addOff 7 (.t 101)),
       y 103 (.addOff 9 (.t 102)),
       y 104 (.load false 1 (.t 103)),
       y 105 (.mv (.t 0)),
       y 106 (.nilCheck (.t 105)),
       y 107 (.addOff 1 (.t 106)),
       y 108 (.addOff 2 (.t 107)),
       y 109 (.load false 1 (.t 108)),
       y 110 (.conv .u64 (.t 109)),
       y 111 (.bin .leq .int (.t 104) (.t 110)),
       y 112 (.call (.c (.func (.func 22) #[] #[])) [(.t 99), (.t 111)] false)])
    (.region [
      y 113 (.mv (.t 0)),
      y 114 (.call (.c (.func (.func 21) #[] #[])) [(.t 113), (.c (.int .i64 85))] false)])))
    (.seq
     (.region [
       y 116 (.bin .eql .int (.t 20) (.c (.int .i64 85))),
       y 115 (.mv (.t 116))])
    (.cond (.t 115)
     (.seq
      (.region [
        y 117 (.mv (.t 0)),
        y 118 (.mv (.t 0)),
        y 119 (.mv (.t 2)),
        y 120 (.call (.c (.func (.func 79) #[] #[])) [(.t 119)] true),
        y 121 (.call (.c (.func (.func 78) #[] #[])) [(.t 118), (.t 120)] false),
        y 122 (.nilCheck (.t 117)),
        y 123 (.addOff 7 (.t 122)),
        y 124 (.addOff 10 (.t 123)),
        x (.store 1 (.t 124) (.t 121))])
     (.seq
      (.region [
        y 125 (.mv (.t 0)),
        y 126 (.call (.c (.func (.func 87) #[] #[])) [(.t 125)] false),
        y 3 (.new 60 [(.int .i64 0), (.int .i64 0), (.bool false), (.bool false)]),
        x (.store 4 (.t 3) (.t 126))])
     (.seq
      (.region [
        y 127 (.mv (.t 0)),
        y 128 (.addOff 2 (.t 3)),
        y 129 (.load false 1 (.t 128)),
        y 130 (.mv (.t 129)),
        ⟨(some 131), .addOff 0 (.t 3), (some (130, true)), [], [], false⟩,
        ⟨(some 132), .load false 1 (.t 131), (some (130, true)), [], [], false⟩,
        ⟨(some 133), .mv (.t 0), (some (130, true)), [], [], false⟩,
        ⟨(some 134), .nilCheck (.t 133), (some (130, true)), [], [], false⟩,
        ⟨(some 135), .addOff 7 (.t 134), (some (130, true)), [], [], false⟩,
        ⟨(some 136), .addOff 13 (.t 135), (some (130, true)), [], [], false⟩,
        ⟨(some 137), .load false 1 (.t 136), (some (130, true)), [], [], false⟩,
        ⟨(some 138), .bin .geq .int (.t 132) (.t 137), (some (130, true)), [], [], false⟩,
        y 139 (.pick (.t 130) (.t 138) (.c (.bool false))),
        y 140 (.call (.c (.func (.func 22) #[] #[])) [(.t 127), (.t 139)] false)])
     (.region [
       y 141 (.mv (.t 0)),
       y 142 (.mv (.t 0)),
       y 143 (.nilCheck (.t 142)),
       y 144 (.addOff 7 (.t 143)),
       y 145 (.addOff 6 (.t 144)),
       y 146 (.load false 1 (.t 145)),
       y 147 (.bin .lss .int (.t 146) (.c (.int .i64 0))),
       y 148 (.call (.c (.func (.func 80) #[] #[])) [(.t 141), (.t 147), (.c (.int .i64 87)), (.c (.int .i64 86))] false)]))))
     (.seq
      (.region [
        y 22 (.mv (.t 0)),
        y 23 (.nilCheck (.t 22)),
        y 24 (.addOff 7 (.t 23)),
        y 25 (.addOff 9 (.t 24)),
        y 26 (.load false 1 (.t 25)),
        y 27 (.conv .i64 (.t 26)),
        y 28 (.bin .sub .int (.t 27) (.c (.int .i64 1))),
        y 29 (.mv (.t 0)),
        y 30 (.nilCheck (.t 29)),
        y 31 (.addOff 1 (.t 30)),
        y 32 (.load true 6 (.t 31)),
        y 33 (.mv (.t 0)),
        y 34 (.nilCheck (.t 33)),
        y 35 (.addOff 7 (.t 34)),
        y 36 (.addOff 5 (.t 35)),
        y 37 (.load false 1 (.t 36)),
        y 38 (.call (.c (.func (.func 31) #[] #[])) [(.t 32), (.t 37)] true),
        y 39 (.mv (.t 0)),
        y 40 (.nilCheck (.t 39)),
        y 41 (.addOff 7 (.t 40)),
        y 42 (.addOff 12 (.t 41)),
        y 43 (.load false 1 (.t 42)),
        y 44 (.call (.c (.func (.func 30) #[] #[])) [(.t 28), (.t 38), (.t 43)] true),
        y 21 (.mv (.t 44)),
        y 45 (.extract (.t 21) 0),
        y 46 (.extract (.t 21) 1),
        y 4 (.mv (.t 45)),
        y 5 (.mv (.t 46))])
     (.seq
      (.region [
        y 47 (.mv (.t 0)),
        y 48 (.mv (.t 5)),
        y 49 (.bin .eql .int (.t 48) (.c (.int .i64 0))),
        y 50 (.mv (.t 49)),
        ⟨(some 51), .mv (.t 0), (some (50, true)), [], [], false⟩,
        ⟨(some 52), .nilCheck (.t 51), (some (50, true)), [], [], false⟩,
        ⟨(some 53), .addOff 7 (.t 52), (some (50, true)), [], [], false⟩,
        ⟨(some 54), .addOff 9 (.t 53), (some (50, true)), [], [], false⟩,
        ⟨(some 55), .load false 1 (.t 54), (some (50, true)), [], [], false⟩,
        ⟨(some 56), .mv (.t 0), (some (50, true)), [], [], false⟩,
        ⟨(some 57), .nilCheck (.t 56), (some (50, true)), [], [], false⟩,
        ⟨(some 58), .addOff 1 (.t 57), (some (50, true)), [], [], false⟩,
        ⟨(some 59), .addOff 2 (.t 58), (some (50, true)), [], [], false⟩,
        ⟨(some 60), .load false 1 (.t 59), (some (50, true)), [], [], false⟩,
        ⟨(some 61), .conv .u64 (.t 60), (some (50, true)), [], [], false⟩,
        ⟨(some 62), .bin .leq .int (.t 55) (.t 61), (some (50, true)), [], [], false⟩,
        y 63 (.pick (.t 50) (.t 62) (.c (.bool false))),
        y 64 (.call (.c (.func (.func 22) #[] #[])) [(.t 47), (.t 63)] false)])
     (.seq
      (.seq
       (.region [
         y 65 (.mv (.t 0)),
         y 66 (.nilCheck (.t 65)),
         y 67 (.addOff 24 (.t 66)),
         y 68 (.load false 1 (.t 67)),
         y 69 (.un .not (.t 68))])
      (.cond (.t 69)
       (.region [
         y 70 (.mv (.t 0)),
         y 71 (.mv (.t 0)),
         y 72 (.nilCheck (.t 71)),
         y 73 (.addOff 1 (.t 72)),
         y 74 (.load true 6 (.t 73)),
         y 75 (.mv (.t 0)),
         y 76 (.nilCheck (.t 75)),
         y 77 (.addOff 7 (.t 76)),
         y 78 (.addOff 5 (.t 77)),
         y 79 (.load false 1 (.t 78)),
         y 80 (.mv (.t 0)),
         y 81 (.nilCheck (.t 80)),
         y 82 (.addOff 7 (.t 81)),
         y 83 (.addOff 12 (.t 82)),
         y 84 (.load false 1 (.t 83)),
         y 85 (.call (.c (.func (.func 32) #[] #[])) [(.t 74), (.t 79), (.t 84)] true),
         y 86 (.mv (.t 4)),
         y 87 (.call (.c (.func (.func 84) #[] #[])) [(.t 70), (.t 85), (.t 86)] false)])
       .skip))
     (.region [
       y 88 (.mv (.t 0)),
       y 89 (.call (.c (.func (.func 21) #[] #[])) [(.t 88), (.c (.int .i64 87))] false)]))))))))))),
  []⟩

/-- (*wainscot/flush.step).turn -/
def i69 : IFun := ⟨138,
  (.seq
   (.region [
     y 6 (.mv (.t 0)),
     y 7 (.call (.c (.func (.func 87) #[] #[])) [(.t 6)] false),
     y 2 (.new 60 [(.int .i64 0), (.int .i64 0), (.bool false), (.bool false)]),
     x (.store 4 (.t 2) (.t 7))])
  (.seq
   (.region [
     y 8 (.mv (.t 0)),
     y 9 (.mv (.t 0)),
     y 10 (.nilCheck (.t 9)),
     y 11 (.addOff 7 (.t 10)),
     y 12 (.addOff 13 (.t 11)),
     y 13 (.load false 1 (.t 12)),
     y 14 (.bin .geq .int (.t 13) (.c (.int .i64 0))),
     y 15 (.mv (.t 14)),
     ⟨(some 16), .mv (.t 0), (some (15, true)), [], [], false⟩,
     ⟨(some 17), .nilCheck (.t 16), (some (15, true)), [], [], false⟩,
     ⟨(some 18), .addOff 7 (.t 17), (some (15, true)), [], [], false⟩,
     ⟨(some 19), .addOff 13 (.t 18), (some (15, true)), [], [], false⟩,
     ⟨(some 20), .load false 1 (.t 19), (some (15, true)), [], [], false⟩,
     ⟨(some 21), .bin .leq .int (.t 20) (.c (.int .i64 16)), (some (15, true)), [], [], false⟩,
     y 22 (.pick (.t 15) (.t 21) (.c (.bool false))),
     y 23 (.mv (.t 22)),
     ⟨(some 24), .mv (.t 0), (some (23, true)), [], [], false⟩,
     ⟨(some 25), .nilCheck (.t 24), (some (23, true)), [], [], false⟩,
     ⟨(some 26), .addOff 7 (.t 25), (some (23, true)), [], [], false⟩,
     ⟨(some 27), .addOff 6 (.t 26), (some (23, true)), [], [], false⟩,
     ⟨(some 28), .load false 1 (.t 27), (some (23, true)), [], [], false⟩,
     ⟨(some 29), .mv (.t 0), (some (23, true)), [], [], false⟩,
     ⟨(some 30), .nilCheck (.t 29), (some (23, true)), [], [], false⟩,
     ⟨(some 31), .addOff 1 (.t 30), (some (23, true)), [], [], false⟩,
     ⟨(some 32), .addOff 2 (.t 31), (some (23, true)), [], [], false⟩,
     ⟨(some 33), .load false 1 (.t 32), (some (23, true)), [], [], false⟩,
     ⟨(some 34), .bin .lss .int (.t 28) (.t 33), (some (23, true)), [], [], false⟩,
     y 35 (.pick (.t 23) (.t 34) (.c (.bool false))),
     y 36 (.mv (.t 35)),
     ⟨(some 37), .mv (.t 0), (some (36, true)), [], [], false⟩,
     ⟨(some 38), .nilCheck (.t 37), (some (36, true)), [], [], false⟩,
     ⟨(some 39), .addOff 7 (.t 38), (some (36, true)), [], [], false⟩,
     ⟨(some 40), .addOff 9 (.t 39), (some (36, true)), [], [], false⟩,
     ⟨(some 41), .load false 1 (.t 40), (some (36, true)), [], [], false⟩,
     ⟨(some 42), .mv (.t 0), (some (36, true)), [], [], false⟩,
     ⟨(some 43), .nilCheck (.t 42), (some (36, true)), [], [], false⟩,
     ⟨(some 44), .addOff 1 (.t 43), (some (36, true)), [], [], false⟩,
     ⟨(some 45), .addOff 2 (.t 44), (some (36, true)), [], [], false⟩,
     ⟨(some 46), .load false 1 (.t 45), (some (36, true)), [], [], false⟩,
     ⟨(some 47), .conv .u64 (.t 46), (some (36, true)), [], [], false⟩,
     ⟨(some 48), .bin .leq .int (.t 41) (.t 47), (some (36, true)), [], [], false⟩,
     y 49 (.pick (.t 36) (.t 48) (.c (.bool false))),
     y 50 (.call (.c (.func (.func 22) #[] #[])) [(.t 8), (.t 49)] false)])
  (.seq
   (.region [
     y 51 (.addOff 0 (.t 2)),
     y 52 (.load false 1 (.t 51)),
     y 53 (.mv (.t 0)),
     y 54 (.nilCheck (.t 53)),
     y 55 (.addOff 7 (.t 54)),
     y 56 (.addOff 13 (.t 55)),
     y 57 (.load false 1 (.t 56)),
     y 58 (.bin .sub .int (.t 52) (.t 57)),
     y 59 (.addOff 0 (.t 2)),
     x (.store 1 (.t 59) (.t 58)),
     y 60 (.addOff 2 (.t 2)),
     x (.store 1 (.t 60) (.c (.bool false)))])
  (.seq
   (.region [
     y 62 (.load true 4 (.t 2)),
     y 63 (.call (.c (.func (.func 28) #[] #[])) [(.t 62)] true),
     y 61 (.mv (.t 63)),
     y 64 (.extract (.t 61) 0),
     y 65 (.extract (.t 61) 1),
     y 3 (.mv (.t 64)),
     y 4 (.mv (.t 65))])
  (.seq
   (.region [
     y 66 (.mv (.t 0)),
     y 67 (.mv (.t 4)),
     y 68 (.bin .eql .int (.t 67) (.c (.int .i64 0))),
     y 69 (.call (.c (.func (.func 22) #[] #[])) [(.t 66), (.t 68)] false)])
  (.seq
   (.seq
    (.region [
      y 70 (.mv (.t 0)),
      y 71 (.nilCheck (.t 70)),
      y 72 (.addOff 24 (.t 71)),
      y 73 (.load false 1 (.t 72))])
   (.cond (.t 73)
    .ret
    .skip))
  (.seq
   (.region [
     y 74 (.mv (.t 0)),
     y 75 (.nilCheck (.t 74)),
     y 76 (.addOff 7 (.t 75)),
     y 77 (.addOff 9 (.t 76)),
     y 78 (.load false 1 (.t 77)),
     y 5 (.mv (.t 78))])
  (.seq
   (.seq
    (.region [
      y 79 (.mv (.t 0)),
      y 80 (.nilCheck (.t 79)),
      y 81 (.addOff 7 (.t 80)),
      y 82 (.addOff 6 (.t 81)),
      y 83 (.load false 1 (.t 82)),
      y 84 (.bin .geq .int (.t 83) (.c (.int .i64 0)))])
   (.cond (.t 84)
    (.region [
      y 85 (.mv (.t 0)),
      y 86 (.nilCheck (.t 85)),
      y 87 (.addOff 7 (.t 86)),
      y 88 (.addOff 6 (.t 87)),
      y 89 (.load false 1 (.t 88)),
      y 90 (.bin .add .int (.t 89) (.c (.int .i64 1))),
      y 91 (.conv .u64 (.t 90)),
      y 5 (.mv (.t 91))])
    .skip))
  (.seq
   (.seq
    (.region [
      y 92 (.mv (.t 0)),
      y 93 (.mv (.t 0)),
      y 94 (.nilCheck (.t 93)),
      y 95 (.addOff 1 (.t 94)),
      y 96 (.load true 6 (.t 95)),
      y 97 (.mv (.t 0)),
      y 98 (.nilCheck (.t 97)),
      y 99 (.addOff 7 (.t 98)),
      y 100 (.addOff 5 (.t 99)),
      y 101 (.load false 1 (.t 100)),
      y 102 (.call (.c (.func (.func 29) #[] #[])) [(.t 96), (.t 101)] true),
      y 103 (.mv (.t 0)),
      y 104 (.nilCheck (.t 103)),
      y 105 (.addOff 7 (.t 104)),
      y 106 (.addOff 9 (.t 105)),
      y 107 (.load false 1 (.t 106)),
      y 108 (.mv (.t 0)),
      y 109 (.nilCheck (.t 108)),
      y 110 (.addOff 7 (.t 109)),
      y 111 (.addOff 10 (.t 110)),
      y 112 (.load false 1 (.t 111)),
      y 113 (.mv (.t 5)),
      y 114 (.mv (.t 3)),
      y 115 (.call (.c (.func (.func 81) #[] #[])) [(.t 92), (.t 102), (.t 107), (.t 112), (.t 113), (.t 114)] false),
      y 116 (.un .not (.t 115))])
   (.cond (.t 116)
    (.seq
     (.region [
       y 117 (.mv (.t 0)),
       y 118 (.call (.c (.func (.func 21) #[] #[])) [(.t 117), (.c (.int .i64 84))] false)])
    .ret)
    .skip))
  (.seq
   (.region [
     y 119 (.mv (.t 0)),
     y 120 (.mv (.t 0)),
     y 121 (.mv (.t 5)),
     y 122 (.mv (.t 3)),
     y 123 (.nilCheck (.t 119)),
     y 124 (.addOff 7 (.t 123)),
     y 125 (.addOff 9 (.t 124)),
     x (.store 1 (.t 125) (.t 121)),
     y 126 (.nilCheck (.t 120)),
     y 127 (.addOff 7 (.t 126)),
     y 128 (.addOff 10 (.t 127)),
     x (.store 1 (.t 128) (.t 122))])
  (.seq
   (.seq
    (.region [
      y 129 (.mv (.t 5)),
      y 130 (.bin .eql .int (.t 129) (.c (.int .u64 0)))])
   (.cond (.t 130)
    (.seq
     (.region [
       y 131 (.mv (.t 0)),
       y 132 (.call (.c (.func (.func 21) #[] #[])) [(.t 131), (.c (.int .i64 94))] false)])
    .ret)
    .skip))
  (.region [
    y 133 (.mv (.t 0)),
    y 134 (.addOff 0 (.t 2)),
    y 135 (.load false 1 (.t 134)),
    y 136 (.bin .eql .int (.t 135) (.c (.int .i64 0))),
    y 137 (.call (.c (.func (.func 80) #[] #[])) [(.t 133), (.t 136), (.c (.int .i64 88)), (.c (.int .i64 90))] false)])))))))))))),
  []⟩

/-- (*wainscot/flush.step).put -/
def i70 : IFun := ⟨121,
  (.seq
   (.region [
     y 2 (.mv (.t 0)),
     y 3 (.nilCheck (.t 2)),
     y 4 (.addOff 7 (.t 3)),
     y 5 (.addOff 2 (.t 4)),
     y 6 (.load false 1 (.t 5))])
  (.block 0
   (.seq
    (.region [
      y 22 (.bin .eql .int (.t 6) (.c (.int .i64 88))),
      y 21 (.mv (.t 22))])
   (.cond (.t 21)
    (.region [
      y 23 (.mv (.t 0)),
      y 24 (.mv (.t 0)),
      y 25 (.mv (.t 0)),
      y 26 (.nilCheck (.t 25)),
      y 27 (.addOff 1 (.t 26)),
      y 28 (.load true 6 (.t 27)),
      y 29 (.call (.c (.func (.func 88) #[] #[])) [(.t 28)] true),
      ⟨(some 30), .call (.c (.func (.func 78) #[] #[])) [(.t 24), (.t 29)] false, none, [], [], true⟩,
      y 31 (.mv (.t 0)),
      y 32 (.nilCheck (.t 31)),
      y 33 (.addOff 1 (.t 32)),
      y 34 (.addOff 3 (.t 33)),
      ⟨(some 35), .load false 1 (.t 34), none, [7], [], false⟩,
      y 36 (.conv .u64 (.t 35)),
      y 37 (.bin .geq .int (.t 30) (.t 36)),
      y 38 (.call (.c (.func (.func 80) #[] #[])) [(.t 23), (.t 37), (.c (.int .i64 76)), (.c (.int .i64 90))] false)])
    (.seq
     (.region [
       y 40 (.bin .eql .int (.t 6) (.c (.int .i64 90))),
       y 39 (.mv (.t 40))])
    (.cond (.t 39)
     (.seq
      (.region [
        y 41 (.mv (.t 0)),
        y 42 (.mv (.t 0)),
        y 43 (.nilCheck (.t 42)),
        y 44 (.addOff 1 (.t 43)),
        y 45 (.load true 6 (.t 44)),
        y 46 (.call (.c (.func (.func 41) #[] #[])) [(.t 45)] true),
        y 47 (.call (.c (.func (.func 89) #[] #[])) [(.t 41), (.t 46)] false)])
     (.region [
       y 48 (.mv (.t 0)),
       y 49 (.call (.c (.func (.func 21) #[] #[])) [(.t 48), (.c (.int .i64 91))] false)]))
     (.seq
      (.region [
        y 51 (.bin .eql .int (.t 6) (.c (.int .i64 91))),
        y 50 (.mv (.t 51))])
     (.cond (.t 50)
      (.seq
       (.region [
         y 52 (.mv (.t 0)),
         y 53 (.mv (.t 0)),
         y 54 (.nilCheck (.t 53)),
         y 55 (.addOff 1 (.t 54)),
         y 56 (.load true 6 (.t 55)),
         y 57 (.mv (.t 0)),
         y 58 (.nilCheck (.t 57)),
         y 59 (.addOff 7 (.t 58)),
         y 60 (.addOff 5 (.t 59)),
         y 61 (.load false 1 (.t 60)),
         y 62 (.call (.c (.func (.func 59) #[] #[])) [(.t 56), (.t 61)] true),
         y 63 (.mv (.t 0)),
         y 64 (.nilCheck (.t 63)),
         y 65 (.addOff 7 (.t 64)),
         y 66 (.addOff 11 (.t 65)),
         y 67 (.load false 1 (.t 66)),
         y 68 (.call (.c (.func (.func 84) #[] #[])) [(.t 52), (.t 62), (.t 67)] false)])
      (.region [
        y 69 (.mv (.t 0)),
        y 70 (.call (.c (.func (.func 21) #[] #[])) [(.t 69), (.c (.int .i64 92))] false)]))
      (.seq
       (.region [
         y 72 (.bin .eql .int (.t 6) (.c (.int .i64 92))),
         y 71 (.mv (.t 72))])
      (.cond (.t 71)
       (.seq
        (.region [
          y 73 (.mv (.t 0)),
          y 74 (.mv (.t 0)),
          y 75 (.nilCheck (.t 74)),
          y 76 (.addOff 7 (.t 75)),
          y 77 (.addOff 5 (.t 76)),
          y 78 (.load false 1 (.t 77)),
          y 79 (.bin .geq .int (.t 78) (.c (.int .i64 0))),
          y 80 (.mv (.t 79)),
          ⟨(some 81), .mv (.t 0), (some (80, true)), [], [], false⟩,
          ⟨(some 82), .nilCheck (.t 81), (some (80, true)), [], [], false⟩,
          ⟨(some 83), .addOff 7 (.t 82), (some (80, true)), [], [], false⟩,
          ⟨(some 84), .addOff 5 (.t 83), (some (80, true)), [], [], false⟩,
          ⟨(some 85), .load false 1 (.t 84), (some (80, true)), [], [], false⟩,
          ⟨(some 86), .mv (.t 0), (some (80, true)), [], [], false⟩,
          ⟨(some 87), .nilCheck (.t 86), (some (80, true)), [], [], false⟩,
          ⟨(some 88), .addOff 1 (.t 87), (some (80, true)), [], [], false⟩,
          ⟨(some 89), .addOff 1 (.t 88), (some (80, true)), [], [], false⟩,
          ⟨(some 90), .load false 1 (.t 89), (some (80, true)), [], [], false⟩,
          ⟨(some 91), .bin .lss .int (.t 85) (.t 90), (some (80, true)), [], [], false⟩,
          y 92 (.pick (.t 80) (.t 91) (.c (.bool false))),
          y 93 (.call (.c (.func (.func 22) #[] #[])) [(.t 73), (.t 92)] false)])
       (.seq
        (.seq
         (.region [
           y 94 (.mv (.t 0)),
           y 95 (.nilCheck (.t 94)),
           y 96 (.addOff 24 (.t 95)),
           y 97 (.load false 1 (.t 96)),
           y 98 (.un .not (.t 97))])
        (.cond (.t 98)
         (.region [
           y 99 (.mv (.t 0)),
           y 100 (.mv (.t 0)),
           y 101 (.nilCheck (.t 100)),
           y 102 (.addOff 1 (.t 101)),
           y 103 (.load true 6 (.t 102)),
           y 104 (.call (.c (.func (.func 41) #[] #[])) [(.t 103)] true),
           y 105 (.mv (.t 0)),
           y 106 (.nilCheck (.t 105)),
           y 107 (.addOff 7 (.t 106)),
           y 108 (.addOff 5 (.t 107)),
           y 109 (.load false 1 (.t 108)),
           y 110 (.bin .add .int (.t 109) (.c (.int .i64 1))),
           y 111 (.conv .u64 (.t 110)),
           y 112 (.call (.c (.func (.func 84) #[] #[])) [(.t 99), (.t 104), (.t 111)] false)])
         .skip))
       (.region [
         y 113 (.mv (.t 0)),
         y 114 (.call (.c (.func (.func 21) #[] #[])) [(.t 113), (.c (.int .i64 93))] false)])))
       (.seq
        (.region [
          y 116 (.bin .eql .int (.t 6) (.c (.int .i64 93))),
          y 115 (.mv (.t 116))])
       (.cond (.t 115)
        (.seq
         (.region [
           y 117 (.mv (.t 0)),
           y 118 (.call (.c (.func (.func 90) #[] #[])) [(.t 117), (.c (.int .u64 1))] false)])
        (.region [
          y 119 (.mv (.t 0)),
          y 120 (.call (.c (.func (.func 21) #[] #[])) [(.t 119), (.c (.int .i64 94))] false)]))
        (.seq
         (.region [
           y 7 (.mv (.t 0)),
           y 8 (.call (.c (.func (.func 7) #[] #[])) [(.t 7)] false)])
        (.seq
         (.region [
           y 9 (.mv (.t 0)),
           y 10 (.nilCheck (.t 9)),
           y 11 (.addOff 24 (.t 10)),
           y 12 (.load false 1 (.t 11)),
           y 13 (.un .not (.t 12))])
        (.cond (.t 13)
         (.region [
           y 14 (.mv (.t 0)),
           y 15 (.mv (.t 0)),
           y 16 (.nilCheck (.t 15)),
           y 17 (.addOff 1 (.t 16)),
           y 18 (.load true 6 (.t 17)),
           y 19 (.call (.c (.func (.func 38) #[] #[])) [(.t 18)] true),
           y 20 (.call (.c (.func (.func 84) #[] #[])) [(.t 14), (.t 19), (.c (.int .u64 0))] false)])
         .skip))))))))))))))),
  []⟩

/-- (*wainscot/flush.step).trim -/
def i71 : IFun := ⟨87,
  (.seq
   (.region [
     y 2 (.mv (.t 0)),
     y 3 (.nilCheck (.t 2)),
     y 4 (.addOff 7 (.t 3)),
     y 5 (.addOff 2 (.t 4)),
     y 6 (.load false 1 (.t 5))])
  (.block 0
   (.seq
    (.region [
      y 17 (.bin .eql .int (.t 6) (.c (.int .i64 95))),
      y 16 (.mv (.t 17))])
   (.cond (.t 16)
    (.region [
      y 18 (.mv (.t 0)),
      y 19 (.mv (.t 0)),
      y 20 (.call (.c (.func (.func 85) #[] #[])) [(.t 19)] false),
      y 21 (.call (.c (.func (.func 80) #[] #[])) [(.t 18), (.t 20), (.c (.int .i64 96)), (.c (.int .i64 95))] false)])
    (.seq
     (.region [
       y 23 (.bin .eql .int (.t 6) (.c (.int .i64 96))),
       y 22 (.mv (.t 23))])
    (.cond (.t 22)
     (.seq
      (.region [
        y 24 (.mv (.t 0)),
        y 25 (.mv (.t 0)),
        y 26 (.nilCheck (.t 25)),
        y 27 (.addOff 1 (.t 26)),
        y 28 (.load true 6 (.t 27)),
        y 29 (.call (.c (.func (.func 41) #[] #[])) [(.t 28)] true),
        y 30 (.call (.c (.func (.func 89) #[] #[])) [(.t 24), (.t 29)] false)])
     (.seq
      (.region [
        y 31 (.mv (.t 0)),
        y 32 (.nilCheck (.t 31)),
        y 33 (.addOff 7 (.t 32)),
        y 34 (.addOff 14 (.t 33)),
        x (.store 1 (.t 34) (.c (.int .i64 (-1))))])
     (.region [
       y 35 (.mv (.t 0)),
       y 36 (.call (.c (.func (.func 91) #[] #[])) [(.t 35)] false)])))
     (.seq
      (.region [
        y 38 (.bin .eql .int (.t 6) (.c (.int .i64 97))),
        y 37 (.mv (.t 38))])
     (.cond (.t 37)
      (.seq
       (.region [
         y 39 (.mv (.t 0)),
         y 40 (.mv (.t 0)),
         y 41 (.mv (.t 0)),
         y 42 (.nilCheck (.t 41)),
         y 43 (.addOff 1 (.t 42)),
         y 44 (.load true 6 (.t 43)),
         y 45 (.mv (.t 0)),
         y 46 (.nilCheck (.t 45)),
         y 47 (.addOff 7 (.t 46)),
         y 48 (.addOff 5 (.t 47)),
         y 49 (.load false 1 (.t 48)),
         y 50 (.call (.c (.func (.func 29) #[] #[])) [(.t 44), (.t 49)] true),
         y 51 (.call (.c (.func (.func 79) #[] #[])) [(.t 50)] true),
         y 52 (.call (.c (.func (.func 78) #[] #[])) [(.t 40), (.t 51)] false),
         y 53 (.nilCheck (.t 39)),
         y 54 (.addOff 7 (.t 53)),
         y 55 (.addOff 10 (.t 54)),
         x (.store 1 (.t 55) (.t 52))])
      (.region [
        y 56 (.mv (.t 0)),
        y 57 (.mv (.t 0)),
        y 58 (.call (.c (.func (.func 87) #[] #[])) [(.t 57)] false),
        y 59 (.field false 0 1 (.t 58)),
        y 60 (.bin .eql .int (.t 59) (.c (.int .i64 0))),
        y 61 (.call (.c (.func (.func 80) #[] #[])) [(.t 56), (.t 60), (.c (.int .i64 100)), (.c (.int .i64 98))] false)]))
      (.seq
       (.region [
         y 63 (.bin .eql .int (.t 6) (.c (.int .i64 98))),
         y 62 (.mv (.t 63))])
      (.cond (.t 62)
       (.seq
        (.region [
          y 64 (.mv (.t 0)),
          y 65 (.mv (.t 0)),
          y 66 (.nilCheck (.t 65)),
          y 67 (.addOff 1 (.t 66)),
          y 68 (.load true 6 (.t 67)),
          y 69 (.mv (.t 0)),
          y 70 (.nilCheck (.t 69)),
          y 71 (.addOff 7 (.t 70)),
          y 72 (.addOff 5 (.t 71)),
          y 73 (.load false 1 (.t 72)),
          y 74 (.call (.c (.func (.func 59) #[] #[])) [(.t 68), (.t 73)] true),
          y 75 (.call (.c (.func (.func 89) #[] #[])) [(.t 64), (.t 74)] false)])
       (.seq
        (.region [
          y 76 (.mv (.t 0)),
          y 77 (.mv (.t 0)),
          y 78 (.nilCheck (.t 77)),
          y 79 (.addOff 7 (.t 78)),
          y 80 (.addOff 5 (.t 79)),
          y 81 (.load false 1 (.t 80)),
          y 82 (.nilCheck (.t 76)),
          y 83 (.addOff 7 (.t 82)),
          y 84 (.addOff 14 (.t 83)),
          x (.store 1 (.t 84) (.t 81))])
       (.region [
         y 85 (.mv (.t 0)),
         y 86 (.call (.c (.func (.func 91) #[] #[])) [(.t 85)] false)])))
       (.seq
        (.region [
          y 7 (.mv (.t 0)),
          y 8 (.mv (.t 0)),
          y 9 (.nilCheck (.t 8)),
          y 10 (.addOff 1 (.t 9)),
          y 11 (.load true 6 (.t 10)),
          y 12 (.call (.c (.func (.func 38) #[] #[])) [(.t 11)] true),
          y 13 (.call (.c (.func (.func 84) #[] #[])) [(.t 7), (.t 12), (.c (.int .u64 0))] false)])
       (.region [
         y 14 (.mv (.t 0)),
         y 15 (.call (.c (.func (.func 20) #[] #[])) [(.t 14)] false)])))))))))))),
  []⟩

/-- (*wainscot/flush.step).off -/
def i72 : IFun := ⟨85,
  (.seq
   (.region [
     y 3 (.mv (.t 0)),
     y 4 (.nilCheck (.t 3)),
     y 5 (.addOff 7 (.t 4)),
     y 6 (.addOff 2 (.t 5)),
     y 7 (.load false 1 (.t 6))])
  (.block 0
   (.seq
    (.region [
      y 17 (.bin .eql .int (.t 7) (.c (.int .i64 100))),
      y 16 (.mv (.t 17))])
   (.cond (.t 16)
    (.seq
     (.region [
       y 18 (.mv (.t 0)),
       y 19 (.mv (.t 0)),
       y 20 (.mv (.t 0)),
       y 21 (.nilCheck (.t 20)),
       y 22 (.addOff 1 (.t 21)),
       y 23 (.load true 6 (.t 22)),
       y 24 (.mv (.t 0)),
       y 25 (.nilCheck (.t 24)),
       y 26 (.addOff 7 (.t 25)),
       y 27 (.addOff 5 (.t 26)),
       y 28 (.load false 1 (.t 27)),
       y 29 (.call (.c (.func (.func 29) #[] #[])) [(.t 23), (.t 28)] true),
       y 30 (.call (.c (.func (.func 78) #[] #[])) [(.t 19), (.t 29)] false),
       y 31 (.nilCheck (.t 18)),
       y 32 (.addOff 7 (.t 31)),
       y 33 (.addOff 9 (.t 32)),
       x (.store 1 (.t 33) (.t 30))])
    (.region [
      y 34 (.mv (.t 0)),
      y 35 (.call (.c (.func (.func 21) #[] #[])) [(.t 34), (.c (.int .i64 101))] false)]))
    (.seq
     (.region [
       y 37 (.bin .eql .int (.t 7) (.c (.int .i64 101))),
       y 36 (.mv (.t 37))])
    (.cond (.t 36)
     (.seq
      (.region [
        y 38 (.mv (.t 0)),
        y 39 (.mv (.t 0)),
        y 40 (.nilCheck (.t 39)),
        y 41 (.addOff 1 (.t 40)),
        y 42 (.load true 6 (.t 41)),
        y 43 (.mv (.t 0)),
        y 44 (.nilCheck (.t 43)),
        y 45 (.addOff 7 (.t 44)),
        y 46 (.addOff 5 (.t 45)),
        y 47 (.load false 1 (.t 46)),
        y 48 (.call (.c (.func (.func 59) #[] #[])) [(.t 42), (.t 47)] true),
        y 49 (.call (.c (.func (.func 89) #[] #[])) [(.t 38), (.t 48)] false)])
     (.region [
       y 50 (.mv (.t 0)),
       y 51 (.call (.c (.func (.func 21) #[] #[])) [(.t 50), (.c (.int .i64 102))] false)]))
     (.seq
      (.region [
        y 53 (.bin .eql .int (.t 7) (.c (.int .i64 102))),
        y 52 (.mv (.t 53))])
     (.cond (.t 52)
      (.seq
       (.region [
         y 54 (.mv (.t 0)),
         y 55 (.nilCheck (.t 54)),
         y 56 (.addOff 1 (.t 55)),
         y 57 (.load true 6 (.t 56)),
         y 58 (.call (.c (.func (.func 41) #[] #[])) [(.t 57)] true),
         y 2 (.mv (.t 58))])
      (.seq
       (.seq
        (.region [
          y 59 (.mv (.t 0)),
          y 60 (.nilCheck (.t 59)),
          y 61 (.addOff 7 (.t 60)),
          y 62 (.addOff 14 (.t 61)),
          y 63 (.load false 1 (.t 62)),
          y 64 (.bin .neq .int (.t 63) (.c (.int .i64 (-1))))])
       (.cond (.t 64)
        (.region [
          y 65 (.mv (.t 0)),
          y 66 (.nilCheck (.t 65)),
          y 67 (.addOff 1 (.t 66)),
          y 68 (.load true 6 (.t 67)),
          y 69 (.mv (.t 0)),
          y 70 (.nilCheck (.t 69)),
          y 71 (.addOff 7 (.t 70)),
          y 72 (.addOff 14 (.t 71)),
          y 73 (.load false 1 (.t 72)),
          y 74 (.call (.c (.func (.func 59) #[] #[])) [(.t 68), (.t 73)] true),
          y 2 (.mv (.t 74))])
        .skip))
      (.seq
       (.region [
         y 75 (.mv (.t 0)),
         y 76 (.mv (.t 2)),
         y 77 (.mv (.t 0)),
         y 78 (.nilCheck (.t 77)),
         y 79 (.addOff 7 (.t 78)),
         y 80 (.addOff 11 (.t 79)),
         y 81 (.load false 1 (.t 80)),
         y 82 (.call (.c (.func (.func 84) #[] #[])) [(.t 75), (.t 76), (.t 81)] false)])
      (.region [
        y 83 (.mv (.t 0)),
        y 84 (.call (.c (.func (.func 21) #[] #[])) [(.t 83), (.c (.int .i64 103))] false)]))))
      (.seq
       (.region [
         y 8 (.mv (.t 0)),
         y 9 (.call (.c (.func (.func 90) #[] #[])) [(.t 8), (.c (.int .u64 18446744073709551615))] false)])
      (.seq
       (.region [
         y 10 (.mv (.t 0)),
         y 11 (.nilCheck (.t 10)),
         y 12 (.addOff 7 (.t 11)),
         y 13 (.addOff 15 (.t 12)),
         x (.store 1 (.t 13) (.c (.int .i64 95)))])
      (.region [
        y 14 (.mv (.t 0)),
        y 15 (.call (.c (.func (.func 21) #[] #[])) [(.t 14), (.c (.int .i64 76))] false)]))))))))))),
  []⟩

/-- wainscot/count.told[int] -/
def i73 : IFun := ⟨34,
  (.seq
   (.region [
     y 8 (.mv (.c (.int .i64 0))),
     y 9 (.mv (.c (.int .i64 0))),
     y 10 (.mv (.c (.bool false)))])
  (.seq
   (.region [
     y 13 (.mv (.t 0)),
     y 14 (.bin .shr .int (.t 13) (.c (.int .u64 6))),
     y 15 (.conv .i64 (.t 14)),
     y 16 (.mv (.t 1)),
     y 17 (.bin .sub .int (.t 15) (.t 16)),
     y 18 (.mv (.t 0)),
     y 19 (.bin .and .int (.t 18) (.c (.int .u64 63))),
     y 20 (.conv .i64 (.t 19)),
     y 21 (.mv (.t 2)),
     y 22 (.bin .sub .int (.t 20) (.t 21)),
     y 11 (.mv (.t 17)),
     y 12 (.mv (.t 22))])
  (.seq
   (.seq
    (.region [
      y 23 (.mv (.t 0)),
      y 24 (.bin .gtr .int (.t 23) (.c (.int .u64 4095))),
      y 25 (.mv (.t 24)),
      ⟨(some 26), .mv (.t 3), (some (25, false)), [], [], false⟩,
      ⟨(some 27), .mv (.t 11), (some (25, false)), [], [], false⟩,
      ⟨(some 28), .mv (.t 12), (some (25, false)), [], [], false⟩,
      ⟨(some 29), .call (.t 26) [(.t 27), (.t 28)] false, (some (25, false)), [], [], false⟩,
      ⟨(some 30), .un .not (.t 29), (some (25, false)), [], [], false⟩,
      y 31 (.pick (.t 25) (.c (.bool true)) (.t 30))])
   (.cond (.t 31)
    (.seq
     (.region [
       y 8 (.mv (.c (.int .i64 0))),
       y 9 (.mv (.c (.int .i64 0))),
       y 10 (.mv (.c (.bool false)))])
    .ret)
    .skip))
  (.seq
   (.region [
     y 32 (.mv (.t 11)),
     y 33 (.mv (.t 12)),
     y 8 (.mv (.t 32)),
     y 9 (.mv (.t 33)),
     y 10 (.mv (.c (.bool true)))])
  .ret)))),
  [.tmp 8, .tmp 9, .tmp 10]⟩

/-- wainscot/count.HeadOf$1 -/
def i74 : IFun := ⟨15,
  (.seq
   (.region [
     y 4 (.mv (.c (.bool false)))])
  (.seq
   (.region [
     y 8 (.mv (.t 0)),
     y 9 (.mv (.t 1)),
     y 10 (.call (.c (.func (.func 11) #[] #[])) [(.t 8), (.t 9)] true),
     y 7 (.mv (.t 10)),
     y 11 (.extract (.t 7) 0),
     y 12 (.extract (.t 7) 1),
     y 5 (.mv (.t 11)),
     y 6 (.mv (.t 12))])
  (.seq
   (.region [
     y 13 (.mv (.t 6)),
     y 14 (.bin .eql .int (.t 13) (.c (.int .i64 0))),
     y 4 (.mv (.t 14))])
  .ret))),
  [.tmp 4]⟩

/-- wainscot/link.List -/
def i75 : IFun := ⟨58,
  (.seq
   (.region [
     y 6 (.mv (.c (.slice none 0 0))),
     y 7 (.mv (.c (.int .i64 0)))])
  (.seq
   (.seq
    (.region [
      y 12 (.mv (.t 0)),
      y 13 (.lenS (.t 12)),
      y 14 (.bin .gtr .int (.t 13) (.c (.int .i64 16))),
      y 15 (.mv (.t 14)),
      ⟨(some 16), .mv (.t 2), (some (15, false)), [], [], false⟩,
      ⟨(some 17), .bin .lss .int (.t 16) (.c (.int .i64 (-1))), (some (15, false)), [], [], false⟩,
      y 18 (.pick (.t 15) (.c (.bool true)) (.t 17)),
      y 19 (.mv (.t 18)),
      ⟨(some 20), .mv (.t 2), (some (19, false)), [], [], false⟩,
      ⟨(some 21), .mv (.t 0), (some (19, false)), [], [], false⟩,
      ⟨(some 22), .lenS (.t 21), (some (19, false)), [], [], false⟩,
      ⟨(some 23), .bin .geq .int (.t 20) (.t 22), (some (19, false)), [], [], false⟩,
      y 24 (.pick (.t 19) (.c (.bool true)) (.t 23))])
   (.cond (.t 24)
    (.seq
     (.region [
       y 6 (.mv (.c (.slice none 0 0))),
       y 7 (.mv (.c (.int .i64 2)))])
    .ret)
    .skip))
  (.seq
   (.region [
     y 8 (.new 118 [(.bool false), (.bool false), (.bool false), (.bool false), (.bool false), (.bool false), (.bool false), (.bool false), (.bool false), (.bool false), (.bool false), (.bool false), (.bool false), (.bool false), (.bool false), (.bool false)])])
  (.seq
   (.region [
     y 9 (.mv (.c (.slice none 0 0)))])
  (.seq
   .skip
  (.seq
   (.block 0
    (.loop
     (.block 1
      (.seq
       (.block 2
        (.seq
         (.region [
           y 26 (.mv (.t 2)),
           y 27 (.bin .eql .int (.t 26) (.c (.int .i64 (-1)))),
           y 25 (.mv (.t 27))])
        (.cond (.t 25)
         (.exit 0)
         (.seq
          (.region [
            y 29 (.mv (.t 2)),
            y 30 (.idxA 16 1 (.t 8) (.t 29)),
            y 31 (.load false 1 (.t 30)),
            y 28 (.mv (.t 31))])
         (.cond (.t 28)
          (.seq
           (.region [
             y 6 (.mv (.c (.slice none 0 0))),
             y 7 (.mv (.c (.int .i64 150)))])
          .ret)
          .skip)))))
      (.seq
       (.region [
         y 32 (.mv (.t 2)),
         y 33 (.idxA 16 1 (.t 8) (.t 32)),
         x (.store 1 (.t 33) (.c (.bool true)))])
      (.seq
       (.region [
         y 34 (.mv (.t 9)),
         y 35 (.mv (.t 2)),
         y 36 (.buildSlice 3 [(.int .i64 0)] 1 [(0, 1, (.t 35))]),
         y 37 (.append 3 1 8 (.t 34) (.t 36)),
         y 9 (.mv (.t 37))])
      (.seq
       (.region [
         y 39 (.mv (.t 0)),
         y 40 (.mv (.t 2)),
         y 41 (.idxS 1 (.t 39) (.t 40)),
         y 42 (.load false 1 (.t 41)),
         y 43 (.mv (.t 1)),
         y 44 (.mv (.t 2)),
         y 45 (.call (.c (.func (.func 86) #[] #[])) [(.t 42), (.t 43), (.t 44)] true),
         y 38 (.mv (.t 45)),
         y 46 (.extract (.t 38) 0),
         y 47 (.extract (.t 38) 1),
         y 10 (.mv (.t 46)),
         y 11 (.mv (.t 47))])
      (.seq
       (.seq
        (.region [
          y 48 (.mv (.t 11)),
          y 49 (.un .not (.t 48)),
          y 50 (.mv (.t 49)),
          ⟨(some 51), .mv (.t 10), (some (50, false)), [], [], false⟩,
          ⟨(some 52), .mv (.t 0), (some (50, false)), [], [], false⟩,
          ⟨(some 53), .lenS (.t 52), (some (50, false)), [], [], false⟩,
          ⟨(some 54), .bin .geq .int (.t 51) (.t 53), (some (50, false)), [], [], false⟩,
          y 55 (.pick (.t 50) (.c (.bool true)) (.t 54))])
       (.cond (.t 55)
        (.seq
         (.region [
           y 6 (.mv (.c (.slice none 0 0))),
           y 7 (.mv (.c (.int .i64 150)))])
        .ret)
        .skip))
      (.region [
        y 56 (.mv (.t 10)),
        y 2 (.mv (.t 56))])))))))))
  (.seq
   (.region [
     y 57 (.mv (.t 9)),
     y 6 (.mv (.t 57)),
     y 7 (.mv (.c (.int .i64 0)))])
  .ret))))))),
  [.tmp 6, .tmp 7]⟩

/-- wainscot/count.PartOf -/
def i76 : IFun := ⟨15,
  (.seq
   (.region [
     y 2 (.mv (.c (.int .i64 0))),
     y 3 (.mv (.c (.int .i64 0))),
     y 4 (.mv (.c (.bool false)))])
  (.seq
   (.region [
     y 6 (.mv (.t 0)),
     y 7 (.call (.c (.func (.func 73) #[] #[])) [(.t 6), (.c (.int .i64 0)), (.c (.int .i64 1)), (.c (.func (.func 92) #[] #[]))] true),
     y 5 (.mv (.t 7)),
     y 8 (.extract (.t 5) 0),
     y 9 (.extract (.t 5) 1),
     y 10 (.extract (.t 5) 2),
     y 3 (.mv (.t 8)),
     y 2 (.mv (.t 9)),
     y 4 (.mv (.t 10))])
  (.seq
   (.seq
    (.region [
      y 11 (.mv (.t 4)),
      y 12 (.un .not (.t 11))])
   (.cond (.t 12)
    (.seq
     (.region [
       y 2 (.mv (.c (.int .i64 (-1)))),
       y 3 (.mv (.c (.int .i64 0))),
       y 4 (.mv (.c (.bool false)))])
    .ret)
    .skip))
  (.seq
   (.region [
     y 13 (.mv (.t 2)),
     y 14 (.mv (.t 3)),
     y 2 (.mv (.t 13)),
     y 3 (.mv (.t 14)),
     y 4 (.mv (.c (.bool true)))])
  .ret)))),
  [.tmp 2, .tmp 3, .tmp 4]⟩

/-- wainscot/chart.Next$1 -/
def i77 : IFun := ⟨9,
  (.seq
   (.region [
     y 2 (.mv (.c (.int .i64 0)))])
  (.seq
   (.region [
     y 3 (.load true 6 (.t 0)),
     y 4 (.call (.c (.func (.func 45) #[] #[])) [(.t 3)] true),
     y 5 (.load false 1 (.t 1)),
     y 6 (.bin .mul .int (.c (.int .i64 4)) (.t 5)),
     y 7 (.bin .add .int (.t 4) (.t 6)),
     y 8 (.bin .add .int (.t 7) (.c (.int .i64 2))),
     y 2 (.mv (.t 8))])
  .ret)),
  [.tmp 2]⟩

/-- (*wainscot/flush.step).load -/
def i78 : IFun := ⟨21,
  (.seq
   (.region [
     y 4 (.mv (.c (.int .u64 0)))])
  (.seq
   (.region [
     y 8 (.mv (.t 0)),
     y 9 (.nilCheck (.t 8)),
     y 10 (.addOff 0 (.t 9)),
     y 11 (.load false 1 (.t 10)),
     y 12 (.mv (.t 1)),
     y 13 (.call (.c (.func (.func 94) #[] #[])) [(.t 11), (.t 12)] false),
     y 7 (.mv (.t 13)),
     y 14 (.extract (.t 7) 0),
     y 15 (.extract (.t 7) 1),
     y 5 (.mv (.t 14)),
     y 6 (.mv (.t 15))])
  (.seq
   (.region [
     y 16 (.mv (.t 0)),
     y 17 (.mv (.t 6)),
     y 18 (.bin .eql .int (.t 17) (.c (.int .i64 0))),
     y 19 (.call (.c (.func (.func 22) #[] #[])) [(.t 16), (.t 18)] false)])
  (.seq
   (.region [
     y 20 (.mv (.t 5)),
     y 4 (.mv (.t 20))])
  .ret)))),
  [.tmp 4]⟩

/-- wainscot/flush.behind -/
def i79 : IFun := ⟨8,
  (.seq
   (.region [
     y 2 (.mv (.c (.int .i64 0)))])
  (.seq
   (.seq
    (.region [
      y 3 (.mv (.t 0)),
      y 4 (.bin .lss .int (.t 3) (.c (.int .i64 0)))])
   (.cond (.t 4)
    (.seq
     (.region [
       y 5 (.mv (.t 0)),
       y 2 (.mv (.t 5))])
    .ret)
    .skip))
  (.seq
   (.region [
     y 6 (.mv (.t 0)),
     y 7 (.bin .add .int (.t 6) (.c (.int .i64 1))),
     y 2 (.mv (.t 7))])
  .ret))),
  [.tmp 2]⟩

/-- (*wainscot/flush.step).either -/
def i80 : IFun := ⟨15,
  (.seq
   (.region [
     y 8 (.mv (.t 1))])
  (.cond (.t 8)
   (.region [
     y 9 (.mv (.t 0)),
     y 10 (.mv (.t 2)),
     y 11 (.call (.c (.func (.func 21) #[] #[])) [(.t 9), (.t 10)] false)])
   (.region [
     y 12 (.mv (.t 0)),
     y 13 (.mv (.t 3)),
     y 14 (.call (.c (.func (.func 21) #[] #[])) [(.t 12), (.t 13)] false)]))),
  []⟩

/-- (*wainscot/flush.step).cas2 -/
def i81 : IFun := ⟨33,
  (.seq
   (.region [
     y 12 (.mv (.c (.bool false)))])
  (.seq
   (.region [
     y 16 (.mv (.t 0)),
     y 17 (.nilCheck (.t 16)),
     y 18 (.addOff 0 (.t 17)),
     y 19 (.load false 1 (.t 18)),
     y 20 (.mv (.t 1)),
     y 21 (.mv (.t 2)),
     y 22 (.mv (.t 3)),
     y 23 (.mv (.t 4)),
     y 24 (.mv (.t 5)),
     y 25 (.call (.c (.func (.func 95) #[] #[])) [(.t 19), (.t 20), (.t 21), (.t 22), (.t 23), (.t 24)] false),
     y 15 (.mv (.t 25)),
     y 26 (.extract (.t 15) 0),
     y 27 (.extract (.t 15) 1),
     y 13 (.mv (.t 26)),
     y 14 (.mv (.t 27))])
  (.seq
   (.region [
     y 28 (.mv (.t 0)),
     y 29 (.mv (.t 14)),
     y 30 (.bin .eql .int (.t 29) (.c (.int .i64 0))),
     y 31 (.call (.c (.func (.func 22) #[] #[])) [(.t 28), (.t 30)] false)])
  (.seq
   (.region [
     y 32 (.mv (.t 13)),
     y 12 (.mv (.t 32))])
  .ret)))),
  [.tmp 12]⟩

/-- wainscot/chart.Part -/
def i82 : IFun := ⟨11,
  (.seq
   (.region [
     y 2 (.box 34 6 (.t 0)),
     y 3 (.box 3 1 (.t 1)),
     y 4 (.mv (.c (.int .i64 0)))])
  (.seq
   (.region [
     y 5 (.load true 6 (.t 2)),
     y 6 (.load false 1 (.t 3)),
     y 7 (.addOff 0 (.t 2)),
     y 8 (.load false 1 (.t 7)),
     y 9 (.mkFunc 96 [] [(.t 3)]),
     y 10 (.call (.c (.func (.func 35) #[] #[])) [(.t 5), (.t 6), (.t 8), (.t 9)] true),
     y 4 (.mv (.t 10))])
  .ret)),
  [.tmp 4]⟩

/-- (*wainscot/flush.step).part -/
def i83 : IFun := ⟨31,
  (.seq
   (.region [
     y 4 (.mv (.c (.int .u64 0))),
     y 5 (.mv (.c (.int .i64 0)))])
  (.seq
   (.region [
     y 8 (.mv (.t 0)),
     y 9 (.mv (.t 1)),
     y 10 (.call (.c (.func (.func 78) #[] #[])) [(.t 8), (.t 9)] false),
     y 4 (.mv (.t 10))])
  (.seq
   (.region [
     y 12 (.mv (.t 4)),
     y 13 (.call (.c (.func (.func 76) #[] #[])) [(.t 12)] true),
     y 11 (.mv (.t 13)),
     y 14 (.extract (.t 11) 0),
     y 15 (.extract (.t 11) 1),
     y 16 (.extract (.t 11) 2),
     y 5 (.mv (.t 14)),
     y 6 (.mv (.t 15)),
     y 7 (.mv (.t 16))])
  (.seq
   (.region [
     y 17 (.mv (.t 0)),
     y 18 (.mv (.t 7)),
     y 19 (.mv (.t 18)),
     ⟨(some 20), .mv (.t 5), (some (19, true)), [], [], false⟩,
     ⟨(some 21), .mv (.t 0), (some (19, true)), [], [], false⟩,
     ⟨(some 22), .nilCheck (.t 21), (some (19, true)), [], [], false⟩,
     ⟨(some 23), .addOff 1 (.t 22), (some (19, true)), [], [], false⟩,
     ⟨(some 24), .addOff 1 (.t 23), (some (19, true)), [], [], false⟩,
     ⟨(some 25), .load false 1 (.t 24), (some (19, true)), [], [], false⟩,
     ⟨(some 26), .bin .lss .int (.t 20) (.t 25), (some (19, true)), [], [], false⟩,
     y 27 (.pick (.t 19) (.t 26) (.c (.bool false))),
     y 28 (.call (.c (.func (.func 22) #[] #[])) [(.t 17), (.t 27)] false)])
  (.seq
   (.region [
     y 29 (.mv (.t 4)),
     y 30 (.mv (.t 5)),
     y 4 (.mv (.t 29)),
     y 5 (.mv (.t 30))])
  .ret))))),
  [.tmp 4, .tmp 5]⟩

/-- (*wainscot/flush.step).store -/
def i84 : IFun := ⟨16,
  (.region [
    y 6 (.mv (.t 0)),
    y 7 (.mv (.t 0)),
    y 8 (.nilCheck (.t 7)),
    y 9 (.addOff 0 (.t 8)),
    y 10 (.load false 1 (.t 9)),
    y 11 (.mv (.t 1)),
    y 12 (.mv (.t 2)),
    y 13 (.call (.c (.func (.func 14) #[] #[])) [(.t 10), (.t 11), (.t 12)] false),
    y 14 (.bin .eql .int (.t 13) (.c (.int .i64 0))),
    y 15 (.call (.c (.func (.func 22) #[] #[])) [(.t 6), (.t 14)] false)]),
  []⟩

/-- (*wainscot/flush.step).taken -/
def i85 : IFun := ⟨23,
  (.seq
   (.region [
     y 2 (.mv (.c (.bool false)))])
  (.seq
   (.region [
     y 6 (.mv (.t 0)),
     y 7 (.nilCheck (.t 6)),
     y 8 (.addOff 0 (.t 7)),
     y 9 (.load false 1 (.t 8)),
     y 10 (.mv (.t 0)),
     y 11 (.nilCheck (.t 10)),
     y 12 (.addOff 1 (.t 11)),
     y 13 (.load true 6 (.t 12)),
     y 14 (.call (.c (.func (.func 38) #[] #[])) [(.t 13)] true),
     y 15 (.call (.c (.func (.func 97) #[] #[])) [(.t 9), (.t 14), (.c (.int .u64 0)), (.c (.int .u64 1))] false),
     y 5 (.mv (.t 15)),
     y 16 (.extract (.t 5) 0),
     y 17 (.extract (.t 5) 1),
     y 3 (.mv (.t 16)),
     y 4 (.mv (.t 17))])
  (.seq
   (.region [
     y 18 (.mv (.t 0)),
     y 19 (.mv (.t 4)),
     y 20 (.bin .eql .int (.t 19) (.c (.int .i64 0))),
     y 21 (.call (.c (.func (.func 22) #[] #[])) [(.t 18), (.t 20)] false)])
  (.seq
   (.region [
     y 22 (.mv (.t 3)),
     y 2 (.mv (.t 22))])
  .ret)))),
  [.tmp 2]⟩

/-- wainscot/link.Show -/
def i86 : IFun := ⟨21,
  (.seq
   (.region [
     y 6 (.mv (.c (.int .i64 0))),
     y 7 (.mv (.c (.bool false)))])
  (.seq
   (.seq
    (.region [
      y 8 (.mv (.t 2)),
      y 9 (.call (.c (.func (.func 49) #[] #[])) [(.t 8)] true),
      y 10 (.un .not (.t 9))])
   (.cond (.t 10)
    (.seq
     (.region [
       y 6 (.mv (.c (.int .i64 0))),
       y 7 (.mv (.c (.bool false)))])
    .ret)
    .skip))
  (.seq
   (.seq
    (.region [
      y 11 (.mv (.t 0)),
      y 12 (.mv (.t 1)),
      y 13 (.mv (.t 2)),
      y 14 (.call (.c (.func (.func 50) #[] #[])) [(.t 12), (.t 13)] true),
      y 15 (.bin .xor .int (.t 11) (.t 14)),
      y 0 (.mv (.t 15))])
   (.seq
    (.region [
      y 16 (.mv (.t 0)),
      y 17 (.bin .gtr .int (.t 16) (.c (.int .u64 16)))])
   (.cond (.t 17)
    (.seq
     (.region [
       y 6 (.mv (.c (.int .i64 0))),
       y 7 (.mv (.c (.bool false)))])
    .ret)
    .skip)))
  (.seq
   (.region [
     y 18 (.mv (.t 0)),
     y 19 (.conv .i64 (.t 18)),
     y 20 (.bin .sub .int (.t 19) (.c (.int .i64 1))),
     y 6 (.mv (.t 20)),
     y 7 (.mv (.c (.bool true)))])
  .ret)))),
  [.tmp 6, .tmp 7]⟩

/-- (*wainscot/flush.step).slab -/
def i87 : IFun := ⟨22,
  (.seq
   (.region [
     y 2 (.new 60 [(.int .i64 0), (.int .i64 0), (.bool false), (.bool false)])])
  (.seq
   (.region [
     y 6 (.mv (.t 0)),
     y 7 (.nilCheck (.t 6)),
     y 8 (.addOff 7 (.t 7)),
     y 9 (.addOff 10 (.t 8)),
     y 10 (.load false 1 (.t 9)),
     y 11 (.call (.c (.func (.func 61) #[] #[])) [(.t 10)] true),
     y 5 (.mv (.t 11)),
     y 12 (.extract (.t 5) 0),
     y 13 (.extract (.t 5) 1),
     y 3 (.new 60 [(.int .i64 0), (.int .i64 0), (.bool false), (.bool false)]),
     x (.store 4 (.t 3) (.t 12)),
     y 4 (.mv (.t 13))])
  (.seq
   (.region [
     y 14 (.mv (.t 0)),
     y 15 (.mv (.t 4)),
     y 16 (.mv (.t 15)),
     ⟨(some 17), .addOff 3 (.t 3), (some (16, true)), [], [], false⟩,
     ⟨(some 18), .load false 1 (.t 17), (some (16, true)), [], [], false⟩,
     y 19 (.pick (.t 16) (.t 18) (.c (.bool false))),
     y 20 (.call (.c (.func (.func 22) #[] #[])) [(.t 14), (.t 19)] false)])
  (.seq
   (.region [
     y 21 (.load true 4 (.t 3)),
     x (.store 4 (.t 2) (.t 21))])
  .ret)))),
  [.cell 2 true 4]⟩

/-- wainscot/chart.Held -/
def i88 : IFun := ⟨6,
  (.seq
   (.region [
     y 1 (.box 34 6 (.t 0)),
     y 2 (.mv (.c (.int .i64 0)))])
  (.seq
   (.region [
     y 3 (.load true 6 (.t 1)),
     y 4 (.mkFunc 98 [] [(.t 1)]),
     y 5 (.call (.c (.func (.func 35) #[] #[])) [(.t 3), (.c (.int .i64 0)), (.c (.int .i64 1)), (.t 4)] true),
     y 2 (.mv (.t 5))])
  .ret)),
  [.tmp 2]⟩

/-- (*wainscot/flush.step).word -/
def i89 : IFun := ⟨25,
  (.seq
   (.region [
     y 4 (.mv (.t 0)),
     y 5 (.mv (.t 0)),
     y 6 (.mv (.t 1)),
     y 7 (.call (.c (.func (.func 78) #[] #[])) [(.t 5), (.t 6)] false),
     y 8 (.nilCheck (.t 4)),
     y 9 (.addOff 7 (.t 8)),
     y 10 (.addOff 11 (.t 9)),
     x (.store 1 (.t 10) (.t 7))])
  (.region [
    y 11 (.mv (.t 0)),
    y 12 (.mv (.t 0)),
    y 13 (.nilCheck (.t 12)),
    y 14 (.addOff 7 (.t 13)),
    y 15 (.addOff 11 (.t 14)),
    y 16 (.load false 1 (.t 15)),
    y 17 (.mv (.t 0)),
    y 18 (.nilCheck (.t 17)),
    y 19 (.addOff 1 (.t 18)),
    y 20 (.addOff 1 (.t 19)),
    y 21 (.load false 1 (.t 20)),
    y 22 (.conv .u64 (.t 21)),
    y 23 (.bin .leq .int (.t 16) (.t 22)),
    y 24 (.call (.c (.func (.func 22) #[] #[])) [(.t 11), (.t 23)] false)])),
  []⟩

/-- (*wainscot/flush.step).add -/
def i90 : IFun := ⟨24,
  (.seq
   (.region [
     y 7 (.mv (.t 0)),
     y 8 (.nilCheck (.t 7)),
     y 9 (.addOff 0 (.t 8)),
     y 10 (.load false 1 (.t 9)),
     y 11 (.mv (.t 0)),
     y 12 (.nilCheck (.t 11)),
     y 13 (.addOff 1 (.t 12)),
     y 14 (.load true 6 (.t 13)),
     y 15 (.call (.c (.func (.func 88) #[] #[])) [(.t 14)] true),
     y 16 (.mv (.t 1)),
     y 17 (.call (.c (.func (.func 99) #[] #[])) [(.t 10), (.t 15), (.t 16)] false),
     y 6 (.mv (.t 17)),
     y 18 (.extract (.t 6) 0),
     y 19 (.extract (.t 6) 1),
     y 4 (.mv (.t 18)),
     y 5 (.mv (.t 19))])
  (.region [
    y 20 (.mv (.t 0)),
    y 21 (.mv (.t 5)),
    y 22 (.bin .eql .int (.t 21) (.c (.int .i64 0))),
    y 23 (.call (.c (.func (.func 22) #[] #[])) [(.t 20), (.t 22)] false)])),
  []⟩

/-- (*wainscot/flush.step).looked -/
def i91 : IFun := ⟨29,
  (.seq
   (.seq
    (.region [
      y 2 (.mv (.t 0)),
      y 3 (.nilCheck (.t 2)),
      y 4 (.addOff 7 (.t 3)),
      y 5 (.addOff 11 (.t 4)),
      y 6 (.load false 1 (.t 5)),
      y 7 (.bin .eql .int (.t 6) (.c (.int .u64 0))),
      y 8 (.mv (.t 7)),
      ⟨(some 9), .mv (.t 0), (some (8, false)), [], [], false⟩,
      ⟨(some 10), .nilCheck (.t 9), (some (8, false)), [], [], false⟩,
      ⟨(some 11), .addOff 24 (.t 10), (some (8, false)), [], [], false⟩,
      ⟨(some 12), .load false 1 (.t 11), (some (8, false)), [], [], false⟩,
      y 13 (.pick (.t 8) (.c (.bool true)) (.t 12))])
   (.cond (.t 13)
    (.seq
     (.region [
       y 14 (.mv (.t 0)),
       y 15 (.call (.c (.func (.func 21) #[] #[])) [(.t 14), (.c (.int .i64 99))] false)])
    .ret)
    .skip))
  (.seq
   (.region [
     y 16 (.mv (.t 0)),
     y 17 (.mv (.t 0)),
     y 18 (.nilCheck (.t 17)),
     y 19 (.addOff 7 (.t 18)),
     y 20 (.addOff 11 (.t 19)),
     y 21 (.load false 1 (.t 20)),
     y 22 (.conv .i64 (.t 21)),
     y 23 (.bin .sub .int (.t 22) (.c (.int .i64 1))),
     y 24 (.nilCheck (.t 16)),
     y 25 (.addOff 7 (.t 24)),
     y 26 (.addOff 5 (.t 25)),
     x (.store 1 (.t 26) (.t 23))])
  (.region [
    y 27 (.mv (.t 0)),
    y 28 (.call (.c (.func (.func 21) #[] #[])) [(.t 27), (.c (.int .i64 97))] false)]))),
  []⟩

/-- wainscot/count.PartOf$1 -/
def i92 : IFun := ⟨15,
  (.seq
   (.region [
     y 4 (.mv (.c (.bool false)))])
  (.seq
   (.region [
     y 8 (.mv (.t 1)),
     y 9 (.mv (.t 0)),
     y 10 (.call (.c (.func (.func 93) #[] #[])) [(.t 8), (.t 9)] true),
     y 7 (.mv (.t 10)),
     y 11 (.extract (.t 7) 0),
     y 12 (.extract (.t 7) 1),
     y 5 (.mv (.t 11)),
     y 6 (.mv (.t 12))])
  (.seq
   (.region [
     y 13 (.mv (.t 6)),
     y 14 (.bin .eql .int (.t 13) (.c (.int .i64 0))),
     y 4 (.mv (.t 14))])
  .ret))),
  [.tmp 4]⟩

/-- wainscot/count.Part -/
def i93 : IFun := ⟨32,
  (.seq
   (.region [
     y 4 (.mv (.c (.int .u64 0))),
     y 5 (.mv (.c (.int .i64 0)))])
  (.seq
   (.block 0
    (.seq
     (.region [
       y 7 (.mv (.t 0)),
       y 8 (.bin .eql .int (.t 7) (.c (.int .i64 (-1)))),
       y 9 (.mv (.t 8)),
       ⟨(some 10), .mv (.t 1), (some (9, true)), [], [], false⟩,
       ⟨(some 11), .bin .eql .int (.t 10) (.c (.int .i64 0)), (some (9, true)), [], [], false⟩,
       y 12 (.pick (.t 9) (.t 11) (.c (.bool false))),
       y 6 (.mv (.t 12))])
    (.cond (.t 6)
     (.seq
      (.region [
        y 4 (.mv (.c (.int .u64 0))),
        y 5 (.mv (.c (.int .i64 0)))])
     .ret)
     (.seq
      (.region [
        y 14 (.mv (.t 0)),
        y 15 (.call (.c (.func (.func 27) #[] #[])) [(.t 14)] true),
        y 16 (.un .not (.t 15)),
        y 17 (.mv (.t 16)),
        ⟨(some 18), .mv (.t 1), (some (17, false)), [], [], false⟩,
        ⟨(some 19), .bin .lss .int (.t 18) (.c (.int .i64 1)), (some (17, false)), [], [], false⟩,
        y 20 (.pick (.t 17) (.c (.bool true)) (.t 19)),
        y 21 (.mv (.t 20)),
        ⟨(some 22), .mv (.t 1), (some (21, false)), [], [], false⟩,
        ⟨(some 23), .bin .gtr .int (.t 22) (.c (.int .i64 63)), (some (21, false)), [], [], false⟩,
        y 24 (.pick (.t 21) (.c (.bool true)) (.t 23)),
        y 13 (.mv (.t 24))])
     (.cond (.t 13)
      (.seq
       (.region [
         y 4 (.mv (.c (.int .u64 0))),
         y 5 (.mv (.c (.int .i64 2)))])
      .ret)
      .skip)))))
  (.seq
   (.region [
     y 25 (.mv (.t 1)),
     y 26 (.conv .u64 (.t 25)),
     y 27 (.bin .shl .int (.t 26) (.c (.int .u64 6))),
     y 28 (.mv (.t 0)),
     y 29 (.bin .add .int (.t 28) (.c (.int .i64 1))),
     y 30 (.conv .u64 (.t 29)),
     y 31 (.bin .or .int (.t 27) (.t 30)),
     y 4 (.mv (.t 31)),
     y 5 (.mv (.c (.int .i64 0)))])
  .ret))),
  [.tmp 4, .tmp 5]⟩

/-- (*wainscot/mem.Mem).Load -/
def i94 : IFun := ⟨12,
  (.seq
   (.region [
     y 4 (.new 22 [(.int .u64 0)]),
     y 5 (.mv (.c (.int .i64 0)))])
  (.seq
   (.region [
     y 6 (.mv (.t 0)),
     y 7 (.mv (.t 1)),
     y 8 (.mkFunc 100 [] [(.t 4)]),
     y 9 (.call (.c (.func (.func 33) #[] #[])) [(.t 6), (.t 7), (.c (.int .i64 1)), (.t 8)] false),
     y 5 (.mv (.t 9))])
  (.seq
   (.region [
     y 10 (.load false 1 (.t 4)),
     y 11 (.mv (.t 5)),
     x (.store 1 (.t 4) (.t 10)),
     y 5 (.mv (.t 11))])
  .ret))),
  [.cell 4 false 1, .tmp 5]⟩

/-- (*wainscot/mem.Mem).Cas2 -/
def i95 : IFun := ⟨20,
  (.seq
   (.region [
     y 8 (.box 22 1 (.t 2)),
     y 9 (.box 22 1 (.t 3)),
     y 10 (.box 22 1 (.t 4)),
     y 11 (.box 22 1 (.t 5)),
     y 12 (.new 4 [(.bool false)]),
     y 13 (.mv (.c (.int .i64 0)))])
  (.seq
   (.region [
     y 14 (.mv (.t 0)),
     y 15 (.mv (.t 1)),
     y 16 (.mkFunc 101 [] [(.t 8), (.t 9), (.t 12), (.t 10), (.t 11)]),
     y 17 (.call (.c (.func (.func 33) #[] #[])) [(.t 14), (.t 15), (.c (.int .i64 2)), (.t 16)] false),
     y 13 (.mv (.t 17))])
  (.seq
   (.region [
     y 18 (.load false 1 (.t 12)),
     y 19 (.mv (.t 13)),
     x (.store 1 (.t 12) (.t 18)),
     y 13 (.mv (.t 19))])
  .ret))),
  [.cell 12 false 1, .tmp 13]⟩

/-- wainscot/chart.Part$1 -/
def i96 : IFun := ⟨5,
  (.seq
   (.region [
     y 1 (.mv (.c (.int .i64 0)))])
  (.seq
   (.region [
     y 2 (.load false 1 (.t 0)),
     y 3 (.bin .mul .int (.c (.int .i64 4)) (.t 2)),
     y 4 (.bin .add .int (.t 3) (.c (.int .i64 2))),
     y 1 (.mv (.t 4))])
  .ret)),
  [.tmp 1]⟩

/-- (*wainscot/mem.Mem).Cas -/
def i97 : IFun := ⟨16,
  (.seq
   (.region [
     y 6 (.box 22 1 (.t 2)),
     y 7 (.box 22 1 (.t 3)),
     y 8 (.new 4 [(.bool false)]),
     y 9 (.mv (.c (.int .i64 0)))])
  (.seq
   (.region [
     y 10 (.mv (.t 0)),
     y 11 (.mv (.t 1)),
     y 12 (.mkFunc 102 [] [(.t 6), (.t 8), (.t 7)]),
     y 13 (.call (.c (.func (.func 33) #[] #[])) [(.t 10), (.t 11), (.c (.int .i64 1)), (.t 12)] false),
     y 9 (.mv (.t 13))])
  (.seq
   (.region [
     y 14 (.load false 1 (.t 8)),
     y 15 (.mv (.t 9)),
     x (.store 1 (.t 8) (.t 14)),
     y 9 (.mv (.t 15))])
  .ret))),
  [.cell 8 false 1, .tmp 9]⟩

/-- wainscot/chart.Held$1 -/
def i98 : IFun := ⟨5,
  (.seq
   (.region [
     y 1 (.mv (.c (.int .i64 0)))])
  (.seq
   (.region [
     y 2 (.load true 6 (.t 0)),
     y 3 (.call (.c (.func (.func 55) #[] #[])) [(.t 2)] true),
     y 4 (.bin .add .int (.t 3) (.c (.int .i64 2))),
     y 1 (.mv (.t 4))])
  .ret)),
  [.tmp 1]⟩

/-- (*wainscot/mem.Mem).Add -/
def i99 : IFun := ⟨14,
  (.seq
   (.region [
     y 5 (.box 22 1 (.t 2)),
     y 6 (.new 22 [(.int .u64 0)]),
     y 7 (.mv (.c (.int .i64 0)))])
  (.seq
   (.region [
     y 8 (.mv (.t 0)),
     y 9 (.mv (.t 1)),
     y 10 (.mkFunc 103 [] [(.t 6), (.t 5)]),
     y 11 (.call (.c (.func (.func 33) #[] #[])) [(.t 8), (.t 9), (.c (.int .i64 1)), (.t 10)] false),
     y 7 (.mv (.t 11))])
  (.seq
   (.region [
     y 12 (.load false 1 (.t 6)),
     y 13 (.mv (.t 7)),
     x (.store 1 (.t 6) (.t 12)),
     y 7 (.mv (.t 13))])
  .ret))),
  [.cell 6 false 1, .tmp 7]⟩

/-- (*wainscot/mem.Mem).Load$1 -/
def i100 : IFun := ⟨6,
  (.region [
    y 3 (.mv (.t 0)),
    y 4 (.idxS 1 (.t 3) (.c (.int .i64 0))),
    y 5 (.load false 1 (.t 4)),
    x (.store 1 (.t 1) (.t 5))]),
  []⟩

/-- (*wainscot/mem.Mem).Cas2$1 -/
def i101 : IFun := ⟨25,
  (.seq
   (.region [
     y 7 (.mv (.t 0)),
     y 8 (.idxS 1 (.t 7) (.c (.int .i64 0))),
     y 9 (.load false 1 (.t 8)),
     y 10 (.mv (.t 0)),
     y 11 (.idxS 1 (.t 10) (.c (.int .i64 1))),
     y 12 (.load false 1 (.t 11)),
     y 13 (.build [(.int .u64 0), (.int .u64 0)] [(0, 1, (.t 9)), (1, 1, (.t 12))]),
     y 14 (.load false 1 (.t 1)),
     y 15 (.load false 1 (.t 2)),
     y 16 (.build [(.int .u64 0), (.int .u64 0)] [(0, 1, (.t 14)), (1, 1, (.t 15))]),
     y 17 (.bin .eql (.plain [(some .u64), (some .u64)]) (.t 13) (.t 16)),
     x (.store 1 (.t 3) (.t 17))])
  (.seq
   (.region [
     y 18 (.load false 1 (.t 3))])
  (.cond (.t 18)
   (.region [
     y 19 (.mv (.t 0)),
     y 20 (.mv (.t 0)),
     y 21 (.load false 1 (.t 4)),
     y 22 (.load false 1 (.t 5)),
     y 23 (.idxS 1 (.t 19) (.c (.int .i64 0))),
     ⟨none, .store 1 (.t 23) (.t 21), none, [], [3], false⟩,
     y 24 (.idxS 1 (.t 20) (.c (.int .i64 1))),
     x (.store 1 (.t 24) (.t 22))])
   .skip))),
  []⟩

/-- (*wainscot/mem.Mem).Cas$1 -/
def i102 : IFun := ⟨14,
  (.seq
   (.region [
     y 5 (.mv (.t 0)),
     y 6 (.idxS 1 (.t 5) (.c (.int .i64 0))),
     y 7 (.load false 1 (.t 6)),
     y 8 (.load false 1 (.t 1)),
     y 9 (.bin .eql .int (.t 7) (.t 8)),
     x (.store 1 (.t 2) (.t 9))])
  (.seq
   (.region [
     y 10 (.load false 1 (.t 2))])
  (.cond (.t 10)
   (.region [
     y 11 (.mv (.t 0)),
     y 12 (.load false 1 (.t 3)),
     y 13 (.idxS 1 (.t 11) (.c (.int .i64 0))),
     x (.store 1 (.t 13) (.t 12))])
   .skip))),
  []⟩

/-- (*wainscot/mem.Mem).Add$1 -/
def i103 : IFun := ⟨13,
  (.seq
   (.region [
     y 4 (.mv (.t 0)),
     y 5 (.idxS 1 (.t 4) (.c (.int .i64 0))),
     y 6 (.load false 1 (.t 5)),
     x (.store 1 (.t 1) (.t 6))])
  (.region [
    y 7 (.mv (.t 0)),
    y 8 (.idxS 1 (.t 7) (.c (.int .i64 0))),
    y 9 (.load false 1 (.t 8)),
    y 10 (.load false 1 (.t 2)),
    y 11 (.bin .add .int (.t 9) (.t 10)),
    y 12 (.idxS 1 (.t 7) (.c (.int .i64 0))),
    x (.store 1 (.t 12) (.t 11))])),
  []⟩

theorem c3 : cFun Tryz.prog 0 quiet Tryz.f3 = some i3 := by kernel_rfl
theorem g3 : Tryz.prog.funcs[3]? = some Tryz.f3 := by kernel_rfl
theorem c4 : cFun Tryz.prog 0 quiet Tryz.f4 = some i4 := by kernel_rfl
theorem g4 : Tryz.prog.funcs[4]? = some Tryz.f4 := by kernel_rfl
theorem c5 : cFun Tryz.prog 0 quiet Tryz.f5 = some i5 := by kernel_rfl
theorem g5 : Tryz.prog.funcs[5]? = some Tryz.f5 := by kernel_rfl
theorem c6 : cFun Tryz.prog 0 quiet Tryz.f6 = some i6 := by kernel_rfl
theorem g6 : Tryz.prog.funcs[6]? = some Tryz.f6 := by kernel_rfl
theorem c7 : cFun Tryz.prog 0 quiet Tryz.f7 = some i7 := by kernel_rfl
theorem g7 : Tryz.prog.funcs[7]? = some Tryz.f7 := by kernel_rfl
theorem c8 : cFun Tryz.prog 0 quiet Tryz.f8 = some i8 := by kernel_rfl
theorem g8 : Tryz.prog.funcs[8]? = some Tryz.f8 := by kernel_rfl
theorem c9 : cFun Tryz.prog 0 quiet Tryz.f9 = some i9 := by kernel_rfl
theorem g9 : Tryz.prog.funcs[9]? = some Tryz.f9 := by kernel_rfl
theorem c10 : cFun Tryz.prog 0 quiet Tryz.f10 = some i10 := by kernel_rfl
theorem g10 : Tryz.prog.funcs[10]? = some Tryz.f10 := by kernel_rfl
theorem c11 : cFun Tryz.prog 0 quiet Tryz.f11 = some i11 := by kernel_rfl
theorem g11 : Tryz.prog.funcs[11]? = some Tryz.f11 := by kernel_rfl
theorem c12 : cFun Tryz.prog 0 quiet Tryz.f12 = some i12 := by kernel_rfl
theorem g12 : Tryz.prog.funcs[12]? = some Tryz.f12 := by kernel_rfl
theorem c13 : cFun Tryz.prog 0 quiet Tryz.f13 = some i13 := by kernel_rfl
theorem g13 : Tryz.prog.funcs[13]? = some Tryz.f13 := by kernel_rfl
theorem c14 : cFun Tryz.prog 0 quiet Tryz.f14 = some i14 := by kernel_rfl
theorem g14 : Tryz.prog.funcs[14]? = some Tryz.f14 := by kernel_rfl
theorem c15 : cFun Tryz.prog 0 quiet Tryz.f15 = some i15 := by kernel_rfl
theorem g15 : Tryz.prog.funcs[15]? = some Tryz.f15 := by kernel_rfl
theorem c16 : cFun Tryz.prog 0 quiet Tryz.f16 = some i16 := by kernel_rfl
theorem g16 : Tryz.prog.funcs[16]? = some Tryz.f16 := by kernel_rfl
theorem c17 : cFun Tryz.prog 0 quiet Tryz.f17 = some i17 := by kernel_rfl
theorem g17 : Tryz.prog.funcs[17]? = some Tryz.f17 := by kernel_rfl
theorem c18 : cFun Tryz.prog 0 quiet Tryz.f18 = some i18 := by kernel_rfl
theorem g18 : Tryz.prog.funcs[18]? = some Tryz.f18 := by kernel_rfl
theorem c19 : cFun Tryz.prog 0 quiet Tryz.f19 = some i19 := by kernel_rfl
theorem g19 : Tryz.prog.funcs[19]? = some Tryz.f19 := by kernel_rfl
theorem c20 : cFun Tryz.prog 0 quiet Tryz.f20 = some i20 := by kernel_rfl
theorem g20 : Tryz.prog.funcs[20]? = some Tryz.f20 := by kernel_rfl
theorem c21 : cFun Tryz.prog 0 quiet Tryz.f21 = some i21 := by kernel_rfl
theorem g21 : Tryz.prog.funcs[21]? = some Tryz.f21 := by kernel_rfl
theorem c22 : cFun Tryz.prog 0 quiet Tryz.f22 = some i22 := by kernel_rfl
theorem g22 : Tryz.prog.funcs[22]? = some Tryz.f22 := by kernel_rfl
theorem c23 : cFun Tryz.prog 0 quiet Tryz.f23 = some i23 := by kernel_rfl
theorem g23 : Tryz.prog.funcs[23]? = some Tryz.f23 := by kernel_rfl
theorem c24 : cFun Tryz.prog 0 quiet Tryz.f24 = some i24 := by kernel_rfl
theorem g24 : Tryz.prog.funcs[24]? = some Tryz.f24 := by kernel_rfl
theorem c25 : cFun Tryz.prog 0 quiet Tryz.f25 = some i25 := by kernel_rfl
theorem g25 : Tryz.prog.funcs[25]? = some Tryz.f25 := by kernel_rfl
theorem c26 : cFun Tryz.prog 0 quiet Tryz.f26 = some i26 := by kernel_rfl
theorem g26 : Tryz.prog.funcs[26]? = some Tryz.f26 := by kernel_rfl
theorem c27 : cFun Tryz.prog 0 quiet Tryz.f27 = some i27 := by kernel_rfl
theorem g27 : Tryz.prog.funcs[27]? = some Tryz.f27 := by kernel_rfl
theorem c28 : cFun Tryz.prog 0 quiet Tryz.f28 = some i28 := by kernel_rfl
theorem g28 : Tryz.prog.funcs[28]? = some Tryz.f28 := by kernel_rfl
theorem c29 : cFun Tryz.prog 0 quiet Tryz.f29 = some i29 := by kernel_rfl
theorem g29 : Tryz.prog.funcs[29]? = some Tryz.f29 := by kernel_rfl
theorem c30 : cFun Tryz.prog 0 quiet Tryz.f30 = some i30 := by kernel_rfl
theorem g30 : Tryz.prog.funcs[30]? = some Tryz.f30 := by kernel_rfl
theorem c31 : cFun Tryz.prog 0 quiet Tryz.f31 = some i31 := by kernel_rfl
theorem g31 : Tryz.prog.funcs[31]? = some Tryz.f31 := by kernel_rfl
theorem c32 : cFun Tryz.prog 0 quiet Tryz.f32 = some i32 := by kernel_rfl
theorem g32 : Tryz.prog.funcs[32]? = some Tryz.f32 := by kernel_rfl
theorem c33 : cFun Tryz.prog 0 quiet Tryz.f33 = some i33 := by kernel_rfl
theorem g33 : Tryz.prog.funcs[33]? = some Tryz.f33 := by kernel_rfl
theorem c34 : cFun Tryz.prog 0 quiet Tryz.f34 = some i34 := by kernel_rfl
theorem g34 : Tryz.prog.funcs[34]? = some Tryz.f34 := by kernel_rfl
theorem c35 : cFun Tryz.prog 0 quiet Tryz.f35 = some i35 := by kernel_rfl
theorem g35 : Tryz.prog.funcs[35]? = some Tryz.f35 := by kernel_rfl
theorem c36 : cFun Tryz.prog 0 quiet Tryz.f36 = some i36 := by kernel_rfl
theorem g36 : Tryz.prog.funcs[36]? = some Tryz.f36 := by kernel_rfl
theorem c37 : cFun Tryz.prog 0 quiet Tryz.f37 = some i37 := by kernel_rfl
theorem g37 : Tryz.prog.funcs[37]? = some Tryz.f37 := by kernel_rfl
theorem c38 : cFun Tryz.prog 0 quiet Tryz.f38 = some i38 := by kernel_rfl
theorem g38 : Tryz.prog.funcs[38]? = some Tryz.f38 := by kernel_rfl
theorem c39 : cFun Tryz.prog 0 quiet Tryz.f39 = some i39 := by kernel_rfl
theorem g39 : Tryz.prog.funcs[39]? = some Tryz.f39 := by kernel_rfl
theorem c40 : cFun Tryz.prog 0 quiet Tryz.f40 = some i40 := by kernel_rfl
theorem g40 : Tryz.prog.funcs[40]? = some Tryz.f40 := by kernel_rfl
theorem c41 : cFun Tryz.prog 0 quiet Tryz.f41 = some i41 := by kernel_rfl
theorem g41 : Tryz.prog.funcs[41]? = some Tryz.f41 := by kernel_rfl
theorem c42 : cFun Tryz.prog 0 quiet Tryz.f42 = some i42 := by kernel_rfl
theorem g42 : Tryz.prog.funcs[42]? = some Tryz.f42 := by kernel_rfl
theorem c43 : cFun Tryz.prog 0 quiet Tryz.f43 = some i43 := by kernel_rfl
theorem g43 : Tryz.prog.funcs[43]? = some Tryz.f43 := by kernel_rfl
theorem c44 : cFun Tryz.prog 0 quiet Tryz.f44 = some i44 := by kernel_rfl
theorem g44 : Tryz.prog.funcs[44]? = some Tryz.f44 := by kernel_rfl
theorem c45 : cFun Tryz.prog 0 quiet Tryz.f45 = some i45 := by kernel_rfl
theorem g45 : Tryz.prog.funcs[45]? = some Tryz.f45 := by kernel_rfl
theorem c46 : cFun Tryz.prog 0 quiet Tryz.f46 = some i46 := by kernel_rfl
theorem g46 : Tryz.prog.funcs[46]? = some Tryz.f46 := by kernel_rfl
theorem c47 : cFun Tryz.prog 0 quiet Tryz.f47 = some i47 := by kernel_rfl
theorem g47 : Tryz.prog.funcs[47]? = some Tryz.f47 := by kernel_rfl
theorem c48 : cFun Tryz.prog 0 quiet Tryz.f48 = some i48 := by kernel_rfl
theorem g48 : Tryz.prog.funcs[48]? = some Tryz.f48 := by kernel_rfl
theorem c49 : cFun Tryz.prog 0 quiet Tryz.f49 = some i49 := by kernel_rfl
theorem g49 : Tryz.prog.funcs[49]? = some Tryz.f49 := by kernel_rfl
theorem c50 : cFun Tryz.prog 0 quiet Tryz.f50 = some i50 := by kernel_rfl
theorem g50 : Tryz.prog.funcs[50]? = some Tryz.f50 := by kernel_rfl
theorem c51 : cFun Tryz.prog 0 quiet Tryz.f51 = some i51 := by kernel_rfl
theorem g51 : Tryz.prog.funcs[51]? = some Tryz.f51 := by kernel_rfl
theorem c52 : cFun Tryz.prog 0 quiet Tryz.f52 = some i52 := by kernel_rfl
theorem g52 : Tryz.prog.funcs[52]? = some Tryz.f52 := by kernel_rfl
theorem c53 : cFun Tryz.prog 0 quiet Tryz.f53 = some i53 := by kernel_rfl
theorem g53 : Tryz.prog.funcs[53]? = some Tryz.f53 := by kernel_rfl
theorem c54 : cFun Tryz.prog 0 quiet Tryz.f54 = some i54 := by kernel_rfl
theorem g54 : Tryz.prog.funcs[54]? = some Tryz.f54 := by kernel_rfl
theorem c55 : cFun Tryz.prog 0 quiet Tryz.f55 = some i55 := by kernel_rfl
theorem g55 : Tryz.prog.funcs[55]? = some Tryz.f55 := by kernel_rfl
theorem c56 : cFun Tryz.prog 0 quiet Tryz.f56 = some i56 := by kernel_rfl
theorem g56 : Tryz.prog.funcs[56]? = some Tryz.f56 := by kernel_rfl
theorem c57 : cFun Tryz.prog 0 quiet Tryz.f57 = some i57 := by kernel_rfl
theorem g57 : Tryz.prog.funcs[57]? = some Tryz.f57 := by kernel_rfl
theorem c58 : cFun Tryz.prog 0 quiet Tryz.f58 = some i58 := by kernel_rfl
theorem g58 : Tryz.prog.funcs[58]? = some Tryz.f58 := by kernel_rfl
theorem c59 : cFun Tryz.prog 0 quiet Tryz.f59 = some i59 := by kernel_rfl
theorem g59 : Tryz.prog.funcs[59]? = some Tryz.f59 := by kernel_rfl
theorem c60 : cFun Tryz.prog 0 quiet Tryz.f60 = some i60 := by kernel_rfl
theorem g60 : Tryz.prog.funcs[60]? = some Tryz.f60 := by kernel_rfl
theorem c61 : cFun Tryz.prog 0 quiet Tryz.f61 = some i61 := by kernel_rfl
theorem g61 : Tryz.prog.funcs[61]? = some Tryz.f61 := by kernel_rfl
theorem c62 : cFun Tryz.prog 0 quiet Tryz.f62 = some i62 := by kernel_rfl
theorem g62 : Tryz.prog.funcs[62]? = some Tryz.f62 := by kernel_rfl
theorem c63 : cFun Tryz.prog 0 quiet Tryz.f63 = some i63 := by kernel_rfl
theorem g63 : Tryz.prog.funcs[63]? = some Tryz.f63 := by kernel_rfl
theorem c64 : cFun Tryz.prog 0 quiet Tryz.f64 = some i64 := by kernel_rfl
theorem g64 : Tryz.prog.funcs[64]? = some Tryz.f64 := by kernel_rfl
theorem c65 : cFun Tryz.prog 0 quiet Tryz.f65 = some i65 := by kernel_rfl
theorem g65 : Tryz.prog.funcs[65]? = some Tryz.f65 := by kernel_rfl
theorem c66 : cFun Tryz.prog 0 quiet Tryz.f66 = some i66 := by kernel_rfl
theorem g66 : Tryz.prog.funcs[66]? = some Tryz.f66 := by kernel_rfl
theorem c67 : cFun Tryz.prog 0 quiet Tryz.f67 = some i67 := by kernel_rfl
theorem g67 : Tryz.prog.funcs[67]? = some Tryz.f67 := by kernel_rfl
theorem c68 : cFun Tryz.prog 0 quiet Tryz.f68 = some i68 := by kernel_rfl
theorem g68 : Tryz.prog.funcs[68]? = some Tryz.f68 := by kernel_rfl
theorem c69 : cFun Tryz.prog 0 quiet Tryz.f69 = some i69 := by kernel_rfl
theorem g69 : Tryz.prog.funcs[69]? = some Tryz.f69 := by kernel_rfl
theorem c70 : cFun Tryz.prog 0 quiet Tryz.f70 = some i70 := by kernel_rfl
theorem g70 : Tryz.prog.funcs[70]? = some Tryz.f70 := by kernel_rfl
theorem c71 : cFun Tryz.prog 0 quiet Tryz.f71 = some i71 := by kernel_rfl
theorem g71 : Tryz.prog.funcs[71]? = some Tryz.f71 := by kernel_rfl
theorem c72 : cFun Tryz.prog 0 quiet Tryz.f72 = some i72 := by kernel_rfl
theorem g72 : Tryz.prog.funcs[72]? = some Tryz.f72 := by kernel_rfl
theorem c73 : cFun Tryz.prog 0 quiet Tryz.f73 = some i73 := by kernel_rfl
theorem g73 : Tryz.prog.funcs[73]? = some Tryz.f73 := by kernel_rfl
theorem c74 : cFun Tryz.prog 0 quiet Tryz.f74 = some i74 := by kernel_rfl
theorem g74 : Tryz.prog.funcs[74]? = some Tryz.f74 := by kernel_rfl
theorem c75 : cFun Tryz.prog 0 quiet Tryz.f75 = some i75 := by kernel_rfl
theorem g75 : Tryz.prog.funcs[75]? = some Tryz.f75 := by kernel_rfl
theorem c76 : cFun Tryz.prog 0 quiet Tryz.f76 = some i76 := by kernel_rfl
theorem g76 : Tryz.prog.funcs[76]? = some Tryz.f76 := by kernel_rfl
theorem c77 : cFun Tryz.prog 0 quiet Tryz.f77 = some i77 := by kernel_rfl
theorem g77 : Tryz.prog.funcs[77]? = some Tryz.f77 := by kernel_rfl
theorem c78 : cFun Tryz.prog 0 quiet Tryz.f78 = some i78 := by kernel_rfl
theorem g78 : Tryz.prog.funcs[78]? = some Tryz.f78 := by kernel_rfl
theorem c79 : cFun Tryz.prog 0 quiet Tryz.f79 = some i79 := by kernel_rfl
theorem g79 : Tryz.prog.funcs[79]? = some Tryz.f79 := by kernel_rfl
theorem c80 : cFun Tryz.prog 0 quiet Tryz.f80 = some i80 := by kernel_rfl
theorem g80 : Tryz.prog.funcs[80]? = some Tryz.f80 := by kernel_rfl
theorem c81 : cFun Tryz.prog 0 quiet Tryz.f81 = some i81 := by kernel_rfl
theorem g81 : Tryz.prog.funcs[81]? = some Tryz.f81 := by kernel_rfl
theorem c82 : cFun Tryz.prog 0 quiet Tryz.f82 = some i82 := by kernel_rfl
theorem g82 : Tryz.prog.funcs[82]? = some Tryz.f82 := by kernel_rfl
theorem c83 : cFun Tryz.prog 0 quiet Tryz.f83 = some i83 := by kernel_rfl
theorem g83 : Tryz.prog.funcs[83]? = some Tryz.f83 := by kernel_rfl
theorem c84 : cFun Tryz.prog 0 quiet Tryz.f84 = some i84 := by kernel_rfl
theorem g84 : Tryz.prog.funcs[84]? = some Tryz.f84 := by kernel_rfl
theorem c85 : cFun Tryz.prog 0 quiet Tryz.f85 = some i85 := by kernel_rfl
theorem g85 : Tryz.prog.funcs[85]? = some Tryz.f85 := by kernel_rfl
theorem c86 : cFun Tryz.prog 0 quiet Tryz.f86 = some i86 := by kernel_rfl
theorem g86 : Tryz.prog.funcs[86]? = some Tryz.f86 := by kernel_rfl
theorem c87 : cFun Tryz.prog 0 quiet Tryz.f87 = some i87 := by kernel_rfl
theorem g87 : Tryz.prog.funcs[87]? = some Tryz.f87 := by kernel_rfl
theorem c88 : cFun Tryz.prog 0 quiet Tryz.f88 = some i88 := by kernel_rfl
theorem g88 : Tryz.prog.funcs[88]? = some Tryz.f88 := by kernel_rfl
theorem c89 : cFun Tryz.prog 0 quiet Tryz.f89 = some i89 := by kernel_rfl
theorem g89 : Tryz.prog.funcs[89]? = some Tryz.f89 := by kernel_rfl
theorem c90 : cFun Tryz.prog 0 quiet Tryz.f90 = some i90 := by kernel_rfl
theorem g90 : Tryz.prog.funcs[90]? = some Tryz.f90 := by kernel_rfl
theorem c91 : cFun Tryz.prog 0 quiet Tryz.f91 = some i91 := by kernel_rfl
theorem g91 : Tryz.prog.funcs[91]? = some Tryz.f91 := by kernel_rfl
theorem c92 : cFun Tryz.prog 0 quiet Tryz.f92 = some i92 := by kernel_rfl
theorem g92 : Tryz.prog.funcs[92]? = some Tryz.f92 := by kernel_rfl
theorem c93 : cFun Tryz.prog 0 quiet Tryz.f93 = some i93 := by kernel_rfl
theorem g93 : Tryz.prog.funcs[93]? = some Tryz.f93 := by kernel_rfl
theorem c94 : cFun Tryz.prog 0 quiet Tryz.f94 = some i94 := by kernel_rfl
theorem g94 : Tryz.prog.funcs[94]? = some Tryz.f94 := by kernel_rfl
theorem c95 : cFun Tryz.prog 0 quiet Tryz.f95 = some i95 := by kernel_rfl
theorem g95 : Tryz.prog.funcs[95]? = some Tryz.f95 := by kernel_rfl
theorem c96 : cFun Tryz.prog 0 quiet Tryz.f96 = some i96 := by kernel_rfl
theorem g96 : Tryz.prog.funcs[96]? = some Tryz.f96 := by kernel_rfl
theorem c97 : cFun Tryz.prog 0 quiet Tryz.f97 = some i97 := by kernel_rfl
theorem g97 : Tryz.prog.funcs[97]? = some Tryz.f97 := by kernel_rfl
theorem c98 : cFun Tryz.prog 0 quiet Tryz.f98 = some i98 := by kernel_rfl
theorem g98 : Tryz.prog.funcs[98]? = some Tryz.f98 := by kernel_rfl
theorem c99 : cFun Tryz.prog 0 quiet Tryz.f99 = some i99 := by kernel_rfl
theorem g99 : Tryz.prog.funcs[99]? = some Tryz.f99 := by kernel_rfl
theorem c100 : cFun Tryz.prog 0 quiet Tryz.f100 = some i100 := by kernel_rfl
theorem g100 : Tryz.prog.funcs[100]? = some Tryz.f100 := by kernel_rfl
theorem c101 : cFun Tryz.prog 0 quiet Tryz.f101 = some i101 := by kernel_rfl
theorem g101 : Tryz.prog.funcs[101]? = some Tryz.f101 := by kernel_rfl
theorem c102 : cFun Tryz.prog 0 quiet Tryz.f102 = some i102 := by kernel_rfl
theorem g102 : Tryz.prog.funcs[102]? = some Tryz.f102 := by kernel_rfl
theorem c103 : cFun Tryz.prog 0 quiet Tryz.f103 = some i103 := by kernel_rfl
theorem g103 : Tryz.prog.funcs[103]? = some Tryz.f103 := by kernel_rfl

def table : Tree := (.node 53 i53 (.node 28 i28 (.node 15 i15 (.node 9 i9 (.node 6 i6 (.node 4 i4 (.node 3 i3 .leaf .leaf) (.node 5 i5 .leaf .leaf)) (.node 8 i8 (.node 7 i7 .leaf .leaf) .leaf)) (.node 12 i12 (.node 11 i11 (.node 10 i10 .leaf .leaf) .leaf) (.node 14 i14 (.node 13 i13 .leaf .leaf) .leaf))) (.node 22 i22 (.node 19 i19 (.node 17 i17 (.node 16 i16 .leaf .leaf) (.node 18 i18 .leaf .leaf)) (.node 21 i21 (.node 20 i20 .leaf .leaf) .leaf)) (.node 25 i25 (.node 24 i24 (.node 23 i23 .leaf .leaf) .leaf) (.node 27 i27 (.node 26 i26 .leaf .leaf) .leaf)))) (.node 41 i41 (.node 35 i35 (.node 32 i32 (.node 30 i30 (.node 29 i29 .leaf .leaf) (.node 31 i31 .leaf .leaf)) (.node 34 i34 (.node 33 i33 .leaf .leaf) .leaf)) (.node 38 i38 (.node 37 i37 (.node 36 i36 .leaf .leaf) .leaf) (.node 40 i40 (.node 39 i39 .leaf .leaf) .leaf))) (.node 47 i47 (.node 44 i44 (.node 43 i43 (.node 42 i42 .leaf .leaf) .leaf) (.node 46 i46 (.node 45 i45 .leaf .leaf) .leaf)) (.node 50 i50 (.node 49 i49 (.node 48 i48 .leaf .leaf) .leaf) (.node 52 i52 (.node 51 i51 .leaf .leaf) .leaf))))) (.node 79 i79 (.node 66 i66 (.node 60 i60 (.node 57 i57 (.node 55 i55 (.node 54 i54 .leaf .leaf) (.node 56 i56 .leaf .leaf)) (.node 59 i59 (.node 58 i58 .leaf .leaf) .leaf)) (.node 63 i63 (.node 62 i62 (.node 61 i61 .leaf .leaf) .leaf) (.node 65 i65 (.node 64 i64 .leaf .leaf) .leaf))) (.node 73 i73 (.node 70 i70 (.node 68 i68 (.node 67 i67 .leaf .leaf) (.node 69 i69 .leaf .leaf)) (.node 72 i72 (.node 71 i71 .leaf .leaf) .leaf)) (.node 76 i76 (.node 75 i75 (.node 74 i74 .leaf .leaf) .leaf) (.node 78 i78 (.node 77 i77 .leaf .leaf) .leaf)))) (.node 92 i92 (.node 86 i86 (.node 83 i83 (.node 81 i81 (.node 80 i80 .leaf .leaf) (.node 82 i82 .leaf .leaf)) (.node 85 i85 (.node 84 i84 .leaf .leaf) .leaf)) (.node 89 i89 (.node 88 i88 (.node 87 i87 .leaf .leaf) .leaf) (.node 91 i91 (.node 90 i90 .leaf .leaf) .leaf))) (.node 98 i98 (.node 95 i95 (.node 94 i94 (.node 93 i93 .leaf .leaf) .leaf) (.node 97 i97 (.node 96 i96 .leaf .leaf) .leaf)) (.node 101 i101 (.node 100 i100 (.node 99 i99 .leaf .leaf) .leaf) (.node 103 i103 (.node 102 i102 .leaf .leaf) .leaf))))))

theorem fits : table.All (Fits Tryz.prog 0 quiet) := ⟨⟨_, g53, c53⟩, ⟨⟨_, g28, c28⟩, ⟨⟨_, g15, c15⟩, ⟨⟨_, g9, c9⟩, ⟨⟨_, g6, c6⟩, ⟨⟨_, g4, c4⟩, ⟨⟨_, g3, c3⟩, trivial, trivial⟩, ⟨⟨_, g5, c5⟩, trivial, trivial⟩⟩, ⟨⟨_, g8, c8⟩, ⟨⟨_, g7, c7⟩, trivial, trivial⟩, trivial⟩⟩, ⟨⟨_, g12, c12⟩, ⟨⟨_, g11, c11⟩, ⟨⟨_, g10, c10⟩, trivial, trivial⟩, trivial⟩, ⟨⟨_, g14, c14⟩, ⟨⟨_, g13, c13⟩, trivial, trivial⟩, trivial⟩⟩⟩, ⟨⟨_, g22, c22⟩, ⟨⟨_, g19, c19⟩, ⟨⟨_, g17, c17⟩, ⟨⟨_, g16, c16⟩, trivial, trivial⟩, ⟨⟨_, g18, c18⟩, trivial, trivial⟩⟩, ⟨⟨_, g21, c21⟩, ⟨⟨_, g20, c20⟩, trivial, trivial⟩, trivial⟩⟩, ⟨⟨_, g25, c25⟩, ⟨⟨_, g24, c24⟩, ⟨⟨_, g23, c23⟩, trivial, trivial⟩, trivial⟩, ⟨⟨_, g27, c27⟩, ⟨⟨_, g26, c26⟩, trivial, trivial⟩, trivial⟩⟩⟩⟩, ⟨⟨_, g41, c41⟩, ⟨⟨_, g35, c35⟩, ⟨⟨_, g32, c32⟩, ⟨⟨_, g30, c30⟩, ⟨⟨_, g29, c29⟩, trivial, trivial⟩, ⟨⟨_, g31, c31⟩, trivial, trivial⟩⟩, ⟨⟨_, g34, c34⟩, ⟨⟨_, g33, c33⟩, trivial, trivial⟩, trivial⟩⟩, ⟨⟨_, g38, c38⟩, ⟨⟨_, g37, c37⟩, ⟨⟨_, g36, c36⟩, trivial, trivial⟩, trivial⟩, ⟨⟨_, g40, c40⟩, ⟨⟨_, g39, c39⟩, trivial, trivial⟩, trivial⟩⟩⟩, ⟨⟨_, g47, c47⟩, ⟨⟨_, g44, c44⟩, ⟨⟨_, g43, c43⟩, ⟨⟨_, g42, c42⟩, trivial, trivial⟩, trivial⟩, ⟨⟨_, g46, c46⟩, ⟨⟨_, g45, c45⟩, trivial, trivial⟩, trivial⟩⟩, ⟨⟨_, g50, c50⟩, ⟨⟨_, g49, c49⟩, ⟨⟨_, g48, c48⟩, trivial, trivial⟩, trivial⟩, ⟨⟨_, g52, c52⟩, ⟨⟨_, g51, c51⟩, trivial, trivial⟩, trivial⟩⟩⟩⟩⟩, ⟨⟨_, g79, c79⟩, ⟨⟨_, g66, c66⟩, ⟨⟨_, g60, c60⟩, ⟨⟨_, g57, c57⟩, ⟨⟨_, g55, c55⟩, ⟨⟨_, g54, c54⟩, trivial, trivial⟩, ⟨⟨_, g56, c56⟩, trivial, trivial⟩⟩, ⟨⟨_, g59, c59⟩, ⟨⟨_, g58, c58⟩, trivial, trivial⟩, trivial⟩⟩, ⟨⟨_, g63, c63⟩, ⟨⟨_, g62, c62⟩, ⟨⟨_, g61, c61⟩, trivial, trivial⟩, trivial⟩, ⟨⟨_, g65, c65⟩, ⟨⟨_, g64, c64⟩, trivial, trivial⟩, trivial⟩⟩⟩, ⟨⟨_, g73, c73⟩, ⟨⟨_, g70, c70⟩, ⟨⟨_, g68, c68⟩, ⟨⟨_, g67, c67⟩, trivial, trivial⟩, ⟨⟨_, g69, c69⟩, trivial, trivial⟩⟩, ⟨⟨_, g72, c72⟩, ⟨⟨_, g71, c71⟩, trivial, trivial⟩, trivial⟩⟩, ⟨⟨_, g76, c76⟩, ⟨⟨_, g75, c75⟩, ⟨⟨_, g74, c74⟩, trivial, trivial⟩, trivial⟩, ⟨⟨_, g78, c78⟩, ⟨⟨_, g77, c77⟩, trivial, trivial⟩, trivial⟩⟩⟩⟩, ⟨⟨_, g92, c92⟩, ⟨⟨_, g86, c86⟩, ⟨⟨_, g83, c83⟩, ⟨⟨_, g81, c81⟩, ⟨⟨_, g80, c80⟩, trivial, trivial⟩, ⟨⟨_, g82, c82⟩, trivial, trivial⟩⟩, ⟨⟨_, g85, c85⟩, ⟨⟨_, g84, c84⟩, trivial, trivial⟩, trivial⟩⟩, ⟨⟨_, g89, c89⟩, ⟨⟨_, g88, c88⟩, ⟨⟨_, g87, c87⟩, trivial, trivial⟩, trivial⟩, ⟨⟨_, g91, c91⟩, ⟨⟨_, g90, c90⟩, trivial, trivial⟩, trivial⟩⟩⟩, ⟨⟨_, g98, c98⟩, ⟨⟨_, g95, c95⟩, ⟨⟨_, g94, c94⟩, ⟨⟨_, g93, c93⟩, trivial, trivial⟩, trivial⟩, ⟨⟨_, g97, c97⟩, ⟨⟨_, g96, c96⟩, trivial, trivial⟩, trivial⟩⟩, ⟨⟨_, g101, c101⟩, ⟨⟨_, g100, c100⟩, ⟨⟨_, g99, c99⟩, trivial, trivial⟩, trivial⟩, ⟨⟨_, g103, c103⟩, ⟨⟨_, g102, c102⟩, trivial, trivial⟩, trivial⟩⟩⟩⟩⟩⟩

theorem mixed : Tryz.prog.follows .mixedOrders = true := by kernel_rfl

theorem allOk (n : Nat) : CallOK Tryz.prog 0 (fCalls table.look n) := fCalls_ok (stands_look fits) mixed n

theorem allOk' (n : Nat) : CallOK Tryz.prog 0 (calls table.find n) := calls_ok (stands_of fits) mixed n

end Go.Proofs.YtpgacehfoeoakaaRRGreat.Flush
