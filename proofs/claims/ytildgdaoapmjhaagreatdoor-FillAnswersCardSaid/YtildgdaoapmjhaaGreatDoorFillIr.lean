/- The compact form of the functions that are reached (written by program), and that it is theirs. -/
import Derived.Test.YtildgdaoapmjhaaGreatDoorAe28
import Derived.Test.YtildgdaoapmjhaaGreatDoorProg
import Derived.KernelRfl
namespace Go.Proofs.YtildgdaoapmjhaaGreatDoor.Fill
open Go Go.Proofs.YtildgdaoapmjhaaGreatDoor.AE
set_option maxRecDepth 100000
set_option linter.unusedVariables false

def quiet : FuncId → Bool := fun f => [12, 15, 17, 18, 20, 21, 22, 23, 24, 26, 28, 29, 30, 31, 32, 33, 36, 38, 39, 40, 41, 42, 43, 44, 45, 47, 48, 50, 51, 54, 57, 61, 62, 63, 64, 65, 85, 87, 89, 90, 91, 97, 102, 103, 107].contains f

def y (d : Nat) (op : IOp) : IOper := ⟨some d, op, none, [], [], false⟩
def x (op : IOp) : IOper := ⟨none, op, none, [], [], false⟩

/-- wainscot/wainscotlaw24.FillAnswers -/
def i3 : IFun := ⟨45,
  (.seq
   (.region [
     y 3 (.box 24 17 (.t 0)),
     y 6 (.mv (.c (.bool false)))])
  (.seq
   (.seq
    (.region [
      y 7 (.mv (.c (.int .i64 0)))])
   (.block 0
    (.loop
     (.seq
      (.seq
       (.region [
         y 13 (.mv (.t 7)),
         y 14 (.bin .lss .int (.t 13) (.c (.int .i64 2)))])
      (.cond (.t 14)
       .skip
       (.exit 0)))
     (.seq
      (.block 1
       (.seq
        (.region [
          y 17 (.load true 17 (.t 3)),
          y 8 (.new 24 [(.int .i64 0), (.int .i64 0), (.int .i64 0), (.int .i64 0), (.int .i64 0), (.int .i64 0), (.int .i64 0), (.int .u64 0), (.int .u64 0), (.int .u64 0), (.int .u64 0), (.int .u64 0), (.int .i64 0), (.int .i64 0), (.int .i64 0), (.int .i64 0), (.int .i64 0)]),
          x (.store 17 (.t 8) (.t 17))])
       (.seq
        (.seq
         (.region [
           y 18 (.mv (.t 7)),
           y 19 (.bin .eql .int (.t 18) (.c (.int .i64 1)))])
        (.cond (.t 19)
         (.seq
          (.region [
            y 20 (.addOff 3 (.t 8)),
            x (.store 1 (.t 20) (.c (.int .i64 0)))])
         (.region [
           y 21 (.addOff 4 (.t 8)),
           x (.store 1 (.t 21) (.c (.int .i64 1)))]))
         .skip))
       (.seq
        (.region [
          y 23 (.load true 17 (.t 8)),
          y 24 (.mv (.t 1)),
          y 25 (.mv (.t 2)),
          y 26 (.call (.c (.func (.func 7) #[] #[])) [(.t 23), (.t 24), (.t 25)] false),
          y 22 (.mv (.t 26)),
          y 27 (.extract (.t 22) 0),
          y 28 (.extract (.t 22) 1),
          y 9 (.new 24 [(.int .i64 0), (.int .i64 0), (.int .i64 0), (.int .i64 0), (.int .i64 0), (.int .i64 0), (.int .i64 0), (.int .u64 0), (.int .u64 0), (.int .u64 0), (.int .u64 0), (.int .u64 0), (.int .i64 0), (.int .i64 0), (.int .i64 0), (.int .i64 0), (.int .i64 0)]),
          x (.store 17 (.t 9) (.t 27)),
          y 10 (.mv (.t 28))])
       (.seq
        (.region [
          y 30 (.load true 17 (.t 8)),
          y 31 (.mv (.t 1)),
          y 32 (.mv (.t 2)),
          y 33 (.call (.c (.func (.func 8) #[] #[])) [(.t 30), (.t 31), (.t 32)] false),
          y 29 (.mv (.t 33)),
          y 34 (.extract (.t 29) 0),
          y 35 (.extract (.t 29) 1),
          y 11 (.new 24 [(.int .i64 0), (.int .i64 0), (.int .i64 0), (.int .i64 0), (.int .i64 0), (.int .i64 0), (.int .i64 0), (.int .u64 0), (.int .u64 0), (.int .u64 0), (.int .u64 0), (.int .u64 0), (.int .i64 0), (.int .i64 0), (.int .i64 0), (.int .i64 0), (.int .i64 0)]),
          x (.store 17 (.t 11) (.t 34)),
          y 12 (.mv (.t 35))])
       (.seq
        (.region [
          y 36 (.load true 17 (.t 9)),
          y 37 (.load true 17 (.t 11)),
          y 38 (.bin .neq (.plain [(some .i64), (some .i64), (some .i64), (some .i64), (some .i64), (some .i64), (some .i64), (some .u64), (some .u64), (some .u64), (some .u64), (some .u64), (some .i64), (some .i64), (some .i64), (some .i64), (some .i64)]) (.t 36) (.t 37)),
          y 39 (.mv (.t 38)),
          ⟨(some 40), .mv (.t 10), (some (39, false)), [], [], false⟩,
          ⟨(some 41), .mv (.t 12), (some (39, false)), [], [], false⟩,
          ⟨(some 42), .bin .neq .int (.t 40) (.t 41), (some (39, false)), [], [], false⟩,
          y 43 (.pick (.t 39) (.c (.bool true)) (.t 42))])
       (.cond (.t 43)
        (.seq
         (.region [
           y 6 (.mv (.c (.bool false)))])
        .ret)
        .skip)))))))
     (.region [
       y 15 (.mv (.t 7)),
       y 16 (.bin .add .int (.t 15) (.c (.int .i64 1))),
       y 7 (.mv (.t 16))]))))))
  (.seq
   (.region [
     y 44 (.call (.c (.func (.func 9) #[] #[])) [] false),
     y 6 (.mv (.t 44))])
  .ret))),
  [.tmp 6]⟩

/-- wainscot/fill.Answer -/
def i7 : IFun := ⟨37,
  (.seq
   (.region [
     y 3 (.box 24 17 (.t 0)),
     y 6 (.new 24 [(.int .i64 0), (.int .i64 0), (.int .i64 0), (.int .i64 0), (.int .i64 0), (.int .i64 0), (.int .i64 0), (.int .u64 0), (.int .u64 0), (.int .u64 0), (.int .u64 0), (.int .u64 0), (.int .i64 0), (.int .i64 0), (.int .i64 0), (.int .i64 0), (.int .i64 0)]),
     y 7 (.mv (.c (.int .i64 0)))])
  (.seq
   (.block 0
    (.seq
     (.seq
      (.region [
        y 9 (.addOff 3 (.t 3)),
        y 10 (.load false 1 (.t 9)),
        y 11 (.bin .neq .int (.t 10) (.c (.int .i64 0))),
        y 8 (.mv (.t 11))])
     (.cond (.t 8)
      .skip
      (.region [
        y 12 (.addOff 4 (.t 3)),
        y 13 (.load false 1 (.t 12)),
        y 14 (.bin .neq .int (.t 13) (.c (.int .i64 1))),
        y 8 (.mv (.t 14))])))
    (.cond (.t 8)
     (.seq
      (.region [
        y 15 (.build [(.int .i64 0), (.int .i64 0), (.int .i64 0), (.int .i64 0), (.int .i64 0), (.int .i64 0), (.int .i64 0), (.int .u64 0), (.int .u64 0), (.int .u64 0), (.int .u64 0), (.int .u64 0), (.int .i64 0), (.int .i64 0), (.int .i64 0), (.int .i64 0), (.int .i64 0)] []),
        x (.store 17 (.t 6) (.t 15)),
        y 7 (.mv (.c (.int .i64 292)))])
     .ret)
     (.seq
      (.region [
        y 17 (.mv (.t 1)),
        y 18 (.mv (.t 17)),
        ⟨(some 19), .mv (.t 2), (some (18, true)), [], [], false⟩,
        ⟨(some 20), .bin .lss .int (.t 19) (.c (.int .i64 0)), (some (18, true)), [], [], false⟩,
        ⟨(some 21), .mv (.t 20), (some (18, true)), [], [], false⟩,
        ⟨(some 22), .mv (.t 2), (some (21, false)), [], [], false⟩,
        ⟨(some 23), .bin .geq .int (.t 22) (.c (.int .i64 32)), (some (21, false)), [], [], false⟩,
        ⟨(some 24), .pick (.t 21) (.c (.bool true)) (.t 23), (some (18, true)), [], [], false⟩,
        y 25 (.pick (.t 18) (.t 24) (.c (.bool false))),
        y 16 (.mv (.t 25))])
     (.cond (.t 16)
      (.seq
       (.region [
         y 26 (.build [(.int .i64 0), (.int .i64 0), (.int .i64 0), (.int .i64 0), (.int .i64 0), (.int .i64 0), (.int .i64 0), (.int .u64 0), (.int .u64 0), (.int .u64 0), (.int .u64 0), (.int .u64 0), (.int .i64 0), (.int .i64 0), (.int .i64 0), (.int .i64 0), (.int .i64 0)] []),
         x (.store 17 (.t 6) (.t 26)),
         y 7 (.mv (.c (.int .i64 2)))])
      .ret)
      .skip)))))
  (.seq
   (.region [
     y 27 (.addOff 4 (.t 3)),
     x (.store 1 (.t 27) (.c (.int .i64 0)))])
  (.seq
   (.seq
    (.region [
      y 28 (.mv (.t 1)),
      y 29 (.un .not (.t 28))])
   (.cond (.t 29)
    (.seq
     (.region [
       y 30 (.addOff 3 (.t 3)),
       x (.store 1 (.t 30) (.c (.int .i64 2)))])
    (.seq
     (.region [
       y 31 (.load true 17 (.t 3)),
       x (.store 17 (.t 6) (.t 31)),
       y 7 (.mv (.c (.int .i64 0)))])
    .ret))
    .skip))
  (.seq
   (.region [
     y 32 (.mv (.t 2)),
     y 33 (.addOff 5 (.t 3)),
     x (.store 1 (.t 33) (.t 32)),
     y 34 (.addOff 13 (.t 3)),
     x (.store 1 (.t 34) (.c (.int .i64 0))),
     y 35 (.addOff 2 (.t 3)),
     x (.store 1 (.t 35) (.c (.int .i64 43)))])
  (.seq
   (.region [
     y 36 (.load true 17 (.t 3)),
     x (.store 17 (.t 6) (.t 36)),
     y 7 (.mv (.c (.int .i64 0)))])
  .ret)))))),
  [.cell 6 true 17, .tmp 7]⟩

/-- wainscot/wainscotref24.Answer -/
def i8 : IFun := ⟨37,
  (.seq
   (.region [
     y 3 (.box 24 17 (.t 0)),
     y 6 (.new 24 [(.int .i64 0), (.int .i64 0), (.int .i64 0), (.int .i64 0), (.int .i64 0), (.int .i64 0), (.int .i64 0), (.int .u64 0), (.int .u64 0), (.int .u64 0), (.int .u64 0), (.int .u64 0), (.int .i64 0), (.int .i64 0), (.int .i64 0), (.int .i64 0), (.int .i64 0)]),
     y 7 (.mv (.c (.int .i64 0)))])
  (.seq
   (.seq
    (.region [
      y 8 (.addOff 3 (.t 3)),
      y 9 (.load false 1 (.t 8)),
      y 10 (.bin .neq .int (.t 9) (.c (.int .i64 0))),
      y 11 (.mv (.t 10)),
      ⟨(some 12), .addOff 4 (.t 3), (some (11, false)), [], [], false⟩,
      ⟨(some 13), .load false 1 (.t 12), (some (11, false)), [], [], false⟩,
      ⟨(some 14), .bin .neq .int (.t 13) (.c (.int .i64 1)), (some (11, false)), [], [], false⟩,
      y 15 (.pick (.t 11) (.c (.bool true)) (.t 14))])
   (.cond (.t 15)
    (.seq
     (.region [
       y 16 (.build [(.int .i64 0), (.int .i64 0), (.int .i64 0), (.int .i64 0), (.int .i64 0), (.int .i64 0), (.int .i64 0), (.int .u64 0), (.int .u64 0), (.int .u64 0), (.int .u64 0), (.int .u64 0), (.int .i64 0), (.int .i64 0), (.int .i64 0), (.int .i64 0), (.int .i64 0)] []),
       x (.store 17 (.t 6) (.t 16)),
       y 7 (.mv (.c (.int .i64 292)))])
    .ret)
    .skip))
  (.seq
   (.seq
    (.region [
      y 17 (.mv (.t 1)),
      y 18 (.mv (.t 17)),
      ⟨(some 19), .mv (.t 2), (some (18, true)), [], [], false⟩,
      ⟨(some 20), .bin .lss .int (.t 19) (.c (.int .i64 0)), (some (18, true)), [], [], false⟩,
      ⟨(some 21), .mv (.t 20), (some (18, true)), [], [], false⟩,
      ⟨(some 22), .mv (.t 2), (some (21, false)), [], [], false⟩,
      ⟨(some 23), .bin .geq .int (.t 22) (.c (.int .i64 32)), (some (21, false)), [], [], false⟩,
      ⟨(some 24), .pick (.t 21) (.c (.bool true)) (.t 23), (some (18, true)), [], [], false⟩,
      y 25 (.pick (.t 18) (.t 24) (.c (.bool false)))])
   (.cond (.t 25)
    (.seq
     (.region [
       y 26 (.build [(.int .i64 0), (.int .i64 0), (.int .i64 0), (.int .i64 0), (.int .i64 0), (.int .i64 0), (.int .i64 0), (.int .u64 0), (.int .u64 0), (.int .u64 0), (.int .u64 0), (.int .u64 0), (.int .i64 0), (.int .i64 0), (.int .i64 0), (.int .i64 0), (.int .i64 0)] []),
       x (.store 17 (.t 6) (.t 26)),
       y 7 (.mv (.c (.int .i64 2)))])
    .ret)
    .skip))
  (.seq
   (.region [
     y 27 (.addOff 4 (.t 3)),
     x (.store 1 (.t 27) (.c (.int .i64 0)))])
  (.seq
   (.seq
    (.region [
      y 28 (.mv (.t 1)),
      y 29 (.un .not (.t 28))])
   (.cond (.t 29)
    (.seq
     (.region [
       y 30 (.addOff 3 (.t 3)),
       x (.store 1 (.t 30) (.c (.int .i64 2)))])
    (.seq
     (.region [
       y 31 (.load true 17 (.t 3)),
       x (.store 17 (.t 6) (.t 31)),
       y 7 (.mv (.c (.int .i64 0)))])
    .ret))
    .skip))
  (.seq
   (.region [
     y 32 (.mv (.t 2)),
     y 33 (.addOff 5 (.t 3)),
     x (.store 1 (.t 33) (.t 32))])
  (.seq
   (.region [
     y 34 (.addOff 13 (.t 3)),
     x (.store 1 (.t 34) (.c (.int .i64 0)))])
  (.seq
   (.region [
     y 35 (.addOff 2 (.t 3)),
     x (.store 1 (.t 35) (.c (.int .i64 43)))])
  (.seq
   (.region [
     y 36 (.load true 17 (.t 3)),
     x (.store 17 (.t 6) (.t 36)),
     y 7 (.mv (.c (.int .i64 0)))])
  .ret))))))))),
  [.cell 6 true 17, .tmp 7]⟩

/-- wainscot/wainscotlaw24.works -/
def i9 : IFun := ⟨113,
  (.seq
   (.region [
     y 0 (.mv (.c (.bool false)))])
  (.seq
   (.region [
     y 13 (.build [(.int .i64 0), (.int .i64 0), (.int .i64 0), (.int .i64 0), (.int .i64 0), (.int .u64 0)] [(0, 1, (.c (.int .i64 1))), (1, 1, (.c (.int .i64 2))), (2, 1, (.c (.int .i64 3)))]),
     y 1 (.new 33 [(.int .i64 0), (.int .i64 0), (.int .i64 0), (.int .i64 0), (.int .i64 0), (.int .u64 0)]),
     x (.store 6 (.t 1) (.t 13))])
  (.seq
   (.region [
     y 14 (.load true 6 (.t 1)),
     y 15 (.call (.c (.func (.func 11) #[] #[])) [(.t 14), (.c (.slice none 0 0))] false),
     y 2 (.mv (.t 15))])
  (.seq
   (.seq
    (.region [
      y 16 (.mv (.t 2)),
      y 17 (.bin .eql .ptr (.t 16) (.c (.pointer none)))])
   (.cond (.t 17)
    (.seq
     (.region [
       y 0 (.mv (.c (.bool false)))])
    .ret)
    .skip))
  (.seq
   (.region [
     y 19 (.mv (.t 2)),
     y 20 (.load true 6 (.t 1)),
     y 21 (.build [(.int .i64 0), (.int .i64 0), (.int .i64 0), (.int .i64 0), (.int .i64 0), (.int .i64 0), (.int .i64 0), (.int .u64 0), (.int .u64 0), (.int .u64 0), (.int .u64 0), (.int .u64 0), (.int .i64 0), (.int .i64 0), (.int .i64 0), (.int .i64 0), (.int .i64 0)] [(0, 1, (.c (.int .i64 1))), (2, 1, (.c (.int .i64 30)))]),
     y 22 (.call (.c (.func (.func 16) #[] #[])) [(.t 19), (.t 20), (.t 21)] false),
     y 18 (.mv (.t 22)),
     y 23 (.extract (.t 18) 0),
     y 24 (.extract (.t 18) 1),
     y 3 (.new 24 [(.int .i64 0), (.int .i64 0), (.int .i64 0), (.int .i64 0), (.int .i64 0), (.int .i64 0), (.int .i64 0), (.int .u64 0), (.int .u64 0), (.int .u64 0), (.int .u64 0), (.int .u64 0), (.int .i64 0), (.int .i64 0), (.int .i64 0), (.int .i64 0), (.int .i64 0)]),
     x (.store 17 (.t 3) (.t 23)),
     y 4 (.mv (.t 24))])
  (.seq
   (.region [
     y 26 (.load true 17 (.t 3)),
     y 27 (.call (.c (.func (.func 7) #[] #[])) [(.t 26), (.c (.bool true)), (.c (.int .i64 1))] false),
     y 25 (.mv (.t 27)),
     y 28 (.extract (.t 25) 0),
     y 29 (.extract (.t 25) 1),
     y 5 (.new 24 [(.int .i64 0), (.int .i64 0), (.int .i64 0), (.int .i64 0), (.int .i64 0), (.int .i64 0), (.int .i64 0), (.int .u64 0), (.int .u64 0), (.int .u64 0), (.int .u64 0), (.int .u64 0), (.int .i64 0), (.int .i64 0), (.int .i64 0), (.int .i64 0), (.int .i64 0)]),
     x (.store 17 (.t 5) (.t 28)),
     y 6 (.mv (.t 29))])
  (.seq
   (.region [
     y 31 (.mv (.t 2)),
     y 32 (.load true 6 (.t 1)),
     y 33 (.load true 17 (.t 5)),
     y 34 (.call (.c (.func (.func 16) #[] #[])) [(.t 31), (.t 32), (.t 33)] false),
     y 30 (.mv (.t 34)),
     y 35 (.extract (.t 30) 0),
     y 36 (.extract (.t 30) 1),
     y 7 (.new 24 [(.int .i64 0), (.int .i64 0), (.int .i64 0), (.int .i64 0), (.int .i64 0), (.int .i64 0), (.int .i64 0), (.int .u64 0), (.int .u64 0), (.int .u64 0), (.int .u64 0), (.int .u64 0), (.int .i64 0), (.int .i64 0), (.int .i64 0), (.int .i64 0), (.int .i64 0)]),
     x (.store 17 (.t 7) (.t 35)),
     y 8 (.mv (.t 36))])
  (.seq
   (.region [
     y 38 (.mv (.t 2)),
     y 39 (.call (.c (.func (.func 18) #[] #[])) [(.t 38)] true),
     y 40 (.load true 6 (.t 1)),
     y 41 (.call (.c (.func (.func 17) #[] #[])) [(.t 39), (.t 40)] true),
     y 37 (.mv (.t 41)),
     y 42 (.extract (.t 37) 0),
     y 43 (.extract (.t 37) 1),
     y 9 (.new 46 [(.slice none 0 0), (.slice none 0 0), (.bool false), (.slice none 0 0)]),
     x (.store 4 (.t 9) (.t 42)),
     y 10 (.mv (.t 43))])
  (.seq
   (.region [
     y 45 (.load true 17 (.t 3)),
     y 46 (.call (.c (.func (.func 7) #[] #[])) [(.t 45), (.c (.bool false)), (.c (.int .i64 0))] false),
     y 44 (.mv (.t 46)),
     y 47 (.extract (.t 44) 0),
     y 48 (.extract (.t 44) 1),
     y 11 (.new 24 [(.int .i64 0), (.int .i64 0), (.int .i64 0), (.int .i64 0), (.int .i64 0), (.int .i64 0), (.int .i64 0), (.int .u64 0), (.int .u64 0), (.int .u64 0), (.int .u64 0), (.int .u64 0), (.int .i64 0), (.int .i64 0), (.int .i64 0), (.int .i64 0), (.int .i64 0)]),
     x (.store 17 (.t 11) (.t 47)),
     y 12 (.mv (.t 48))])
  (.seq
   (.seq
    (.region [
      y 49 (.mv (.t 10)),
      y 50 (.bin .neq .int (.t 49) (.c (.int .i64 0))),
      y 51 (.mv (.t 50)),
      ⟨(some 52), .addOff 0 (.t 9), (some (51, false)), [], [], false⟩,
      ⟨(some 53), .load false 1 (.t 52), (some (51, false)), [], [], false⟩,
      ⟨(some 54), .lenS (.t 53), (some (51, false)), [], [], false⟩,
      ⟨(some 55), .bin .neq .int (.t 54) (.c (.int .i64 1)), (some (51, false)), [], [], false⟩,
      y 56 (.pick (.t 51) (.c (.bool true)) (.t 55))])
   (.cond (.t 56)
    (.seq
     (.region [
       y 0 (.mv (.c (.bool false)))])
    .ret)
    .skip))
  (.seq
   (.region [
     y 57 (.mv (.t 4)),
     y 58 (.bin .eql .int (.t 57) (.c (.int .i64 5))),
     y 59 (.mv (.t 58)),
     ⟨(some 60), .addOff 4 (.t 3), (some (59, true)), [], [], false⟩,
     ⟨(some 61), .load false 1 (.t 60), (some (59, true)), [], [], false⟩,
     ⟨(some 62), .bin .eql .int (.t 61) (.c (.int .i64 1)), (some (59, true)), [], [], false⟩,
     y 63 (.pick (.t 59) (.t 62) (.c (.bool false))),
     y 64 (.mv (.t 63)),
     ⟨(some 65), .mv (.t 6), (some (64, true)), [], [], false⟩,
     ⟨(some 66), .bin .eql .int (.t 65) (.c (.int .i64 0)), (some (64, true)), [], [], false⟩,
     y 67 (.pick (.t 64) (.t 66) (.c (.bool false))),
     y 68 (.mv (.t 67)),
     ⟨(some 69), .mv (.t 8), (some (68, true)), [], [], false⟩,
     ⟨(some 70), .bin .eql .int (.t 69) (.c (.int .i64 7)), (some (68, true)), [], [], false⟩,
     y 71 (.pick (.t 68) (.t 70) (.c (.bool false))),
     y 72 (.mv (.t 71)),
     ⟨(some 73), .addOff 3 (.t 7), (some (72, true)), [], [], false⟩,
     ⟨(some 74), .load false 1 (.t 73), (some (72, true)), [], [], false⟩,
     ⟨(some 75), .bin .eql .int (.t 74) (.c (.int .i64 1)), (some (72, true)), [], [], false⟩,
     y 76 (.pick (.t 72) (.t 75) (.c (.bool false))),
     y 77 (.mv (.t 76)),
     ⟨(some 78), .addOff 5 (.t 7), (some (77, true)), [], [], false⟩,
     ⟨(some 79), .load false 1 (.t 78), (some (77, true)), [], [], false⟩,
     ⟨(some 80), .bin .eql .int (.t 79) (.c (.int .i64 1)), (some (77, true)), [], [], false⟩,
     y 81 (.pick (.t 77) (.t 80) (.c (.bool false))),
     y 82 (.mv (.t 81)),
     ⟨(some 83), .addOff 6 (.t 7), (some (82, true)), [], [], false⟩,
     ⟨(some 84), .load false 1 (.t 83), (some (82, true)), [], [], false⟩,
     ⟨(some 85), .bin .eql .int (.t 84) (.c (.int .i64 0)), (some (82, true)), [], [], false⟩,
     y 86 (.pick (.t 82) (.t 85) (.c (.bool false))),
     y 87 (.mv (.t 86)),
     ⟨(some 88), .addOff 0 (.t 9), (some (87, true)), [], [], false⟩,
     ⟨(some 89), .load false 1 (.t 88), (some (87, true)), [], [], false⟩,
     ⟨(some 90), .idxS 4 (.t 89) (.c (.int .i64 0)), (some (87, true)), [], [], false⟩,
     ⟨(some 91), .addOff 0 (.t 90), (some (87, true)), [], [], false⟩,
     ⟨(some 92), .load false 1 (.t 91), (some (87, true)), [], [], false⟩,
     ⟨(some 93), .bin .eql .int (.t 92) (.c (.int .i64 1)), (some (87, true)), [], [], false⟩,
     y 94 (.pick (.t 87) (.t 93) (.c (.bool false))),
     y 95 (.mv (.t 94)),
     ⟨(some 96), .addOff 0 (.t 9), (some (95, true)), [], [], false⟩,
     ⟨(some 97), .load false 1 (.t 96), (some (95, true)), [], [], false⟩,
     ⟨(some 98), .idxS 4 (.t 97) (.c (.int .i64 0)), (some (95, true)), [], [], false⟩,
     ⟨(some 99), .addOff 1 (.t 98), (some (95, true)), [], [], false⟩,
     ⟨(some 100), .load false 1 (.t 99), (some (95, true)), [], [], false⟩,
     ⟨(some 101), .buildSlice 3 [(.int .i64 0), (.int .i64 0)] 2 [(0, 1, (.c (.int .i64 1))), (1, 1, (.c (.int .i64 2)))], (some (95, true)), [], [], false⟩,
     ⟨(some 102), .call (.c (.func (.func 22) #[] #[])) [(.t 100), (.t 101)] true, (some (95, true)), [], [], false⟩,
     y 103 (.pick (.t 95) (.t 102) (.c (.bool false))),
     y 104 (.mv (.t 103)),
     ⟨(some 105), .mv (.t 12), (some (104, true)), [], [], false⟩,
     ⟨(some 106), .bin .eql .int (.t 105) (.c (.int .i64 0)), (some (104, true)), [], [], false⟩,
     y 107 (.pick (.t 104) (.t 106) (.c (.bool false))),
     y 108 (.mv (.t 107)),
     ⟨(some 109), .addOff 3 (.t 11), (some (108, true)), [], [], false⟩,
     ⟨(some 110), .load false 1 (.t 109), (some (108, true)), [], [], false⟩,
     ⟨(some 111), .bin .eql .int (.t 110) (.c (.int .i64 2)), (some (108, true)), [], [], false⟩,
     y 112 (.pick (.t 108) (.t 111) (.c (.bool false))),
     y 0 (.mv (.t 112))])
  .ret))))))))))),
  [.tmp 0]⟩

/-- wainscot/wainscotlaw24.shelved -/
def i11 : IFun := ⟨64,
  (.seq
   (.region [
     y 2 (.box 33 6 (.t 0)),
     y 4 (.mv (.c (.pointer none)))])
  (.seq
   (.region [
     y 11 (.load true 6 (.t 2)),
     y 12 (.call (.c (.func (.func 24) #[] #[])) [(.t 11)] true),
     y 13 (.minmax true (.t 12) [(.c (.int .i64 1))]),
     y 14 (.call (.c (.func (.func 23) #[] #[])) [(.t 13)] true),
     y 10 (.mv (.t 14)),
     y 15 (.extract (.t 10) 0),
     y 16 (.extract (.t 10) 1),
     y 5 (.mv (.t 15)),
     y 6 (.mv (.t 16))])
  (.seq
   (.seq
    (.region [
      y 17 (.mv (.t 6)),
      y 18 (.bin .neq .int (.t 17) (.c (.int .i64 0))),
      y 19 (.mv (.t 18)),
      ⟨(some 20), .mv (.t 5), (some (19, false)), [], [], false⟩,
      ⟨(some 21), .bin .eql .ptr (.t 20) (.c (.pointer none)), (some (19, false)), [], [], false⟩,
      y 22 (.pick (.t 19) (.c (.bool true)) (.t 21))])
   (.cond (.t 22)
    (.seq
     (.region [
       y 4 (.mv (.c (.pointer none)))])
    .ret)
    .skip))
  (.seq
   (.seq
    (.region [
      y 23 (.mv (.t 1)),
      y 24 (.lenS (.t 23)),
      y 25 (.bin .sub .int (.t 24) (.c (.int .i64 1))),
      y 7 (.mv (.t 25))])
   (.block 0
    (.loop
     (.seq
      (.seq
       (.region [
         y 26 (.mv (.t 7)),
         y 27 (.bin .geq .int (.t 26) (.c (.int .i64 0)))])
      (.cond (.t 27)
       .skip
       (.exit 0)))
     (.seq
      (.block 1
       (.seq
        (.seq
         (.region [
           y 30 (.mv (.t 5)),
           y 31 (.load true 6 (.t 2)),
           y 32 (.mv (.t 7)),
           y 33 (.mv (.t 1)),
           y 34 (.mv (.t 7)),
           y 35 (.idxS 1 (.t 33) (.t 34)),
           y 36 (.load false 1 (.t 35)),
           y 37 (.call (.c (.func (.func 13) #[] #[])) [(.t 30), (.t 31), (.t 32), (.t 36), (.c (.bool false))] false),
           y 38 (.un .not (.t 37))])
        (.cond (.t 38)
         (.seq
          (.region [
            y 4 (.mv (.c (.pointer none)))])
         .ret)
         .skip))
       (.seq
        (.region [
          y 40 (.mv (.t 5)),
          y 41 (.load true 6 (.t 2)),
          y 42 (.call (.c (.func (.func 26) #[] #[])) [(.t 41)] true),
          y 43 (.call (.c (.func (.func 25) #[] #[])) [(.t 40), (.t 42)] false),
          y 39 (.mv (.t 43)),
          y 44 (.extract (.t 39) 0),
          y 45 (.extract (.t 39) 1),
          y 8 (.mv (.t 44)),
          y 9 (.mv (.t 45))])
       (.seq
        (.region [
          y 46 (.mv (.t 5)),
          y 47 (.load true 6 (.t 2)),
          y 48 (.mv (.t 7)),
          y 49 (.call (.c (.func (.func 21) #[] #[])) [(.t 47), (.t 48)] true),
          y 50 (.mv (.t 8)),
          y 51 (.call (.c (.func (.func 14) #[] #[])) [(.t 46), (.t 49), (.t 50)] false)])
       (.seq
        (.region [
          y 52 (.mv (.t 5)),
          y 53 (.load true 6 (.t 2)),
          y 54 (.call (.c (.func (.func 26) #[] #[])) [(.t 53)] true),
          y 55 (.mv (.t 7)),
          y 56 (.bin .add .int (.t 55) (.c (.int .i64 1))),
          y 57 (.conv .u64 (.t 56)),
          y 58 (.call (.c (.func (.func 14) #[] #[])) [(.t 52), (.t 54), (.t 57)] false)])
       (.region [
         y 59 (.mv (.t 5)),
         y 60 (.load true 6 (.t 2)),
         y 61 (.call (.c (.func (.func 28) #[] #[])) [(.t 60)] true),
         y 62 (.call (.c (.func (.func 27) #[] #[])) [(.t 59), (.t 61), (.c (.int .u64 1))] false)]))))))
     (.region [
       y 28 (.mv (.t 7)),
       y 29 (.bin .sub .int (.t 28) (.c (.int .i64 1))),
       y 7 (.mv (.t 29))]))))))
  (.seq
   (.region [
     y 63 (.mv (.t 5)),
     y 4 (.mv (.t 63))])
  .ret))))),
  [.tmp 4]⟩

/-- wainscot/count.Part -/
def i12 : IFun := ⟨32,
  (.seq
   (.region [
     y 4 (.mv (.c (.int .u64 0))),
     y 5 (.mv (.c (.int .i64 0)))])
  (.seq
   (.block 0
    (.seq
     (.region [
       y 7 (.mv (.t 0)),
       y 8 (.bin .eql .int (.t 7) (.c (.int .i64 (-1)))),
       y 9 (.mv (.t 8)),
       ⟨(some 10), .mv (.t 1), (some (9, true)), [], [], false⟩,
       ⟨(some 11), .bin .eql .int (.t 10) (.c (.int .i64 0)), (some (9, true)), [], [], false⟩,
       y 12 (.pick (.t 9) (.t 11) (.c (.bool false))),
       y 6 (.mv (.t 12))])
    (.cond (.t 6)
     (.seq
      (.region [
        y 4 (.mv (.c (.int .u64 0))),
        y 5 (.mv (.c (.int .i64 0)))])
     .ret)
     (.seq
      (.region [
        y 14 (.mv (.t 0)),
        y 15 (.call (.c (.func (.func 29) #[] #[])) [(.t 14)] true),
        y 16 (.un .not (.t 15)),
        y 17 (.mv (.t 16)),
        ⟨(some 18), .mv (.t 1), (some (17, false)), [], [], false⟩,
        ⟨(some 19), .bin .lss .int (.t 18) (.c (.int .i64 1)), (some (17, false)), [], [], false⟩,
        y 20 (.pick (.t 17) (.c (.bool true)) (.t 19)),
        y 21 (.mv (.t 20)),
        ⟨(some 22), .mv (.t 1), (some (21, false)), [], [], false⟩,
        ⟨(some 23), .bin .gtr .int (.t 22) (.c (.int .i64 63)), (some (21, false)), [], [], false⟩,
        y 24 (.pick (.t 21) (.c (.bool true)) (.t 23)),
        y 13 (.mv (.t 24))])
     (.cond (.t 13)
      (.seq
       (.region [
         y 4 (.mv (.c (.int .u64 0))),
         y 5 (.mv (.c (.int .i64 2)))])
      .ret)
      .skip)))))
  (.seq
   (.region [
     y 25 (.mv (.t 1)),
     y 26 (.conv .u64 (.t 25)),
     y 27 (.bin .shl .int (.t 26) (.c (.int .u64 6))),
     y 28 (.mv (.t 0)),
     y 29 (.bin .add .int (.t 28) (.c (.int .i64 1))),
     y 30 (.conv .u64 (.t 29)),
     y 31 (.bin .or .int (.t 27) (.t 30)),
     y 4 (.mv (.t 31)),
     y 5 (.mv (.c (.int .i64 0)))])
  .ret))),
  [.tmp 4, .tmp 5]⟩

/-- wainscot/wainscotlaw24.slabbed -/
def i13 : IFun := ⟨79,
  (.seq
   (.region [
     y 6 (.box 33 6 (.t 1)),
     y 10 (.mv (.c (.bool false)))])
  (.seq
   (.region [
     y 17 (.mv (.t 3)),
     y 18 (.minmax true (.t 17) [(.c (.int .i64 1))]),
     y 19 (.load true 6 (.t 6)),
     y 20 (.mv (.t 2)),
     y 21 (.call (.c (.func (.func 31) #[] #[])) [(.t 19), (.t 20)] true),
     y 22 (.call (.c (.func (.func 30) #[] #[])) [(.t 18), (.t 21)] true),
     y 16 (.mv (.t 22)),
     y 23 (.extract (.t 16) 0),
     y 24 (.extract (.t 16) 1),
     y 11 (.mv (.t 23)),
     y 12 (.mv (.t 24))])
  (.seq
   (.region [
     y 26 (.addOff 2 (.t 6)),
     y 27 (.load false 1 (.t 26)),
     y 28 (.mv (.t 3)),
     y 29 (.bin .sub .int (.t 27) (.t 28)),
     y 30 (.addOff 2 (.t 6)),
     y 31 (.load false 1 (.t 30)),
     y 32 (.mv (.t 4)),
     y 33 (.build [(.int .i64 0), (.int .i64 0), (.bool false), (.bool false)] [(0, 1, (.t 29)), (1, 1, (.t 31)), (2, 1, (.t 32)), (3, 1, (.c (.bool true)))]),
     y 34 (.call (.c (.func (.func 20) #[] #[])) [(.t 33)] true),
     y 25 (.mv (.t 34)),
     y 35 (.extract (.t 25) 0),
     y 36 (.extract (.t 25) 1),
     y 13 (.mv (.t 35)),
     y 14 (.mv (.t 36))])
  (.seq
   (.seq
    (.region [
      y 37 (.mv (.t 12)),
      y 38 (.bin .neq .int (.t 37) (.c (.int .i64 0))),
      y 39 (.mv (.t 38)),
      ⟨(some 40), .mv (.t 14), (some (39, false)), [], [], false⟩,
      ⟨(some 41), .bin .neq .int (.t 40) (.c (.int .i64 0)), (some (39, false)), [], [], false⟩,
      y 42 (.pick (.t 39) (.c (.bool true)) (.t 41)),
      y 43 (.mv (.t 42)),
      ⟨(some 44), .mv (.t 11), (some (43, false)), [], [], false⟩,
      ⟨(some 45), .lenS (.t 44), (some (43, false)), [], [], false⟩,
      ⟨(some 46), .mv (.t 3), (some (43, false)), [], [], false⟩,
      ⟨(some 47), .bin .lss .int (.t 45) (.t 46), (some (43, false)), [], [], false⟩,
      y 48 (.pick (.t 43) (.c (.bool true)) (.t 47))])
   (.cond (.t 48)
    (.seq
     (.region [
       y 10 (.mv (.c (.bool false)))])
    .ret)
    .skip))
  (.seq
   (.seq
    (.region [
      y 15 (.mv (.c (.int .i64 0)))])
   (.block 0
    (.loop
     (.seq
      (.seq
       (.region [
         y 49 (.mv (.t 15)),
         y 50 (.mv (.t 3)),
         y 51 (.bin .lss .int (.t 49) (.t 50))])
      (.cond (.t 51)
       .skip
       (.exit 0)))
     (.seq
      (.block 1
       (.region [
         y 54 (.mv (.t 0)),
         y 55 (.load true 6 (.t 6)),
         y 56 (.mv (.t 2)),
         y 57 (.mv (.t 15)),
         y 58 (.call (.c (.func (.func 32) #[] #[])) [(.t 55), (.t 56), (.t 57)] true),
         y 59 (.mv (.t 11)),
         y 60 (.mv (.t 15)),
         y 61 (.idxS 1 (.t 59) (.t 60)),
         y 62 (.load false 1 (.t 61)),
         y 63 (.call (.c (.func (.func 14) #[] #[])) [(.t 54), (.t 58), (.t 62)] false)]))
     (.region [
       y 52 (.mv (.t 15)),
       y 53 (.bin .add .int (.t 52) (.c (.int .i64 1))),
       y 15 (.mv (.t 53))]))))))
  (.seq
   (.seq
    (.region [
      y 64 (.mv (.t 3)),
      y 65 (.bin .gtr .int (.t 64) (.c (.int .i64 0)))])
   (.cond (.t 65)
    (.region [
      y 66 (.mv (.t 0)),
      y 67 (.load true 6 (.t 6)),
      y 68 (.mv (.t 2)),
      y 69 (.call (.c (.func (.func 33) #[] #[])) [(.t 67), (.t 68)] true),
      y 70 (.call (.c (.func (.func 14) #[] #[])) [(.t 66), (.t 69), (.c (.int .u64 1))] false)])
    .skip))
  (.seq
   (.region [
     y 71 (.mv (.t 0)),
     y 72 (.load true 6 (.t 6)),
     y 73 (.mv (.t 2)),
     y 74 (.call (.c (.func (.func 33) #[] #[])) [(.t 72), (.t 73)] true),
     y 75 (.bin .add .int (.t 74) (.c (.int .i64 1))),
     y 76 (.mv (.t 13)),
     y 77 (.call (.c (.func (.func 14) #[] #[])) [(.t 71), (.t 75), (.t 76)] false),
     y 78 (.bin .eql .int (.t 77) (.c (.int .i64 0))),
     y 10 (.mv (.t 78))])
  .ret))))))),
  [.tmp 10]⟩

/-- (*wainscot/mem.Mem).Store -/
def i14 : IFun := ⟨11,
  (.seq
   (.region [
     y 5 (.box 22 1 (.t 2)),
     y 6 (.mv (.c (.int .i64 0)))])
  (.seq
   (.region [
     y 7 (.mv (.t 0)),
     y 8 (.mv (.t 1)),
     y 9 (.mkFunc 35 [] [(.t 5)]),
     y 10 (.call (.c (.func (.func 34) #[] #[])) [(.t 7), (.t 8), (.c (.int .i64 1)), (.t 9)] false),
     y 6 (.mv (.t 10))])
  .ret)),
  [.tmp 6]⟩

/-- wainscot/chart.Part -/
def i15 : IFun := ⟨11,
  (.seq
   (.region [
     y 2 (.box 33 6 (.t 0)),
     y 3 (.box 3 1 (.t 1)),
     y 4 (.mv (.c (.int .i64 0)))])
  (.seq
   (.region [
     y 5 (.load true 6 (.t 2)),
     y 6 (.load false 1 (.t 3)),
     y 7 (.addOff 0 (.t 2)),
     y 8 (.load false 1 (.t 7)),
     y 9 (.mkFunc 37 [] [(.t 3)]),
     y 10 (.call (.c (.func (.func 36) #[] #[])) [(.t 5), (.t 6), (.t 8), (.t 9)] true),
     y 4 (.mv (.t 10))])
  .ret)),
  [.tmp 4]⟩

/-- wainscot/wainscotlaw24.through -/
def i16 : IFun := ⟨28,
  (.seq
   (.region [
     y 4 (.box 33 6 (.t 1)),
     y 5 (.box 24 17 (.t 2)),
     y 6 (.new 24 [(.int .i64 0), (.int .i64 0), (.int .i64 0), (.int .i64 0), (.int .i64 0), (.int .i64 0), (.int .i64 0), (.int .u64 0), (.int .u64 0), (.int .u64 0), (.int .u64 0), (.int .u64 0), (.int .i64 0), (.int .i64 0), (.int .i64 0), (.int .i64 0), (.int .i64 0)]),
     y 7 (.mv (.c (.int .i64 0)))])
  (.seq
   (.seq
    (.region [
      y 8 (.mv (.c (.int .i64 0)))])
   (.block 0
    (.loop
     (.seq
      (.seq
       (.region [
         y 11 (.mv (.t 8)),
         y 12 (.bin .lss .int (.t 11) (.c (.int .i64 80)))])
      (.cond (.t 12)
       .skip
       (.exit 0)))
     (.seq
      (.block 1
       (.seq
        (.region [
          y 16 (.mv (.t 0)),
          y 17 (.load true 6 (.t 4)),
          y 18 (.load true 17 (.t 5)),
          y 19 (.call (.c (.func (.func 19) #[] #[])) [(.t 16), (.t 17), (.t 18)] false),
          y 15 (.mv (.t 19)),
          y 20 (.extract (.t 15) 0),
          y 21 (.extract (.t 15) 1),
          y 9 (.new 24 [(.int .i64 0), (.int .i64 0), (.int .i64 0), (.int .i64 0), (.int .i64 0), (.int .i64 0), (.int .i64 0), (.int .u64 0), (.int .u64 0), (.int .u64 0), (.int .u64 0), (.int .u64 0), (.int .i64 0), (.int .i64 0), (.int .i64 0), (.int .i64 0), (.int .i64 0)]),
          x (.store 17 (.t 9) (.t 20)),
          y 10 (.mv (.t 21))])
       (.seq
        (.seq
         (.region [
           y 22 (.mv (.t 10)),
           y 23 (.bin .neq .int (.t 22) (.c (.int .i64 0)))])
        (.cond (.t 23)
         (.seq
          (.region [
            y 24 (.load true 17 (.t 5)),
            y 25 (.mv (.t 8)),
            x (.store 17 (.t 6) (.t 24)),
            y 7 (.mv (.t 25))])
         .ret)
         .skip))
       (.region [
         y 26 (.load true 17 (.t 9)),
         x (.store 17 (.t 5) (.t 26))]))))
     (.region [
       y 13 (.mv (.t 8)),
       y 14 (.bin .add .int (.t 13) (.c (.int .i64 1))),
       y 8 (.mv (.t 14))]))))))
  (.seq
   (.region [
     y 27 (.load true 17 (.t 5)),
     x (.store 17 (.t 6) (.t 27)),
     y 7 (.mv (.c (.int .i64 80)))])
  .ret))),
  [.cell 6 true 17, .tmp 7]⟩

/-- wainscot/chart.See -/
def i17 : IFun := ⟨95,
  (.seq
   (.region [
     y 3 (.box 33 6 (.t 1)),
     y 4 (.new 46 [(.slice none 0 0), (.slice none 0 0), (.bool false), (.slice none 0 0)]),
     y 5 (.mv (.c (.int .i64 0)))])
  (.seq
   (.seq
    (.region [
      y 16 (.load true 6 (.t 3)),
      y 17 (.call (.c (.func (.func 38) #[] #[])) [(.t 16)] true),
      y 18 (.bin .neq .int (.t 17) (.c (.int .i64 0))),
      y 19 (.mv (.t 18)),
      ⟨(some 20), .mv (.t 0), (some (19, false)), [], [], false⟩,
      ⟨(some 21), .lenS (.t 20), (some (19, false)), [], [], false⟩,
      ⟨(some 22), .load true 6 (.t 3), (some (19, false)), [], [], false⟩,
      ⟨(some 23), .call (.c (.func (.func 24) #[] #[])) [(.t 22)] true, (some (19, false)), [], [], false⟩,
      ⟨(some 24), .bin .neq .int (.t 21) (.t 23), (some (19, false)), [], [], false⟩,
      y 25 (.pick (.t 19) (.c (.bool true)) (.t 24))])
   (.cond (.t 25)
    (.seq
     (.region [
       y 26 (.build [(.slice none 0 0), (.slice none 0 0), (.bool false), (.slice none 0 0)] []),
       x (.store 4 (.t 4) (.t 26)),
       y 5 (.mv (.c (.int .i64 2)))])
    .ret)
    .skip))
  (.seq
   (.region [
     y 27 (.mv (.t 0)),
     y 28 (.load true 6 (.t 3)),
     y 29 (.build [(.slice none 0 0), (.int .i64 0), (.int .i64 0), (.int .i64 0), (.int .i64 0), (.int .i64 0), (.int .u64 0)] [(0, 1, (.t 27)), (1, 6, (.t 28))]),
     y 6 (.new 80 [(.slice none 0 0), (.int .i64 0), (.int .i64 0), (.int .i64 0), (.int .i64 0), (.int .i64 0), (.int .u64 0)]),
     x (.store 7 (.t 6) (.t 29))])
  (.seq
   (.region [
     y 30 (.mv (.t 0)),
     y 31 (.load true 6 (.t 3)),
     y 32 (.call (.c (.func (.func 39) #[] #[])) [(.t 31)] true),
     y 33 (.idxS 1 (.t 30) (.t 32)),
     y 34 (.load false 1 (.t 33)),
     y 35 (.bin .neq .int (.t 34) (.c (.int .u64 0))),
     y 36 (.build [(.slice none 0 0), (.slice none 0 0), (.bool false), (.slice none 0 0)] [(2, 1, (.t 35))]),
     y 7 (.new 46 [(.slice none 0 0), (.slice none 0 0), (.bool false), (.slice none 0 0)]),
     x (.store 4 (.t 7) (.t 36))])
  (.seq
   (.seq
    (.region [
      y 37 (.addOff 0 (.t 3)),
      y 38 (.load false 1 (.t 37)),
      y 39 (.mv (.c (.int .i64 0)))])
   (.block 0
    (.loop
     (.seq
      (.region [
        y 40 (.bin .lss .int (.t 39) (.t 38))])
     (.seq
      (.cond (.t 40)
       .skip
       (.exit 0))
     (.seq
      (.block 1
       (.seq
        (.region [
          y 41 (.mv (.t 39)),
          y 8 (.mv (.t 41))])
       (.seq
        (.region [
          y 43 (.load true 7 (.t 6)),
          y 44 (.mv (.t 8)),
          y 45 (.call (.c (.func (.func 40) #[] #[])) [(.t 43), (.t 44)] true),
          y 42 (.mv (.t 45)),
          y 46 (.extract (.t 42) 0),
          y 47 (.extract (.t 42) 1),
          y 9 (.new 56 [(.int .i64 0), (.slice none 0 0), (.int .u64 0), (.slice none 0 0)]),
          x (.store 4 (.t 9) (.t 46)),
          y 10 (.mv (.t 47))])
       (.seq
        (.seq
         (.region [
           y 48 (.mv (.t 10)),
           y 49 (.un .not (.t 48))])
        (.cond (.t 49)
         (.seq
          (.region [
            y 50 (.build [(.slice none 0 0), (.slice none 0 0), (.bool false), (.slice none 0 0)] []),
            x (.store 4 (.t 4) (.t 50)),
            y 5 (.mv (.c (.int .i64 150)))])
         .ret)
         .skip))
       (.region [
         y 51 (.addOff 0 (.t 7)),
         y 52 (.load false 1 (.t 51)),
         y 53 (.load true 4 (.t 9)),
         y 54 (.buildSlice 56 [(.int .i64 0), (.slice none 0 0), (.int .u64 0), (.slice none 0 0)] 1 [(0, 4, (.t 53))]),
         y 55 (.append 56 4 64 (.t 52) (.t 54)),
         y 56 (.addOff 0 (.t 7)),
         x (.store 1 (.t 56) (.t 55))])))))
     (.region [
       y 57 (.bin .add .int (.t 39) (.c (.int .i64 1))),
       y 39 (.mv (.t 57))])))))))
  (.seq
   (.region [
     y 59 (.load true 7 (.t 6)),
     y 60 (.mv (.t 0)),
     y 61 (.load true 6 (.t 3)),
     y 62 (.call (.c (.func (.func 26) #[] #[])) [(.t 61)] true),
     y 63 (.idxS 1 (.t 60) (.t 62)),
     y 64 (.load false 1 (.t 63)),
     y 65 (.call (.c (.func (.func 41) #[] #[])) [(.t 59), (.t 64), (.c (.func (.func 42) #[] #[]))] true),
     y 58 (.mv (.t 65)),
     y 66 (.extract (.t 58) 0),
     y 67 (.extract (.t 58) 1),
     y 11 (.mv (.t 66)),
     y 12 (.mv (.t 67))])
  (.seq
   (.seq
    (.region [
      y 68 (.mv (.t 12)),
      y 69 (.un .not (.t 68))])
   (.cond (.t 69)
    (.seq
     (.region [
       y 70 (.build [(.slice none 0 0), (.slice none 0 0), (.bool false), (.slice none 0 0)] []),
       x (.store 4 (.t 4) (.t 70)),
       y 5 (.mv (.c (.int .i64 150)))])
    .ret)
    .skip))
  (.seq
   (.region [
     y 71 (.mv (.t 11)),
     y 72 (.addOff 1 (.t 7)),
     x (.store 1 (.t 72) (.t 71))])
  (.seq
   (.seq
    (.region [
      y 73 (.addOff 1 (.t 3)),
      y 74 (.load false 1 (.t 73)),
      y 75 (.mv (.c (.int .i64 0)))])
   (.block 2
    (.loop
     (.seq
      (.region [
        y 76 (.bin .lss .int (.t 75) (.t 74))])
     (.seq
      (.cond (.t 76)
       .skip
       (.exit 2))
     (.seq
      (.block 3
       (.seq
        (.region [
          y 77 (.mv (.t 75)),
          y 13 (.mv (.t 77))])
       (.seq
        (.region [
          y 79 (.load true 7 (.t 6)),
          y 80 (.mv (.t 13)),
          y 81 (.call (.c (.func (.func 43) #[] #[])) [(.t 79), (.t 80)] true),
          y 78 (.mv (.t 81)),
          y 82 (.extract (.t 78) 0),
          y 83 (.extract (.t 78) 1),
          y 14 (.new 54 [(.int .i64 0), (.int .i64 0), (.bool false), (.bool false), (.slice none 0 0)]),
          x (.store 5 (.t 14) (.t 82)),
          y 15 (.mv (.t 83))])
       (.seq
        (.seq
         (.region [
           y 84 (.mv (.t 15)),
           y 85 (.un .not (.t 84))])
        (.cond (.t 85)
         (.seq
          (.region [
            y 86 (.build [(.slice none 0 0), (.slice none 0 0), (.bool false), (.slice none 0 0)] []),
            x (.store 4 (.t 4) (.t 86)),
            y 5 (.mv (.c (.int .i64 150)))])
         .ret)
         .skip))
       (.region [
         y 87 (.addOff 3 (.t 7)),
         y 88 (.load false 1 (.t 87)),
         y 89 (.load true 5 (.t 14)),
         y 90 (.buildSlice 54 [(.int .i64 0), (.int .i64 0), (.bool false), (.bool false), (.slice none 0 0)] 1 [(0, 5, (.t 89))]),
         y 91 (.append 54 5 48 (.t 88) (.t 90)),
         y 92 (.addOff 3 (.t 7)),
         x (.store 1 (.t 92) (.t 91))])))))
     (.region [
       y 93 (.bin .add .int (.t 75) (.c (.int .i64 1))),
       y 75 (.mv (.t 93))])))))))
  (.seq
   (.region [
     y 94 (.load true 4 (.t 7)),
     x (.store 4 (.t 4) (.t 94)),
     y 5 (.mv (.c (.int .i64 0)))])
  .ret)))))))))),
  [.cell 4 true 4, .tmp 5]⟩

/-- (*wainscot/mem.Mem).Words -/
def i18 : IFun := ⟨10,
  (.seq
   (.region [
     y 2 (.mv (.c (.slice none 0 0)))])
  (.seq
   (.seq
    (.region [
      y 3 (.mv (.t 0)),
      y 4 (.bin .eql .ptr (.t 3) (.c (.pointer none)))])
   (.cond (.t 4)
    (.seq
     (.region [
       y 2 (.mv (.c (.slice none 0 0)))])
    .ret)
    .skip))
  (.seq
   (.region [
     y 5 (.mv (.t 0)),
     y 6 (.nilCheck (.t 5)),
     y 7 (.addOff 0 (.t 6)),
     y 8 (.load false 1 (.t 7)),
     y 9 (.call (.c (.func (.func 44) #[] #[])) [(.t 8)] true),
     y 2 (.mv (.t 9))])
  .ret))),
  [.tmp 2]⟩

/-- wainscot/fill.Step -/
def i19 : IFun := ⟨52,
  (.seq
   (.region [
     y 4 (.box 33 6 (.t 1)),
     y 5 (.box 24 17 (.t 2)),
     y 6 (.new 24 [(.int .i64 0), (.int .i64 0), (.int .i64 0), (.int .i64 0), (.int .i64 0), (.int .i64 0), (.int .i64 0), (.int .u64 0), (.int .u64 0), (.int .u64 0), (.int .u64 0), (.int .u64 0), (.int .i64 0), (.int .i64 0), (.int .i64 0), (.int .i64 0), (.int .i64 0)]),
     y 7 (.mv (.c (.int .i64 0)))])
  (.seq
   (.block 0
    (.seq
     (.region [
       y 11 (.mv (.t 0)),
       y 12 (.call (.c (.func (.func 45) #[] #[])) [(.t 11)] true),
       y 13 (.bin .eql .int (.t 12) (.c (.int .i64 0))),
       y 10 (.mv (.t 13))])
    (.cond (.t 10)
     (.seq
      (.region [
        y 14 (.build [(.int .i64 0), (.int .i64 0), (.int .i64 0), (.int .i64 0), (.int .i64 0), (.int .i64 0), (.int .i64 0), (.int .u64 0), (.int .u64 0), (.int .u64 0), (.int .u64 0), (.int .u64 0), (.int .i64 0), (.int .i64 0), (.int .i64 0), (.int .i64 0), (.int .i64 0)] []),
        x (.store 17 (.t 6) (.t 14)),
        y 7 (.mv (.c (.int .i64 1)))])
     .ret)
     (.seq
      (.region [
        y 16 (.load true 6 (.t 4)),
        y 17 (.call (.c (.func (.func 38) #[] #[])) [(.t 16)] true),
        y 18 (.bin .neq .int (.t 17) (.c (.int .i64 0))),
        y 15 (.mv (.t 18))])
     (.cond (.t 15)
      (.seq
       (.region [
         y 19 (.build [(.int .i64 0), (.int .i64 0), (.int .i64 0), (.int .i64 0), (.int .i64 0), (.int .i64 0), (.int .i64 0), (.int .u64 0), (.int .u64 0), (.int .u64 0), (.int .u64 0), (.int .u64 0), (.int .i64 0), (.int .i64 0), (.int .i64 0), (.int .i64 0), (.int .i64 0)] []),
         x (.store 17 (.t 6) (.t 19)),
         y 7 (.mv (.c (.int .i64 2)))])
      .ret)
      .skip)))))
  (.seq
   (.region [
     y 20 (.mv (.t 0)),
     y 21 (.load true 6 (.t 4)),
     y 22 (.load true 17 (.t 5)),
     y 23 (.build [(.pointer none), (.int .i64 0), (.int .i64 0), (.int .i64 0), (.int .i64 0), (.int .i64 0), (.int .u64 0), (.int .i64 0), (.int .i64 0), (.int .i64 0), (.int .i64 0), (.int .i64 0), (.int .i64 0), (.int .i64 0), (.int .u64 0), (.int .u64 0), (.int .u64 0), (.int .u64 0), (.int .u64 0), (.int .i64 0), (.int .i64 0), (.int .i64 0), (.int .i64 0), (.int .i64 0), (.bool false)] [(0, 1, (.t 20)), (1, 6, (.t 21)), (7, 17, (.t 22))]),
     y 24 (.box 93 25 (.t 23)),
     y 8 (.mv (.t 24))])
  (.seq
   (.region [
     y 25 (.mv (.t 8)),
     y 26 (.call (.c (.func (.func 46) #[] #[])) [(.t 25)] false),
     y 9 (.mv (.t 26))])
  (.seq
   (.seq
    (.region [
      y 27 (.mv (.t 9)),
      y 28 (.bin .eql .func (.t 27) (.c .nilFunc)),
      y 29 (.mv (.t 28)),
      ⟨(some 30), .addOff 3 (.t 5), (some (29, false)), [], [], false⟩,
      ⟨(some 31), .load false 1 (.t 30), (some (29, false)), [], [], false⟩,
      ⟨(some 32), .bin .neq .int (.t 31) (.c (.int .i64 0)), (some (29, false)), [], [], false⟩,
      y 33 (.pick (.t 29) (.c (.bool true)) (.t 32)),
      y 34 (.mv (.t 33)),
      ⟨(some 35), .addOff 4 (.t 5), (some (34, false)), [], [], false⟩,
      ⟨(some 36), .load false 1 (.t 35), (some (34, false)), [], [], false⟩,
      ⟨(some 37), .bin .neq .int (.t 36) (.c (.int .i64 0)), (some (34, false)), [], [], false⟩,
      y 38 (.pick (.t 34) (.c (.bool true)) (.t 37))])
   (.cond (.t 38)
    (.seq
     (.region [
       y 39 (.build [(.int .i64 0), (.int .i64 0), (.int .i64 0), (.int .i64 0), (.int .i64 0), (.int .i64 0), (.int .i64 0), (.int .u64 0), (.int .u64 0), (.int .u64 0), (.int .u64 0), (.int .u64 0), (.int .i64 0), (.int .i64 0), (.int .i64 0), (.int .i64 0), (.int .i64 0)] []),
       x (.store 17 (.t 6) (.t 39)),
       y 7 (.mv (.c (.int .i64 292)))])
    .ret)
    .skip))
  (.seq
   (.seq
    (.region [
      y 40 (.mv (.t 9)),
      y 41 (.call (.t 40) [] false)])
   (.seq
    (.region [
      y 42 (.mv (.t 8)),
      y 43 (.nilCheck (.t 42)),
      y 44 (.addOff 24 (.t 43)),
      y 45 (.load false 1 (.t 44))])
   (.cond (.t 45)
    (.seq
     (.region [
       y 46 (.addOff 3 (.t 5)),
       x (.store 1 (.t 46) (.c (.int .i64 3)))])
    (.seq
     (.region [
       y 47 (.load true 17 (.t 5)),
       x (.store 17 (.t 6) (.t 47)),
       y 7 (.mv (.c (.int .i64 0)))])
    .ret))
    .skip)))
  (.seq
   (.region [
     y 48 (.mv (.t 8)),
     y 49 (.nilCheck (.t 48)),
     y 50 (.addOff 7 (.t 49)),
     y 51 (.load true 17 (.t 50)),
     x (.store 17 (.t 6) (.t 51)),
     y 7 (.mv (.c (.int .i64 0)))])
  .ret))))))),
  [.cell 6 true 17, .tmp 7]⟩

/-- wainscot/count.Pack -/
def i20 : IFun := ⟨23,
  (.seq
   (.region [
     y 1 (.box 52 4 (.t 0)),
     y 2 (.mv (.c (.int .u64 0))),
     y 3 (.mv (.c (.int .i64 0)))])
  (.seq
   (.seq
    (.region [
      y 4 (.load true 4 (.t 1)),
      y 5 (.call (.c (.func (.func 47) #[] #[])) [(.t 4)] true),
      y 6 (.un .not (.t 5))])
   (.cond (.t 6)
    (.seq
     (.region [
       y 2 (.mv (.c (.int .u64 0))),
       y 3 (.mv (.c (.int .i64 2)))])
    .ret)
    .skip))
  (.seq
   (.region [
     y 7 (.addOff 0 (.t 1)),
     y 8 (.load false 1 (.t 7)),
     y 9 (.conv .u64 (.t 8)),
     y 10 (.addOff 1 (.t 1)),
     y 11 (.load false 1 (.t 10)),
     y 12 (.conv .u64 (.t 11)),
     y 13 (.bin .shl .int (.t 12) (.c (.int .u64 8))),
     y 14 (.bin .or .int (.t 9) (.t 13)),
     y 15 (.addOff 2 (.t 1)),
     y 16 (.load false 1 (.t 15)),
     y 17 (.call (.c (.func (.func 48) #[] #[])) [(.t 16), (.c (.int .u64 65536))] true),
     y 18 (.bin .or .int (.t 14) (.t 17)),
     y 19 (.addOff 3 (.t 1)),
     y 20 (.load false 1 (.t 19)),
     y 21 (.call (.c (.func (.func 48) #[] #[])) [(.t 20), (.c (.int .u64 131072))] true),
     y 22 (.bin .or .int (.t 18) (.t 21)),
     y 2 (.mv (.t 22)),
     y 3 (.mv (.c (.int .i64 0)))])
  .ret))),
  [.tmp 2, .tmp 3]⟩

/-- wainscot/chart.Next -/
def i21 : IFun := ⟨11,
  (.seq
   (.region [
     y 2 (.box 33 6 (.t 0)),
     y 3 (.box 3 1 (.t 1)),
     y 4 (.mv (.c (.int .i64 0)))])
  (.seq
   (.region [
     y 5 (.load true 6 (.t 2)),
     y 6 (.load false 1 (.t 3)),
     y 7 (.addOff 1 (.t 2)),
     y 8 (.load false 1 (.t 7)),
     y 9 (.mkFunc 49 [] [(.t 2), (.t 3)]),
     y 10 (.call (.c (.func (.func 36) #[] #[])) [(.t 5), (.t 6), (.t 8), (.t 9)] true),
     y 4 (.mv (.t 10))])
  .ret)),
  [.tmp 4]⟩

/-- wainscot/wainscotref00.EqInts -/
def i22 : IFun := ⟨26,
  (.seq
   (.region [
     y 4 (.mv (.c (.bool false)))])
  (.seq
   (.seq
    (.region [
      y 6 (.mv (.t 0)),
      y 7 (.lenS (.t 6)),
      y 8 (.mv (.t 1)),
      y 9 (.lenS (.t 8)),
      y 10 (.bin .neq .int (.t 7) (.t 9))])
   (.cond (.t 10)
    (.seq
     (.region [
       y 4 (.mv (.c (.bool false)))])
    .ret)
    .skip))
  (.seq
   (.seq
    (.region [
      y 5 (.mv (.c (.int .i64 0)))])
   (.block 0
    (.loop
     (.seq
      (.seq
       (.region [
         y 11 (.mv (.t 5)),
         y 12 (.mv (.t 0)),
         y 13 (.lenS (.t 12)),
         y 14 (.bin .lss .int (.t 11) (.t 13))])
      (.cond (.t 14)
       .skip
       (.exit 0)))
     (.seq
      (.block 1
       (.seq
        (.region [
          y 17 (.mv (.t 0)),
          y 18 (.mv (.t 5)),
          y 19 (.idxS 1 (.t 17) (.t 18)),
          y 20 (.load false 1 (.t 19)),
          y 21 (.mv (.t 1)),
          y 22 (.mv (.t 5)),
          y 23 (.idxS 1 (.t 21) (.t 22)),
          y 24 (.load false 1 (.t 23)),
          y 25 (.bin .neq .int (.t 20) (.t 24))])
       (.cond (.t 25)
        (.seq
         (.region [
           y 4 (.mv (.c (.bool false)))])
        .ret)
        .skip)))
     (.region [
       y 15 (.mv (.t 5)),
       y 16 (.bin .add .int (.t 15) (.c (.int .i64 1))),
       y 5 (.mv (.t 16))]))))))
  (.seq
   (.region [
     y 4 (.mv (.c (.bool true)))])
  .ret)))),
  [.tmp 4]⟩

/-- wainscot/mem.New -/
def i23 : IFun := ⟨14,
  (.seq
   (.region [
     y 2 (.mv (.c (.pointer none))),
     y 3 (.mv (.c (.int .i64 0)))])
  (.seq
   (.seq
    (.region [
      y 4 (.mv (.t 0)),
      y 5 (.bin .lss .int (.t 4) (.c (.int .i64 1))),
      y 6 (.mv (.t 5)),
      ⟨(some 7), .mv (.t 0), (some (6, false)), [], [], false⟩,
      ⟨(some 8), .bin .gtr .int (.t 7) (.c (.int .i64 4096)), (some (6, false)), [], [], false⟩,
      y 9 (.pick (.t 6) (.c (.bool true)) (.t 8))])
   (.cond (.t 9)
    (.seq
     (.region [
       y 2 (.mv (.c (.pointer none))),
       y 3 (.mv (.c (.int .i64 9)))])
    .ret)
    .skip))
  (.seq
   (.region [
     y 10 (.mv (.t 0)),
     y 11 (.mkSlice 22 (.int .u64 0) 8 (.t 10) (.t 10)),
     y 12 (.build [(.slice none 0 0), (.int .i64 0)] [(0, 1, (.t 11))]),
     y 13 (.box 90 2 (.t 12)),
     y 2 (.mv (.t 13)),
     y 3 (.mv (.c (.int .i64 0)))])
  .ret))),
  [.tmp 2, .tmp 3]⟩

/-- wainscot/chart.Words -/
def i24 : IFun := ⟨14,
  (.seq
   (.region [
     y 1 (.box 33 6 (.t 0)),
     y 2 (.mv (.c (.int .i64 0)))])
  (.seq
   (.seq
    (.region [
      y 3 (.load true 6 (.t 1)),
      y 4 (.call (.c (.func (.func 38) #[] #[])) [(.t 3)] true),
      y 5 (.bin .neq .int (.t 4) (.c (.int .i64 0)))])
   (.cond (.t 5)
    (.seq
     (.region [
       y 2 (.mv (.c (.int .i64 0)))])
    .ret)
    .skip))
  (.seq
   (.region [
     y 6 (.load true 6 (.t 1)),
     y 7 (.call (.c (.func (.func 51) #[] #[])) [(.t 6)] true),
     y 8 (.addOff 1 (.t 1)),
     y 9 (.load false 1 (.t 8)),
     y 10 (.addOff 2 (.t 1)),
     y 11 (.load false 1 (.t 10)),
     y 12 (.bin .mul .int (.t 9) (.t 11)),
     y 13 (.bin .add .int (.t 7) (.t 12)),
     y 2 (.mv (.t 13))])
  .ret))),
  [.tmp 2]⟩

/-- (*wainscot/mem.Mem).Load -/
def i25 : IFun := ⟨12,
  (.seq
   (.region [
     y 4 (.new 22 [(.int .u64 0)]),
     y 5 (.mv (.c (.int .i64 0)))])
  (.seq
   (.region [
     y 6 (.mv (.t 0)),
     y 7 (.mv (.t 1)),
     y 8 (.mkFunc 52 [] [(.t 4)]),
     y 9 (.call (.c (.func (.func 34) #[] #[])) [(.t 6), (.t 7), (.c (.int .i64 1)), (.t 8)] false),
     y 5 (.mv (.t 9))])
  (.seq
   (.region [
     y 10 (.load false 1 (.t 4)),
     y 11 (.mv (.t 5)),
     x (.store 1 (.t 4) (.t 10)),
     y 5 (.mv (.t 11))])
  .ret))),
  [.cell 4 false 1, .tmp 5]⟩

/-- wainscot/chart.Shelf -/
def i26 : IFun := ⟨6,
  (.seq
   (.region [
     y 1 (.box 33 6 (.t 0)),
     y 2 (.mv (.c (.int .i64 0)))])
  (.seq
   (.region [
     y 3 (.load true 6 (.t 1)),
     y 4 (.mkFunc 53 [] [(.t 1)]),
     y 5 (.call (.c (.func (.func 36) #[] #[])) [(.t 3), (.c (.int .i64 0)), (.c (.int .i64 1)), (.t 4)] true),
     y 2 (.mv (.t 5))])
  .ret)),
  [.tmp 2]⟩

/-- (*wainscot/mem.Mem).Add -/
def i27 : IFun := ⟨14,
  (.seq
   (.region [
     y 5 (.box 22 1 (.t 2)),
     y 6 (.new 22 [(.int .u64 0)]),
     y 7 (.mv (.c (.int .i64 0)))])
  (.seq
   (.region [
     y 8 (.mv (.t 0)),
     y 9 (.mv (.t 1)),
     y 10 (.mkFunc 55 [] [(.t 6), (.t 5)]),
     y 11 (.call (.c (.func (.func 34) #[] #[])) [(.t 8), (.t 9), (.c (.int .i64 1)), (.t 10)] false),
     y 7 (.mv (.t 11))])
  (.seq
   (.region [
     y 12 (.load false 1 (.t 6)),
     y 13 (.mv (.t 7)),
     x (.store 1 (.t 6) (.t 12)),
     y 7 (.mv (.t 13))])
  .ret))),
  [.cell 6 false 1, .tmp 7]⟩

/-- wainscot/chart.Held -/
def i28 : IFun := ⟨6,
  (.seq
   (.region [
     y 1 (.box 33 6 (.t 0)),
     y 2 (.mv (.c (.int .i64 0)))])
  (.seq
   (.region [
     y 3 (.load true 6 (.t 1)),
     y 4 (.mkFunc 56 [] [(.t 1)]),
     y 5 (.call (.c (.func (.func 36) #[] #[])) [(.t 3), (.c (.int .i64 0)), (.c (.int .i64 1)), (.t 4)] true),
     y 2 (.mv (.t 5))])
  .ret)),
  [.tmp 2]⟩

/-- wainscot/count.slabMay -/
def i29 : IFun := ⟨9,
  (.seq
   (.region [
     y 2 (.mv (.c (.bool false)))])
  (.seq
   (.region [
     y 3 (.mv (.t 0)),
     y 4 (.bin .leq .int (.c (.int .i64 0)) (.t 3)),
     y 5 (.mv (.t 4)),
     ⟨(some 6), .mv (.t 0), (some (5, true)), [], [], false⟩,
     ⟨(some 7), .bin .lss .int (.t 6) (.c (.int .i64 32)), (some (5, true)), [], [], false⟩,
     y 8 (.pick (.t 5) (.t 7) (.c (.bool false))),
     y 2 (.mv (.t 8))])
  .ret)),
  [.tmp 2]⟩

/-- wainscot/link.Fresh -/
def i30 : IFun := ⟨41,
  (.seq
   (.region [
     y 4 (.mv (.c (.slice none 0 0))),
     y 5 (.mv (.c (.int .i64 0)))])
  (.seq
   (.seq
    (.region [
      y 8 (.mv (.t 0)),
      y 9 (.bin .lss .int (.t 8) (.c (.int .i64 1))),
      y 10 (.mv (.t 9)),
      ⟨(some 11), .mv (.t 0), (some (10, false)), [], [], false⟩,
      ⟨(some 12), .bin .gtr .int (.t 11) (.c (.int .i64 16)), (some (10, false)), [], [], false⟩,
      y 13 (.pick (.t 10) (.c (.bool true)) (.t 12))])
   (.cond (.t 13)
    (.seq
     (.region [
       y 4 (.mv (.c (.slice none 0 0))),
       y 5 (.mv (.c (.int .i64 2)))])
    .ret)
    .skip))
  (.seq
   (.region [
     y 14 (.mv (.t 0)),
     y 15 (.mkSlice 22 (.int .u64 0) 8 (.t 14) (.t 14)),
     y 6 (.mv (.t 15))])
  (.seq
   (.seq
    (.region [
      y 16 (.mv (.t 6)),
      y 17 (.lenS (.t 16)),
      y 18 (.mv (.c (.int .i64 0)))])
   (.block 0
    (.loop
     (.seq
      (.region [
        y 19 (.bin .lss .int (.t 18) (.t 17))])
     (.seq
      (.cond (.t 19)
       .skip
       (.exit 0))
     (.seq
      (.block 1
       (.seq
        (.region [
          y 20 (.mv (.t 18)),
          y 7 (.mv (.t 20))])
       (.region [
         y 21 (.mv (.t 6)),
         y 22 (.mv (.t 7)),
         y 23 (.mv (.t 7)),
         y 24 (.bin .add .int (.t 23) (.c (.int .i64 2))),
         y 25 (.conv .u64 (.t 24)),
         y 26 (.mv (.t 1)),
         y 27 (.mv (.t 7)),
         y 28 (.call (.c (.func (.func 57) #[] #[])) [(.t 26), (.t 27)] true),
         y 29 (.bin .xor .int (.t 25) (.t 28)),
         y 30 (.idxS 1 (.t 21) (.t 22)),
         x (.store 1 (.t 30) (.t 29))])))
     (.region [
       y 31 (.bin .add .int (.t 18) (.c (.int .i64 1))),
       y 18 (.mv (.t 31))])))))))
  (.seq
   (.region [
     y 32 (.mv (.t 6)),
     y 33 (.mv (.t 0)),
     y 34 (.bin .sub .int (.t 33) (.c (.int .i64 1))),
     y 35 (.mv (.t 1)),
     y 36 (.mv (.t 0)),
     y 37 (.bin .sub .int (.t 36) (.c (.int .i64 1))),
     y 38 (.call (.c (.func (.func 57) #[] #[])) [(.t 35), (.t 37)] true),
     y 39 (.idxS 1 (.t 32) (.t 34)),
     x (.store 1 (.t 39) (.t 38))])
  (.seq
   (.region [
     y 40 (.mv (.t 6)),
     y 4 (.mv (.t 40)),
     y 5 (.mv (.c (.int .i64 0)))])
  .ret)))))),
  [.tmp 4, .tmp 5]⟩

/-- wainscot/chart.Key -/
def i31 : IFun := ⟨11,
  (.seq
   (.region [
     y 2 (.box 33 6 (.t 0)),
     y 4 (.mv (.c (.int .u64 0)))])
  (.seq
   (.region [
     y 5 (.addOff 5 (.t 2)),
     y 6 (.load false 1 (.t 5)),
     y 7 (.mv (.t 1)),
     y 8 (.conv .u64 (.t 7)),
     y 9 (.bin .mul .int (.t 8) (.c (.int .u64 11400714819323198485))),
     y 10 (.bin .add .int (.t 6) (.t 9)),
     y 4 (.mv (.t 10))])
  .ret)),
  [.tmp 4]⟩

/-- wainscot/chart.Link -/
def i32 : IFun := ⟨21,
  (.seq
   (.region [
     y 3 (.box 33 6 (.t 0)),
     y 4 (.box 3 1 (.t 1)),
     y 5 (.box 3 1 (.t 2)),
     y 6 (.mv (.c (.int .i64 0)))])
  (.seq
   (.seq
    (.region [
      y 7 (.load false 1 (.t 4)),
      y 8 (.bin .lss .int (.t 7) (.c (.int .i64 0))),
      y 9 (.mv (.t 8)),
      ⟨(some 10), .load false 1 (.t 4), (some (9, false)), [], [], false⟩,
      ⟨(some 11), .addOff 1 (.t 3), (some (9, false)), [], [], false⟩,
      ⟨(some 12), .load false 1 (.t 11), (some (9, false)), [], [], false⟩,
      ⟨(some 13), .bin .geq .int (.t 10) (.t 12), (some (9, false)), [], [], false⟩,
      y 14 (.pick (.t 9) (.c (.bool true)) (.t 13))])
   (.cond (.t 14)
    (.seq
     (.region [
       y 6 (.mv (.c (.int .i64 (-1))))])
    .ret)
    .skip))
  (.seq
   (.region [
     y 15 (.load true 6 (.t 3)),
     y 16 (.load false 1 (.t 5)),
     y 17 (.addOff 2 (.t 3)),
     y 18 (.load false 1 (.t 17)),
     y 19 (.mkFunc 58 [] [(.t 3), (.t 4), (.t 5)]),
     y 20 (.call (.c (.func (.func 36) #[] #[])) [(.t 15), (.t 16), (.t 18), (.t 19)] true),
     y 6 (.mv (.t 20))])
  .ret))),
  [.tmp 6]⟩

/-- wainscot/chart.First -/
def i33 : IFun := ⟨11,
  (.seq
   (.region [
     y 2 (.box 33 6 (.t 0)),
     y 3 (.box 3 1 (.t 1)),
     y 4 (.mv (.c (.int .i64 0)))])
  (.seq
   (.region [
     y 5 (.load true 6 (.t 2)),
     y 6 (.load false 1 (.t 3)),
     y 7 (.addOff 1 (.t 2)),
     y 8 (.load false 1 (.t 7)),
     y 9 (.mkFunc 59 [] [(.t 2), (.t 3)]),
     y 10 (.call (.c (.func (.func 36) #[] #[])) [(.t 5), (.t 6), (.t 8), (.t 9)] true),
     y 4 (.mv (.t 10))])
  .ret)),
  [.tmp 4]⟩

/-- (*wainscot/mem.Mem).access -/
def i34 : IFun := ⟨51,
  (.seq
   (.region [
     y 8 (.mv (.c (.int .i64 0)))])
  (.seq
   (.block 0
    (.seq
     (.region [
       y 10 (.mv (.t 0)),
       y 11 (.bin .eql .ptr (.t 10) (.c (.pointer none))),
       y 12 (.mv (.t 11)),
       ⟨(some 13), .mv (.t 0), (some (12, false)), [], [], false⟩,
       ⟨(some 14), .nilCheck (.t 13), (some (12, false)), [], [], false⟩,
       ⟨(some 15), .addOff 0 (.t 14), (some (12, false)), [], [], false⟩,
       ⟨(some 16), .load false 1 (.t 15), (some (12, false)), [], [], false⟩,
       ⟨(some 17), .bin .eql .slice (.t 16) (.c (.slice none 0 0)), (some (12, false)), [], [], false⟩,
       y 18 (.pick (.t 12) (.c (.bool true)) (.t 17)),
       y 9 (.mv (.t 18))])
    (.cond (.t 9)
     (.seq
      (.region [
        y 8 (.mv (.c (.int .i64 1)))])
     .ret)
     (.seq
      (.region [
        y 20 (.mv (.t 1)),
        y 21 (.bin .lss .int (.t 20) (.c (.int .i64 0))),
        y 22 (.mv (.t 21)),
        ⟨(some 23), .mv (.t 1), (some (22, false)), [], [], false⟩,
        ⟨(some 24), .mv (.t 0), (some (22, false)), [], [], false⟩,
        ⟨(some 25), .nilCheck (.t 24), (some (22, false)), [], [], false⟩,
        ⟨(some 26), .addOff 0 (.t 25), (some (22, false)), [], [], false⟩,
        ⟨(some 27), .load false 1 (.t 26), (some (22, false)), [], [], false⟩,
        ⟨(some 28), .lenS (.t 27), (some (22, false)), [], [], false⟩,
        ⟨(some 29), .mv (.t 2), (some (22, false)), [], [], false⟩,
        ⟨(some 30), .bin .sub .int (.t 28) (.t 29), (some (22, false)), [], [], false⟩,
        ⟨(some 31), .bin .gtr .int (.t 23) (.t 30), (some (22, false)), [], [], false⟩,
        y 32 (.pick (.t 22) (.c (.bool true)) (.t 31)),
        y 19 (.mv (.t 32))])
     (.cond (.t 19)
      (.seq
       (.region [
         y 8 (.mv (.c (.int .i64 9)))])
      .ret)
      .skip)))))
  (.seq
   (.region [
     y 33 (.mv (.t 0)),
     y 34 (.nilCheck (.t 33)),
     y 35 (.addOff 1 (.t 34)),
     y 36 (.load false 1 (.t 35)),
     y 37 (.bin .add .int (.t 36) (.c (.int .i64 1))),
     y 38 (.nilCheck (.t 33)),
     y 39 (.addOff 1 (.t 38)),
     x (.store 1 (.t 39) (.t 37))])
  (.seq
   (.region [
     y 40 (.mv (.t 3)),
     y 41 (.mv (.t 0)),
     y 42 (.nilCheck (.t 41)),
     y 43 (.addOff 0 (.t 42)),
     y 44 (.load false 1 (.t 43)),
     y 45 (.mv (.t 1)),
     y 46 (.mv (.t 1)),
     y 47 (.mv (.t 2)),
     y 48 (.bin .add .int (.t 46) (.t 47)),
     y 49 (.slice 22 (.t 44) (some (.t 45)) (some (.t 48)) none),
     y 50 (.call (.t 40) [(.t 49)] false)])
  (.seq
   (.region [
     y 8 (.mv (.c (.int .i64 0)))])
  .ret))))),
  [.tmp 8]⟩

/-- (*wainscot/mem.Mem).Store$1 -/
def i35 : IFun := ⟨6,
  (.region [
    y 3 (.mv (.t 0)),
    y 4 (.load false 1 (.t 1)),
    y 5 (.idxS 1 (.t 3) (.c (.int .i64 0))),
    x (.store 1 (.t 5) (.t 4))]),
  []⟩

/-- wainscot/chart.guarded -/
def i36 : IFun := ⟨23,
  (.seq
   (.region [
     y 4 (.box 33 6 (.t 0)),
     y 8 (.mv (.c (.int .i64 0)))])
  (.seq
   (.seq
    (.region [
      y 9 (.load true 6 (.t 4)),
      y 10 (.call (.c (.func (.func 38) #[] #[])) [(.t 9)] true),
      y 11 (.bin .neq .int (.t 10) (.c (.int .i64 0))),
      y 12 (.mv (.t 11)),
      ⟨(some 13), .mv (.t 1), (some (12, false)), [], [], false⟩,
      ⟨(some 14), .bin .lss .int (.t 13) (.c (.int .i64 0)), (some (12, false)), [], [], false⟩,
      y 15 (.pick (.t 12) (.c (.bool true)) (.t 14)),
      y 16 (.mv (.t 15)),
      ⟨(some 17), .mv (.t 1), (some (16, false)), [], [], false⟩,
      ⟨(some 18), .mv (.t 2), (some (16, false)), [], [], false⟩,
      ⟨(some 19), .bin .geq .int (.t 17) (.t 18), (some (16, false)), [], [], false⟩,
      y 20 (.pick (.t 16) (.c (.bool true)) (.t 19))])
   (.cond (.t 20)
    (.seq
     (.region [
       y 8 (.mv (.c (.int .i64 (-1))))])
    .ret)
    .skip))
  (.seq
   (.region [
     y 21 (.mv (.t 3)),
     y 22 (.call (.t 21) [] false),
     y 8 (.mv (.t 22))])
  .ret))),
  [.tmp 8]⟩

/-- wainscot/chart.Part$1 -/
def i37 : IFun := ⟨5,
  (.seq
   (.region [
     y 1 (.mv (.c (.int .i64 0)))])
  (.seq
   (.region [
     y 2 (.load false 1 (.t 0)),
     y 3 (.bin .mul .int (.c (.int .i64 4)) (.t 2)),
     y 4 (.bin .add .int (.t 3) (.c (.int .i64 2))),
     y 1 (.mv (.t 4))])
  .ret)),
  [.tmp 1]⟩

/-- wainscot/chart.Check -/
def i38 : IFun := ⟨35,
  (.seq
   (.region [
     y 1 (.box 33 6 (.t 0)),
     y 2 (.mv (.c (.int .i64 0)))])
  (.seq
   (.block 0
    (.seq
     (.seq
      (.region [
        y 4 (.addOff 0 (.t 1)),
        y 5 (.load false 1 (.t 4)),
        y 6 (.bin .lss .int (.t 5) (.c (.int .i64 1))),
        y 3 (.mv (.t 6))])
     (.cond (.t 3)
      .skip
      (.seq
       (.region [
         y 7 (.addOff 0 (.t 1)),
         y 8 (.load false 1 (.t 7)),
         y 9 (.bin .gtr .int (.t 8) (.c (.int .i64 8))),
         y 3 (.mv (.t 9))])
      (.cond (.t 3)
       .skip
       (.seq
        (.region [
          y 10 (.addOff 1 (.t 1)),
          y 11 (.load false 1 (.t 10)),
          y 12 (.bin .lss .int (.t 11) (.c (.int .i64 1))),
          y 3 (.mv (.t 12))])
       (.cond (.t 3)
        .skip
        (.seq
         (.region [
           y 13 (.addOff 1 (.t 1)),
           y 14 (.load false 1 (.t 13)),
           y 15 (.bin .gtr .int (.t 14) (.c (.int .i64 32))),
           y 3 (.mv (.t 15))])
        (.cond (.t 3)
         .skip
         (.seq
          (.region [
            y 16 (.addOff 2 (.t 1)),
            y 17 (.load false 1 (.t 16)),
            y 18 (.bin .lss .int (.t 17) (.c (.int .i64 1))),
            y 3 (.mv (.t 18))])
         (.cond (.t 3)
          .skip
          (.region [
            y 19 (.addOff 2 (.t 1)),
            y 20 (.load false 1 (.t 19)),
            y 21 (.bin .gtr .int (.t 20) (.c (.int .i64 16))),
            y 3 (.mv (.t 21))])))))))))))
    (.cond (.t 3)
     (.seq
      (.region [
        y 2 (.mv (.c (.int .i64 2)))])
     .ret)
     (.seq
      (.seq
       (.region [
         y 23 (.addOff 3 (.t 1)),
         y 24 (.load false 1 (.t 23)),
         y 25 (.bin .lss .int (.t 24) (.c (.int .i64 0))),
         y 22 (.mv (.t 25))])
      (.cond (.t 22)
       .skip
       (.seq
        (.region [
          y 26 (.addOff 3 (.t 1)),
          y 27 (.load false 1 (.t 26)),
          y 28 (.bin .gtr .int (.t 27) (.c (.int .i64 32))),
          y 22 (.mv (.t 28))])
       (.cond (.t 22)
        .skip
        (.seq
         (.region [
           y 29 (.addOff 4 (.t 1)),
           y 30 (.load false 1 (.t 29)),
           y 31 (.bin .lss .int (.t 30) (.c (.int .i64 0))),
           y 22 (.mv (.t 31))])
        (.cond (.t 22)
         .skip
         (.region [
           y 32 (.addOff 4 (.t 1)),
           y 33 (.load false 1 (.t 32)),
           y 34 (.bin .gtr .int (.t 33) (.c (.int .i64 32))),
           y 22 (.mv (.t 34))])))))))
     (.cond (.t 22)
      (.seq
       (.region [
         y 2 (.mv (.c (.int .i64 2)))])
      .ret)
      .skip)))))
  (.seq
   (.region [
     y 2 (.mv (.c (.int .i64 0)))])
  .ret))),
  [.tmp 2]⟩

/-- wainscot/chart.Lock -/
def i39 : IFun := ⟨6,
  (.seq
   (.region [
     y 1 (.box 33 6 (.t 0)),
     y 2 (.mv (.c (.int .i64 0)))])
  (.seq
   (.region [
     y 3 (.load true 6 (.t 1)),
     y 4 (.mkFunc 60 [] [(.t 1)]),
     y 5 (.call (.c (.func (.func 36) #[] #[])) [(.t 3), (.c (.int .i64 0)), (.c (.int .i64 1)), (.t 4)] true),
     y 2 (.mv (.t 5))])
  .ret)),
  [.tmp 2]⟩

/-- (wainscot/chart.reader).slot -/
def i40 : IFun := ⟨71,
  (.seq
   (.region [
     y 2 (.box 80 7 (.t 0)),
     y 4 (.new 56 [(.int .i64 0), (.slice none 0 0), (.int .u64 0), (.slice none 0 0)]),
     y 5 (.mv (.c (.bool false)))])
  (.seq
   (.region [
     y 10 (.addOff 1 (.t 2)),
     y 11 (.load true 6 (.t 10)),
     y 12 (.mv (.t 1)),
     y 13 (.call (.c (.func (.func 61) #[] #[])) [(.t 11), (.t 12)] true),
     y 6 (.mv (.t 13))])
  (.seq
   (.region [
     y 15 (.addOff 0 (.t 2)),
     y 16 (.load false 1 (.t 15)),
     y 17 (.mv (.t 6)),
     y 18 (.idxS 1 (.t 16) (.t 17)),
     y 19 (.load false 1 (.t 18)),
     y 20 (.call (.c (.func (.func 62) #[] #[])) [(.t 19)] true),
     y 14 (.mv (.t 20)),
     y 21 (.extract (.t 14) 0),
     y 22 (.extract (.t 14) 1),
     y 23 (.extract (.t 14) 2),
     y 7 (.mv (.t 21)),
     y 8 (.mv (.t 22)),
     y 9 (.mv (.t 23))])
  (.seq
   (.seq
    (.region [
      y 24 (.mv (.t 9)),
      y 25 (.un .not (.t 24)),
      y 26 (.mv (.t 25)),
      ⟨(some 27), .mv (.t 7), (some (26, false)), [], [], false⟩,
      ⟨(some 28), .addOff 1 (.t 2), (some (26, false)), [], [], false⟩,
      ⟨(some 29), .addOff 1 (.t 28), (some (26, false)), [], [], false⟩,
      ⟨(some 30), .load false 1 (.t 29), (some (26, false)), [], [], false⟩,
      ⟨(some 31), .bin .geq .int (.t 27) (.t 30), (some (26, false)), [], [], false⟩,
      y 32 (.pick (.t 26) (.c (.bool true)) (.t 31))])
   (.cond (.t 32)
    (.seq
     (.region [
       y 33 (.build [(.int .i64 0), (.slice none 0 0), (.int .u64 0), (.slice none 0 0)] []),
       x (.store 4 (.t 4) (.t 33)),
       y 5 (.mv (.c (.bool false)))])
    .ret)
    .skip))
  (.seq
   (.region [
     y 34 (.mv (.t 7)),
     y 35 (.addOff 0 (.t 2)),
     y 36 (.load false 1 (.t 35)),
     y 37 (.mv (.t 6)),
     y 38 (.bin .add .int (.t 37) (.c (.int .i64 1))),
     y 39 (.idxS 1 (.t 36) (.t 38)),
     y 40 (.load false 1 (.t 39)),
     y 41 (.build [(.int .i64 0), (.slice none 0 0), (.int .u64 0), (.slice none 0 0)] [(0, 1, (.t 34)), (2, 1, (.t 40))]),
     x (.store 4 (.t 4) (.t 41))])
  (.seq
   (.seq
    (.region [
      y 42 (.mv (.t 7)),
      y 43 (.bin .neq .int (.t 42) (.c (.int .i64 (-1))))])
   (.cond (.t 43)
    (.seq
     (.region [
       y 45 (.load true 7 (.t 2)),
       y 46 (.mv (.t 7)),
       y 47 (.mv (.t 8)),
       y 48 (.call (.c (.func (.func 63) #[] #[])) [(.t 45), (.t 46), (.t 47)] true),
       y 44 (.mv (.t 48)),
       y 49 (.extract (.t 44) 0),
       y 50 (.extract (.t 44) 1),
       y 51 (.addOff 1 (.t 4)),
       x (.store 1 (.t 51) (.t 49)),
       y 5 (.mv (.t 50))])
    (.seq
     (.region [
       y 52 (.mv (.t 5)),
       y 53 (.un .not (.t 52))])
    (.cond (.t 53)
     (.seq
      (.region [
        y 54 (.build [(.int .i64 0), (.slice none 0 0), (.int .u64 0), (.slice none 0 0)] []),
        x (.store 4 (.t 4) (.t 54)),
        y 5 (.mv (.c (.bool false)))])
     .ret)
     .skip)))
    .skip))
  (.seq
   (.seq
    (.region [
      y 56 (.load true 7 (.t 2)),
      y 57 (.addOff 0 (.t 2)),
      y 58 (.load false 1 (.t 57)),
      y 59 (.mv (.t 6)),
      y 60 (.bin .add .int (.t 59) (.c (.int .i64 2))),
      y 61 (.idxS 1 (.t 58) (.t 60)),
      y 62 (.load false 1 (.t 61)),
      y 63 (.call (.c (.func (.func 41) #[] #[])) [(.t 56), (.t 62), (.c (.func (.func 64) #[] #[]))] true),
      y 55 (.mv (.t 63)),
      y 64 (.extract (.t 55) 0),
      y 65 (.extract (.t 55) 1),
      y 66 (.addOff 3 (.t 4)),
      x (.store 1 (.t 66) (.t 64)),
      y 5 (.mv (.t 65))])
   (.seq
    (.region [
      y 67 (.mv (.t 5)),
      y 68 (.un .not (.t 67))])
   (.cond (.t 68)
    (.seq
     (.region [
       y 69 (.build [(.int .i64 0), (.slice none 0 0), (.int .u64 0), (.slice none 0 0)] []),
       x (.store 4 (.t 4) (.t 69)),
       y 5 (.mv (.c (.bool false)))])
    .ret)
    .skip)))
  (.seq
   (.region [
     y 70 (.load true 4 (.t 4)),
     x (.store 4 (.t 4) (.t 70)),
     y 5 (.mv (.c (.bool true)))])
  .ret)))))))),
  [.cell 4 true 4, .tmp 5]⟩

/-- (wainscot/chart.reader).chain -/
def i41 : IFun := ⟨48,
  (.seq
   (.region [
     y 3 (.box 80 7 (.t 0)),
     y 6 (.mv (.c (.slice none 0 0))),
     y 7 (.mv (.c (.bool false)))])
  (.seq
   (.region [
     y 11 (.mkMap),
     y 8 (.mv (.t 11))])
  (.block 0
   (.loop
    (.block 1
     (.seq
      (.region [
        y 13 (.mv (.t 2)),
        y 14 (.mv (.t 1)),
        y 15 (.call (.t 13) [(.t 14)] false),
        y 12 (.mv (.t 15)),
        y 16 (.extract (.t 12) 0),
        y 17 (.extract (.t 12) 1),
        y 9 (.mv (.t 16)),
        y 10 (.mv (.t 17))])
     (.seq
      (.block 2
       (.seq
        (.seq
         (.region [
           y 19 (.mv (.t 10)),
           y 20 (.un .not (.t 19)),
           y 18 (.mv (.t 20))])
        (.cond (.t 18)
         .skip
         (.seq
          (.region [
            y 21 (.mv (.t 9)),
            y 22 (.addOff 1 (.t 3)),
            y 23 (.addOff 1 (.t 22)),
            y 24 (.load false 1 (.t 23)),
            y 25 (.bin .geq .int (.t 21) (.t 24)),
            y 18 (.mv (.t 25))])
         (.cond (.t 18)
          .skip
          (.region [
            y 26 (.mv (.t 8)),
            y 27 (.mv (.t 9)),
            y 28 (.lookup (.int .i64 0) false (.t 26) (.t 27)),
            y 29 (.bin .gtr .int (.t 28) (.c (.int .i64 0))),
            y 18 (.mv (.t 29))])))))
       (.cond (.t 18)
        (.seq
         (.region [
           y 6 (.mv (.c (.slice none 0 0))),
           y 7 (.mv (.c (.bool false)))])
        .ret)
        (.seq
         (.region [
           y 31 (.mv (.t 9)),
           y 32 (.bin .eql .int (.t 31) (.c (.int .i64 (-1)))),
           y 30 (.mv (.t 32))])
        (.cond (.t 30)
         (.seq
          (.region [
            y 33 (.mv (.t 6)),
            y 6 (.mv (.t 33)),
            y 7 (.mv (.c (.bool true)))])
         .ret)
         .skip)))))
     (.seq
      (.region [
        y 34 (.mv (.t 8)),
        y 35 (.mv (.t 9)),
        x (.mapSet (.t 34) (.t 35) (.c (.int .i64 1)))])
     (.seq
      (.region [
        y 36 (.mv (.t 6)),
        y 37 (.mv (.t 9)),
        y 38 (.buildSlice 3 [(.int .i64 0)] 1 [(0, 1, (.t 37))]),
        y 39 (.append 3 1 8 (.t 36) (.t 38)),
        y 6 (.mv (.t 39))])
     (.region [
       y 40 (.addOff 0 (.t 3)),
       y 41 (.load false 1 (.t 40)),
       y 42 (.addOff 1 (.t 3)),
       y 43 (.load true 6 (.t 42)),
       y 44 (.mv (.t 9)),
       y 45 (.call (.c (.func (.func 21) #[] #[])) [(.t 43), (.t 44)] true),
       y 46 (.idxS 1 (.t 41) (.t 45)),
       y 47 (.load false 1 (.t 46)),
       y 1 (.mv (.t 47))])))))))))),
  [.tmp 6, .tmp 7]⟩

/-- wainscot/chart.shelfOf -/
def i42 : IFun := ⟨9,
  (.seq
   (.region [
     y 2 (.mv (.c (.int .i64 0))),
     y 3 (.mv (.c (.bool false)))])
  (.seq
   (.region [
     y 4 (.mv (.t 0)),
     y 5 (.conv .i64 (.t 4)),
     y 6 (.bin .sub .int (.t 5) (.c (.int .i64 1))),
     y 7 (.mv (.t 0)),
     y 8 (.bin .leq .int (.t 7) (.c (.int .u64 32))),
     y 2 (.mv (.t 6)),
     y 3 (.mv (.t 8))])
  .ret)),
  [.tmp 2, .tmp 3]⟩

/-- (wainscot/chart.reader).slab -/
def i43 : IFun := ⟨53,
  (.seq
   (.region [
     y 2 (.box 80 7 (.t 0)),
     y 4 (.new 54 [(.int .i64 0), (.int .i64 0), (.bool false), (.bool false), (.slice none 0 0)]),
     y 5 (.mv (.c (.bool false)))])
  (.seq
   (.region [
     y 8 (.addOff 1 (.t 2)),
     y 9 (.load true 6 (.t 8)),
     y 10 (.mv (.t 1)),
     y 11 (.call (.c (.func (.func 33) #[] #[])) [(.t 9), (.t 10)] true),
     y 6 (.mv (.t 11))])
  (.seq
   (.region [
     y 12 (.addOff 0 (.t 2)),
     y 13 (.load false 1 (.t 12)),
     y 14 (.mv (.t 6)),
     y 15 (.idxS 1 (.t 13) (.t 14)),
     y 16 (.load false 1 (.t 15)),
     y 7 (.mv (.t 16))])
  (.seq
   (.seq
    (.region [
      y 18 (.addOff 0 (.t 2)),
      y 19 (.load false 1 (.t 18)),
      y 20 (.mv (.t 6)),
      y 21 (.bin .add .int (.t 20) (.c (.int .i64 1))),
      y 22 (.idxS 1 (.t 19) (.t 21)),
      y 23 (.load false 1 (.t 22)),
      y 24 (.call (.c (.func (.func 65) #[] #[])) [(.t 23)] true),
      y 17 (.mv (.t 24)),
      y 25 (.extract (.t 17) 0),
      y 26 (.extract (.t 17) 1),
      y 27 (.addOff 0 (.t 4)),
      x (.store 4 (.t 27) (.t 25)),
      y 5 (.mv (.t 26))])
   (.seq
    (.region [
      y 28 (.mv (.t 5)),
      y 29 (.un .not (.t 28)),
      y 30 (.mv (.t 29)),
      ⟨(some 31), .mv (.t 7), (some (30, false)), [], [], false⟩,
      ⟨(some 32), .addOff 1 (.t 2), (some (30, false)), [], [], false⟩,
      ⟨(some 33), .addOff 2 (.t 32), (some (30, false)), [], [], false⟩,
      ⟨(some 34), .load false 1 (.t 33), (some (30, false)), [], [], false⟩,
      ⟨(some 35), .conv .u64 (.t 34), (some (30, false)), [], [], false⟩,
      ⟨(some 36), .bin .gtr .int (.t 31) (.t 35), (some (30, false)), [], [], false⟩,
      y 37 (.pick (.t 30) (.c (.bool true)) (.t 36))])
   (.cond (.t 37)
    (.seq
     (.region [
       y 38 (.build [(.int .i64 0), (.int .i64 0), (.bool false), (.bool false), (.slice none 0 0)] []),
       x (.store 5 (.t 4) (.t 38)),
       y 5 (.mv (.c (.bool false)))])
    .ret)
    .skip)))
  (.seq
   (.seq
    (.region [
      y 40 (.load true 7 (.t 2)),
      y 41 (.mv (.t 1)),
      y 42 (.mv (.t 7)),
      y 43 (.conv .i64 (.t 42)),
      y 44 (.bin .sub .int (.t 43) (.c (.int .i64 1))),
      y 45 (.call (.c (.func (.func 63) #[] #[])) [(.t 40), (.t 41), (.t 44)] true),
      y 39 (.mv (.t 45)),
      y 46 (.extract (.t 39) 0),
      y 47 (.extract (.t 39) 1),
      y 48 (.addOff 4 (.t 4)),
      x (.store 1 (.t 48) (.t 46)),
      y 5 (.mv (.t 47))])
   (.seq
    (.region [
      y 49 (.mv (.t 5)),
      y 50 (.un .not (.t 49))])
   (.cond (.t 50)
    (.seq
     (.region [
       y 51 (.build [(.int .i64 0), (.int .i64 0), (.bool false), (.bool false), (.slice none 0 0)] []),
       x (.store 5 (.t 4) (.t 51)),
       y 5 (.mv (.c (.bool false)))])
    .ret)
    .skip)))
  (.seq
   (.region [
     y 52 (.load true 5 (.t 4)),
     x (.store 5 (.t 4) (.t 52)),
     y 5 (.mv (.c (.bool true)))])
  .ret)))))),
  [.cell 4 true 5, .tmp 5]⟩

/-- slices.Clone[[]uint64,uint64] -/
def i44 : IFun := ⟨8,
  (.seq
   (.region [
     y 2 (.mv (.c (.slice none 0 0)))])
  (.seq
   (.seq
    (.region [
      y 3 (.mv (.t 0)),
      y 4 (.bin .eql .slice (.t 3) (.c (.slice none 0 0)))])
   (.cond (.t 4)
    (.seq
     (.region [
       y 2 (.mv (.c (.slice none 0 0)))])
    .ret)
    .skip))
  (.seq
   (.region [
     y 5 (.buildSlice 22 [] 0 []),
     y 6 (.mv (.t 0)),
     y 7 (.append 22 1 8 (.t 5) (.t 6)),
     y 2 (.mv (.t 7))])
  .ret))),
  [.tmp 2]⟩

/-- (*wainscot/mem.Mem).Len -/
def i45 : IFun := ⟨10,
  (.seq
   (.region [
     y 2 (.mv (.c (.int .i64 0)))])
  (.seq
   (.seq
    (.region [
      y 3 (.mv (.t 0)),
      y 4 (.bin .eql .ptr (.t 3) (.c (.pointer none)))])
   (.cond (.t 4)
    (.seq
     (.region [
       y 2 (.mv (.c (.int .i64 0)))])
    .ret)
    .skip))
  (.seq
   (.region [
     y 5 (.mv (.t 0)),
     y 6 (.nilCheck (.t 5)),
     y 7 (.addOff 0 (.t 6)),
     y 8 (.load false 1 (.t 7)),
     y 9 (.lenS (.t 8)),
     y 2 (.mv (.t 9))])
  .ret))),
  [.tmp 2]⟩

/-- (*wainscot/fill.step).do -/
def i46 : IFun := ⟨74,
  (.seq
   (.region [
     y 2 (.mv (.c .nilFunc))])
  (.seq
   (.region [
     y 4 (.mv (.t 0)),
     y 5 (.mkFunc 66 [(.t 4)] []),
     y 6 (.mv (.t 0)),
     y 7 (.mkFunc 67 [(.t 6)] []),
     y 8 (.mv (.t 0)),
     y 9 (.mkFunc 68 [(.t 8)] []),
     y 10 (.mv (.t 0)),
     y 11 (.mkFunc 69 [(.t 10)] []),
     y 12 (.mv (.t 0)),
     y 13 (.mkFunc 69 [(.t 12)] []),
     y 14 (.mv (.t 0)),
     y 15 (.mkFunc 70 [(.t 14)] []),
     y 16 (.mv (.t 0)),
     y 17 (.mkFunc 71 [(.t 16)] []),
     y 18 (.mv (.t 0)),
     y 19 (.mkFunc 72 [(.t 18)] []),
     y 20 (.mv (.t 0)),
     y 21 (.mkFunc 73 [(.t 20)] []),
     y 22 (.mv (.t 0)),
     y 23 (.mkFunc 74 [(.t 22)] []),
     y 24 (.mv (.t 0)),
     y 25 (.mkFunc 75 [(.t 24)] []),
     y 26 (.mv (.t 0)),
     y 27 (.mkFunc 76 [(.t 26)] []),
     y 28 (.mv (.t 0)),
     y 29 (.mkFunc 67 [(.t 28)] []),
     y 30 (.mv (.t 0)),
     y 31 (.mkFunc 68 [(.t 30)] []),
     y 32 (.mv (.t 0)),
     y 33 (.mkFunc 69 [(.t 32)] []),
     y 34 (.mv (.t 0)),
     y 35 (.mkFunc 77 [(.t 34)] []),
     y 36 (.mv (.t 0)),
     y 37 (.mkFunc 78 [(.t 36)] []),
     y 38 (.mv (.t 0)),
     y 39 (.mkFunc 79 [(.t 38)] []),
     y 40 (.mv (.t 0)),
     y 41 (.mkFunc 80 [(.t 40)] []),
     y 42 (.mv (.t 0)),
     y 43 (.mkFunc 81 [(.t 42)] []),
     y 44 (.mv (.t 0)),
     y 45 (.mkFunc 82 [(.t 44)] []),
     y 46 (.mv (.t 0)),
     y 47 (.mkFunc 83 [(.t 46)] []),
     y 48 (.mv (.t 0)),
     y 49 (.mkFunc 84 [(.t 48)] []),
     y 50 (.mv (.t 0)),
     y 51 (.mkFunc 76 [(.t 50)] []),
     y 52 (.build [.nilFunc, .nilFunc, .nilFunc, .nilFunc, .nilFunc, .nilFunc, .nilFunc, .nilFunc, .nilFunc, .nilFunc, .nilFunc, .nilFunc, .nilFunc, .nilFunc, .nilFunc, .nilFunc, .nilFunc, .nilFunc, .nilFunc, .nilFunc, .nilFunc, .nilFunc, .nilFunc, .nilFunc, .nilFunc, .nilFunc, .nilFunc, .nilFunc, .nilFunc, .nilFunc, .nilFunc, .nilFunc, .nilFunc, .nilFunc, .nilFunc, .nilFunc, .nilFunc, .nilFunc, .nilFunc, .nilFunc, .nilFunc, .nilFunc, .nilFunc, .nilFunc, .nilFunc, .nilFunc, .nilFunc, .nilFunc, .nilFunc, .nilFunc] [(20, 1, (.t 5)), (21, 1, (.t 7)), (22, 1, (.t 9)), (23, 1, (.t 11)), (24, 1, (.t 13)), (30, 1, (.t 15)), (31, 1, (.t 17)), (32, 1, (.t 19)), (33, 1, (.t 21)), (34, 1, (.t 23)), (35, 1, (.t 25)), (36, 1, (.t 27)), (37, 1, (.t 29)), (38, 1, (.t 31)), (39, 1, (.t 33)), (40, 1, (.t 35)), (41, 1, (.t 37)), (42, 1, (.t 39)), (43, 1, (.t 41)), (44, 1, (.t 43)), (46, 1, (.t 45)), (47, 1, (.t 47)), (48, 1, (.t 49)), (49, 1, (.t 51))]),
     y 3 (.new 105 [.nilFunc, .nilFunc, .nilFunc, .nilFunc, .nilFunc, .nilFunc, .nilFunc, .nilFunc, .nilFunc, .nilFunc, .nilFunc, .nilFunc, .nilFunc, .nilFunc, .nilFunc, .nilFunc, .nilFunc, .nilFunc, .nilFunc, .nilFunc, .nilFunc, .nilFunc, .nilFunc, .nilFunc, .nilFunc, .nilFunc, .nilFunc, .nilFunc, .nilFunc, .nilFunc, .nilFunc, .nilFunc, .nilFunc, .nilFunc, .nilFunc, .nilFunc, .nilFunc, .nilFunc, .nilFunc, .nilFunc, .nilFunc, .nilFunc, .nilFunc, .nilFunc, .nilFunc, .nilFunc, .nilFunc, .nilFunc, .nilFunc, .nilFunc]),
     x (.store 50 (.t 3) (.t 52))])
  (.seq
   (.seq
    (.region [
      y 53 (.mv (.t 0)),
      y 54 (.nilCheck (.t 53)),
      y 55 (.addOff 7 (.t 54)),
      y 56 (.addOff 2 (.t 55)),
      y 57 (.load false 1 (.t 56)),
      y 58 (.bin .lss .int (.t 57) (.c (.int .i64 0))),
      y 59 (.mv (.t 58)),
      ⟨(some 60), .mv (.t 0), (some (59, false)), [], [], false⟩,
      ⟨(some 61), .nilCheck (.t 60), (some (59, false)), [], [], false⟩,
      ⟨(some 62), .addOff 7 (.t 61), (some (59, false)), [], [], false⟩,
      ⟨(some 63), .addOff 2 (.t 62), (some (59, false)), [], [], false⟩,
      ⟨(some 64), .load false 1 (.t 63), (some (59, false)), [], [], false⟩,
      ⟨(some 65), .bin .geq .int (.t 64) (.c (.int .i64 50)), (some (59, false)), [], [], false⟩,
      y 66 (.pick (.t 59) (.c (.bool true)) (.t 65))])
   (.cond (.t 66)
    (.seq
     (.region [
       y 2 (.mv (.c .nilFunc))])
    .ret)
    .skip))
  (.seq
   (.region [
     y 67 (.mv (.t 0)),
     y 68 (.nilCheck (.t 67)),
     y 69 (.addOff 7 (.t 68)),
     y 70 (.addOff 2 (.t 69)),
     y 71 (.load false 1 (.t 70)),
     y 72 (.idxA 50 1 (.t 3) (.t 71)),
     y 73 (.load false 1 (.t 72)),
     y 2 (.mv (.t 73))])
  .ret)))),
  [.tmp 2]⟩

/-- wainscot/count.may -/
def i47 : IFun := ⟨32,
  (.seq
   (.region [
     y 1 (.box 52 4 (.t 0)),
     y 2 (.mv (.c (.bool false)))])
  (.seq
   (.region [
     y 3 (.addOff 3 (.t 1)),
     y 4 (.load false 1 (.t 3)),
     y 5 (.mv (.t 4)),
     ⟨(some 6), .addOff 1 (.t 1), (some (5, true)), [], [], false⟩,
     ⟨(some 7), .load false 1 (.t 6), (some (5, true)), [], [], false⟩,
     ⟨(some 8), .bin .leq .int (.c (.int .i64 1)) (.t 7), (some (5, true)), [], [], false⟩,
     y 9 (.pick (.t 5) (.t 8) (.c (.bool false))),
     y 10 (.mv (.t 9)),
     ⟨(some 11), .addOff 1 (.t 1), (some (10, true)), [], [], false⟩,
     ⟨(some 12), .load false 1 (.t 11), (some (10, true)), [], [], false⟩,
     ⟨(some 13), .bin .leq .int (.t 12) (.c (.int .i64 16)), (some (10, true)), [], [], false⟩,
     y 14 (.pick (.t 10) (.t 13) (.c (.bool false))),
     y 15 (.mv (.t 14)),
     ⟨(some 16), .addOff 0 (.t 1), (some (15, true)), [], [], false⟩,
     ⟨(some 17), .load false 1 (.t 16), (some (15, true)), [], [], false⟩,
     ⟨(some 18), .bin .leq .int (.c (.int .i64 0)) (.t 17), (some (15, true)), [], [], false⟩,
     y 19 (.pick (.t 15) (.t 18) (.c (.bool false))),
     y 20 (.mv (.t 19)),
     ⟨(some 21), .addOff 0 (.t 1), (some (20, true)), [], [], false⟩,
     ⟨(some 22), .load false 1 (.t 21), (some (20, true)), [], [], false⟩,
     ⟨(some 23), .addOff 1 (.t 1), (some (20, true)), [], [], false⟩,
     ⟨(some 24), .load false 1 (.t 23), (some (20, true)), [], [], false⟩,
     ⟨(some 25), .bin .leq .int (.t 22) (.t 24), (some (20, true)), [], [], false⟩,
     y 26 (.pick (.t 20) (.t 25) (.c (.bool false))),
     y 27 (.mv (.t 26)),
     ⟨(some 28), .load true 4 (.t 1), (some (27, false)), [], [], false⟩,
     ⟨(some 29), .build [(.int .i64 0), (.int .i64 0), (.bool false), (.bool false)] [], (some (27, false)), [], [], false⟩,
     ⟨(some 30), .bin .eql (.plain [(some .i64), (some .i64), none, none]) (.t 28) (.t 29), (some (27, false)), [], [], false⟩,
     y 31 (.pick (.t 27) (.c (.bool true)) (.t 30)),
     y 2 (.mv (.t 31))])
  .ret)),
  [.tmp 2]⟩

/-- wainscot/count.flag -/
def i48 : IFun := ⟨7,
  (.seq
   (.region [
     y 4 (.mv (.c (.int .u64 0)))])
  (.seq
   (.seq
    (.region [
      y 5 (.mv (.t 0))])
   (.cond (.t 5)
    (.seq
     (.region [
       y 6 (.mv (.t 1)),
       y 4 (.mv (.t 6))])
    .ret)
    .skip))
  (.seq
   (.region [
     y 4 (.mv (.c (.int .u64 0)))])
  .ret))),
  [.tmp 4]⟩

/-- wainscot/chart.Next$1 -/
def i49 : IFun := ⟨9,
  (.seq
   (.region [
     y 2 (.mv (.c (.int .i64 0)))])
  (.seq
   (.region [
     y 3 (.load true 6 (.t 0)),
     y 4 (.call (.c (.func (.func 50) #[] #[])) [(.t 3)] true),
     y 5 (.load false 1 (.t 1)),
     y 6 (.bin .mul .int (.c (.int .i64 4)) (.t 5)),
     y 7 (.bin .add .int (.t 4) (.t 6)),
     y 8 (.bin .add .int (.t 7) (.c (.int .i64 2))),
     y 2 (.mv (.t 8))])
  .ret)),
  [.tmp 2]⟩

/-- wainscot/chart.slabs -/
def i50 : IFun := ⟨6,
  (.seq
   (.region [
     y 1 (.box 33 6 (.t 0)),
     y 2 (.mv (.c (.int .i64 0)))])
  (.seq
   (.region [
     y 3 (.load true 6 (.t 1)),
     y 4 (.call (.c (.func (.func 54) #[] #[])) [(.t 3)] true),
     y 5 (.bin .add .int (.t 4) (.c (.int .i64 4))),
     y 2 (.mv (.t 5))])
  .ret)),
  [.tmp 2]⟩

/-- wainscot/chart.links -/
def i51 : IFun := ⟨9,
  (.seq
   (.region [
     y 1 (.box 33 6 (.t 0)),
     y 2 (.mv (.c (.int .i64 0)))])
  (.seq
   (.region [
     y 3 (.load true 6 (.t 1)),
     y 4 (.call (.c (.func (.func 50) #[] #[])) [(.t 3)] true),
     y 5 (.addOff 1 (.t 1)),
     y 6 (.load false 1 (.t 5)),
     y 7 (.bin .mul .int (.c (.int .i64 4)) (.t 6)),
     y 8 (.bin .add .int (.t 4) (.t 7)),
     y 2 (.mv (.t 8))])
  .ret)),
  [.tmp 2]⟩

/-- (*wainscot/mem.Mem).Load$1 -/
def i52 : IFun := ⟨6,
  (.region [
    y 3 (.mv (.t 0)),
    y 4 (.idxS 1 (.t 3) (.c (.int .i64 0))),
    y 5 (.load false 1 (.t 4)),
    x (.store 1 (.t 1) (.t 5))]),
  []⟩

/-- wainscot/chart.Shelf$1 -/
def i53 : IFun := ⟨5,
  (.seq
   (.region [
     y 1 (.mv (.c (.int .i64 0)))])
  (.seq
   (.region [
     y 2 (.load true 6 (.t 0)),
     y 3 (.call (.c (.func (.func 54) #[] #[])) [(.t 2)] true),
     y 4 (.bin .add .int (.t 3) (.c (.int .i64 1))),
     y 1 (.mv (.t 4))])
  .ret)),
  [.tmp 1]⟩

/-- wainscot/chart.base -/
def i54 : IFun := ⟨6,
  (.seq
   (.region [
     y 1 (.box 33 6 (.t 0)),
     y 2 (.mv (.c (.int .i64 0)))])
  (.seq
   (.region [
     y 3 (.addOff 0 (.t 1)),
     y 4 (.load false 1 (.t 3)),
     y 5 (.bin .mul .int (.c (.int .i64 4)) (.t 4)),
     y 2 (.mv (.t 5))])
  .ret)),
  [.tmp 2]⟩

/-- (*wainscot/mem.Mem).Add$1 -/
def i55 : IFun := ⟨13,
  (.seq
   (.region [
     y 4 (.mv (.t 0)),
     y 5 (.idxS 1 (.t 4) (.c (.int .i64 0))),
     y 6 (.load false 1 (.t 5)),
     x (.store 1 (.t 1) (.t 6))])
  (.region [
    y 7 (.mv (.t 0)),
    y 8 (.idxS 1 (.t 7) (.c (.int .i64 0))),
    y 9 (.load false 1 (.t 8)),
    y 10 (.load false 1 (.t 2)),
    y 11 (.bin .add .int (.t 9) (.t 10)),
    y 12 (.idxS 1 (.t 7) (.c (.int .i64 0))),
    x (.store 1 (.t 12) (.t 11))])),
  []⟩

/-- wainscot/chart.Held$1 -/
def i56 : IFun := ⟨5,
  (.seq
   (.region [
     y 1 (.mv (.c (.int .i64 0)))])
  (.seq
   (.region [
     y 2 (.load true 6 (.t 0)),
     y 3 (.call (.c (.func (.func 54) #[] #[])) [(.t 2)] true),
     y 4 (.bin .add .int (.t 3) (.c (.int .i64 2))),
     y 1 (.mv (.t 4))])
  .ret)),
  [.tmp 1]⟩

/-- wainscot/link.turned -/
def i57 : IFun := ⟨13,
  (.seq
   (.region [
     y 4 (.mv (.c (.int .u64 0)))])
  (.seq
   (.region [
     y 5 (.mv (.t 0)),
     y 6 (.mv (.t 1)),
     y 7 (.bin .mul .int (.c (.int .i64 5)) (.t 6)),
     y 8 (.call (.c (.func (.func 85) #[] #[])) [(.t 5), (.t 7)] true),
     y 9 (.mv (.t 1)),
     y 10 (.conv .u64 (.t 9)),
     y 11 (.bin .mul .int (.t 10) (.c (.int .u64 2654435769))),
     y 12 (.bin .add .int (.t 8) (.t 11)),
     y 4 (.mv (.t 12))])
  .ret)),
  [.tmp 4]⟩

/-- wainscot/chart.Link$1 -/
def i58 : IFun := ⟨13,
  (.seq
   (.region [
     y 3 (.mv (.c (.int .i64 0)))])
  (.seq
   (.region [
     y 4 (.load true 6 (.t 0)),
     y 5 (.call (.c (.func (.func 51) #[] #[])) [(.t 4)] true),
     y 6 (.load false 1 (.t 1)),
     y 7 (.addOff 2 (.t 0)),
     y 8 (.load false 1 (.t 7)),
     y 9 (.bin .mul .int (.t 6) (.t 8)),
     y 10 (.bin .add .int (.t 5) (.t 9)),
     y 11 (.load false 1 (.t 2)),
     y 12 (.bin .add .int (.t 10) (.t 11)),
     y 3 (.mv (.t 12))])
  .ret)),
  [.tmp 3]⟩

/-- wainscot/chart.First$1 -/
def i59 : IFun := ⟨8,
  (.seq
   (.region [
     y 2 (.mv (.c (.int .i64 0)))])
  (.seq
   (.region [
     y 3 (.load true 6 (.t 0)),
     y 4 (.call (.c (.func (.func 50) #[] #[])) [(.t 3)] true),
     y 5 (.load false 1 (.t 1)),
     y 6 (.bin .mul .int (.c (.int .i64 4)) (.t 5)),
     y 7 (.bin .add .int (.t 4) (.t 6)),
     y 2 (.mv (.t 7))])
  .ret)),
  [.tmp 2]⟩

/-- wainscot/chart.Lock$1 -/
def i60 : IFun := ⟨4,
  (.seq
   (.region [
     y 1 (.mv (.c (.int .i64 0)))])
  (.seq
   (.region [
     y 2 (.load true 6 (.t 0)),
     y 3 (.call (.c (.func (.func 54) #[] #[])) [(.t 2)] true),
     y 1 (.mv (.t 3))])
  .ret)),
  [.tmp 1]⟩

/-- wainscot/chart.Head -/
def i61 : IFun := ⟨11,
  (.seq
   (.region [
     y 2 (.box 33 6 (.t 0)),
     y 3 (.box 3 1 (.t 1)),
     y 4 (.mv (.c (.int .i64 0)))])
  (.seq
   (.region [
     y 5 (.load true 6 (.t 2)),
     y 6 (.load false 1 (.t 3)),
     y 7 (.addOff 0 (.t 2)),
     y 8 (.load false 1 (.t 7)),
     y 9 (.mkFunc 86 [] [(.t 3)]),
     y 10 (.call (.c (.func (.func 36) #[] #[])) [(.t 5), (.t 6), (.t 8), (.t 9)] true),
     y 4 (.mv (.t 10))])
  .ret)),
  [.tmp 4]⟩

/-- wainscot/count.HeadOf -/
def i62 : IFun := ⟨15,
  (.seq
   (.region [
     y 2 (.mv (.c (.int .i64 0))),
     y 3 (.mv (.c (.int .i64 0))),
     y 4 (.mv (.c (.bool false)))])
  (.seq
   (.region [
     y 6 (.mv (.t 0)),
     y 7 (.call (.c (.func (.func 87) #[] #[])) [(.t 6), (.c (.int .i64 1)), (.c (.int .i64 1)), (.c (.func (.func 88) #[] #[]))] true),
     y 5 (.mv (.t 7)),
     y 8 (.extract (.t 5) 0),
     y 9 (.extract (.t 5) 1),
     y 10 (.extract (.t 5) 2),
     y 2 (.mv (.t 8)),
     y 3 (.mv (.t 9)),
     y 4 (.mv (.t 10))])
  (.seq
   (.seq
    (.region [
      y 11 (.mv (.t 4)),
      y 12 (.un .not (.t 11))])
   (.cond (.t 12)
    (.seq
     (.region [
       y 2 (.mv (.c (.int .i64 (-1)))),
       y 3 (.mv (.c (.int .i64 (-1)))),
       y 4 (.mv (.c (.bool false)))])
    .ret)
    .skip))
  (.seq
   (.region [
     y 13 (.mv (.t 2)),
     y 14 (.mv (.t 3)),
     y 2 (.mv (.t 13)),
     y 3 (.mv (.t 14)),
     y 4 (.mv (.c (.bool true)))])
  .ret)))),
  [.tmp 2, .tmp 3, .tmp 4]⟩

/-- (wainscot/chart.reader).list -/
def i63 : IFun := ⟨41,
  (.seq
   (.region [
     y 3 (.box 80 7 (.t 0)),
     y 6 (.mv (.c (.slice none 0 0))),
     y 7 (.mv (.c (.bool false)))])
  (.seq
   (.seq
    (.region [
      y 11 (.mv (.t 2)),
      y 12 (.addOff 1 (.t 3)),
      y 13 (.addOff 2 (.t 12)),
      y 14 (.load false 1 (.t 13)),
      y 15 (.bin .geq .int (.t 11) (.t 14))])
   (.cond (.t 15)
    (.seq
     (.region [
       y 6 (.mv (.c (.slice none 0 0))),
       y 7 (.mv (.c (.bool false)))])
    .ret)
    .skip))
  (.seq
   (.region [
     y 16 (.addOff 1 (.t 3)),
     y 17 (.load true 6 (.t 16)),
     y 18 (.mv (.t 1)),
     y 19 (.call (.c (.func (.func 32) #[] #[])) [(.t 17), (.t 18), (.c (.int .i64 0))] true),
     y 8 (.mv (.t 19))])
  (.seq
   (.region [
     y 21 (.addOff 0 (.t 3)),
     y 22 (.load false 1 (.t 21)),
     y 23 (.mv (.t 8)),
     y 24 (.mv (.t 8)),
     y 25 (.addOff 1 (.t 3)),
     y 26 (.addOff 2 (.t 25)),
     y 27 (.load false 1 (.t 26)),
     y 28 (.bin .add .int (.t 24) (.t 27)),
     y 29 (.slice 22 (.t 22) (some (.t 23)) (some (.t 28)) none),
     y 30 (.addOff 1 (.t 3)),
     y 31 (.load true 6 (.t 30)),
     y 32 (.mv (.t 1)),
     y 33 (.call (.c (.func (.func 31) #[] #[])) [(.t 31), (.t 32)] true),
     y 34 (.mv (.t 2)),
     y 35 (.call (.c (.func (.func 90) #[] #[])) [(.t 29), (.t 33), (.t 34)] true),
     y 20 (.mv (.t 35)),
     y 36 (.extract (.t 20) 0),
     y 37 (.extract (.t 20) 1),
     y 9 (.mv (.t 36)),
     y 10 (.mv (.t 37))])
  (.seq
   (.region [
     y 38 (.mv (.t 9)),
     y 39 (.mv (.t 10)),
     y 40 (.bin .eql .int (.t 39) (.c (.int .i64 0))),
     y 6 (.mv (.t 38)),
     y 7 (.mv (.t 40))])
  .ret))))),
  [.tmp 6, .tmp 7]⟩

/-- wainscot/chart.partOf -/
def i64 : IFun := ⟨15,
  (.seq
   (.region [
     y 2 (.mv (.c (.int .i64 0))),
     y 3 (.mv (.c (.bool false)))])
  (.seq
   (.region [
     y 8 (.mv (.t 0)),
     y 9 (.call (.c (.func (.func 91) #[] #[])) [(.t 8)] true),
     y 7 (.mv (.t 9)),
     y 10 (.extract (.t 7) 0),
     y 11 (.extract (.t 7) 1),
     y 12 (.extract (.t 7) 2),
     y 4 (.mv (.t 10)),
     y 5 (.mv (.t 11)),
     y 6 (.mv (.t 12))])
  (.seq
   (.region [
     y 13 (.mv (.t 4)),
     y 14 (.mv (.t 6)),
     y 2 (.mv (.t 13)),
     y 3 (.mv (.t 14))])
  .ret))),
  [.tmp 2, .tmp 3]⟩

/-- wainscot/count.Counts -/
def i65 : IFun := ⟨28,
  (.seq
   (.region [
     y 2 (.new 52 [(.int .i64 0), (.int .i64 0), (.bool false), (.bool false)]),
     y 3 (.mv (.c (.bool false)))])
  (.seq
   (.region [
     y 5 (.mv (.t 0)),
     y 6 (.bin .and .int (.t 5) (.c (.int .u64 255))),
     y 7 (.conv .i64 (.t 6)),
     y 8 (.mv (.t 0)),
     y 9 (.bin .shr .int (.t 8) (.c (.int .u64 8))),
     y 10 (.bin .and .int (.t 9) (.c (.int .u64 255))),
     y 11 (.conv .i64 (.t 10)),
     y 12 (.mv (.t 0)),
     y 13 (.bin .and .int (.t 12) (.c (.int .u64 65536))),
     y 14 (.bin .neq .int (.t 13) (.c (.int .u64 0))),
     y 15 (.mv (.t 0)),
     y 16 (.bin .and .int (.t 15) (.c (.int .u64 131072))),
     y 17 (.bin .neq .int (.t 16) (.c (.int .u64 0))),
     y 18 (.build [(.int .i64 0), (.int .i64 0), (.bool false), (.bool false)] [(0, 1, (.t 7)), (1, 1, (.t 11)), (2, 1, (.t 14)), (3, 1, (.t 17))]),
     y 4 (.new 52 [(.int .i64 0), (.int .i64 0), (.bool false), (.bool false)]),
     x (.store 4 (.t 4) (.t 18))])
  (.seq
   (.seq
    (.region [
      y 19 (.mv (.t 0)),
      y 20 (.bin .geq .int (.t 19) (.c (.int .u64 262144))),
      y 21 (.mv (.t 20)),
      ⟨(some 22), .load true 4 (.t 4), (some (21, false)), [], [], false⟩,
      ⟨(some 23), .call (.c (.func (.func 47) #[] #[])) [(.t 22)] true, (some (21, false)), [], [], false⟩,
      ⟨(some 24), .un .not (.t 23), (some (21, false)), [], [], false⟩,
      y 25 (.pick (.t 21) (.c (.bool true)) (.t 24))])
   (.cond (.t 25)
    (.seq
     (.region [
       y 26 (.build [(.int .i64 0), (.int .i64 0), (.bool false), (.bool false)] []),
       x (.store 4 (.t 2) (.t 26)),
       y 3 (.mv (.c (.bool false)))])
    .ret)
    .skip))
  (.seq
   (.region [
     y 27 (.load true 4 (.t 4)),
     x (.store 4 (.t 2) (.t 27)),
     y 3 (.mv (.c (.bool true)))])
  .ret)))),
  [.cell 2 true 4, .tmp 3]⟩

/-- (*wainscot/fill.step).drop -/
def i66 : IFun := ⟨32,
  (.region [
    y 2 (.mv (.t 0)),
    y 3 (.mv (.t 0)),
    y 4 (.mv (.t 0)),
    y 5 (.nilCheck (.t 4)),
    y 6 (.addOff 1 (.t 5)),
    y 7 (.load true 6 (.t 6)),
    y 8 (.mv (.t 0)),
    y 9 (.nilCheck (.t 8)),
    y 10 (.addOff 7 (.t 9)),
    y 11 (.addOff 1 (.t 10)),
    y 12 (.load false 1 (.t 11)),
    y 13 (.call (.c (.func (.func 61) #[] #[])) [(.t 7), (.t 12)] true),
    y 14 (.mv (.t 0)),
    y 15 (.nilCheck (.t 14)),
    y 16 (.addOff 7 (.t 15)),
    y 17 (.addOff 7 (.t 16)),
    y 18 (.load false 1 (.t 17)),
    y 19 (.mv (.t 0)),
    y 20 (.nilCheck (.t 19)),
    y 21 (.addOff 7 (.t 20)),
    y 22 (.addOff 8 (.t 21)),
    y 23 (.load false 1 (.t 22)),
    y 24 (.mv (.t 0)),
    y 25 (.nilCheck (.t 24)),
    y 26 (.addOff 7 (.t 25)),
    y 27 (.addOff 8 (.t 26)),
    y 28 (.load false 1 (.t 27)),
    y 29 (.bin .add .int (.t 28) (.c (.int .u64 1))),
    y 30 (.call (.c (.func (.func 93) #[] #[])) [(.t 3), (.t 13), (.t 18), (.t 23), (.c (.int .u64 0)), (.t 29)] false),
    y 31 (.call (.c (.func (.func 92) #[] #[])) [(.t 2), (.t 30), (.c (.int .i64 21)), (.c (.int .i64 0))] false)]),
  []⟩

/-- (*wainscot/fill.step).first -/
def i67 : IFun := ⟨50,
  (.seq
   (.region [
     y 2 (.mv (.t 0)),
     y 3 (.mv (.t 0)),
     y 4 (.mv (.t 0)),
     y 5 (.nilCheck (.t 4)),
     y 6 (.addOff 1 (.t 5)),
     y 7 (.load true 6 (.t 6)),
     y 8 (.mv (.t 0)),
     y 9 (.nilCheck (.t 8)),
     y 10 (.addOff 7 (.t 9)),
     y 11 (.addOff 5 (.t 10)),
     y 12 (.load false 1 (.t 11)),
     y 13 (.call (.c (.func (.func 33) #[] #[])) [(.t 7), (.t 12)] true),
     y 14 (.call (.c (.func (.func 94) #[] #[])) [(.t 3), (.t 13)] false),
     y 15 (.nilCheck (.t 2)),
     y 16 (.addOff 7 (.t 15)),
     y 17 (.addOff 9 (.t 16)),
     x (.store 1 (.t 17) (.t 14))])
  (.seq
   (.region [
     y 18 (.mv (.t 0)),
     y 19 (.mv (.t 0)),
     y 20 (.nilCheck (.t 19)),
     y 21 (.addOff 7 (.t 20)),
     y 22 (.addOff 9 (.t 21)),
     y 23 (.load false 1 (.t 22)),
     y 24 (.mv (.t 0)),
     y 25 (.nilCheck (.t 24)),
     y 26 (.addOff 1 (.t 25)),
     y 27 (.addOff 2 (.t 26)),
     y 28 (.load false 1 (.t 27)),
     y 29 (.conv .u64 (.t 28)),
     y 30 (.bin .leq .int (.t 23) (.t 29)),
     y 31 (.mv (.t 30)),
     ⟨(some 32), .mv (.t 0), (some (31, true)), [], [], false⟩,
     ⟨(some 33), .nilCheck (.t 32), (some (31, true)), [], [], false⟩,
     ⟨(some 34), .addOff 7 (.t 33), (some (31, true)), [], [], false⟩,
     ⟨(some 35), .addOff 9 (.t 34), (some (31, true)), [], [], false⟩,
     ⟨(some 36), .load false 1 (.t 35), (some (31, true)), [], [], false⟩,
     ⟨(some 37), .bin .gtr .int (.t 36) (.c (.int .u64 0)), (some (31, true)), [], [], false⟩,
     ⟨(some 38), .mv (.t 37), (some (31, true)), [], [], false⟩,
     ⟨(some 39), .mv (.t 0), (some (38, false)), [], [], false⟩,
     ⟨(some 40), .nilCheck (.t 39), (some (38, false)), [], [], false⟩,
     ⟨(some 41), .addOff 7 (.t 40), (some (38, false)), [], [], false⟩,
     ⟨(some 42), .addOff 2 (.t 41), (some (38, false)), [], [], false⟩,
     ⟨(some 43), .load false 1 (.t 42), (some (38, false)), [], [], false⟩,
     ⟨(some 44), .bin .eql .int (.t 43) (.c (.int .i64 21)), (some (38, false)), [], [], false⟩,
     ⟨(some 45), .pick (.t 38) (.c (.bool true)) (.t 44), (some (31, true)), [], [], false⟩,
     y 46 (.pick (.t 31) (.t 45) (.c (.bool false))),
     y 47 (.call (.c (.func (.func 95) #[] #[])) [(.t 18), (.t 46)] false)])
  (.region [
    y 48 (.mv (.t 0)),
    y 49 (.call (.c (.func (.func 96) #[] #[])) [(.t 48)] false)]))),
  []⟩

/-- (*wainscot/fill.step).counts -/
def i68 : IFun := ⟨48,
  (.seq
   (.region [
     y 2 (.mv (.t 0)),
     y 3 (.mv (.t 0)),
     y 4 (.mv (.t 0)),
     y 5 (.nilCheck (.t 4)),
     y 6 (.addOff 1 (.t 5)),
     y 7 (.load true 6 (.t 6)),
     y 8 (.mv (.t 0)),
     y 9 (.nilCheck (.t 8)),
     y 10 (.addOff 7 (.t 9)),
     y 11 (.addOff 5 (.t 10)),
     y 12 (.load false 1 (.t 11)),
     y 13 (.call (.c (.func (.func 33) #[] #[])) [(.t 7), (.t 12)] true),
     y 14 (.call (.c (.func (.func 97) #[] #[])) [(.t 13)] true),
     y 15 (.call (.c (.func (.func 94) #[] #[])) [(.t 3), (.t 14)] false),
     y 16 (.nilCheck (.t 2)),
     y 17 (.addOff 7 (.t 16)),
     y 18 (.addOff 10 (.t 17)),
     x (.store 1 (.t 18) (.t 15))])
  (.seq
   (.region [
     y 19 (.mv (.t 0)),
     y 20 (.mv (.t 0)),
     ⟨(some 21), .call (.c (.func (.func 98) #[] #[])) [(.t 20)] false, none, [], [], true⟩,
     y 22 (.field false 2 1 (.t 21)),
     y 23 (.mv (.t 0)),
     y 24 (.nilCheck (.t 23)),
     y 25 (.addOff 7 (.t 24)),
     y 26 (.addOff 2 (.t 25)),
     ⟨(some 27), .load false 1 (.t 26), none, [2], [], false⟩,
     y 28 (.bin .eql .int (.t 27) (.c (.int .i64 22))),
     y 29 (.bin .eql .bool (.t 22) (.t 28)),
     y 30 (.call (.c (.func (.func 95) #[] #[])) [(.t 19), (.t 29)] false)])
  (.block 0
   (.seq
    (.region [
      y 40 (.mv (.t 0)),
      y 41 (.nilCheck (.t 40)),
      y 42 (.addOff 7 (.t 41)),
      y 43 (.addOff 2 (.t 42)),
      y 44 (.load false 1 (.t 43)),
      y 45 (.bin .eql .int (.t 44) (.c (.int .i64 38))),
      y 39 (.mv (.t 45))])
   (.cond (.t 39)
    (.region [
      y 46 (.mv (.t 0)),
      y 47 (.call (.c (.func (.func 99) #[] #[])) [(.t 46), (.c (.int .i64 39))] false)])
    (.region [
      y 31 (.mv (.t 0)),
      y 32 (.mv (.t 0)),
      y 33 (.nilCheck (.t 32)),
      y 34 (.addOff 7 (.t 33)),
      y 35 (.addOff 9 (.t 34)),
      y 36 (.load false 1 (.t 35)),
      y 37 (.bin .neq .int (.t 36) (.c (.int .u64 0))),
      y 38 (.call (.c (.func (.func 92) #[] #[])) [(.t 31), (.t 37), (.c (.int .i64 23)), (.c (.int .i64 24))] false)])))))),
  []⟩

/-- (*wainscot/fill.step).turn -/
def i69 : IFun := ⟨113,
  (.seq
   (.region [
     y 6 (.mv (.t 0)),
     y 7 (.nilCheck (.t 6)),
     y 8 (.addOff 7 (.t 7)),
     y 9 (.addOff 2 (.t 8)),
     y 10 (.load false 1 (.t 9)),
     y 11 (.bin .eql .int (.t 10) (.c (.int .i64 24))),
     y 2 (.mv (.t 11))])
  (.seq
   (.region [
     y 12 (.mv (.t 0)),
     y 13 (.call (.c (.func (.func 98) #[] #[])) [(.t 12)] false),
     y 3 (.new 52 [(.int .i64 0), (.int .i64 0), (.bool false), (.bool false)]),
     x (.store 4 (.t 3) (.t 13))])
  (.seq
   (.region [
     y 14 (.mv (.t 2)),
     y 15 (.un .not (.t 14)),
     y 16 (.addOff 2 (.t 3)),
     x (.store 1 (.t 16) (.t 15))])
  (.seq
   (.seq
    (.region [
      y 17 (.mv (.t 2)),
      y 18 (.un .not (.t 17))])
   (.cond (.t 18)
    (.region [
      y 19 (.addOff 1 (.t 3)),
      y 20 (.load false 1 (.t 19)),
      y 21 (.addOff 0 (.t 3)),
      x (.store 1 (.t 21) (.t 20))])
    .skip))
  (.seq
   (.region [
     y 23 (.load true 4 (.t 3)),
     y 24 (.call (.c (.func (.func 20) #[] #[])) [(.t 23)] true),
     y 22 (.mv (.t 24)),
     y 25 (.extract (.t 22) 0),
     y 26 (.extract (.t 22) 1),
     y 4 (.mv (.t 25)),
     y 5 (.mv (.t 26))])
  (.seq
   (.region [
     y 27 (.mv (.t 0)),
     y 28 (.mv (.t 5)),
     y 29 (.bin .eql .int (.t 28) (.c (.int .i64 0))),
     y 30 (.mv (.t 29)),
     ⟨(some 31), .mv (.t 0), (some (30, true)), [], [], false⟩,
     ⟨(some 32), .nilCheck (.t 31), (some (30, true)), [], [], false⟩,
     ⟨(some 33), .addOff 7 (.t 32), (some (30, true)), [], [], false⟩,
     ⟨(some 34), .addOff 9 (.t 33), (some (30, true)), [], [], false⟩,
     ⟨(some 35), .load false 1 (.t 34), (some (30, true)), [], [], false⟩,
     ⟨(some 36), .bin .eql .int (.t 35) (.c (.int .u64 0)), (some (30, true)), [], [], false⟩,
     ⟨(some 37), .mv (.t 2), (some (30, true)), [], [], false⟩,
     ⟨(some 38), .bin .eql .bool (.t 36) (.t 37), (some (30, true)), [], [], false⟩,
     y 39 (.pick (.t 30) (.t 38) (.c (.bool false))),
     y 40 (.mv (.t 39)),
     ⟨(some 41), .mv (.t 0), (some (40, true)), [], [], false⟩,
     ⟨(some 42), .nilCheck (.t 41), (some (40, true)), [], [], false⟩,
     ⟨(some 43), .addOff 7 (.t 42), (some (40, true)), [], [], false⟩,
     ⟨(some 44), .addOff 9 (.t 43), (some (40, true)), [], [], false⟩,
     ⟨(some 45), .load false 1 (.t 44), (some (40, true)), [], [], false⟩,
     ⟨(some 46), .mv (.t 0), (some (40, true)), [], [], false⟩,
     ⟨(some 47), .nilCheck (.t 46), (some (40, true)), [], [], false⟩,
     ⟨(some 48), .addOff 1 (.t 47), (some (40, true)), [], [], false⟩,
     ⟨(some 49), .addOff 2 (.t 48), (some (40, true)), [], [], false⟩,
     ⟨(some 50), .load false 1 (.t 49), (some (40, true)), [], [], false⟩,
     ⟨(some 51), .conv .u64 (.t 50), (some (40, true)), [], [], false⟩,
     ⟨(some 52), .bin .leq .int (.t 45) (.t 51), (some (40, true)), [], [], false⟩,
     y 53 (.pick (.t 40) (.t 52) (.c (.bool false))),
     y 54 (.call (.c (.func (.func 95) #[] #[])) [(.t 27), (.t 53)] false)])
  (.seq
   (.seq
    (.region [
      y 55 (.mv (.t 0)),
      y 56 (.nilCheck (.t 55)),
      y 57 (.addOff 24 (.t 56)),
      y 58 (.load false 1 (.t 57))])
   (.cond (.t 58)
    .ret
    .skip))
  (.seq
   (.seq
    (.region [
      y 59 (.mv (.t 0)),
      y 60 (.mv (.t 0)),
      y 61 (.nilCheck (.t 60)),
      y 62 (.addOff 1 (.t 61)),
      y 63 (.load true 6 (.t 62)),
      y 64 (.mv (.t 0)),
      y 65 (.nilCheck (.t 64)),
      y 66 (.addOff 7 (.t 65)),
      y 67 (.addOff 5 (.t 66)),
      y 68 (.load false 1 (.t 67)),
      y 69 (.call (.c (.func (.func 33) #[] #[])) [(.t 63), (.t 68)] true),
      y 70 (.mv (.t 0)),
      y 71 (.nilCheck (.t 70)),
      y 72 (.addOff 7 (.t 71)),
      y 73 (.addOff 9 (.t 72)),
      y 74 (.load false 1 (.t 73)),
      y 75 (.mv (.t 0)),
      y 76 (.nilCheck (.t 75)),
      y 77 (.addOff 7 (.t 76)),
      y 78 (.addOff 10 (.t 77)),
      y 79 (.load false 1 (.t 78)),
      y 80 (.mv (.t 4)),
      y 81 (.call (.c (.func (.func 93) #[] #[])) [(.t 59), (.t 69), (.t 74), (.t 79), (.c (.int .u64 0)), (.t 80)] false),
      y 82 (.un .not (.t 81))])
   (.cond (.t 82)
    (.seq
     (.region [
       y 83 (.mv (.t 0)),
       y 84 (.mv (.t 0)),
       y 85 (.nilCheck (.t 84)),
       y 86 (.addOff 7 (.t 85)),
       y 87 (.addOff 2 (.t 86)),
       y 88 (.load false 1 (.t 87)),
       y 89 (.bin .eql .int (.t 88) (.c (.int .i64 39))),
       y 90 (.call (.c (.func (.func 92) #[] #[])) [(.t 83), (.t 89), (.c (.int .i64 37)), (.c (.int .i64 21))] false)])
    .ret)
    .skip))
  (.seq
   (.seq
    (.region [
      y 91 (.mv (.t 2))])
   (.cond (.t 91)
    (.seq
     (.region [
       y 92 (.mv (.t 0)),
       y 93 (.call (.c (.func (.func 99) #[] #[])) [(.t 92), (.c (.int .i64 30))] false)])
    .ret)
    .skip))
  (.seq
   (.region [
     y 94 (.mv (.t 0)),
     y 95 (.mv (.t 0)),
     y 96 (.nilCheck (.t 95)),
     y 97 (.addOff 7 (.t 96)),
     y 98 (.addOff 9 (.t 97)),
     y 99 (.load false 1 (.t 98)),
     y 100 (.conv .i64 (.t 99)),
     y 101 (.bin .sub .int (.t 100) (.c (.int .i64 1))),
     y 102 (.nilCheck (.t 94)),
     y 103 (.addOff 7 (.t 102)),
     y 104 (.addOff 6 (.t 103)),
     x (.store 1 (.t 104) (.t 101))])
  (.region [
    y 105 (.mv (.t 0)),
    y 106 (.mv (.t 0)),
    y 107 (.nilCheck (.t 106)),
    y 108 (.addOff 7 (.t 107)),
    y 109 (.addOff 2 (.t 108)),
    y 110 (.load false 1 (.t 109)),
    y 111 (.bin .eql .int (.t 110) (.c (.int .i64 39))),
    y 112 (.call (.c (.func (.func 92) #[] #[])) [(.t 105), (.t 111), (.c (.int .i64 46)), (.c (.int .i64 40))] false)]))))))))))),
  []⟩

/-- (*wainscot/fill.step).partTurn -/
def i70 : IFun := ⟨21,
  (.seq
   (.region [
     y 2 (.mv (.t 0)),
     y 3 (.mv (.t 0)),
     y 4 (.mv (.t 0)),
     y 5 (.nilCheck (.t 4)),
     y 6 (.addOff 1 (.t 5)),
     y 7 (.load true 6 (.t 6)),
     y 8 (.mv (.t 0)),
     y 9 (.nilCheck (.t 8)),
     y 10 (.addOff 7 (.t 9)),
     y 11 (.addOff 1 (.t 10)),
     y 12 (.load false 1 (.t 11)),
     y 13 (.call (.c (.func (.func 15) #[] #[])) [(.t 7), (.t 12)] true),
     y 14 (.call (.c (.func (.func 97) #[] #[])) [(.t 13)] true),
     y 15 (.call (.c (.func (.func 94) #[] #[])) [(.t 3), (.t 14)] false),
     y 16 (.nilCheck (.t 2)),
     y 17 (.addOff 7 (.t 16)),
     y 18 (.addOff 8 (.t 17)),
     x (.store 1 (.t 18) (.t 15))])
  (.region [
    y 19 (.mv (.t 0)),
    y 20 (.call (.c (.func (.func 96) #[] #[])) [(.t 19)] false)])),
  []⟩

/-- (*wainscot/fill.step).keeps -/
def i71 : IFun := ⟨52,
  (.seq
   (.region [
     y 6 (.mv (.t 0)),
     y 7 (.mv (.t 0)),
     y 8 (.nilCheck (.t 7)),
     y 9 (.addOff 1 (.t 8)),
     y 10 (.load true 6 (.t 9)),
     y 11 (.mv (.t 0)),
     y 12 (.nilCheck (.t 11)),
     y 13 (.addOff 7 (.t 12)),
     y 14 (.addOff 1 (.t 13)),
     y 15 (.load false 1 (.t 14)),
     y 16 (.call (.c (.func (.func 15) #[] #[])) [(.t 10), (.t 15)] true),
     y 17 (.call (.c (.func (.func 94) #[] #[])) [(.t 6), (.t 16)] false),
     y 2 (.mv (.t 17))])
  (.seq
   (.region [
     y 19 (.mv (.t 2)),
     y 20 (.call (.c (.func (.func 91) #[] #[])) [(.t 19)] true),
     y 18 (.mv (.t 20)),
     y 21 (.extract (.t 18) 0),
     y 22 (.extract (.t 18) 1),
     y 23 (.extract (.t 18) 2),
     y 3 (.mv (.t 21)),
     y 4 (.mv (.t 22)),
     y 5 (.mv (.t 23))])
  (.seq
   (.region [
     y 24 (.mv (.t 0)),
     y 25 (.mv (.t 5)),
     y 26 (.mv (.t 25)),
     ⟨(some 27), .mv (.t 3), (some (26, true)), [], [], false⟩,
     ⟨(some 28), .mv (.t 0), (some (26, true)), [], [], false⟩,
     ⟨(some 29), .nilCheck (.t 28), (some (26, true)), [], [], false⟩,
     ⟨(some 30), .addOff 1 (.t 29), (some (26, true)), [], [], false⟩,
     ⟨(some 31), .addOff 1 (.t 30), (some (26, true)), [], [], false⟩,
     ⟨(some 32), .load false 1 (.t 31), (some (26, true)), [], [], false⟩,
     ⟨(some 33), .bin .lss .int (.t 27) (.t 32), (some (26, true)), [], [], false⟩,
     y 34 (.pick (.t 26) (.t 33) (.c (.bool false))),
     y 35 (.call (.c (.func (.func 95) #[] #[])) [(.t 24), (.t 34)] false)])
  (.seq
   (.region [
     y 36 (.mv (.t 0)),
     y 37 (.mv (.t 2)),
     y 38 (.nilCheck (.t 36)),
     y 39 (.addOff 7 (.t 38)),
     y 40 (.addOff 11 (.t 39)),
     x (.store 1 (.t 40) (.t 37))])
  (.seq
   (.seq
    (.region [
      y 41 (.mv (.t 3)),
      y 42 (.bin .lss .int (.t 41) (.c (.int .i64 0)))])
   (.cond (.t 42)
    (.seq
     (.region [
       y 43 (.mv (.t 0)),
       y 44 (.call (.c (.func (.func 99) #[] #[])) [(.t 43), (.c (.int .i64 34))] false)])
    .ret)
    .skip))
  (.seq
   (.region [
     y 45 (.mv (.t 0)),
     y 46 (.mv (.t 3)),
     y 47 (.nilCheck (.t 45)),
     y 48 (.addOff 7 (.t 47)),
     y 49 (.addOff 5 (.t 48)),
     x (.store 1 (.t 49) (.t 46))])
  (.region [
    y 50 (.mv (.t 0)),
    y 51 (.call (.c (.func (.func 99) #[] #[])) [(.t 50), (.c (.int .i64 32))] false)]))))))),
  []⟩

/-- (*wainscot/fill.step).others -/
def i72 : IFun := ⟨44,
  (.seq
   (.region [
     y 6 (.mv (.t 0)),
     y 7 (.mv (.t 0)),
     y 8 (.nilCheck (.t 7)),
     y 9 (.addOff 1 (.t 8)),
     y 10 (.load true 6 (.t 9)),
     y 11 (.mv (.t 0)),
     y 12 (.nilCheck (.t 11)),
     y 13 (.addOff 7 (.t 12)),
     y 14 (.addOff 5 (.t 13)),
     y 15 (.load false 1 (.t 14)),
     y 16 (.call (.c (.func (.func 21) #[] #[])) [(.t 10), (.t 15)] true),
     y 17 (.call (.c (.func (.func 94) #[] #[])) [(.t 6), (.t 16)] false),
     y 2 (.mv (.t 17))])
  (.seq
   (.region [
     y 19 (.mv (.t 2)),
     y 20 (.call (.c (.func (.func 91) #[] #[])) [(.t 19)] true),
     y 18 (.mv (.t 20)),
     y 21 (.extract (.t 18) 0),
     y 22 (.extract (.t 18) 1),
     y 23 (.extract (.t 18) 2),
     y 3 (.mv (.t 21)),
     y 4 (.mv (.t 22)),
     y 5 (.mv (.t 23))])
  (.seq
   (.seq
    (.region [
      y 24 (.mv (.t 5)),
      y 25 (.un .not (.t 24)),
      y 26 (.mv (.t 25)),
      ⟨(some 27), .mv (.t 3), (some (26, false)), [], [], false⟩,
      ⟨(some 28), .mv (.t 0), (some (26, false)), [], [], false⟩,
      ⟨(some 29), .nilCheck (.t 28), (some (26, false)), [], [], false⟩,
      ⟨(some 30), .addOff 1 (.t 29), (some (26, false)), [], [], false⟩,
      ⟨(some 31), .addOff 1 (.t 30), (some (26, false)), [], [], false⟩,
      ⟨(some 32), .load false 1 (.t 31), (some (26, false)), [], [], false⟩,
      ⟨(some 33), .bin .geq .int (.t 27) (.t 32), (some (26, false)), [], [], false⟩,
      y 34 (.pick (.t 26) (.c (.bool true)) (.t 33))])
   (.cond (.t 34)
    (.seq
     (.region [
       y 35 (.mv (.t 0)),
       y 36 (.call (.c (.func (.func 99) #[] #[])) [(.t 35), (.c (.int .i64 30))] false)])
    .ret)
    .skip))
  (.seq
   (.region [
     y 37 (.mv (.t 0)),
     y 38 (.mv (.t 2)),
     y 39 (.nilCheck (.t 37)),
     y 40 (.addOff 7 (.t 39)),
     y 41 (.addOff 9 (.t 40)),
     x (.store 1 (.t 41) (.t 38))])
  (.region [
    y 42 (.mv (.t 0)),
    y 43 (.call (.c (.func (.func 99) #[] #[])) [(.t 42), (.c (.int .i64 33))] false)]))))),
  []⟩

/-- (*wainscot/fill.step).takes -/
def i73 : IFun := ⟨37,
  (.region [
    y 2 (.mv (.t 0)),
    y 3 (.mv (.t 0)),
    y 4 (.mv (.t 0)),
    y 5 (.nilCheck (.t 4)),
    y 6 (.addOff 1 (.t 5)),
    y 7 (.load true 6 (.t 6)),
    y 8 (.mv (.t 0)),
    y 9 (.nilCheck (.t 8)),
    y 10 (.addOff 7 (.t 9)),
    y 11 (.addOff 1 (.t 10)),
    y 12 (.load false 1 (.t 11)),
    y 13 (.call (.c (.func (.func 15) #[] #[])) [(.t 7), (.t 12)] true),
    y 14 (.mv (.t 0)),
    y 15 (.nilCheck (.t 14)),
    y 16 (.addOff 7 (.t 15)),
    y 17 (.addOff 11 (.t 16)),
    y 18 (.load false 1 (.t 17)),
    y 19 (.mv (.t 0)),
    y 20 (.nilCheck (.t 19)),
    y 21 (.addOff 7 (.t 20)),
    y 22 (.addOff 8 (.t 21)),
    y 23 (.load false 1 (.t 22)),
    y 24 (.mv (.t 0)),
    y 25 (.nilCheck (.t 24)),
    y 26 (.addOff 7 (.t 25)),
    y 27 (.addOff 9 (.t 26)),
    y 28 (.load false 1 (.t 27)),
    y 29 (.mv (.t 0)),
    y 30 (.nilCheck (.t 29)),
    y 31 (.addOff 7 (.t 30)),
    y 32 (.addOff 8 (.t 31)),
    y 33 (.load false 1 (.t 32)),
    y 34 (.bin .add .int (.t 33) (.c (.int .u64 1))),
    y 35 (.call (.c (.func (.func 93) #[] #[])) [(.t 3), (.t 13), (.t 18), (.t 23), (.t 28), (.t 34)] false),
    y 36 (.call (.c (.func (.func 92) #[] #[])) [(.t 2), (.t 35), (.c (.int .i64 21)), (.c (.int .i64 30))] false)]),
  []⟩

/-- (*wainscot/fill.step).lock -/
def i74 : IFun := ⟨24,
  (.seq
   (.region [
     y 5 (.mv (.t 0)),
     y 6 (.nilCheck (.t 5)),
     y 7 (.addOff 0 (.t 6)),
     y 8 (.load false 1 (.t 7)),
     y 9 (.mv (.t 0)),
     y 10 (.nilCheck (.t 9)),
     y 11 (.addOff 1 (.t 10)),
     y 12 (.load true 6 (.t 11)),
     y 13 (.call (.c (.func (.func 39) #[] #[])) [(.t 12)] true),
     y 14 (.call (.c (.func (.func 100) #[] #[])) [(.t 8), (.t 13), (.c (.int .u64 0)), (.c (.int .u64 1))] false),
     y 4 (.mv (.t 14)),
     y 15 (.extract (.t 4) 0),
     y 16 (.extract (.t 4) 1),
     y 2 (.mv (.t 15)),
     y 3 (.mv (.t 16))])
  (.seq
   (.region [
     y 17 (.mv (.t 0)),
     y 18 (.mv (.t 3)),
     y 19 (.bin .eql .int (.t 18) (.c (.int .i64 0))),
     y 20 (.call (.c (.func (.func 95) #[] #[])) [(.t 17), (.t 19)] false)])
  (.region [
    y 21 (.mv (.t 0)),
    y 22 (.mv (.t 2)),
    y 23 (.call (.c (.func (.func 92) #[] #[])) [(.t 21), (.t 22), (.c (.int .i64 35)), (.c (.int .i64 34))] false)]))),
  []⟩

/-- (*wainscot/fill.step).shelf -/
def i75 : IFun := ⟨54,
  (.seq
   (.region [
     y 2 (.mv (.t 0)),
     y 3 (.mv (.t 0)),
     y 4 (.mv (.t 0)),
     y 5 (.nilCheck (.t 4)),
     y 6 (.addOff 1 (.t 5)),
     y 7 (.load true 6 (.t 6)),
     y 8 (.call (.c (.func (.func 26) #[] #[])) [(.t 7)] true),
     y 9 (.call (.c (.func (.func 94) #[] #[])) [(.t 3), (.t 8)] false),
     y 10 (.nilCheck (.t 2)),
     y 11 (.addOff 7 (.t 10)),
     y 12 (.addOff 11 (.t 11)),
     x (.store 1 (.t 12) (.t 9))])
  (.seq
   (.region [
     y 13 (.mv (.t 0)),
     y 14 (.mv (.t 0)),
     y 15 (.nilCheck (.t 14)),
     y 16 (.addOff 7 (.t 15)),
     y 17 (.addOff 11 (.t 16)),
     y 18 (.load false 1 (.t 17)),
     y 19 (.mv (.t 0)),
     y 20 (.nilCheck (.t 19)),
     y 21 (.addOff 1 (.t 20)),
     y 22 (.addOff 1 (.t 21)),
     y 23 (.load false 1 (.t 22)),
     y 24 (.conv .u64 (.t 23)),
     y 25 (.bin .leq .int (.t 18) (.t 24)),
     y 26 (.call (.c (.func (.func 95) #[] #[])) [(.t 13), (.t 25)] false)])
  (.seq
   (.seq
    (.region [
      y 27 (.mv (.t 0)),
      y 28 (.nilCheck (.t 27)),
      y 29 (.addOff 7 (.t 28)),
      y 30 (.addOff 11 (.t 29)),
      y 31 (.load false 1 (.t 30)),
      y 32 (.bin .eql .int (.t 31) (.c (.int .u64 0))),
      y 33 (.mv (.t 32)),
      ⟨(some 34), .mv (.t 0), (some (33, false)), [], [], false⟩,
      ⟨(some 35), .nilCheck (.t 34), (some (33, false)), [], [], false⟩,
      ⟨(some 36), .addOff 24 (.t 35), (some (33, false)), [], [], false⟩,
      ⟨(some 37), .load false 1 (.t 36), (some (33, false)), [], [], false⟩,
      y 38 (.pick (.t 33) (.c (.bool true)) (.t 37))])
   (.cond (.t 38)
    (.seq
     (.region [
       y 39 (.mv (.t 0)),
       y 40 (.call (.c (.func (.func 99) #[] #[])) [(.t 39), (.c (.int .i64 36))] false)])
    .ret)
    .skip))
  (.seq
   (.region [
     y 41 (.mv (.t 0)),
     y 42 (.mv (.t 0)),
     y 43 (.nilCheck (.t 42)),
     y 44 (.addOff 7 (.t 43)),
     y 45 (.addOff 11 (.t 44)),
     y 46 (.load false 1 (.t 45)),
     y 47 (.conv .i64 (.t 46)),
     y 48 (.bin .sub .int (.t 47) (.c (.int .i64 1))),
     y 49 (.nilCheck (.t 41)),
     y 50 (.addOff 7 (.t 49)),
     y 51 (.addOff 5 (.t 50)),
     x (.store 1 (.t 51) (.t 48))])
  (.region [
    y 52 (.mv (.t 0)),
    y 53 (.call (.c (.func (.func 99) #[] #[])) [(.t 52), (.c (.int .i64 37))] false)]))))),
  []⟩

/-- (*wainscot/fill.step).unlock -/
def i76 : IFun := ⟨21,
  (.seq
   (.region [
     y 2 (.mv (.t 0)),
     y 3 (.mv (.t 0)),
     y 4 (.nilCheck (.t 3)),
     y 5 (.addOff 1 (.t 4)),
     y 6 (.load true 6 (.t 5)),
     y 7 (.call (.c (.func (.func 39) #[] #[])) [(.t 6)] true),
     y 8 (.call (.c (.func (.func 101) #[] #[])) [(.t 2), (.t 7), (.c (.int .u64 0))] false)])
  (.seq
   (.seq
    (.region [
      y 9 (.mv (.t 0)),
      y 10 (.nilCheck (.t 9)),
      y 11 (.addOff 7 (.t 10)),
      y 12 (.addOff 2 (.t 11)),
      y 13 (.load false 1 (.t 12)),
      y 14 (.bin .eql .int (.t 13) (.c (.int .i64 36)))])
   (.cond (.t 14)
    (.region [
      y 15 (.mv (.t 0)),
      y 16 (.nilCheck (.t 15)),
      y 17 (.addOff 7 (.t 16)),
      y 18 (.addOff 4 (.t 17)),
      x (.store 1 (.t 18) (.c (.int .i64 1)))])
    .skip))
  (.region [
    y 19 (.mv (.t 0)),
    y 20 (.call (.c (.func (.func 96) #[] #[])) [(.t 19)] false)]))),
  []⟩

/-- (*wainscot/fill.step).rest -/
def i77 : IFun := ⟨61,
  (.seq
   (.region [
     y 5 (.mv (.t 0)),
     y 6 (.mv (.t 0)),
     y 7 (.nilCheck (.t 6)),
     y 8 (.addOff 1 (.t 7)),
     y 9 (.load true 6 (.t 8)),
     y 10 (.mv (.t 0)),
     y 11 (.nilCheck (.t 10)),
     y 12 (.addOff 7 (.t 11)),
     y 13 (.addOff 5 (.t 12)),
     y 14 (.load false 1 (.t 13)),
     y 15 (.mv (.t 0)),
     y 16 (.nilCheck (.t 15)),
     y 17 (.addOff 7 (.t 16)),
     y 18 (.addOff 6 (.t 17)),
     y 19 (.load false 1 (.t 18)),
     y 20 (.call (.c (.func (.func 32) #[] #[])) [(.t 9), (.t 14), (.t 19)] true),
     y 21 (.call (.c (.func (.func 94) #[] #[])) [(.t 5), (.t 20)] false),
     y 2 (.mv (.t 21))])
  (.seq
   (.region [
     y 23 (.mv (.t 2)),
     y 24 (.mv (.t 0)),
     y 25 (.nilCheck (.t 24)),
     y 26 (.addOff 1 (.t 25)),
     y 27 (.load true 6 (.t 26)),
     y 28 (.mv (.t 0)),
     y 29 (.nilCheck (.t 28)),
     y 30 (.addOff 7 (.t 29)),
     y 31 (.addOff 5 (.t 30)),
     y 32 (.load false 1 (.t 31)),
     y 33 (.call (.c (.func (.func 31) #[] #[])) [(.t 27), (.t 32)] true),
     y 34 (.mv (.t 0)),
     y 35 (.nilCheck (.t 34)),
     y 36 (.addOff 7 (.t 35)),
     y 37 (.addOff 6 (.t 36)),
     y 38 (.load false 1 (.t 37)),
     y 39 (.call (.c (.func (.func 102) #[] #[])) [(.t 23), (.t 33), (.t 38)] true),
     y 22 (.mv (.t 39)),
     y 40 (.extract (.t 22) 0),
     y 41 (.extract (.t 22) 1),
     y 3 (.mv (.t 40)),
     y 4 (.mv (.t 41))])
  (.seq
   (.region [
     y 42 (.mv (.t 0)),
     y 43 (.mv (.t 4)),
     y 44 (.mv (.t 43)),
     ⟨(some 45), .mv (.t 3), (some (44, true)), [], [], false⟩,
     ⟨(some 46), .mv (.t 0), (some (44, true)), [], [], false⟩,
     ⟨(some 47), .nilCheck (.t 46), (some (44, true)), [], [], false⟩,
     ⟨(some 48), .addOff 1 (.t 47), (some (44, true)), [], [], false⟩,
     ⟨(some 49), .addOff 2 (.t 48), (some (44, true)), [], [], false⟩,
     ⟨(some 50), .load false 1 (.t 49), (some (44, true)), [], [], false⟩,
     ⟨(some 51), .bin .lss .int (.t 45) (.t 50), (some (44, true)), [], [], false⟩,
     y 52 (.pick (.t 44) (.t 51) (.c (.bool false))),
     y 53 (.call (.c (.func (.func 95) #[] #[])) [(.t 42), (.t 52)] false)])
  (.seq
   (.region [
     y 54 (.mv (.t 0)),
     y 55 (.mv (.t 3)),
     y 56 (.nilCheck (.t 54)),
     y 57 (.addOff 7 (.t 56)),
     y 58 (.addOff 12 (.t 57)),
     x (.store 1 (.t 58) (.t 55))])
  (.region [
    y 59 (.mv (.t 0)),
    y 60 (.call (.c (.func (.func 96) #[] #[])) [(.t 59)] false)]))))),
  []⟩

/-- (*wainscot/fill.step).headTurn -/
def i78 : IFun := ⟨21,
  (.seq
   (.region [
     y 2 (.mv (.t 0)),
     y 3 (.mv (.t 0)),
     y 4 (.mv (.t 0)),
     y 5 (.nilCheck (.t 4)),
     y 6 (.addOff 1 (.t 5)),
     y 7 (.load true 6 (.t 6)),
     y 8 (.mv (.t 0)),
     y 9 (.nilCheck (.t 8)),
     y 10 (.addOff 7 (.t 9)),
     y 11 (.addOff 1 (.t 10)),
     y 12 (.load false 1 (.t 11)),
     y 13 (.call (.c (.func (.func 61) #[] #[])) [(.t 7), (.t 12)] true),
     y 14 (.call (.c (.func (.func 97) #[] #[])) [(.t 13)] true),
     y 15 (.call (.c (.func (.func 94) #[] #[])) [(.t 3), (.t 14)] false),
     y 16 (.nilCheck (.t 2)),
     y 17 (.addOff 7 (.t 16)),
     y 18 (.addOff 8 (.t 17)),
     x (.store 1 (.t 18) (.t 15))])
  (.region [
    y 19 (.mv (.t 0)),
    y 20 (.call (.c (.func (.func 96) #[] #[])) [(.t 19)] false)])),
  []⟩

/-- (*wainscot/fill.step).install -/
def i79 : IFun := ⟨56,
  (.seq
   (.region [
     y 5 (.mv (.t 0)),
     y 6 (.nilCheck (.t 5)),
     y 7 (.addOff 7 (.t 6)),
     y 8 (.addOff 5 (.t 7)),
     y 9 (.load false 1 (.t 8)),
     y 10 (.mv (.t 0)),
     y 11 (.nilCheck (.t 10)),
     y 12 (.addOff 7 (.t 11)),
     y 13 (.addOff 12 (.t 12)),
     y 14 (.load false 1 (.t 13)),
     y 15 (.call (.c (.func (.func 89) #[] #[])) [(.t 9), (.t 14)] true),
     y 4 (.mv (.t 15)),
     y 16 (.extract (.t 4) 0),
     y 17 (.extract (.t 4) 1),
     y 2 (.mv (.t 16)),
     y 3 (.mv (.t 17))])
  (.seq
   (.region [
     y 18 (.mv (.t 0)),
     y 19 (.mv (.t 3)),
     y 20 (.bin .eql .int (.t 19) (.c (.int .i64 0))),
     y 21 (.call (.c (.func (.func 95) #[] #[])) [(.t 18), (.t 20)] false)])
  (.seq
   (.seq
    (.region [
      y 22 (.mv (.t 0)),
      y 23 (.nilCheck (.t 22)),
      y 24 (.addOff 24 (.t 23)),
      y 25 (.load false 1 (.t 24))])
   (.cond (.t 25)
    .ret
    .skip))
  (.seq
   (.seq
    (.region [
      y 26 (.mv (.t 0)),
      y 27 (.mv (.t 0)),
      y 28 (.nilCheck (.t 27)),
      y 29 (.addOff 1 (.t 28)),
      y 30 (.load true 6 (.t 29)),
      y 31 (.mv (.t 0)),
      y 32 (.nilCheck (.t 31)),
      y 33 (.addOff 7 (.t 32)),
      y 34 (.addOff 1 (.t 33)),
      y 35 (.load false 1 (.t 34)),
      y 36 (.call (.c (.func (.func 61) #[] #[])) [(.t 30), (.t 35)] true),
      y 37 (.mv (.t 0)),
      y 38 (.nilCheck (.t 37)),
      y 39 (.addOff 7 (.t 38)),
      y 40 (.addOff 8 (.t 39)),
      y 41 (.load false 1 (.t 40)),
      y 42 (.mv (.t 2)),
      y 43 (.mv (.t 0)),
      y 44 (.nilCheck (.t 43)),
      y 45 (.addOff 7 (.t 44)),
      y 46 (.addOff 8 (.t 45)),
      y 47 (.load false 1 (.t 46)),
      y 48 (.bin .add .int (.t 47) (.c (.int .u64 1))),
      y 49 (.call (.c (.func (.func 93) #[] #[])) [(.t 26), (.t 36), (.c (.int .u64 0)), (.t 41), (.t 42), (.t 48)] false)])
   (.cond (.t 49)
    (.seq
     (.region [
       y 50 (.mv (.t 0)),
       y 51 (.nilCheck (.t 50)),
       y 52 (.addOff 7 (.t 51)),
       y 53 (.addOff 3 (.t 52)),
       x (.store 1 (.t 53) (.c (.int .i64 1)))])
    .ret)
    .skip))
  (.region [
    y 54 (.mv (.t 0)),
    y 55 (.call (.c (.func (.func 99) #[] #[])) [(.t 54), (.c (.int .i64 41))] false)]))))),
  []⟩

/-- (*wainscot/fill.step).fresh -/
def i80 : IFun := ⟨77,
  (.seq
   (.region [
     y 5 (.mv (.t 0)),
     y 6 (.nilCheck (.t 5)),
     y 7 (.addOff 7 (.t 6)),
     y 8 (.addOff 13 (.t 7)),
     y 9 (.load false 1 (.t 8)),
     y 10 (.bin .add .int (.t 9) (.c (.int .i64 1))),
     y 2 (.mv (.t 10))])
  (.seq
   (.seq
    (.region [
      y 11 (.mv (.t 2)),
      y 12 (.mv (.t 0)),
      y 13 (.nilCheck (.t 12)),
      y 14 (.addOff 1 (.t 13)),
      y 15 (.addOff 2 (.t 14)),
      y 16 (.load false 1 (.t 15)),
      y 17 (.bin .geq .int (.t 11) (.t 16))])
   (.cond (.t 17)
    (.region [
      y 2 (.mv (.c (.int .i64 (-1))))])
    .skip))
  (.seq
   (.region [
     y 19 (.mv (.t 2)),
     y 20 (.mv (.t 0)),
     y 21 (.nilCheck (.t 20)),
     y 22 (.addOff 1 (.t 21)),
     y 23 (.load true 6 (.t 22)),
     y 24 (.mv (.t 0)),
     y 25 (.nilCheck (.t 24)),
     y 26 (.addOff 7 (.t 25)),
     y 27 (.addOff 5 (.t 26)),
     y 28 (.load false 1 (.t 27)),
     y 29 (.call (.c (.func (.func 31) #[] #[])) [(.t 23), (.t 28)] true),
     y 30 (.mv (.t 0)),
     y 31 (.nilCheck (.t 30)),
     y 32 (.addOff 7 (.t 31)),
     y 33 (.addOff 13 (.t 32)),
     y 34 (.load false 1 (.t 33)),
     y 35 (.call (.c (.func (.func 103) #[] #[])) [(.t 19), (.t 29), (.t 34)] true),
     y 18 (.mv (.t 35)),
     y 36 (.extract (.t 18) 0),
     y 37 (.extract (.t 18) 1),
     y 3 (.mv (.t 36)),
     y 4 (.mv (.t 37))])
  (.seq
   (.region [
     y 38 (.mv (.t 0)),
     y 39 (.mv (.t 4)),
     y 40 (.bin .eql .int (.t 39) (.c (.int .i64 0))),
     y 41 (.call (.c (.func (.func 95) #[] #[])) [(.t 38), (.t 40)] false)])
  (.seq
   (.seq
    (.region [
      y 42 (.mv (.t 0)),
      y 43 (.nilCheck (.t 42)),
      y 44 (.addOff 24 (.t 43)),
      y 45 (.load false 1 (.t 44))])
   (.cond (.t 45)
    .ret
    .skip))
  (.seq
   (.region [
     y 46 (.mv (.t 0)),
     y 47 (.mv (.t 0)),
     y 48 (.nilCheck (.t 47)),
     y 49 (.addOff 1 (.t 48)),
     y 50 (.load true 6 (.t 49)),
     y 51 (.mv (.t 0)),
     y 52 (.nilCheck (.t 51)),
     y 53 (.addOff 7 (.t 52)),
     y 54 (.addOff 5 (.t 53)),
     y 55 (.load false 1 (.t 54)),
     y 56 (.mv (.t 0)),
     y 57 (.nilCheck (.t 56)),
     y 58 (.addOff 7 (.t 57)),
     y 59 (.addOff 13 (.t 58)),
     y 60 (.load false 1 (.t 59)),
     y 61 (.call (.c (.func (.func 32) #[] #[])) [(.t 50), (.t 55), (.t 60)] true),
     y 62 (.mv (.t 3)),
     y 63 (.call (.c (.func (.func 101) #[] #[])) [(.t 46), (.t 61), (.t 62)] false)])
  (.seq
   (.region [
     y 64 (.mv (.t 0)),
     y 65 (.nilCheck (.t 64)),
     y 66 (.addOff 7 (.t 65)),
     y 67 (.addOff 13 (.t 66)),
     y 68 (.load false 1 (.t 67)),
     y 69 (.bin .add .int (.t 68) (.c (.int .i64 1))),
     y 70 (.nilCheck (.t 64)),
     y 71 (.addOff 7 (.t 70)),
     y 72 (.addOff 13 (.t 71)),
     x (.store 1 (.t 72) (.t 69))])
  (.region [
    y 73 (.mv (.t 0)),
    y 74 (.mv (.t 2)),
    y 75 (.bin .lss .int (.t 74) (.c (.int .i64 0))),
    y 76 (.call (.c (.func (.func 92) #[] #[])) [(.t 73), (.t 75), (.c (.int .i64 44)), (.c (.int .i64 43))] false)])))))))),
  []⟩

/-- (*wainscot/fill.step).lives -/
def i81 : IFun := ⟨43,
  (.seq
   (.region [
     y 5 (.mv (.t 0)),
     y 6 (.nilCheck (.t 5)),
     y 7 (.addOff 1 (.t 6)),
     y 8 (.addOff 2 (.t 7)),
     y 9 (.load false 1 (.t 8)),
     y 10 (.mv (.t 0)),
     y 11 (.nilCheck (.t 10)),
     y 12 (.addOff 1 (.t 11)),
     y 13 (.addOff 2 (.t 12)),
     y 14 (.load false 1 (.t 13)),
     y 15 (.build [(.int .i64 0), (.int .i64 0), (.bool false), (.bool false)] [(0, 1, (.t 9)), (1, 1, (.t 14)), (2, 1, (.c (.bool true))), (3, 1, (.c (.bool true)))]),
     y 16 (.call (.c (.func (.func 20) #[] #[])) [(.t 15)] true),
     y 4 (.mv (.t 16)),
     y 17 (.extract (.t 4) 0),
     y 18 (.extract (.t 4) 1),
     y 2 (.mv (.t 17)),
     y 3 (.mv (.t 18))])
  (.seq
   (.region [
     y 19 (.mv (.t 0)),
     y 20 (.mv (.t 3)),
     y 21 (.bin .eql .int (.t 20) (.c (.int .i64 0))),
     y 22 (.call (.c (.func (.func 95) #[] #[])) [(.t 19), (.t 21)] false)])
  (.seq
   (.region [
     y 23 (.mv (.t 0)),
     y 24 (.mv (.t 0)),
     y 25 (.nilCheck (.t 24)),
     y 26 (.addOff 1 (.t 25)),
     y 27 (.load true 6 (.t 26)),
     y 28 (.mv (.t 0)),
     y 29 (.nilCheck (.t 28)),
     y 30 (.addOff 7 (.t 29)),
     y 31 (.addOff 5 (.t 30)),
     y 32 (.load false 1 (.t 31)),
     y 33 (.call (.c (.func (.func 33) #[] #[])) [(.t 27), (.t 32)] true),
     y 34 (.call (.c (.func (.func 97) #[] #[])) [(.t 33)] true),
     y 35 (.mv (.t 2)),
     y 36 (.call (.c (.func (.func 101) #[] #[])) [(.t 23), (.t 34), (.t 35)] false)])
  (.seq
   (.region [
     y 37 (.mv (.t 0)),
     y 38 (.nilCheck (.t 37)),
     y 39 (.addOff 7 (.t 38)),
     y 40 (.addOff 6 (.t 39)),
     x (.store 1 (.t 40) (.c (.int .i64 0)))])
  (.region [
    y 41 (.mv (.t 0)),
    y 42 (.call (.c (.func (.func 99) #[] #[])) [(.t 41), (.c (.int .i64 40))] false)]))))),
  []⟩

/-- (*wainscot/fill.step).next -/
def i82 : IFun := ⟨34,
  (.seq
   (.region [
     y 2 (.mv (.t 0)),
     y 3 (.mv (.t 0)),
     y 4 (.mv (.t 0)),
     y 5 (.nilCheck (.t 4)),
     y 6 (.addOff 1 (.t 5)),
     y 7 (.load true 6 (.t 6)),
     y 8 (.mv (.t 0)),
     y 9 (.nilCheck (.t 8)),
     y 10 (.addOff 7 (.t 9)),
     y 11 (.addOff 5 (.t 10)),
     y 12 (.load false 1 (.t 11)),
     y 13 (.call (.c (.func (.func 21) #[] #[])) [(.t 7), (.t 12)] true),
     y 14 (.call (.c (.func (.func 94) #[] #[])) [(.t 3), (.t 13)] false),
     y 15 (.nilCheck (.t 2)),
     y 16 (.addOff 7 (.t 15)),
     y 17 (.addOff 11 (.t 16)),
     x (.store 1 (.t 17) (.t 14))])
  (.seq
   (.region [
     y 18 (.mv (.t 0)),
     y 19 (.mv (.t 0)),
     y 20 (.nilCheck (.t 19)),
     y 21 (.addOff 7 (.t 20)),
     y 22 (.addOff 11 (.t 21)),
     y 23 (.load false 1 (.t 22)),
     y 24 (.mv (.t 0)),
     y 25 (.nilCheck (.t 24)),
     y 26 (.addOff 1 (.t 25)),
     y 27 (.addOff 1 (.t 26)),
     y 28 (.load false 1 (.t 27)),
     y 29 (.conv .u64 (.t 28)),
     y 30 (.bin .leq .int (.t 23) (.t 29)),
     y 31 (.call (.c (.func (.func 95) #[] #[])) [(.t 18), (.t 30)] false)])
  (.region [
    y 32 (.mv (.t 0)),
    y 33 (.call (.c (.func (.func 96) #[] #[])) [(.t 32)] false)]))),
  []⟩

/-- (*wainscot/fill.step).cut -/
def i83 : IFun := ⟨16,
  (.seq
   (.region [
     y 2 (.mv (.t 0)),
     y 3 (.mv (.t 0)),
     y 4 (.nilCheck (.t 3)),
     y 5 (.addOff 1 (.t 4)),
     y 6 (.load true 6 (.t 5)),
     y 7 (.call (.c (.func (.func 26) #[] #[])) [(.t 6)] true),
     y 8 (.mv (.t 0)),
     y 9 (.nilCheck (.t 8)),
     y 10 (.addOff 7 (.t 9)),
     y 11 (.addOff 11 (.t 10)),
     y 12 (.load false 1 (.t 11)),
     y 13 (.call (.c (.func (.func 101) #[] #[])) [(.t 2), (.t 7), (.t 12)] false)])
  (.region [
    y 14 (.mv (.t 0)),
    y 15 (.call (.c (.func (.func 96) #[] #[])) [(.t 14)] false)])),
  []⟩

/-- (*wainscot/fill.step).less -/
def i84 : IFun := ⟨23,
  (.seq
   (.region [
     y 5 (.mv (.t 0)),
     y 6 (.nilCheck (.t 5)),
     y 7 (.addOff 0 (.t 6)),
     y 8 (.load false 1 (.t 7)),
     y 9 (.mv (.t 0)),
     y 10 (.nilCheck (.t 9)),
     y 11 (.addOff 1 (.t 10)),
     y 12 (.load true 6 (.t 11)),
     y 13 (.call (.c (.func (.func 28) #[] #[])) [(.t 12)] true),
     y 14 (.call (.c (.func (.func 27) #[] #[])) [(.t 8), (.t 13), (.c (.int .u64 18446744073709551615))] false),
     y 4 (.mv (.t 14)),
     y 15 (.extract (.t 4) 0),
     y 16 (.extract (.t 4) 1),
     y 2 (.mv (.t 15)),
     y 3 (.mv (.t 16))])
  (.seq
   (.region [
     y 17 (.mv (.t 0)),
     y 18 (.mv (.t 3)),
     y 19 (.bin .eql .int (.t 18) (.c (.int .i64 0))),
     y 20 (.call (.c (.func (.func 95) #[] #[])) [(.t 17), (.t 19)] false)])
  (.region [
    y 21 (.mv (.t 0)),
    y 22 (.call (.c (.func (.func 96) #[] #[])) [(.t 21)] false)]))),
  []⟩

/-- math/bits.RotateLeft64 -/
def i85 : IFun := ⟨17,
  (.seq
   (.region [
     y 4 (.mv (.c (.int .u64 0)))])
  (.seq
   (.region [
     y 6 (.mv (.t 1)),
     y 7 (.conv .u64 (.t 6)),
     y 8 (.bin .and .int (.t 7) (.c (.int .u64 63))),
     y 5 (.mv (.t 8))])
  (.seq
   (.region [
     y 9 (.mv (.t 0)),
     y 10 (.mv (.t 5)),
     y 11 (.bin .shl .int (.t 9) (.t 10)),
     y 12 (.mv (.t 0)),
     y 13 (.mv (.t 5)),
     y 14 (.bin .sub .int (.c (.int .u64 64)) (.t 13)),
     y 15 (.bin .shr .int (.t 12) (.t 14)),
     y 16 (.bin .or .int (.t 11) (.t 15)),
     y 4 (.mv (.t 16))])
  .ret))),
  [.tmp 4]⟩

/-- wainscot/chart.Head$1 -/
def i86 : IFun := ⟨4,
  (.seq
   (.region [
     y 1 (.mv (.c (.int .i64 0)))])
  (.seq
   (.region [
     y 2 (.load false 1 (.t 0)),
     y 3 (.bin .mul .int (.c (.int .i64 4)) (.t 2)),
     y 1 (.mv (.t 3))])
  .ret)),
  [.tmp 1]⟩

/-- wainscot/count.told[int] -/
def i87 : IFun := ⟨34,
  (.seq
   (.region [
     y 8 (.mv (.c (.int .i64 0))),
     y 9 (.mv (.c (.int .i64 0))),
     y 10 (.mv (.c (.bool false)))])
  (.seq
   (.region [
     y 13 (.mv (.t 0)),
     y 14 (.bin .shr .int (.t 13) (.c (.int .u64 6))),
     y 15 (.conv .i64 (.t 14)),
     y 16 (.mv (.t 1)),
     y 17 (.bin .sub .int (.t 15) (.t 16)),
     y 18 (.mv (.t 0)),
     y 19 (.bin .and .int (.t 18) (.c (.int .u64 63))),
     y 20 (.conv .i64 (.t 19)),
     y 21 (.mv (.t 2)),
     y 22 (.bin .sub .int (.t 20) (.t 21)),
     y 11 (.mv (.t 17)),
     y 12 (.mv (.t 22))])
  (.seq
   (.seq
    (.region [
      y 23 (.mv (.t 0)),
      y 24 (.bin .gtr .int (.t 23) (.c (.int .u64 4095))),
      y 25 (.mv (.t 24)),
      ⟨(some 26), .mv (.t 3), (some (25, false)), [], [], false⟩,
      ⟨(some 27), .mv (.t 11), (some (25, false)), [], [], false⟩,
      ⟨(some 28), .mv (.t 12), (some (25, false)), [], [], false⟩,
      ⟨(some 29), .call (.t 26) [(.t 27), (.t 28)] false, (some (25, false)), [], [], false⟩,
      ⟨(some 30), .un .not (.t 29), (some (25, false)), [], [], false⟩,
      y 31 (.pick (.t 25) (.c (.bool true)) (.t 30))])
   (.cond (.t 31)
    (.seq
     (.region [
       y 8 (.mv (.c (.int .i64 0))),
       y 9 (.mv (.c (.int .i64 0))),
       y 10 (.mv (.c (.bool false)))])
    .ret)
    .skip))
  (.seq
   (.region [
     y 32 (.mv (.t 11)),
     y 33 (.mv (.t 12)),
     y 8 (.mv (.t 32)),
     y 9 (.mv (.t 33)),
     y 10 (.mv (.c (.bool true)))])
  .ret)))),
  [.tmp 8, .tmp 9, .tmp 10]⟩

/-- wainscot/count.HeadOf$1 -/
def i88 : IFun := ⟨15,
  (.seq
   (.region [
     y 4 (.mv (.c (.bool false)))])
  (.seq
   (.region [
     y 8 (.mv (.t 0)),
     y 9 (.mv (.t 1)),
     y 10 (.call (.c (.func (.func 89) #[] #[])) [(.t 8), (.t 9)] true),
     y 7 (.mv (.t 10)),
     y 11 (.extract (.t 7) 0),
     y 12 (.extract (.t 7) 1),
     y 5 (.mv (.t 11)),
     y 6 (.mv (.t 12))])
  (.seq
   (.region [
     y 13 (.mv (.t 6)),
     y 14 (.bin .eql .int (.t 13) (.c (.int .i64 0))),
     y 4 (.mv (.t 14))])
  .ret))),
  [.tmp 4]⟩

/-- wainscot/count.Head -/
def i89 : IFun := ⟨33,
  (.seq
   (.region [
     y 4 (.mv (.c (.int .u64 0))),
     y 5 (.mv (.c (.int .i64 0)))])
  (.seq
   (.block 0
    (.seq
     (.region [
       y 7 (.mv (.t 0)),
       y 8 (.bin .eql .int (.t 7) (.c (.int .i64 (-1)))),
       y 9 (.mv (.t 8)),
       ⟨(some 10), .mv (.t 1), (some (9, true)), [], [], false⟩,
       ⟨(some 11), .bin .eql .int (.t 10) (.c (.int .i64 (-1))), (some (9, true)), [], [], false⟩,
       y 12 (.pick (.t 9) (.t 11) (.c (.bool false))),
       y 6 (.mv (.t 12))])
    (.cond (.t 6)
     (.seq
      (.region [
        y 4 (.mv (.c (.int .u64 0))),
        y 5 (.mv (.c (.int .i64 0)))])
     .ret)
     (.seq
      (.region [
        y 14 (.mv (.t 0)),
        y 15 (.call (.c (.func (.func 29) #[] #[])) [(.t 14)] true),
        y 16 (.un .not (.t 15)),
        y 17 (.mv (.t 16)),
        ⟨(some 18), .mv (.t 1), (some (17, false)), [], [], false⟩,
        ⟨(some 19), .bin .lss .int (.t 18) (.c (.int .i64 (-1))), (some (17, false)), [], [], false⟩,
        y 20 (.pick (.t 17) (.c (.bool true)) (.t 19)),
        y 21 (.mv (.t 20)),
        ⟨(some 22), .mv (.t 1), (some (21, false)), [], [], false⟩,
        ⟨(some 23), .bin .geq .int (.t 22) (.c (.int .i64 16)), (some (21, false)), [], [], false⟩,
        y 24 (.pick (.t 21) (.c (.bool true)) (.t 23)),
        y 13 (.mv (.t 24))])
     (.cond (.t 13)
      (.seq
       (.region [
         y 4 (.mv (.c (.int .u64 0))),
         y 5 (.mv (.c (.int .i64 2)))])
      .ret)
      .skip)))))
  (.seq
   (.region [
     y 25 (.mv (.t 0)),
     y 26 (.bin .add .int (.t 25) (.c (.int .i64 1))),
     y 27 (.conv .u64 (.t 26)),
     y 28 (.bin .shl .int (.t 27) (.c (.int .u64 6))),
     y 29 (.mv (.t 1)),
     y 30 (.bin .add .int (.t 29) (.c (.int .i64 1))),
     y 31 (.conv .u64 (.t 30)),
     y 32 (.bin .or .int (.t 28) (.t 31)),
     y 4 (.mv (.t 32)),
     y 5 (.mv (.c (.int .i64 0)))])
  .ret))),
  [.tmp 4, .tmp 5]⟩

/-- wainscot/link.List -/
def i90 : IFun := ⟨58,
  (.seq
   (.region [
     y 6 (.mv (.c (.slice none 0 0))),
     y 7 (.mv (.c (.int .i64 0)))])
  (.seq
   (.seq
    (.region [
      y 12 (.mv (.t 0)),
      y 13 (.lenS (.t 12)),
      y 14 (.bin .gtr .int (.t 13) (.c (.int .i64 16))),
      y 15 (.mv (.t 14)),
      ⟨(some 16), .mv (.t 2), (some (15, false)), [], [], false⟩,
      ⟨(some 17), .bin .lss .int (.t 16) (.c (.int .i64 (-1))), (some (15, false)), [], [], false⟩,
      y 18 (.pick (.t 15) (.c (.bool true)) (.t 17)),
      y 19 (.mv (.t 18)),
      ⟨(some 20), .mv (.t 2), (some (19, false)), [], [], false⟩,
      ⟨(some 21), .mv (.t 0), (some (19, false)), [], [], false⟩,
      ⟨(some 22), .lenS (.t 21), (some (19, false)), [], [], false⟩,
      ⟨(some 23), .bin .geq .int (.t 20) (.t 22), (some (19, false)), [], [], false⟩,
      y 24 (.pick (.t 19) (.c (.bool true)) (.t 23))])
   (.cond (.t 24)
    (.seq
     (.region [
       y 6 (.mv (.c (.slice none 0 0))),
       y 7 (.mv (.c (.int .i64 2)))])
    .ret)
    .skip))
  (.seq
   (.region [
     y 8 (.new 122 [(.bool false), (.bool false), (.bool false), (.bool false), (.bool false), (.bool false), (.bool false), (.bool false), (.bool false), (.bool false), (.bool false), (.bool false), (.bool false), (.bool false), (.bool false), (.bool false)])])
  (.seq
   (.region [
     y 9 (.mv (.c (.slice none 0 0)))])
  (.seq
   .skip
  (.seq
   (.block 0
    (.loop
     (.block 1
      (.seq
       (.block 2
        (.seq
         (.region [
           y 26 (.mv (.t 2)),
           y 27 (.bin .eql .int (.t 26) (.c (.int .i64 (-1)))),
           y 25 (.mv (.t 27))])
        (.cond (.t 25)
         (.exit 0)
         (.seq
          (.region [
            y 29 (.mv (.t 2)),
            y 30 (.idxA 16 1 (.t 8) (.t 29)),
            y 31 (.load false 1 (.t 30)),
            y 28 (.mv (.t 31))])
         (.cond (.t 28)
          (.seq
           (.region [
             y 6 (.mv (.c (.slice none 0 0))),
             y 7 (.mv (.c (.int .i64 150)))])
          .ret)
          .skip)))))
      (.seq
       (.region [
         y 32 (.mv (.t 2)),
         y 33 (.idxA 16 1 (.t 8) (.t 32)),
         x (.store 1 (.t 33) (.c (.bool true)))])
      (.seq
       (.region [
         y 34 (.mv (.t 9)),
         y 35 (.mv (.t 2)),
         y 36 (.buildSlice 3 [(.int .i64 0)] 1 [(0, 1, (.t 35))]),
         y 37 (.append 3 1 8 (.t 34) (.t 36)),
         y 9 (.mv (.t 37))])
      (.seq
       (.region [
         y 39 (.mv (.t 0)),
         y 40 (.mv (.t 2)),
         y 41 (.idxS 1 (.t 39) (.t 40)),
         y 42 (.load false 1 (.t 41)),
         y 43 (.mv (.t 1)),
         y 44 (.mv (.t 2)),
         y 45 (.call (.c (.func (.func 102) #[] #[])) [(.t 42), (.t 43), (.t 44)] true),
         y 38 (.mv (.t 45)),
         y 46 (.extract (.t 38) 0),
         y 47 (.extract (.t 38) 1),
         y 10 (.mv (.t 46)),
         y 11 (.mv (.t 47))])
      (.seq
       (.seq
        (.region [
          y 48 (.mv (.t 11)),
          y 49 (.un .not (.t 48)),
          y 50 (.mv (.t 49)),
          ⟨(some 51), .mv (.t 10), (some (50, false)), [], [], false⟩,
          ⟨(some 52), .mv (.t 0), (some (50, false)), [], [], false⟩,
          ⟨(some 53), .lenS (.t 52), (some (50, false)), [], [], false⟩,
          ⟨(some 54), .bin .geq .int (.t 51) (.t 53), (some (50, false)), [], [], false⟩,
          y 55 (.pick (.t 50) (.c (.bool true)) (.t 54))])
       (.cond (.t 55)
        (.seq
         (.region [
           y 6 (.mv (.c (.slice none 0 0))),
           y 7 (.mv (.c (.int .i64 150)))])
        .ret)
        .skip))
      (.region [
        y 56 (.mv (.t 10)),
        y 2 (.mv (.t 56))])))))))))
  (.seq
   (.region [
     y 57 (.mv (.t 9)),
     y 6 (.mv (.t 57)),
     y 7 (.mv (.c (.int .i64 0)))])
  .ret))))))),
  [.tmp 6, .tmp 7]⟩

/-- wainscot/count.PartOf -/
def i91 : IFun := ⟨15,
  (.seq
   (.region [
     y 2 (.mv (.c (.int .i64 0))),
     y 3 (.mv (.c (.int .i64 0))),
     y 4 (.mv (.c (.bool false)))])
  (.seq
   (.region [
     y 6 (.mv (.t 0)),
     y 7 (.call (.c (.func (.func 87) #[] #[])) [(.t 6), (.c (.int .i64 0)), (.c (.int .i64 1)), (.c (.func (.func 104) #[] #[]))] true),
     y 5 (.mv (.t 7)),
     y 8 (.extract (.t 5) 0),
     y 9 (.extract (.t 5) 1),
     y 10 (.extract (.t 5) 2),
     y 3 (.mv (.t 8)),
     y 2 (.mv (.t 9)),
     y 4 (.mv (.t 10))])
  (.seq
   (.seq
    (.region [
      y 11 (.mv (.t 4)),
      y 12 (.un .not (.t 11))])
   (.cond (.t 12)
    (.seq
     (.region [
       y 2 (.mv (.c (.int .i64 (-1)))),
       y 3 (.mv (.c (.int .i64 0))),
       y 4 (.mv (.c (.bool false)))])
    .ret)
    .skip))
  (.seq
   (.region [
     y 13 (.mv (.t 2)),
     y 14 (.mv (.t 3)),
     y 2 (.mv (.t 13)),
     y 3 (.mv (.t 14)),
     y 4 (.mv (.c (.bool true)))])
  .ret)))),
  [.tmp 2, .tmp 3, .tmp 4]⟩

/-- (*wainscot/fill.step).either -/
def i92 : IFun := ⟨15,
  (.seq
   (.region [
     y 8 (.mv (.t 1))])
  (.cond (.t 8)
   (.region [
     y 9 (.mv (.t 0)),
     y 10 (.mv (.t 2)),
     y 11 (.call (.c (.func (.func 99) #[] #[])) [(.t 9), (.t 10)] false)])
   (.region [
     y 12 (.mv (.t 0)),
     y 13 (.mv (.t 3)),
     y 14 (.call (.c (.func (.func 99) #[] #[])) [(.t 12), (.t 13)] false)]))),
  []⟩

/-- (*wainscot/fill.step).cas2 -/
def i93 : IFun := ⟨33,
  (.seq
   (.region [
     y 12 (.mv (.c (.bool false)))])
  (.seq
   (.region [
     y 16 (.mv (.t 0)),
     y 17 (.nilCheck (.t 16)),
     y 18 (.addOff 0 (.t 17)),
     y 19 (.load false 1 (.t 18)),
     y 20 (.mv (.t 1)),
     y 21 (.mv (.t 2)),
     y 22 (.mv (.t 3)),
     y 23 (.mv (.t 4)),
     y 24 (.mv (.t 5)),
     y 25 (.call (.c (.func (.func 105) #[] #[])) [(.t 19), (.t 20), (.t 21), (.t 22), (.t 23), (.t 24)] false),
     y 15 (.mv (.t 25)),
     y 26 (.extract (.t 15) 0),
     y 27 (.extract (.t 15) 1),
     y 13 (.mv (.t 26)),
     y 14 (.mv (.t 27))])
  (.seq
   (.region [
     y 28 (.mv (.t 0)),
     y 29 (.mv (.t 14)),
     y 30 (.bin .eql .int (.t 29) (.c (.int .i64 0))),
     y 31 (.call (.c (.func (.func 95) #[] #[])) [(.t 28), (.t 30)] false)])
  (.seq
   (.region [
     y 32 (.mv (.t 13)),
     y 12 (.mv (.t 32))])
  .ret)))),
  [.tmp 12]⟩

/-- (*wainscot/fill.step).load -/
def i94 : IFun := ⟨21,
  (.seq
   (.region [
     y 4 (.mv (.c (.int .u64 0)))])
  (.seq
   (.region [
     y 8 (.mv (.t 0)),
     y 9 (.nilCheck (.t 8)),
     y 10 (.addOff 0 (.t 9)),
     y 11 (.load false 1 (.t 10)),
     y 12 (.mv (.t 1)),
     y 13 (.call (.c (.func (.func 25) #[] #[])) [(.t 11), (.t 12)] false),
     y 7 (.mv (.t 13)),
     y 14 (.extract (.t 7) 0),
     y 15 (.extract (.t 7) 1),
     y 5 (.mv (.t 14)),
     y 6 (.mv (.t 15))])
  (.seq
   (.region [
     y 16 (.mv (.t 0)),
     y 17 (.mv (.t 6)),
     y 18 (.bin .eql .int (.t 17) (.c (.int .i64 0))),
     y 19 (.call (.c (.func (.func 95) #[] #[])) [(.t 16), (.t 18)] false)])
  (.seq
   (.region [
     y 20 (.mv (.t 5)),
     y 4 (.mv (.t 20))])
  .ret)))),
  [.tmp 4]⟩

/-- (*wainscot/fill.step).must -/
def i95 : IFun := ⟨15,
  (.region [
    y 4 (.mv (.t 0)),
    y 5 (.mv (.t 0)),
    y 6 (.nilCheck (.t 5)),
    y 7 (.addOff 24 (.t 6)),
    y 8 (.load false 1 (.t 7)),
    y 9 (.mv (.t 8)),
    ⟨(some 10), .mv (.t 1), (some (9, false)), [], [], false⟩,
    ⟨(some 11), .un .not (.t 10), (some (9, false)), [], [], false⟩,
    y 12 (.pick (.t 9) (.c (.bool true)) (.t 11)),
    y 13 (.nilCheck (.t 4)),
    y 14 (.addOff 24 (.t 13)),
    x (.store 1 (.t 14) (.t 12))]),
  []⟩

/-- (*wainscot/fill.step).on -/
def i96 : IFun := ⟨11,
  (.region [
    y 2 (.mv (.t 0)),
    y 3 (.mv (.t 0)),
    y 4 (.nilCheck (.t 3)),
    y 5 (.addOff 7 (.t 4)),
    y 6 (.addOff 2 (.t 5)),
    y 7 (.load false 1 (.t 6)),
    y 8 (.idxA 50 1 (.g 0) (.t 7)),
    y 9 (.load false 1 (.t 8)),
    y 10 (.call (.c (.func (.func 99) #[] #[])) [(.t 2), (.t 9)] false)]),
  []⟩

/-- wainscot/fill.behind -/
def i97 : IFun := ⟨8,
  (.seq
   (.region [
     y 2 (.mv (.c (.int .i64 0)))])
  (.seq
   (.seq
    (.region [
      y 3 (.mv (.t 0)),
      y 4 (.bin .lss .int (.t 3) (.c (.int .i64 0)))])
   (.cond (.t 4)
    (.seq
     (.region [
       y 5 (.mv (.t 0)),
       y 2 (.mv (.t 5))])
    .ret)
    .skip))
  (.seq
   (.region [
     y 6 (.mv (.t 0)),
     y 7 (.bin .add .int (.t 6) (.c (.int .i64 1))),
     y 2 (.mv (.t 7))])
  .ret))),
  [.tmp 2]⟩

/-- (*wainscot/fill.step).slab -/
def i98 : IFun := ⟨22,
  (.seq
   (.region [
     y 2 (.new 52 [(.int .i64 0), (.int .i64 0), (.bool false), (.bool false)])])
  (.seq
   (.region [
     y 6 (.mv (.t 0)),
     y 7 (.nilCheck (.t 6)),
     y 8 (.addOff 7 (.t 7)),
     y 9 (.addOff 10 (.t 8)),
     y 10 (.load false 1 (.t 9)),
     y 11 (.call (.c (.func (.func 65) #[] #[])) [(.t 10)] true),
     y 5 (.mv (.t 11)),
     y 12 (.extract (.t 5) 0),
     y 13 (.extract (.t 5) 1),
     y 3 (.new 52 [(.int .i64 0), (.int .i64 0), (.bool false), (.bool false)]),
     x (.store 4 (.t 3) (.t 12)),
     y 4 (.mv (.t 13))])
  (.seq
   (.region [
     y 14 (.mv (.t 0)),
     y 15 (.mv (.t 4)),
     y 16 (.mv (.t 15)),
     ⟨(some 17), .addOff 3 (.t 3), (some (16, true)), [], [], false⟩,
     ⟨(some 18), .load false 1 (.t 17), (some (16, true)), [], [], false⟩,
     y 19 (.pick (.t 16) (.t 18) (.c (.bool false))),
     y 20 (.call (.c (.func (.func 95) #[] #[])) [(.t 14), (.t 19)] false)])
  (.seq
   (.region [
     y 21 (.load true 4 (.t 3)),
     x (.store 4 (.t 2) (.t 21))])
  .ret)))),
  [.cell 2 true 4]⟩

/-- (*wainscot/fill.step).to -/
def i99 : IFun := ⟨9,
  (.region [
    y 4 (.mv (.t 0)),
    y 5 (.mv (.t 1)),
    y 6 (.nilCheck (.t 4)),
    y 7 (.addOff 7 (.t 6)),
    y 8 (.addOff 2 (.t 7)),
    x (.store 1 (.t 8) (.t 5))]),
  []⟩

/-- (*wainscot/mem.Mem).Cas -/
def i100 : IFun := ⟨16,
  (.seq
   (.region [
     y 6 (.box 22 1 (.t 2)),
     y 7 (.box 22 1 (.t 3)),
     y 8 (.new 4 [(.bool false)]),
     y 9 (.mv (.c (.int .i64 0)))])
  (.seq
   (.region [
     y 10 (.mv (.t 0)),
     y 11 (.mv (.t 1)),
     y 12 (.mkFunc 106 [] [(.t 6), (.t 8), (.t 7)]),
     y 13 (.call (.c (.func (.func 34) #[] #[])) [(.t 10), (.t 11), (.c (.int .i64 1)), (.t 12)] false),
     y 9 (.mv (.t 13))])
  (.seq
   (.region [
     y 14 (.load false 1 (.t 8)),
     y 15 (.mv (.t 9)),
     x (.store 1 (.t 8) (.t 14)),
     y 9 (.mv (.t 15))])
  .ret))),
  [.cell 8 false 1, .tmp 9]⟩

/-- (*wainscot/fill.step).store -/
def i101 : IFun := ⟨16,
  (.region [
    y 6 (.mv (.t 0)),
    y 7 (.mv (.t 0)),
    y 8 (.nilCheck (.t 7)),
    y 9 (.addOff 0 (.t 8)),
    y 10 (.load false 1 (.t 9)),
    y 11 (.mv (.t 1)),
    y 12 (.mv (.t 2)),
    y 13 (.call (.c (.func (.func 14) #[] #[])) [(.t 10), (.t 11), (.t 12)] false),
    y 14 (.bin .eql .int (.t 13) (.c (.int .i64 0))),
    y 15 (.call (.c (.func (.func 95) #[] #[])) [(.t 6), (.t 14)] false)]),
  []⟩

/-- wainscot/link.Show -/
def i102 : IFun := ⟨21,
  (.seq
   (.region [
     y 6 (.mv (.c (.int .i64 0))),
     y 7 (.mv (.c (.bool false)))])
  (.seq
   (.seq
    (.region [
      y 8 (.mv (.t 2)),
      y 9 (.call (.c (.func (.func 107) #[] #[])) [(.t 8)] true),
      y 10 (.un .not (.t 9))])
   (.cond (.t 10)
    (.seq
     (.region [
       y 6 (.mv (.c (.int .i64 0))),
       y 7 (.mv (.c (.bool false)))])
    .ret)
    .skip))
  (.seq
   (.seq
    (.region [
      y 11 (.mv (.t 0)),
      y 12 (.mv (.t 1)),
      y 13 (.mv (.t 2)),
      y 14 (.call (.c (.func (.func 57) #[] #[])) [(.t 12), (.t 13)] true),
      y 15 (.bin .xor .int (.t 11) (.t 14)),
      y 0 (.mv (.t 15))])
   (.seq
    (.region [
      y 16 (.mv (.t 0)),
      y 17 (.bin .gtr .int (.t 16) (.c (.int .u64 16)))])
   (.cond (.t 17)
    (.seq
     (.region [
       y 6 (.mv (.c (.int .i64 0))),
       y 7 (.mv (.c (.bool false)))])
    .ret)
    .skip)))
  (.seq
   (.region [
     y 18 (.mv (.t 0)),
     y 19 (.conv .i64 (.t 18)),
     y 20 (.bin .sub .int (.t 19) (.c (.int .i64 1))),
     y 6 (.mv (.t 20)),
     y 7 (.mv (.c (.bool true)))])
  .ret)))),
  [.tmp 6, .tmp 7]⟩

/-- wainscot/link.Hide -/
def i103 : IFun := ⟨27,
  (.seq
   (.region [
     y 6 (.mv (.c (.int .u64 0))),
     y 7 (.mv (.c (.int .i64 0)))])
  (.seq
   (.seq
    (.region [
      y 8 (.mv (.t 0)),
      y 9 (.bin .neq .int (.t 8) (.c (.int .i64 (-1)))),
      y 10 (.mv (.t 9)),
      ⟨(some 11), .mv (.t 0), (some (10, true)), [], [], false⟩,
      ⟨(some 12), .call (.c (.func (.func 107) #[] #[])) [(.t 11)] true, (some (10, true)), [], [], false⟩,
      ⟨(some 13), .un .not (.t 12), (some (10, true)), [], [], false⟩,
      y 14 (.pick (.t 10) (.t 13) (.c (.bool false))),
      y 15 (.mv (.t 14)),
      ⟨(some 16), .mv (.t 2), (some (15, false)), [], [], false⟩,
      ⟨(some 17), .call (.c (.func (.func 107) #[] #[])) [(.t 16)] true, (some (15, false)), [], [], false⟩,
      ⟨(some 18), .un .not (.t 17), (some (15, false)), [], [], false⟩,
      y 19 (.pick (.t 15) (.c (.bool true)) (.t 18))])
   (.cond (.t 19)
    (.seq
     (.region [
       y 6 (.mv (.c (.int .u64 0))),
       y 7 (.mv (.c (.int .i64 2)))])
    .ret)
    .skip))
  (.seq
   (.region [
     y 20 (.mv (.t 0)),
     y 21 (.bin .add .int (.t 20) (.c (.int .i64 1))),
     y 22 (.conv .u64 (.t 21)),
     y 23 (.mv (.t 1)),
     y 24 (.mv (.t 2)),
     y 25 (.call (.c (.func (.func 57) #[] #[])) [(.t 23), (.t 24)] true),
     y 26 (.bin .xor .int (.t 22) (.t 25)),
     y 6 (.mv (.t 26)),
     y 7 (.mv (.c (.int .i64 0)))])
  .ret))),
  [.tmp 6, .tmp 7]⟩

/-- wainscot/count.PartOf$1 -/
def i104 : IFun := ⟨15,
  (.seq
   (.region [
     y 4 (.mv (.c (.bool false)))])
  (.seq
   (.region [
     y 8 (.mv (.t 1)),
     y 9 (.mv (.t 0)),
     y 10 (.call (.c (.func (.func 12) #[] #[])) [(.t 8), (.t 9)] true),
     y 7 (.mv (.t 10)),
     y 11 (.extract (.t 7) 0),
     y 12 (.extract (.t 7) 1),
     y 5 (.mv (.t 11)),
     y 6 (.mv (.t 12))])
  (.seq
   (.region [
     y 13 (.mv (.t 6)),
     y 14 (.bin .eql .int (.t 13) (.c (.int .i64 0))),
     y 4 (.mv (.t 14))])
  .ret))),
  [.tmp 4]⟩

/-- (*wainscot/mem.Mem).Cas2 -/
def i105 : IFun := ⟨20,
  (.seq
   (.region [
     y 8 (.box 22 1 (.t 2)),
     y 9 (.box 22 1 (.t 3)),
     y 10 (.box 22 1 (.t 4)),
     y 11 (.box 22 1 (.t 5)),
     y 12 (.new 4 [(.bool false)]),
     y 13 (.mv (.c (.int .i64 0)))])
  (.seq
   (.region [
     y 14 (.mv (.t 0)),
     y 15 (.mv (.t 1)),
     y 16 (.mkFunc 108 [] [(.t 8), (.t 9), (.t 12), (.t 10), (.t 11)]),
     y 17 (.call (.c (.func (.func 34) #[] #[])) [(.t 14), (.t 15), (.c (.int .i64 2)), (.t 16)] false),
     y 13 (.mv (.t 17))])
  (.seq
   (.region [
     y 18 (.load false 1 (.t 12)),
     y 19 (.mv (.t 13)),
     x (.store 1 (.t 12) (.t 18)),
     y 13 (.mv (.t 19))])
  .ret))),
  [.cell 12 false 1, .tmp 13]⟩

/-- (*wainscot/mem.Mem).Cas$1 -/
def i106 : IFun := ⟨14,
  (.seq
   (.region [
     y 5 (.mv (.t 0)),
     y 6 (.idxS 1 (.t 5) (.c (.int .i64 0))),
     y 7 (.load false 1 (.t 6)),
     y 8 (.load false 1 (.t 1)),
     y 9 (.bin .eql .int (.t 7) (.t 8)),
     x (.store 1 (.t 2) (.t 9))])
  (.seq
   (.region [
     y 10 (.load false 1 (.t 2))])
  (.cond (.t 10)
   (.region [
     y 11 (.mv (.t 0)),
     y 12 (.load false 1 (.t 3)),
     y 13 (.idxS 1 (.t 11) (.c (.int .i64 0))),
     x (.store 1 (.t 13) (.t 12))])
   .skip))),
  []⟩

/-- wainscot/link.object -/
def i107 : IFun := ⟨9,
  (.seq
   (.region [
     y 2 (.mv (.c (.bool false)))])
  (.seq
   (.region [
     y 3 (.mv (.t 0)),
     y 4 (.bin .leq .int (.c (.int .i64 0)) (.t 3)),
     y 5 (.mv (.t 4)),
     ⟨(some 6), .mv (.t 0), (some (5, true)), [], [], false⟩,
     ⟨(some 7), .bin .lss .int (.t 6) (.c (.int .i64 16)), (some (5, true)), [], [], false⟩,
     y 8 (.pick (.t 5) (.t 7) (.c (.bool false))),
     y 2 (.mv (.t 8))])
  .ret)),
  [.tmp 2]⟩

/-- (*wainscot/mem.Mem).Cas2$1 -/
def i108 : IFun := ⟨25,
  (.seq
   (.region [
     y 7 (.mv (.t 0)),
     y 8 (.idxS 1 (.t 7) (.c (.int .i64 0))),
     y 9 (.load false 1 (.t 8)),
     y 10 (.mv (.t 0)),
     y 11 (.idxS 1 (.t 10) (.c (.int .i64 1))),
     y 12 (.load false 1 (.t 11)),
     y 13 (.build [(.int .u64 0), (.int .u64 0)] [(0, 1, (.t 9)), (1, 1, (.t 12))]),
     y 14 (.load false 1 (.t 1)),
     y 15 (.load false 1 (.t 2)),
     y 16 (.build [(.int .u64 0), (.int .u64 0)] [(0, 1, (.t 14)), (1, 1, (.t 15))]),
     y 17 (.bin .eql (.plain [(some .u64), (some .u64)]) (.t 13) (.t 16)),
     x (.store 1 (.t 3) (.t 17))])
  (.seq
   (.region [
     y 18 (.load false 1 (.t 3))])
  (.cond (.t 18)
   (.region [
     y 19 (.mv (.t 0)),
     y 20 (.mv (.t 0)),
     y 21 (.load false 1 (.t 4)),
     y 22 (.load false 1 (.t 5)),
     y 23 (.idxS 1 (.t 19) (.c (.int .i64 0))),
     ⟨none, .store 1 (.t 23) (.t 21), none, [], [3], false⟩,
     y 24 (.idxS 1 (.t 20) (.c (.int .i64 1))),
     x (.store 1 (.t 24) (.t 22))])
   .skip))),
  []⟩

theorem c3 : cFun Tryz.prog 1 quiet Tryz.f3 = some i3 := by kernel_rfl
theorem g3 : Tryz.prog.funcs[3]? = some Tryz.f3 := by kernel_rfl
theorem c7 : cFun Tryz.prog 1 quiet Tryz.f7 = some i7 := by kernel_rfl
theorem g7 : Tryz.prog.funcs[7]? = some Tryz.f7 := by kernel_rfl
theorem c8 : cFun Tryz.prog 1 quiet Tryz.f8 = some i8 := by kernel_rfl
theorem g8 : Tryz.prog.funcs[8]? = some Tryz.f8 := by kernel_rfl
theorem c9 : cFun Tryz.prog 1 quiet Tryz.f9 = some i9 := by kernel_rfl
theorem g9 : Tryz.prog.funcs[9]? = some Tryz.f9 := by kernel_rfl
theorem c11 : cFun Tryz.prog 1 quiet Tryz.f11 = some i11 := by kernel_rfl
theorem g11 : Tryz.prog.funcs[11]? = some Tryz.f11 := by kernel_rfl
theorem c12 : cFun Tryz.prog 1 quiet Tryz.f12 = some i12 := by kernel_rfl
theorem g12 : Tryz.prog.funcs[12]? = some Tryz.f12 := by kernel_rfl
theorem c13 : cFun Tryz.prog 1 quiet Tryz.f13 = some i13 := by kernel_rfl
theorem g13 : Tryz.prog.funcs[13]? = some Tryz.f13 := by kernel_rfl
theorem c14 : cFun Tryz.prog 1 quiet Tryz.f14 = some i14 := by kernel_rfl
theorem g14 : Tryz.prog.funcs[14]? = some Tryz.f14 := by kernel_rfl
theorem c15 : cFun Tryz.prog 1 quiet Tryz.f15 = some i15 := by kernel_rfl
theorem g15 : Tryz.prog.funcs[15]? = some Tryz.f15 := by kernel_rfl
theorem c16 : cFun Tryz.prog 1 quiet Tryz.f16 = some i16 := by kernel_rfl
theorem g16 : Tryz.prog.funcs[16]? = some Tryz.f16 := by kernel_rfl
theorem c17 : cFun Tryz.prog 1 quiet Tryz.f17 = some i17 := by kernel_rfl
theorem g17 : Tryz.prog.funcs[17]? = some Tryz.f17 := by kernel_rfl
theorem c18 : cFun Tryz.prog 1 quiet Tryz.f18 = some i18 := by kernel_rfl
theorem g18 : Tryz.prog.funcs[18]? = some Tryz.f18 := by kernel_rfl
theorem c19 : cFun Tryz.prog 1 quiet Tryz.f19 = some i19 := by kernel_rfl
theorem g19 : Tryz.prog.funcs[19]? = some Tryz.f19 := by kernel_rfl
theorem c20 : cFun Tryz.prog 1 quiet Tryz.f20 = some i20 := by kernel_rfl
theorem g20 : Tryz.prog.funcs[20]? = some Tryz.f20 := by kernel_rfl
theorem c21 : cFun Tryz.prog 1 quiet Tryz.f21 = some i21 := by kernel_rfl
theorem g21 : Tryz.prog.funcs[21]? = some Tryz.f21 := by kernel_rfl
theorem c22 : cFun Tryz.prog 1 quiet Tryz.f22 = some i22 := by kernel_rfl
theorem g22 : Tryz.prog.funcs[22]? = some Tryz.f22 := by kernel_rfl
theorem c23 : cFun Tryz.prog 1 quiet Tryz.f23 = some i23 := by kernel_rfl
theorem g23 : Tryz.prog.funcs[23]? = some Tryz.f23 := by kernel_rfl
theorem c24 : cFun Tryz.prog 1 quiet Tryz.f24 = some i24 := by kernel_rfl
theorem g24 : Tryz.prog.funcs[24]? = some Tryz.f24 := by kernel_rfl
theorem c25 : cFun Tryz.prog 1 quiet Tryz.f25 = some i25 := by kernel_rfl
theorem g25 : Tryz.prog.funcs[25]? = some Tryz.f25 := by kernel_rfl
theorem c26 : cFun Tryz.prog 1 quiet Tryz.f26 = some i26 := by kernel_rfl
theorem g26 : Tryz.prog.funcs[26]? = some Tryz.f26 := by kernel_rfl
theorem c27 : cFun Tryz.prog 1 quiet Tryz.f27 = some i27 := by kernel_rfl
theorem g27 : Tryz.prog.funcs[27]? = some Tryz.f27 := by kernel_rfl
theorem c28 : cFun Tryz.prog 1 quiet Tryz.f28 = some i28 := by kernel_rfl
theorem g28 : Tryz.prog.funcs[28]? = some Tryz.f28 := by kernel_rfl
theorem c29 : cFun Tryz.prog 1 quiet Tryz.f29 = some i29 := by kernel_rfl
theorem g29 : Tryz.prog.funcs[29]? = some Tryz.f29 := by kernel_rfl
theorem c30 : cFun Tryz.prog 1 quiet Tryz.f30 = some i30 := by kernel_rfl
theorem g30 : Tryz.prog.funcs[30]? = some Tryz.f30 := by kernel_rfl
theorem c31 : cFun Tryz.prog 1 quiet Tryz.f31 = some i31 := by kernel_rfl
theorem g31 : Tryz.prog.funcs[31]? = some Tryz.f31 := by kernel_rfl
theorem c32 : cFun Tryz.prog 1 quiet Tryz.f32 = some i32 := by kernel_rfl
theorem g32 : Tryz.prog.funcs[32]? = some Tryz.f32 := by kernel_rfl
theorem c33 : cFun Tryz.prog 1 quiet Tryz.f33 = some i33 := by kernel_rfl
theorem g33 : Tryz.prog.funcs[33]? = some Tryz.f33 := by kernel_rfl
theorem c34 : cFun Tryz.prog 1 quiet Tryz.f34 = some i34 := by kernel_rfl
theorem g34 : Tryz.prog.funcs[34]? = some Tryz.f34 := by kernel_rfl
theorem c35 : cFun Tryz.prog 1 quiet Tryz.f35 = some i35 := by kernel_rfl
theorem g35 : Tryz.prog.funcs[35]? = some Tryz.f35 := by kernel_rfl
theorem c36 : cFun Tryz.prog 1 quiet Tryz.f36 = some i36 := by kernel_rfl
theorem g36 : Tryz.prog.funcs[36]? = some Tryz.f36 := by kernel_rfl
theorem c37 : cFun Tryz.prog 1 quiet Tryz.f37 = some i37 := by kernel_rfl
theorem g37 : Tryz.prog.funcs[37]? = some Tryz.f37 := by kernel_rfl
theorem c38 : cFun Tryz.prog 1 quiet Tryz.f38 = some i38 := by kernel_rfl
theorem g38 : Tryz.prog.funcs[38]? = some Tryz.f38 := by kernel_rfl
theorem c39 : cFun Tryz.prog 1 quiet Tryz.f39 = some i39 := by kernel_rfl
theorem g39 : Tryz.prog.funcs[39]? = some Tryz.f39 := by kernel_rfl
theorem c40 : cFun Tryz.prog 1 quiet Tryz.f40 = some i40 := by kernel_rfl
theorem g40 : Tryz.prog.funcs[40]? = some Tryz.f40 := by kernel_rfl
theorem c41 : cFun Tryz.prog 1 quiet Tryz.f41 = some i41 := by kernel_rfl
theorem g41 : Tryz.prog.funcs[41]? = some Tryz.f41 := by kernel_rfl
theorem c42 : cFun Tryz.prog 1 quiet Tryz.f42 = some i42 := by kernel_rfl
theorem g42 : Tryz.prog.funcs[42]? = some Tryz.f42 := by kernel_rfl
theorem c43 : cFun Tryz.prog 1 quiet Tryz.f43 = some i43 := by kernel_rfl
theorem g43 : Tryz.prog.funcs[43]? = some Tryz.f43 := by kernel_rfl
theorem c44 : cFun Tryz.prog 1 quiet Tryz.f44 = some i44 := by kernel_rfl
theorem g44 : Tryz.prog.funcs[44]? = some Tryz.f44 := by kernel_rfl
theorem c45 : cFun Tryz.prog 1 quiet Tryz.f45 = some i45 := by kernel_rfl
theorem g45 : Tryz.prog.funcs[45]? = some Tryz.f45 := by kernel_rfl
theorem c46 : cFun Tryz.prog 1 quiet Tryz.f46 = some i46 := by kernel_rfl
theorem g46 : Tryz.prog.funcs[46]? = some Tryz.f46 := by kernel_rfl
theorem c47 : cFun Tryz.prog 1 quiet Tryz.f47 = some i47 := by kernel_rfl
theorem g47 : Tryz.prog.funcs[47]? = some Tryz.f47 := by kernel_rfl
theorem c48 : cFun Tryz.prog 1 quiet Tryz.f48 = some i48 := by kernel_rfl
theorem g48 : Tryz.prog.funcs[48]? = some Tryz.f48 := by kernel_rfl
theorem c49 : cFun Tryz.prog 1 quiet Tryz.f49 = some i49 := by kernel_rfl
theorem g49 : Tryz.prog.funcs[49]? = some Tryz.f49 := by kernel_rfl
theorem c50 : cFun Tryz.prog 1 quiet Tryz.f50 = some i50 := by kernel_rfl
theorem g50 : Tryz.prog.funcs[50]? = some Tryz.f50 := by kernel_rfl
theorem c51 : cFun Tryz.prog 1 quiet Tryz.f51 = some i51 := by kernel_rfl
theorem g51 : Tryz.prog.funcs[51]? = some Tryz.f51 := by kernel_rfl
theorem c52 : cFun Tryz.prog 1 quiet Tryz.f52 = some i52 := by kernel_rfl
theorem g52 : Tryz.prog.funcs[52]? = some Tryz.f52 := by kernel_rfl
theorem c53 : cFun Tryz.prog 1 quiet Tryz.f53 = some i53 := by kernel_rfl
theorem g53 : Tryz.prog.funcs[53]? = some Tryz.f53 := by kernel_rfl
theorem c54 : cFun Tryz.prog 1 quiet Tryz.f54 = some i54 := by kernel_rfl
theorem g54 : Tryz.prog.funcs[54]? = some Tryz.f54 := by kernel_rfl
theorem c55 : cFun Tryz.prog 1 quiet Tryz.f55 = some i55 := by kernel_rfl
theorem g55 : Tryz.prog.funcs[55]? = some Tryz.f55 := by kernel_rfl
theorem c56 : cFun Tryz.prog 1 quiet Tryz.f56 = some i56 := by kernel_rfl
theorem g56 : Tryz.prog.funcs[56]? = some Tryz.f56 := by kernel_rfl
theorem c57 : cFun Tryz.prog 1 quiet Tryz.f57 = some i57 := by kernel_rfl
theorem g57 : Tryz.prog.funcs[57]? = some Tryz.f57 := by kernel_rfl
theorem c58 : cFun Tryz.prog 1 quiet Tryz.f58 = some i58 := by kernel_rfl
theorem g58 : Tryz.prog.funcs[58]? = some Tryz.f58 := by kernel_rfl
theorem c59 : cFun Tryz.prog 1 quiet Tryz.f59 = some i59 := by kernel_rfl
theorem g59 : Tryz.prog.funcs[59]? = some Tryz.f59 := by kernel_rfl
theorem c60 : cFun Tryz.prog 1 quiet Tryz.f60 = some i60 := by kernel_rfl
theorem g60 : Tryz.prog.funcs[60]? = some Tryz.f60 := by kernel_rfl
theorem c61 : cFun Tryz.prog 1 quiet Tryz.f61 = some i61 := by kernel_rfl
theorem g61 : Tryz.prog.funcs[61]? = some Tryz.f61 := by kernel_rfl
theorem c62 : cFun Tryz.prog 1 quiet Tryz.f62 = some i62 := by kernel_rfl
theorem g62 : Tryz.prog.funcs[62]? = some Tryz.f62 := by kernel_rfl
theorem c63 : cFun Tryz.prog 1 quiet Tryz.f63 = some i63 := by kernel_rfl
theorem g63 : Tryz.prog.funcs[63]? = some Tryz.f63 := by kernel_rfl
theorem c64 : cFun Tryz.prog 1 quiet Tryz.f64 = some i64 := by kernel_rfl
theorem g64 : Tryz.prog.funcs[64]? = some Tryz.f64 := by kernel_rfl
theorem c65 : cFun Tryz.prog 1 quiet Tryz.f65 = some i65 := by kernel_rfl
theorem g65 : Tryz.prog.funcs[65]? = some Tryz.f65 := by kernel_rfl
theorem c66 : cFun Tryz.prog 1 quiet Tryz.f66 = some i66 := by kernel_rfl
theorem g66 : Tryz.prog.funcs[66]? = some Tryz.f66 := by kernel_rfl
theorem c67 : cFun Tryz.prog 1 quiet Tryz.f67 = some i67 := by kernel_rfl
theorem g67 : Tryz.prog.funcs[67]? = some Tryz.f67 := by kernel_rfl
theorem c68 : cFun Tryz.prog 1 quiet Tryz.f68 = some i68 := by kernel_rfl
theorem g68 : Tryz.prog.funcs[68]? = some Tryz.f68 := by kernel_rfl
theorem c69 : cFun Tryz.prog 1 quiet Tryz.f69 = some i69 := by kernel_rfl
theorem g69 : Tryz.prog.funcs[69]? = some Tryz.f69 := by kernel_rfl
theorem c70 : cFun Tryz.prog 1 quiet Tryz.f70 = some i70 := by kernel_rfl
theorem g70 : Tryz.prog.funcs[70]? = some Tryz.f70 := by kernel_rfl
theorem c71 : cFun Tryz.prog 1 quiet Tryz.f71 = some i71 := by kernel_rfl
theorem g71 : Tryz.prog.funcs[71]? = some Tryz.f71 := by kernel_rfl
theorem c72 : cFun Tryz.prog 1 quiet Tryz.f72 = some i72 := by kernel_rfl
theorem g72 : Tryz.prog.funcs[72]? = some Tryz.f72 := by kernel_rfl
theorem c73 : cFun Tryz.prog 1 quiet Tryz.f73 = some i73 := by kernel_rfl
theorem g73 : Tryz.prog.funcs[73]? = some Tryz.f73 := by kernel_rfl
theorem c74 : cFun Tryz.prog 1 quiet Tryz.f74 = some i74 := by kernel_rfl
theorem g74 : Tryz.prog.funcs[74]? = some Tryz.f74 := by kernel_rfl
theorem c75 : cFun Tryz.prog 1 quiet Tryz.f75 = some i75 := by kernel_rfl
theorem g75 : Tryz.prog.funcs[75]? = some Tryz.f75 := by kernel_rfl
theorem c76 : cFun Tryz.prog 1 quiet Tryz.f76 = some i76 := by kernel_rfl
theorem g76 : Tryz.prog.funcs[76]? = some Tryz.f76 := by kernel_rfl
theorem c77 : cFun Tryz.prog 1 quiet Tryz.f77 = some i77 := by kernel_rfl
theorem g77 : Tryz.prog.funcs[77]? = some Tryz.f77 := by kernel_rfl
theorem c78 : cFun Tryz.prog 1 quiet Tryz.f78 = some i78 := by kernel_rfl
theorem g78 : Tryz.prog.funcs[78]? = some Tryz.f78 := by kernel_rfl
theorem c79 : cFun Tryz.prog 1 quiet Tryz.f79 = some i79 := by kernel_rfl
theorem g79 : Tryz.prog.funcs[79]? = some Tryz.f79 := by kernel_rfl
theorem c80 : cFun Tryz.prog 1 quiet Tryz.f80 = some i80 := by kernel_rfl
theorem g80 : Tryz.prog.funcs[80]? = some Tryz.f80 := by kernel_rfl
theorem c81 : cFun Tryz.prog 1 quiet Tryz.f81 = some i81 := by kernel_rfl
theorem g81 : Tryz.prog.funcs[81]? = some Tryz.f81 := by kernel_rfl
theorem c82 : cFun Tryz.prog 1 quiet Tryz.f82 = some i82 := by kernel_rfl
theorem g82 : Tryz.prog.funcs[82]? = some Tryz.f82 := by kernel_rfl
theorem c83 : cFun Tryz.prog 1 quiet Tryz.f83 = some i83 := by kernel_rfl
theorem g83 : Tryz.prog.funcs[83]? = some Tryz.f83 := by kernel_rfl
theorem c84 : cFun Tryz.prog 1 quiet Tryz.f84 = some i84 := by kernel_rfl
theorem g84 : Tryz.prog.funcs[84]? = some Tryz.f84 := by kernel_rfl
theorem c85 : cFun Tryz.prog 1 quiet Tryz.f85 = some i85 := by kernel_rfl
theorem g85 : Tryz.prog.funcs[85]? = some Tryz.f85 := by kernel_rfl
theorem c86 : cFun Tryz.prog 1 quiet Tryz.f86 = some i86 := by kernel_rfl
theorem g86 : Tryz.prog.funcs[86]? = some Tryz.f86 := by kernel_rfl
theorem c87 : cFun Tryz.prog 1 quiet Tryz.f87 = some i87 := by kernel_rfl
theorem g87 : Tryz.prog.funcs[87]? = some Tryz.f87 := by kernel_rfl
theorem c88 : cFun Tryz.prog 1 quiet Tryz.f88 = some i88 := by kernel_rfl
theorem g88 : Tryz.prog.funcs[88]? = some Tryz.f88 := by kernel_rfl
theorem c89 : cFun Tryz.prog 1 quiet Tryz.f89 = some i89 := by kernel_rfl
theorem g89 : Tryz.prog.funcs[89]? = some Tryz.f89 := by kernel_rfl
theorem c90 : cFun Tryz.prog 1 quiet Tryz.f90 = some i90 := by kernel_rfl
theorem g90 : Tryz.prog.funcs[90]? = some Tryz.f90 := by kernel_rfl
theorem c91 : cFun Tryz.prog 1 quiet Tryz.f91 = some i91 := by kernel_rfl
theorem g91 : Tryz.prog.funcs[91]? = some Tryz.f91 := by kernel_rfl
theorem c92 : cFun Tryz.prog 1 quiet Tryz.f92 = some i92 := by kernel_rfl
theorem g92 : Tryz.prog.funcs[92]? = some Tryz.f92 := by kernel_rfl
theorem c93 : cFun Tryz.prog 1 quiet Tryz.f93 = some i93 := by kernel_rfl
theorem g93 : Tryz.prog.funcs[93]? = some Tryz.f93 := by kernel_rfl
theorem c94 : cFun Tryz.prog 1 quiet Tryz.f94 = some i94 := by kernel_rfl
theorem g94 : Tryz.prog.funcs[94]? = some Tryz.f94 := by kernel_rfl
theorem c95 : cFun Tryz.prog 1 quiet Tryz.f95 = some i95 := by kernel_rfl
theorem g95 : Tryz.prog.funcs[95]? = some Tryz.f95 := by kernel_rfl
theorem c96 : cFun Tryz.prog 1 quiet Tryz.f96 = some i96 := by kernel_rfl
theorem g96 : Tryz.prog.funcs[96]? = some Tryz.f96 := by kernel_rfl
theorem c97 : cFun Tryz.prog 1 quiet Tryz.f97 = some i97 := by kernel_rfl
theorem g97 : Tryz.prog.funcs[97]? = some Tryz.f97 := by kernel_rfl
theorem c98 : cFun Tryz.prog 1 quiet Tryz.f98 = some i98 := by kernel_rfl
theorem g98 : Tryz.prog.funcs[98]? = some Tryz.f98 := by kernel_rfl
theorem c99 : cFun Tryz.prog 1 quiet Tryz.f99 = some i99 := by kernel_rfl
theorem g99 : Tryz.prog.funcs[99]? = some Tryz.f99 := by kernel_rfl
theorem c100 : cFun Tryz.prog 1 quiet Tryz.f100 = some i100 := by kernel_rfl
theorem g100 : Tryz.prog.funcs[100]? = some Tryz.f100 := by kernel_rfl
theorem c101 : cFun Tryz.prog 1 quiet Tryz.f101 = some i101 := by kernel_rfl
theorem g101 : Tryz.prog.funcs[101]? = some Tryz.f101 := by kernel_rfl
theorem c102 : cFun Tryz.prog 1 quiet Tryz.f102 = some i102 := by kernel_rfl
theorem g102 : Tryz.prog.funcs[102]? = some Tryz.f102 := by kernel_rfl
theorem c103 : cFun Tryz.prog 1 quiet Tryz.f103 = some i103 := by kernel_rfl
theorem g103 : Tryz.prog.funcs[103]? = some Tryz.f103 := by kernel_rfl
theorem c104 : cFun Tryz.prog 1 quiet Tryz.f104 = some i104 := by kernel_rfl
theorem g104 : Tryz.prog.funcs[104]? = some Tryz.f104 := by kernel_rfl
theorem c105 : cFun Tryz.prog 1 quiet Tryz.f105 = some i105 := by kernel_rfl
theorem g105 : Tryz.prog.funcs[105]? = some Tryz.f105 := by kernel_rfl
theorem c106 : cFun Tryz.prog 1 quiet Tryz.f106 = some i106 := by kernel_rfl
theorem g106 : Tryz.prog.funcs[106]? = some Tryz.f106 := by kernel_rfl
theorem c107 : cFun Tryz.prog 1 quiet Tryz.f107 = some i107 := by kernel_rfl
theorem g107 : Tryz.prog.funcs[107]? = some Tryz.f107 := by kernel_rfl
theorem c108 : cFun Tryz.prog 1 quiet Tryz.f108 = some i108 := by kernel_rfl
theorem g108 : Tryz.prog.funcs[108]? = some Tryz.f108 := by kernel_rfl

def table : Tree := (.node 58 i58 (.node 32 i32 (.node 19 i19 (.node 13 i13 (.node 9 i9 (.node 7 i7 (.node 3 i3 .leaf .leaf) (.node 8 i8 .leaf .leaf)) (.node 12 i12 (.node 11 i11 .leaf .leaf) .leaf)) (.node 16 i16 (.node 15 i15 (.node 14 i14 .leaf .leaf) .leaf) (.node 18 i18 (.node 17 i17 .leaf .leaf) .leaf))) (.node 26 i26 (.node 23 i23 (.node 21 i21 (.node 20 i20 .leaf .leaf) (.node 22 i22 .leaf .leaf)) (.node 25 i25 (.node 24 i24 .leaf .leaf) .leaf)) (.node 29 i29 (.node 28 i28 (.node 27 i27 .leaf .leaf) .leaf) (.node 31 i31 (.node 30 i30 .leaf .leaf) .leaf)))) (.node 45 i45 (.node 39 i39 (.node 36 i36 (.node 34 i34 (.node 33 i33 .leaf .leaf) (.node 35 i35 .leaf .leaf)) (.node 38 i38 (.node 37 i37 .leaf .leaf) .leaf)) (.node 42 i42 (.node 41 i41 (.node 40 i40 .leaf .leaf) .leaf) (.node 44 i44 (.node 43 i43 .leaf .leaf) .leaf))) (.node 52 i52 (.node 49 i49 (.node 47 i47 (.node 46 i46 .leaf .leaf) (.node 48 i48 .leaf .leaf)) (.node 51 i51 (.node 50 i50 .leaf .leaf) .leaf)) (.node 55 i55 (.node 54 i54 (.node 53 i53 .leaf .leaf) .leaf) (.node 57 i57 (.node 56 i56 .leaf .leaf) .leaf))))) (.node 84 i84 (.node 71 i71 (.node 65 i65 (.node 62 i62 (.node 60 i60 (.node 59 i59 .leaf .leaf) (.node 61 i61 .leaf .leaf)) (.node 64 i64 (.node 63 i63 .leaf .leaf) .leaf)) (.node 68 i68 (.node 67 i67 (.node 66 i66 .leaf .leaf) .leaf) (.node 70 i70 (.node 69 i69 .leaf .leaf) .leaf))) (.node 78 i78 (.node 75 i75 (.node 73 i73 (.node 72 i72 .leaf .leaf) (.node 74 i74 .leaf .leaf)) (.node 77 i77 (.node 76 i76 .leaf .leaf) .leaf)) (.node 81 i81 (.node 80 i80 (.node 79 i79 .leaf .leaf) .leaf) (.node 83 i83 (.node 82 i82 .leaf .leaf) .leaf)))) (.node 97 i97 (.node 91 i91 (.node 88 i88 (.node 86 i86 (.node 85 i85 .leaf .leaf) (.node 87 i87 .leaf .leaf)) (.node 90 i90 (.node 89 i89 .leaf .leaf) .leaf)) (.node 94 i94 (.node 93 i93 (.node 92 i92 .leaf .leaf) .leaf) (.node 96 i96 (.node 95 i95 .leaf .leaf) .leaf))) (.node 103 i103 (.node 100 i100 (.node 99 i99 (.node 98 i98 .leaf .leaf) .leaf) (.node 102 i102 (.node 101 i101 .leaf .leaf) .leaf)) (.node 106 i106 (.node 105 i105 (.node 104 i104 .leaf .leaf) .leaf) (.node 108 i108 (.node 107 i107 .leaf .leaf) .leaf))))))

theorem fits : table.All (Fits Tryz.prog 1 quiet) := ⟨⟨_, g58, c58⟩, ⟨⟨_, g32, c32⟩, ⟨⟨_, g19, c19⟩, ⟨⟨_, g13, c13⟩, ⟨⟨_, g9, c9⟩, ⟨⟨_, g7, c7⟩, ⟨⟨_, g3, c3⟩, trivial, trivial⟩, ⟨⟨_, g8, c8⟩, trivial, trivial⟩⟩, ⟨⟨_, g12, c12⟩, ⟨⟨_, g11, c11⟩, trivial, trivial⟩, trivial⟩⟩, ⟨⟨_, g16, c16⟩, ⟨⟨_, g15, c15⟩, ⟨⟨_, g14, c14⟩, trivial, trivial⟩, trivial⟩, ⟨⟨_, g18, c18⟩, ⟨⟨_, g17, c17⟩, trivial, trivial⟩, trivial⟩⟩⟩, ⟨⟨_, g26, c26⟩, ⟨⟨_, g23, c23⟩, ⟨⟨_, g21, c21⟩, ⟨⟨_, g20, c20⟩, trivial, trivial⟩, ⟨⟨_, g22, c22⟩, trivial, trivial⟩⟩, ⟨⟨_, g25, c25⟩, ⟨⟨_, g24, c24⟩, trivial, trivial⟩, trivial⟩⟩, ⟨⟨_, g29, c29⟩, ⟨⟨_, g28, c28⟩, ⟨⟨_, g27, c27⟩, trivial, trivial⟩, trivial⟩, ⟨⟨_, g31, c31⟩, ⟨⟨_, g30, c30⟩, trivial, trivial⟩, trivial⟩⟩⟩⟩, ⟨⟨_, g45, c45⟩, ⟨⟨_, g39, c39⟩, ⟨⟨_, g36, c36⟩, ⟨⟨_, g34, c34⟩, ⟨⟨_, g33, c33⟩, trivial, trivial⟩, ⟨⟨_, g35, c35⟩, trivial, trivial⟩⟩, ⟨⟨_, g38, c38⟩, ⟨⟨_, g37, c37⟩, trivial, trivial⟩, trivial⟩⟩, ⟨⟨_, g42, c42⟩, ⟨⟨_, g41, c41⟩, ⟨⟨_, g40, c40⟩, trivial, trivial⟩, trivial⟩, ⟨⟨_, g44, c44⟩, ⟨⟨_, g43, c43⟩, trivial, trivial⟩, trivial⟩⟩⟩, ⟨⟨_, g52, c52⟩, ⟨⟨_, g49, c49⟩, ⟨⟨_, g47, c47⟩, ⟨⟨_, g46, c46⟩, trivial, trivial⟩, ⟨⟨_, g48, c48⟩, trivial, trivial⟩⟩, ⟨⟨_, g51, c51⟩, ⟨⟨_, g50, c50⟩, trivial, trivial⟩, trivial⟩⟩, ⟨⟨_, g55, c55⟩, ⟨⟨_, g54, c54⟩, ⟨⟨_, g53, c53⟩, trivial, trivial⟩, trivial⟩, ⟨⟨_, g57, c57⟩, ⟨⟨_, g56, c56⟩, trivial, trivial⟩, trivial⟩⟩⟩⟩⟩, ⟨⟨_, g84, c84⟩, ⟨⟨_, g71, c71⟩, ⟨⟨_, g65, c65⟩, ⟨⟨_, g62, c62⟩, ⟨⟨_, g60, c60⟩, ⟨⟨_, g59, c59⟩, trivial, trivial⟩, ⟨⟨_, g61, c61⟩, trivial, trivial⟩⟩, ⟨⟨_, g64, c64⟩, ⟨⟨_, g63, c63⟩, trivial, trivial⟩, trivial⟩⟩, ⟨⟨_, g68, c68⟩, ⟨⟨_, g67, c67⟩, ⟨⟨_, g66, c66⟩, trivial, trivial⟩, trivial⟩, ⟨⟨_, g70, c70⟩, ⟨⟨_, g69, c69⟩, trivial, trivial⟩, trivial⟩⟩⟩, ⟨⟨_, g78, c78⟩, ⟨⟨_, g75, c75⟩, ⟨⟨_, g73, c73⟩, ⟨⟨_, g72, c72⟩, trivial, trivial⟩, ⟨⟨_, g74, c74⟩, trivial, trivial⟩⟩, ⟨⟨_, g77, c77⟩, ⟨⟨_, g76, c76⟩, trivial, trivial⟩, trivial⟩⟩, ⟨⟨_, g81, c81⟩, ⟨⟨_, g80, c80⟩, ⟨⟨_, g79, c79⟩, trivial, trivial⟩, trivial⟩, ⟨⟨_, g83, c83⟩, ⟨⟨_, g82, c82⟩, trivial, trivial⟩, trivial⟩⟩⟩⟩, ⟨⟨_, g97, c97⟩, ⟨⟨_, g91, c91⟩, ⟨⟨_, g88, c88⟩, ⟨⟨_, g86, c86⟩, ⟨⟨_, g85, c85⟩, trivial, trivial⟩, ⟨⟨_, g87, c87⟩, trivial, trivial⟩⟩, ⟨⟨_, g90, c90⟩, ⟨⟨_, g89, c89⟩, trivial, trivial⟩, trivial⟩⟩, ⟨⟨_, g94, c94⟩, ⟨⟨_, g93, c93⟩, ⟨⟨_, g92, c92⟩, trivial, trivial⟩, trivial⟩, ⟨⟨_, g96, c96⟩, ⟨⟨_, g95, c95⟩, trivial, trivial⟩, trivial⟩⟩⟩, ⟨⟨_, g103, c103⟩, ⟨⟨_, g100, c100⟩, ⟨⟨_, g99, c99⟩, ⟨⟨_, g98, c98⟩, trivial, trivial⟩, trivial⟩, ⟨⟨_, g102, c102⟩, ⟨⟨_, g101, c101⟩, trivial, trivial⟩, trivial⟩⟩, ⟨⟨_, g106, c106⟩, ⟨⟨_, g105, c105⟩, ⟨⟨_, g104, c104⟩, trivial, trivial⟩, trivial⟩, ⟨⟨_, g108, c108⟩, ⟨⟨_, g107, c107⟩, trivial, trivial⟩, trivial⟩⟩⟩⟩⟩⟩

theorem mixed : Tryz.prog.follows .mixedOrders = true := by kernel_rfl

theorem allOk (n : Nat) : CallOK Tryz.prog 1 (fCalls table.look n) := fCalls_ok (stands_look fits) mixed n

theorem allOk' (n : Nat) : CallOK Tryz.prog 1 (calls table.find n) := calls_ok (stands_of fits) mixed n

end Go.Proofs.YtildgdaoapmjhaaGreatDoor.Fill
