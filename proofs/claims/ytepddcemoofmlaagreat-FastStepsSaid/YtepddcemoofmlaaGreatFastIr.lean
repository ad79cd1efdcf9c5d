/- The compact form of the functions that are reached (written by program), and that it is theirs. -/
import Derived.Test.YtepddcemoofmlaaGreatAe28
import Derived.Test.YtepddcemoofmlaaGreatProg
import Derived.KernelRfl
set_option linter.unusedSimpArgs false
set_option linter.unusedVariables false
namespace Go.Proofs.YtepddcemoofmlaaGreat.Fast
open Go Go.Proofs.YtepddcemoofmlaaGreat.AE
set_option maxRecDepth 100000
set_option linter.unusedVariables false

def quiet : FuncId → Bool := fun f => [5, 8, 9, 12, 13, 17, 18, 19, 29, 33, 34, 45, 48, 50, 51, 52, 53, 54, 56, 57, 58, 59, 60, 61, 62, 63, 64, 66, 69, 71, 74, 75, 76, 77, 78, 79, 81, 82, 83, 86, 87, 88, 89, 90, 91, 92, 94, 95, 97, 98, 100, 101, 102, 104, 106, 109, 110, 114].contains f

def y (d : Nat) (op : IOp) : IOper := ⟨some d, op, none, [], [], false⟩
def x (op : IOp) : IOper := ⟨none, op, none, [], [], false⟩

/-- wainscot/wainscotlaw22.FastSteps -/
def i3 : IFun := ⟨70,
  (.seq
   (.region [
     y 4 (.box 25 6 (.t 1)),
     y 5 (.box 27 17 (.t 2)),
     y 6 (.mv (.c (.bool false)))])
  (.seq
   (.region [
     y 16 (.mv (.t 0)),
     y 17 (.load true 6 (.t 4)),
     y 18 (.call (.c (.func (.func 4) #[] #[])) [(.t 16), (.t 17)] false),
     y 15 (.mv (.t 18)),
     y 19 (.extract (.t 15) 0),
     y 20 (.extract (.t 15) 1),
     y 7 (.mv (.t 19)),
     y 8 (.mv (.t 20))])
  (.seq
   (.seq
    (.region [
      y 21 (.mv (.t 7)),
      y 22 (.bin .eql .ptr (.t 21) (.c (.pointer none)))])
   (.cond (.t 22)
    (.seq
     (.region [
       y 6 (.mv (.c (.bool false)))])
    .ret)
    .skip))
  (.seq
   (.seq
    (.region [
      y 9 (.mv (.c (.int .i64 0)))])
   (.block 0
    (.loop
     (.seq
      (.seq
       (.region [
         y 23 (.mv (.t 9)),
         y 24 (.bin .lss .int (.t 23) (.c (.int .i64 12)))])
      (.cond (.t 24)
       .skip
       (.exit 0)))
     (.seq
      (.block 1
       (.seq
        (.region [
          y 27 (.mv (.t 7)),
          y 28 (.call (.c (.func (.func 5) #[] #[])) [(.t 27)] true),
          y 10 (.mv (.t 28))])
       (.seq
        (.region [
          y 30 (.mv (.t 7)),
          y 31 (.load true 6 (.t 4)),
          y 32 (.load true 17 (.t 5)),
          y 33 (.call (.c (.func (.func 6) #[] #[])) [(.t 30), (.t 31), (.t 32)] false),
          y 29 (.mv (.t 33)),
          y 34 (.extract (.t 29) 0),
          y 35 (.extract (.t 29) 1),
          y 11 (.new 27 [(.int .i64 0), (.int .i64 0), (.int .i64 0), (.int .i64 0), (.int .i64 0), (.int .i64 0), (.int .i64 0), (.int .u64 0), (.int .u64 0), (.int .u64 0), (.int .u64 0), (.int .u64 0), (.int .i64 0), (.int .i64 0), (.int .i64 0), (.int .i64 0), (.int .i64 0)]),
          x (.store 17 (.t 11) (.t 34)),
          y 12 (.mv (.t 35))])
       (.seq
        (.region [
          y 37 (.mv (.t 8)),
          y 38 (.load true 6 (.t 4)),
          y 39 (.load true 17 (.t 5)),
          y 40 (.call (.c (.func (.func 7) #[] #[])) [(.t 37), (.t 38), (.t 39)] false),
          y 36 (.mv (.t 40)),
          y 41 (.extract (.t 36) 0),
          y 42 (.extract (.t 36) 1),
          y 13 (.new 27 [(.int .i64 0), (.int .i64 0), (.int .i64 0), (.int .i64 0), (.int .i64 0), (.int .i64 0), (.int .i64 0), (.int .u64 0), (.int .u64 0), (.int .u64 0), (.int .u64 0), (.int .u64 0), (.int .i64 0), (.int .i64 0), (.int .i64 0), (.int .i64 0), (.int .i64 0)]),
          x (.store 17 (.t 13) (.t 41)),
          y 14 (.mv (.t 42))])
       (.seq
        (.seq
         (.region [
           y 43 (.load true 17 (.t 11)),
           y 44 (.load true 17 (.t 13)),
           y 45 (.bin .neq (.plain [(some .i64), (some .i64), (some .i64), (some .i64), (some .i64), (some .i64), (some .i64), (some .u64), (some .u64), (some .u64), (some .u64), (some .u64), (some .i64), (some .i64), (some .i64), (some .i64), (some .i64)]) (.t 43) (.t 44)),
           y 46 (.mv (.t 45)),
           ⟨(some 47), .mv (.t 12), (some (46, false)), [], [], false⟩,
           ⟨(some 48), .mv (.t 14), (some (46, false)), [], [], false⟩,
           ⟨(some 49), .bin .neq .int (.t 47) (.t 48), (some (46, false)), [], [], false⟩,
           y 50 (.pick (.t 46) (.c (.bool true)) (.t 49)),
           y 51 (.mv (.t 50)),
           ⟨(some 52), .mv (.t 7), (some (51, false)), [], [], false⟩,
           ⟨(some 53), .call (.c (.func (.func 9) #[] #[])) [(.t 52)] true, (some (51, false)), [], [], false⟩,
           ⟨(some 54), .mv (.t 8), (some (51, false)), [], [], false⟩,
           ⟨(some 55), .call (.c (.func (.func 10) #[] #[])) [(.t 54)] false, (some (51, false)), [], [], false⟩,
           ⟨(some 56), .call (.c (.func (.func 8) #[] #[])) [(.t 53), (.t 55)] true, (some (51, false)), [], [], false⟩,
           ⟨(some 57), .un .not (.t 56), (some (51, false)), [], [], false⟩,
           y 58 (.pick (.t 51) (.c (.bool true)) (.t 57)),
           y 59 (.mv (.t 58)),
           ⟨(some 60), .mv (.t 7), (some (59, false)), [], [], false⟩,
           ⟨(some 61), .call (.c (.func (.func 5) #[] #[])) [(.t 60)] true, (some (59, false)), [], [], false⟩,
           ⟨(some 62), .mv (.t 10), (some (59, false)), [], [], false⟩,
           ⟨(some 63), .bin .add .int (.t 62) (.c (.int .i64 1)), (some (59, false)), [], [], false⟩,
           ⟨(some 64), .bin .gtr .int (.t 61) (.t 63), (some (59, false)), [], [], false⟩,
           y 65 (.pick (.t 59) (.c (.bool true)) (.t 64))])
        (.cond (.t 65)
         (.seq
          (.region [
            y 6 (.mv (.c (.bool false)))])
         .ret)
         .skip))
       (.seq
        (.seq
         (.region [
           y 66 (.mv (.t 12)),
           y 67 (.bin .neq .int (.t 66) (.c (.int .i64 0)))])
        (.cond (.t 67)
         (.exit 0)
         .skip))
       (.region [
         y 68 (.load true 17 (.t 11)),
         x (.store 17 (.t 5) (.t 68))])))))))
     (.region [
       y 25 (.mv (.t 9)),
       y 26 (.bin .add .int (.t 25) (.c (.int .i64 1))),
       y 9 (.mv (.t 26))]))))))
  (.seq
   (.region [
     y 69 (.call (.c (.func (.func 11) #[] #[])) [] false),
     y 6 (.mv (.t 69))])
  .ret))))),
  [.tmp 6]⟩

/-- wainscot/wainscotlaw22.laid -/
def i4 : IFun := ⟨53,
  (.seq
   (.region [
     y 3 (.box 25 6 (.t 1)),
     y 4 (.mv (.c (.pointer none))),
     y 5 (.mv (.c (.pointer none)))])
  (.seq
   (.region [
     y 12 (.load true 6 (.t 3)),
     y 13 (.call (.c (.func (.func 12) #[] #[])) [(.t 12)] true),
     y 6 (.mv (.t 13))])
  (.seq
   (.seq
    (.region [
      y 14 (.mv (.t 6)),
      y 15 (.bin .eql .int (.t 14) (.c (.int .i64 0)))])
   (.cond (.t 15)
    (.region [
      y 6 (.mv (.c (.int .i64 64)))])
    .skip))
  (.seq
   (.region [
     y 17 (.mv (.t 6)),
     y 18 (.call (.c (.func (.func 13) #[] #[])) [(.t 17)] true),
     y 16 (.mv (.t 18)),
     y 19 (.extract (.t 16) 0),
     y 20 (.extract (.t 16) 1),
     y 7 (.mv (.t 19)),
     y 8 (.mv (.t 20))])
  (.seq
   (.region [
     y 22 (.mv (.t 6)),
     y 23 (.call (.c (.func (.func 14) #[] #[])) [(.t 22)] false),
     y 21 (.mv (.t 23)),
     y 24 (.extract (.t 21) 0),
     y 25 (.extract (.t 21) 1),
     y 9 (.mv (.t 24)),
     y 10 (.mv (.t 25))])
  (.seq
   (.seq
    (.region [
      y 11 (.mv (.c (.int .i64 0)))])
   (.block 0
    (.loop
     (.seq
      (.seq
       (.region [
         y 26 (.mv (.t 11)),
         y 27 (.mv (.t 6)),
         y 28 (.bin .lss .int (.t 26) (.t 27)),
         y 29 (.mv (.t 28)),
         ⟨(some 30), .mv (.t 11), (some (29, true)), [], [], false⟩,
         ⟨(some 31), .mv (.t 0), (some (29, true)), [], [], false⟩,
         ⟨(some 32), .lenS (.t 31), (some (29, true)), [], [], false⟩,
         ⟨(some 33), .bin .lss .int (.t 30) (.t 32), (some (29, true)), [], [], false⟩,
         y 34 (.pick (.t 29) (.t 33) (.c (.bool false)))])
      (.cond (.t 34)
       .skip
       (.exit 0)))
     (.seq
      (.block 1
       (.seq
        (.region [
          y 37 (.mv (.t 7)),
          y 38 (.mv (.t 11)),
          y 39 (.mv (.t 0)),
          y 40 (.mv (.t 11)),
          y 41 (.idxS 1 (.t 39) (.t 40)),
          y 42 (.load false 1 (.t 41)),
          y 43 (.call (.c (.func (.func 15) #[] #[])) [(.t 37), (.t 38), (.t 42)] false)])
       (.region [
         y 44 (.mv (.t 9)),
         y 45 (.mv (.t 11)),
         y 46 (.mv (.t 0)),
         y 47 (.mv (.t 11)),
         y 48 (.idxS 1 (.t 46) (.t 47)),
         y 49 (.load false 1 (.t 48)),
         y 50 (.call (.c (.func (.func 16) #[] #[])) [(.t 44), (.t 45), (.t 49)] false)])))
     (.region [
       y 35 (.mv (.t 11)),
       y 36 (.bin .add .int (.t 35) (.c (.int .i64 1))),
       y 11 (.mv (.t 36))]))))))
  (.seq
   (.region [
     y 51 (.mv (.t 7)),
     y 52 (.mv (.t 9)),
     y 4 (.mv (.t 51)),
     y 5 (.mv (.t 52))])
  .ret))))))),
  [.tmp 4, .tmp 5]⟩

/-- (*wainscot/mem.Mem).Count -/
def i5 : IFun := ⟨9,
  (.seq
   (.region [
     y 2 (.mv (.c (.int .i64 0)))])
  (.seq
   (.seq
    (.region [
      y 3 (.mv (.t 0)),
      y 4 (.bin .eql .ptr (.t 3) (.c (.pointer none)))])
   (.cond (.t 4)
    (.seq
     (.region [
       y 2 (.mv (.c (.int .i64 0)))])
    .ret)
    .skip))
  (.seq
   (.region [
     y 5 (.mv (.t 0)),
     y 6 (.nilCheck (.t 5)),
     y 7 (.addOff 1 (.t 6)),
     y 8 (.load false 1 (.t 7)),
     y 2 (.mv (.t 8))])
  .ret))),
  [.tmp 2]⟩

/-- wainscot/fast.Step -/
def i6 : IFun := ⟨59,
  (.seq
   (.region [
     y 4 (.box 25 6 (.t 1)),
     y 5 (.box 27 17 (.t 2)),
     y 6 (.new 27 [(.int .i64 0), (.int .i64 0), (.int .i64 0), (.int .i64 0), (.int .i64 0), (.int .i64 0), (.int .i64 0), (.int .u64 0), (.int .u64 0), (.int .u64 0), (.int .u64 0), (.int .u64 0), (.int .i64 0), (.int .i64 0), (.int .i64 0), (.int .i64 0), (.int .i64 0)]),
     y 7 (.mv (.c (.int .i64 0)))])
  (.seq
   (.block 0
    (.seq
     (.region [
       y 12 (.mv (.t 0)),
       y 13 (.call (.c (.func (.func 17) #[] #[])) [(.t 12)] true),
       y 14 (.bin .eql .int (.t 13) (.c (.int .i64 0))),
       y 11 (.mv (.t 14))])
    (.cond (.t 11)
     (.seq
      (.region [
        y 15 (.build [(.int .i64 0), (.int .i64 0), (.int .i64 0), (.int .i64 0), (.int .i64 0), (.int .i64 0), (.int .i64 0), (.int .u64 0), (.int .u64 0), (.int .u64 0), (.int .u64 0), (.int .u64 0), (.int .i64 0), (.int .i64 0), (.int .i64 0), (.int .i64 0), (.int .i64 0)] []),
        x (.store 17 (.t 6) (.t 15)),
        y 7 (.mv (.c (.int .i64 1)))])
     .ret)
     (.seq
      (.region [
        y 17 (.load true 6 (.t 4)),
        y 18 (.call (.c (.func (.func 18) #[] #[])) [(.t 17)] true),
        y 19 (.bin .neq .int (.t 18) (.c (.int .i64 0))),
        y 16 (.mv (.t 19))])
     (.cond (.t 16)
      (.seq
       (.region [
         y 20 (.build [(.int .i64 0), (.int .i64 0), (.int .i64 0), (.int .i64 0), (.int .i64 0), (.int .i64 0), (.int .i64 0), (.int .u64 0), (.int .u64 0), (.int .u64 0), (.int .u64 0), (.int .u64 0), (.int .i64 0), (.int .i64 0), (.int .i64 0), (.int .i64 0), (.int .i64 0)] []),
         x (.store 17 (.t 6) (.t 20)),
         y 7 (.mv (.c (.int .i64 2)))])
      .ret)
      .skip)))))
  (.seq
   (.region [
     y 22 (.call (.c (.func (.func 19) #[] #[])) [] true),
     y 23 (.addOff 2 (.t 5)),
     y 24 (.load false 1 (.t 23)),
     y 25 (.lookup .nilFunc true (.t 22) (.t 24)),
     y 21 (.mv (.t 25)),
     y 26 (.extract (.t 21) 0),
     y 27 (.extract (.t 21) 1),
     y 8 (.mv (.t 26)),
     y 9 (.mv (.t 27))])
  (.seq
   (.seq
    (.region [
      y 28 (.mv (.t 9)),
      y 29 (.un .not (.t 28)),
      y 30 (.mv (.t 29)),
      ⟨(some 31), .addOff 3 (.t 5), (some (30, false)), [], [], false⟩,
      ⟨(some 32), .load false 1 (.t 31), (some (30, false)), [], [], false⟩,
      ⟨(some 33), .bin .neq .int (.t 32) (.c (.int .i64 0)), (some (30, false)), [], [], false⟩,
      y 34 (.pick (.t 30) (.c (.bool true)) (.t 33)),
      y 35 (.mv (.t 34)),
      ⟨(some 36), .addOff 4 (.t 5), (some (35, false)), [], [], false⟩,
      ⟨(some 37), .load false 1 (.t 36), (some (35, false)), [], [], false⟩,
      ⟨(some 38), .bin .neq .int (.t 37) (.c (.int .i64 0)), (some (35, false)), [], [], false⟩,
      y 39 (.pick (.t 35) (.c (.bool true)) (.t 38))])
   (.cond (.t 39)
    (.seq
     (.region [
       y 40 (.build [(.int .i64 0), (.int .i64 0), (.int .i64 0), (.int .i64 0), (.int .i64 0), (.int .i64 0), (.int .i64 0), (.int .u64 0), (.int .u64 0), (.int .u64 0), (.int .u64 0), (.int .u64 0), (.int .i64 0), (.int .i64 0), (.int .i64 0), (.int .i64 0), (.int .i64 0)] []),
       x (.store 17 (.t 6) (.t 40)),
       y 7 (.mv (.c (.int .i64 292)))])
    .ret)
    .skip))
  (.seq
   (.region [
     y 41 (.mv (.t 0)),
     y 42 (.load true 6 (.t 4)),
     y 43 (.load true 17 (.t 5)),
     y 44 (.build [(.pointer none), (.int .i64 0), (.int .i64 0), (.int .i64 0), (.int .i64 0), (.int .i64 0), (.int .u64 0), (.int .i64 0), (.int .i64 0), (.int .i64 0), (.int .i64 0), (.int .i64 0), (.int .i64 0), (.int .i64 0), (.int .u64 0), (.int .u64 0), (.int .u64 0), (.int .u64 0), (.int .u64 0), (.int .i64 0), (.int .i64 0), (.int .i64 0), (.int .i64 0), (.int .i64 0), (.bool false)] [(0, 1, (.t 41)), (1, 6, (.t 42)), (7, 17, (.t 43))]),
     y 45 (.box 56 25 (.t 44)),
     y 10 (.mv (.t 45))])
  (.seq
   (.seq
    (.region [
      y 46 (.mv (.t 8)),
      y 47 (.mv (.t 10)),
      y 48 (.call (.t 46) [(.t 47)] false)])
   (.seq
    (.region [
      y 49 (.mv (.t 10)),
      y 50 (.nilCheck (.t 49)),
      y 51 (.addOff 24 (.t 50)),
      y 52 (.load false 1 (.t 51))])
   (.cond (.t 52)
    (.seq
     (.region [
       y 53 (.addOff 3 (.t 5)),
       x (.store 1 (.t 53) (.c (.int .i64 3)))])
    (.seq
     (.region [
       y 54 (.load true 17 (.t 5)),
       x (.store 17 (.t 6) (.t 54)),
       y 7 (.mv (.c (.int .i64 0)))])
    .ret))
    .skip)))
  (.seq
   (.region [
     y 55 (.mv (.t 10)),
     y 56 (.nilCheck (.t 55)),
     y 57 (.addOff 7 (.t 56)),
     y 58 (.load true 17 (.t 57)),
     x (.store 17 (.t 6) (.t 58)),
     y 7 (.mv (.c (.int .i64 0)))])
  .ret))))))),
  [.cell 6 true 17, .tmp 7]⟩

/-- wainscot/wainscotref22.Step -/
def i7 : IFun := ⟨98,
  (.seq
   (.region [
     y 4 (.box 25 6 (.t 1)),
     y 5 (.box 27 17 (.t 2)),
     y 6 (.new 27 [(.int .i64 0), (.int .i64 0), (.int .i64 0), (.int .i64 0), (.int .i64 0), (.int .i64 0), (.int .i64 0), (.int .u64 0), (.int .u64 0), (.int .u64 0), (.int .u64 0), (.int .u64 0), (.int .i64 0), (.int .i64 0), (.int .i64 0), (.int .i64 0), (.int .i64 0)]),
     y 7 (.mv (.c (.int .i64 0)))])
  (.seq
   (.region [
     y 13 (.mv (.t 0)),
     y 14 (.load true 6 (.t 4)),
     y 15 (.load true 17 (.t 5)),
     y 16 (.call (.c (.func (.func 20) #[] #[])) [(.t 13), (.t 14), (.t 15), (.c (.int .i64 0)), (.c (.int .i64 13))] false),
     y 8 (.mv (.t 16))])
  (.seq
   (.seq
    (.region [
      y 17 (.mv (.t 8)),
      y 18 (.bin .eql .int (.t 17) (.c (.int .i64 0))),
      y 19 (.mv (.t 18)),
      ⟨(some 20), .addOff 2 (.t 5), (some (19, true)), [], [], false⟩,
      ⟨(some 21), .load false 1 (.t 20), (some (19, true)), [], [], false⟩,
      ⟨(some 22), .bin .gtr .int (.t 21) (.c (.int .i64 3)), (some (19, true)), [], [], false⟩,
      y 23 (.pick (.t 19) (.t 22) (.c (.bool false))),
      y 24 (.mv (.t 23)),
      ⟨(some 25), .addOff 2 (.t 5), (some (24, true)), [], [], false⟩,
      ⟨(some 26), .load false 1 (.t 25), (some (24, true)), [], [], false⟩,
      ⟨(some 27), .bin .lss .int (.t 26) (.c (.int .i64 10)), (some (24, true)), [], [], false⟩,
      y 28 (.pick (.t 24) (.t 27) (.c (.bool false)))])
   (.cond (.t 28)
    (.region [
      y 8 (.mv (.c (.int .i64 292)))])
    .skip))
  (.seq
   (.seq
    (.region [
      y 29 (.mv (.t 8)),
      y 30 (.bin .neq .int (.t 29) (.c (.int .i64 0)))])
   (.cond (.t 30)
    (.seq
     (.region [
       y 31 (.build [(.int .i64 0), (.int .i64 0), (.int .i64 0), (.int .i64 0), (.int .i64 0), (.int .i64 0), (.int .i64 0), (.int .u64 0), (.int .u64 0), (.int .u64 0), (.int .u64 0), (.int .u64 0), (.int .i64 0), (.int .i64 0), (.int .i64 0), (.int .i64 0), (.int .i64 0)] []),
       y 32 (.mv (.t 8)),
       x (.store 17 (.t 6) (.t 31)),
       y 7 (.mv (.t 32))])
    .ret)
    .skip))
  (.seq
   (.seq
    (.region [
      y 33 (.addOff 2 (.t 5)),
      y 34 (.load false 1 (.t 33))])
   (.block 0
    (.seq
     (.seq
      (.region [
        y 36 (.bin .eql .int (.t 34) (.c (.int .i64 0))),
        y 35 (.mv (.t 36))])
     (.cond (.t 35)
      .skip
      (.region [
        y 37 (.bin .eql .int (.t 34) (.c (.int .i64 10))),
        y 35 (.mv (.t 37))])))
    (.cond (.t 35)
     (.seq
      (.region [
        y 38 (.mv (.t 0)),
        y 39 (.load true 6 (.t 4)),
        y 40 (.load true 17 (.t 5)),
        y 41 (.call (.c (.func (.func 21) #[] #[])) [(.t 38), (.t 39), (.t 40)] false),
        x (.store 17 (.t 6) (.t 41)),
        y 7 (.mv (.c (.int .i64 0)))])
     .ret)
     (.seq
      (.seq
       (.region [
         y 43 (.bin .eql .int (.t 34) (.c (.int .i64 1))),
         y 42 (.mv (.t 43))])
      (.cond (.t 42)
       .skip
       (.region [
         y 44 (.bin .eql .int (.t 34) (.c (.int .i64 11))),
         y 42 (.mv (.t 44))])))
     (.cond (.t 42)
      (.seq
       (.region [
         y 45 (.mv (.t 0)),
         y 46 (.load true 6 (.t 4)),
         y 47 (.load true 17 (.t 5)),
         y 48 (.call (.c (.func (.func 22) #[] #[])) [(.t 45), (.t 46), (.t 47)] false),
         x (.store 17 (.t 6) (.t 48)),
         y 7 (.mv (.c (.int .i64 0)))])
      .ret)
      (.seq
       (.region [
         y 50 (.bin .eql .int (.t 34) (.c (.int .i64 2))),
         y 49 (.mv (.t 50))])
      (.cond (.t 49)
       (.seq
        (.region [
          y 51 (.mv (.t 0)),
          y 52 (.load true 6 (.t 4)),
          y 53 (.load true 17 (.t 5)),
          y 54 (.call (.c (.func (.func 23) #[] #[])) [(.t 51), (.t 52), (.t 53)] false),
          x (.store 17 (.t 6) (.t 54)),
          y 7 (.mv (.c (.int .i64 0)))])
       .ret)
       (.seq
        (.region [
          y 56 (.bin .eql .int (.t 34) (.c (.int .i64 12))),
          y 55 (.mv (.t 56))])
       (.cond (.t 55)
        (.seq
         (.seq
          (.region [
            y 57 (.mv (.t 0)),
            y 58 (.load true 6 (.t 4)),
            y 59 (.addOff 5 (.t 5)),
            y 60 (.load false 1 (.t 59)),
            y 61 (.addOff 6 (.t 5)),
            y 62 (.load false 1 (.t 61)),
            y 63 (.addOff 12 (.t 5)),
            y 64 (.load false 1 (.t 63)),
            y 65 (.call (.c (.func (.func 24) #[] #[])) [(.t 57), (.t 58), (.t 60), (.t 62), (.t 64)] false),
            y 66 (.un .not (.t 65))])
         (.cond (.t 66)
          (.seq
           (.region [
             y 67 (.load true 17 (.t 5)),
             y 68 (.call (.c (.func (.func 25) #[] #[])) [(.t 67)] false),
             x (.store 17 (.t 6) (.t 68)),
             y 7 (.mv (.c (.int .i64 0)))])
          .ret)
          .skip))
        (.seq
         (.region [
           y 69 (.load true 17 (.t 5)),
           y 70 (.call (.c (.func (.func 26) #[] #[])) [(.t 69), (.c (.int .i64 13))] false),
           x (.store 17 (.t 6) (.t 70)),
           y 7 (.mv (.c (.int .i64 0)))])
        .ret))
        .skip))))))))))
  (.seq
   (.region [
     y 71 (.addOff 12 (.t 5)),
     y 72 (.load false 1 (.t 71)),
     y 9 (.mv (.t 72)),
     y 10 (.mv (.c (.int .i64 0)))])
  (.seq
   (.seq
    (.region [
      y 73 (.addOff 2 (.t 5)),
      y 74 (.load false 1 (.t 73)),
      y 75 (.bin .eql .int (.t 74) (.c (.int .i64 13)))])
   (.cond (.t 75)
    (.seq
     (.region [
       y 76 (.addOff 6 (.t 5)),
       y 77 (.load false 1 (.t 76)),
       y 9 (.mv (.t 77))])
    (.region [
      y 10 (.mv (.c (.int .i64 10)))]))
    .skip))
  (.seq
   (.region [
     y 79 (.mv (.t 0)),
     y 80 (.load true 6 (.t 4)),
     y 81 (.load true 17 (.t 5)),
     y 82 (.addOff 5 (.t 5)),
     y 83 (.load false 1 (.t 82)),
     y 84 (.mv (.t 9)),
     y 85 (.call (.c (.func (.func 27) #[] #[])) [(.t 79), (.t 80), (.t 81), (.t 83), (.t 84)] false),
     y 78 (.mv (.t 85)),
     y 86 (.extract (.t 78) 0),
     y 87 (.extract (.t 78) 1),
     y 11 (.mv (.t 86)),
     y 12 (.mv (.t 87))])
  (.seq
   (.seq
    (.region [
      y 88 (.mv (.t 12)),
      y 89 (.un .not (.t 88))])
   (.cond (.t 89)
    (.seq
     (.region [
       y 90 (.load true 17 (.t 5)),
       y 91 (.call (.c (.func (.func 25) #[] #[])) [(.t 90)] false),
       x (.store 17 (.t 6) (.t 91)),
       y 7 (.mv (.c (.int .i64 0)))])
    .ret)
    .skip))
  (.seq
   (.seq
    (.region [
      y 92 (.mv (.t 11))])
   (.cond (.t 92)
    (.seq
     (.region [
       y 93 (.load true 17 (.t 5)),
       y 94 (.call (.c (.func (.func 28) #[] #[])) [(.t 93)] false),
       x (.store 17 (.t 6) (.t 94)),
       y 7 (.mv (.c (.int .i64 0)))])
    .ret)
    .skip))
  (.seq
   (.region [
     y 95 (.load true 17 (.t 5)),
     y 96 (.mv (.t 10)),
     y 97 (.call (.c (.func (.func 26) #[] #[])) [(.t 95), (.t 96)] false),
     x (.store 17 (.t 6) (.t 97)),
     y 7 (.mv (.c (.int .i64 0)))])
  .ret))))))))))),
  [.cell 6 true 17, .tmp 7]⟩

/-- wainscot/wainscotref00.EqWords -/
def i8 : IFun := ⟨26,
  (.seq
   (.region [
     y 4 (.mv (.c (.bool false)))])
  (.seq
   (.seq
    (.region [
      y 6 (.mv (.t 0)),
      y 7 (.lenS (.t 6)),
      y 8 (.mv (.t 1)),
      y 9 (.lenS (.t 8)),
      y 10 (.bin .neq .int (.t 7) (.t 9))])
   (.cond (.t 10)
    (.seq
     (.region [
       y 4 (.mv (.c (.bool false)))])
    .ret)
    .skip))
  (.seq
   (.seq
    (.region [
      y 5 (.mv (.c (.int .i64 0)))])
   (.block 0
    (.loop
     (.seq
      (.seq
       (.region [
         y 11 (.mv (.t 5)),
         y 12 (.mv (.t 0)),
         y 13 (.lenS (.t 12)),
         y 14 (.bin .lss .int (.t 11) (.t 13))])
      (.cond (.t 14)
       .skip
       (.exit 0)))
     (.seq
      (.block 1
       (.seq
        (.region [
          y 17 (.mv (.t 0)),
          y 18 (.mv (.t 5)),
          y 19 (.idxS 1 (.t 17) (.t 18)),
          y 20 (.load false 1 (.t 19)),
          y 21 (.mv (.t 1)),
          y 22 (.mv (.t 5)),
          y 23 (.idxS 1 (.t 21) (.t 22)),
          y 24 (.load false 1 (.t 23)),
          y 25 (.bin .neq .int (.t 20) (.t 24))])
       (.cond (.t 25)
        (.seq
         (.region [
           y 4 (.mv (.c (.bool false)))])
        .ret)
        .skip)))
     (.region [
       y 15 (.mv (.t 5)),
       y 16 (.bin .add .int (.t 15) (.c (.int .i64 1))),
       y 5 (.mv (.t 16))]))))))
  (.seq
   (.region [
     y 4 (.mv (.c (.bool true)))])
  .ret)))),
  [.tmp 4]⟩

/-- (*wainscot/mem.Mem).Words -/
def i9 : IFun := ⟨10,
  (.seq
   (.region [
     y 2 (.mv (.c (.slice none 0 0)))])
  (.seq
   (.seq
    (.region [
      y 3 (.mv (.t 0)),
      y 4 (.bin .eql .ptr (.t 3) (.c (.pointer none)))])
   (.cond (.t 4)
    (.seq
     (.region [
       y 2 (.mv (.c (.slice none 0 0)))])
    .ret)
    .skip))
  (.seq
   (.region [
     y 5 (.mv (.t 0)),
     y 6 (.nilCheck (.t 5)),
     y 7 (.addOff 0 (.t 6)),
     y 8 (.load false 1 (.t 7)),
     y 9 (.call (.c (.func (.func 29) #[] #[])) [(.t 8)] true),
     y 2 (.mv (.t 9))])
  .ret))),
  [.tmp 2]⟩

/-- (*wainscot/wainscotref03.Mem).Words -/
def i10 : IFun := ⟨10,
  (.seq
   (.region [
     y 2 (.mv (.c (.slice none 0 0)))])
  (.seq
   (.region [
     y 3 (.mv (.c (.slice none 0 0)))])
  (.seq
   (.region [
     y 4 (.mv (.t 3)),
     y 5 (.mv (.t 0)),
     y 6 (.nilCheck (.t 5)),
     y 7 (.addOff 0 (.t 6)),
     y 8 (.load false 1 (.t 7)),
     y 9 (.append 23 1 8 (.t 4) (.t 8)),
     y 2 (.mv (.t 9))])
  .ret))),
  [.tmp 2]⟩

/-- wainscot/wainscotlaw22.works -/
def i11 : IFun := ⟨101,
  (.seq
   (.region [
     y 0 (.mv (.c (.bool false)))])
  (.seq
   (.region [
     y 14 (.call (.c (.func (.func 30) #[] #[])) [(.c (.int .i64 3)), (.c (.int .i64 3)), (.c (.int .u64 0)), (.c (.int .u64 5))] false),
     y 13 (.mv (.t 14)),
     y 15 (.extract (.t 13) 0),
     y 16 (.extract (.t 13) 1),
     y 2 (.new 25 [(.int .i64 0), (.int .i64 0), (.int .i64 0), (.int .i64 0), (.int .i64 0), (.int .u64 0)]),
     y 1 (.mv (.t 15)),
     x (.store 6 (.t 2) (.t 16))])
  (.seq
   (.seq
    (.region [
      y 17 (.mv (.t 1)),
      y 18 (.bin .eql .ptr (.t 17) (.c (.pointer none)))])
   (.cond (.t 18)
    (.seq
     (.region [
       y 0 (.mv (.c (.bool false)))])
    .ret)
    .skip))
  (.seq
   (.region [
     y 20 (.mv (.t 1)),
     y 21 (.load true 6 (.t 2)),
     y 22 (.build [(.int .i64 0), (.int .i64 0), (.int .i64 0), (.int .i64 0), (.int .i64 0), (.int .i64 0), (.int .i64 0), (.int .u64 0), (.int .u64 0), (.int .u64 0), (.int .u64 0), (.int .u64 0), (.int .i64 0), (.int .i64 0), (.int .i64 0), (.int .i64 0), (.int .i64 0)] [(0, 1, (.c (.int .i64 1)))]),
     y 23 (.call (.c (.func (.func 31) #[] #[])) [(.t 20), (.t 21), (.t 22), (.c (.int .i64 9))] false),
     y 19 (.mv (.t 23)),
     y 24 (.extract (.t 19) 0),
     y 25 (.extract (.t 19) 1),
     y 3 (.new 27 [(.int .i64 0), (.int .i64 0), (.int .i64 0), (.int .i64 0), (.int .i64 0), (.int .i64 0), (.int .i64 0), (.int .u64 0), (.int .u64 0), (.int .u64 0), (.int .u64 0), (.int .u64 0), (.int .i64 0), (.int .i64 0), (.int .i64 0), (.int .i64 0), (.int .i64 0)]),
     x (.store 17 (.t 3) (.t 24)),
     y 4 (.mv (.t 25))])
  (.seq
   (.region [
     y 27 (.mv (.t 1)),
     y 28 (.load true 6 (.t 2)),
     y 29 (.call (.c (.func (.func 32) #[] #[])) [(.t 27), (.t 28)] false),
     y 26 (.mv (.t 29)),
     y 30 (.extract (.t 26) 0),
     y 31 (.extract (.t 26) 1),
     y 32 (.extract (.t 26) 2),
     y 5 (.mv (.t 30)),
     y 6 (.mv (.t 31)),
     y 7 (.mv (.t 32))])
  (.seq
   (.region [
     y 34 (.mv (.t 1)),
     y 35 (.load true 6 (.t 2)),
     y 36 (.addOff 5 (.t 3)),
     y 37 (.load false 1 (.t 36)),
     y 38 (.addOff 6 (.t 3)),
     y 39 (.load false 1 (.t 38)),
     y 40 (.build [(.int .i64 0), (.int .i64 0), (.int .i64 0), (.int .i64 0), (.int .i64 0), (.int .i64 0), (.int .i64 0), (.int .u64 0), (.int .u64 0), (.int .u64 0), (.int .u64 0), (.int .u64 0), (.int .i64 0), (.int .i64 0), (.int .i64 0), (.int .i64 0), (.int .i64 0)] [(0, 1, (.c (.int .i64 2))), (2, 1, (.c (.int .i64 10))), (5, 1, (.t 37)), (6, 1, (.t 39))]),
     y 41 (.call (.c (.func (.func 31) #[] #[])) [(.t 34), (.t 35), (.t 40), (.c (.int .i64 9))] false),
     y 33 (.mv (.t 41)),
     y 42 (.extract (.t 33) 0),
     y 43 (.extract (.t 33) 1),
     y 8 (.new 27 [(.int .i64 0), (.int .i64 0), (.int .i64 0), (.int .i64 0), (.int .i64 0), (.int .i64 0), (.int .i64 0), (.int .u64 0), (.int .u64 0), (.int .u64 0), (.int .u64 0), (.int .u64 0), (.int .i64 0), (.int .i64 0), (.int .i64 0), (.int .i64 0), (.int .i64 0)]),
     x (.store 17 (.t 8) (.t 42)),
     y 9 (.mv (.t 43))])
  (.seq
   (.region [
     y 45 (.mv (.t 1)),
     y 46 (.load true 6 (.t 2)),
     y 47 (.call (.c (.func (.func 32) #[] #[])) [(.t 45), (.t 46)] false),
     y 44 (.mv (.t 47)),
     y 48 (.extract (.t 44) 0),
     y 49 (.extract (.t 44) 1),
     y 50 (.extract (.t 44) 2),
     y 10 (.mv (.t 48)),
     y 11 (.mv (.t 49)),
     y 12 (.mv (.t 50))])
  (.seq
   (.region [
     y 51 (.mv (.t 4)),
     y 52 (.bin .eql .int (.t 51) (.c (.int .i64 4))),
     y 53 (.mv (.t 52)),
     ⟨(some 54), .addOff 3 (.t 3), (some (53, true)), [], [], false⟩,
     ⟨(some 55), .load false 1 (.t 54), (some (53, true)), [], [], false⟩,
     ⟨(some 56), .bin .eql .int (.t 55) (.c (.int .i64 1)), (some (53, true)), [], [], false⟩,
     y 57 (.pick (.t 53) (.t 56) (.c (.bool false))),
     y 58 (.mv (.t 57)),
     ⟨(some 59), .addOff 5 (.t 3), (some (58, true)), [], [], false⟩,
     ⟨(some 60), .load false 1 (.t 59), (some (58, true)), [], [], false⟩,
     ⟨(some 61), .bin .eql .int (.t 60) (.c (.int .i64 0)), (some (58, true)), [], [], false⟩,
     y 62 (.pick (.t 58) (.t 61) (.c (.bool false))),
     y 63 (.mv (.t 62)),
     ⟨(some 64), .addOff 6 (.t 3), (some (63, true)), [], [], false⟩,
     ⟨(some 65), .load false 1 (.t 64), (some (63, true)), [], [], false⟩,
     ⟨(some 66), .bin .eql .int (.t 65) (.c (.int .i64 0)), (some (63, true)), [], [], false⟩,
     y 67 (.pick (.t 63) (.t 66) (.c (.bool false))),
     y 68 (.mv (.t 67)),
     ⟨(some 69), .mv (.t 7), (some (68, true)), [], [], false⟩,
     y 70 (.pick (.t 68) (.t 69) (.c (.bool false))),
     y 71 (.mv (.t 70)),
     ⟨(some 72), .mv (.t 5), (some (71, true)), [], [], false⟩,
     ⟨(some 73), .buildSlice 3 [(.int .i64 0), (.int .i64 0)] 2 [(0, 1, (.c (.int .i64 1))), (1, 1, (.c (.int .i64 2)))], (some (71, true)), [], [], false⟩,
     ⟨(some 74), .call (.c (.func (.func 33) #[] #[])) [(.t 72), (.t 73)] true, (some (71, true)), [], [], false⟩,
     y 75 (.pick (.t 71) (.t 74) (.c (.bool false))),
     y 76 (.mv (.t 75)),
     ⟨(some 77), .mv (.t 6), (some (76, true)), [], [], false⟩,
     ⟨(some 78), .bin .eql .int (.t 77) (.c (.int .u64 6)), (some (76, true)), [], [], false⟩,
     y 79 (.pick (.t 76) (.t 78) (.c (.bool false))),
     y 80 (.mv (.t 79)),
     ⟨(some 81), .mv (.t 9), (some (80, true)), [], [], false⟩,
     ⟨(some 82), .bin .eql .int (.t 81) (.c (.int .i64 4)), (some (80, true)), [], [], false⟩,
     y 83 (.pick (.t 80) (.t 82) (.c (.bool false))),
     y 84 (.mv (.t 83)),
     ⟨(some 85), .addOff 3 (.t 8), (some (84, true)), [], [], false⟩,
     ⟨(some 86), .load false 1 (.t 85), (some (84, true)), [], [], false⟩,
     ⟨(some 87), .bin .eql .int (.t 86) (.c (.int .i64 1)), (some (84, true)), [], [], false⟩,
     y 88 (.pick (.t 84) (.t 87) (.c (.bool false))),
     y 89 (.mv (.t 88)),
     ⟨(some 90), .mv (.t 12), (some (89, true)), [], [], false⟩,
     y 91 (.pick (.t 89) (.t 90) (.c (.bool false))),
     y 92 (.mv (.t 91)),
     ⟨(some 93), .mv (.t 10), (some (92, true)), [], [], false⟩,
     ⟨(some 94), .buildSlice 3 [(.int .i64 0), (.int .i64 0), (.int .i64 0)] 3 [(0, 1, (.c (.int .i64 0))), (1, 1, (.c (.int .i64 1))), (2, 1, (.c (.int .i64 2)))], (some (92, true)), [], [], false⟩,
     ⟨(some 95), .call (.c (.func (.func 33) #[] #[])) [(.t 93), (.t 94)] true, (some (92, true)), [], [], false⟩,
     y 96 (.pick (.t 92) (.t 95) (.c (.bool false))),
     y 97 (.mv (.t 96)),
     ⟨(some 98), .mv (.t 11), (some (97, true)), [], [], false⟩,
     ⟨(some 99), .bin .eql .int (.t 98) (.c (.int .u64 7)), (some (97, true)), [], [], false⟩,
     y 100 (.pick (.t 97) (.t 99) (.c (.bool false))),
     y 0 (.mv (.t 100))])
  .ret)))))))),
  [.tmp 0]⟩

/-- wainscot/wainscotref21.Words -/
def i12 : IFun := ⟨20,
  (.seq
   (.region [
     y 1 (.box 25 6 (.t 0)),
     y 2 (.mv (.c (.int .i64 0)))])
  (.seq
   (.region [
     y 3 (.load true 6 (.t 1)),
     y 4 (.addOff 0 (.t 1)),
     y 5 (.load false 1 (.t 4)),
     y 6 (.bin .mul .int (.c (.int .i64 4)) (.t 5)),
     y 7 (.bin .add .int (.t 6) (.c (.int .i64 4))),
     y 8 (.addOff 1 (.t 1)),
     y 9 (.load false 1 (.t 8)),
     y 10 (.bin .mul .int (.c (.int .i64 4)) (.t 9)),
     y 11 (.bin .add .int (.t 7) (.t 10)),
     y 12 (.addOff 1 (.t 1)),
     y 13 (.load false 1 (.t 12)),
     y 14 (.addOff 2 (.t 1)),
     y 15 (.load false 1 (.t 14)),
     y 16 (.bin .mul .int (.t 13) (.t 15)),
     y 17 (.bin .add .int (.t 11) (.t 16)),
     y 18 (.call (.c (.func (.func 34) #[] #[])) [(.t 3), (.c (.bool true)), (.t 17)] true),
     y 19 (.minmax true (.t 18) [(.c (.int .i64 0))]),
     y 2 (.mv (.t 19))])
  .ret)),
  [.tmp 2]⟩

/-- wainscot/mem.New -/
def i13 : IFun := ⟨14,
  (.seq
   (.region [
     y 2 (.mv (.c (.pointer none))),
     y 3 (.mv (.c (.int .i64 0)))])
  (.seq
   (.seq
    (.region [
      y 4 (.mv (.t 0)),
      y 5 (.bin .lss .int (.t 4) (.c (.int .i64 1))),
      y 6 (.mv (.t 5)),
      ⟨(some 7), .mv (.t 0), (some (6, false)), [], [], false⟩,
      ⟨(some 8), .bin .gtr .int (.t 7) (.c (.int .i64 4096)), (some (6, false)), [], [], false⟩,
      y 9 (.pick (.t 6) (.c (.bool true)) (.t 8))])
   (.cond (.t 9)
    (.seq
     (.region [
       y 2 (.mv (.c (.pointer none))),
       y 3 (.mv (.c (.int .i64 9)))])
    .ret)
    .skip))
  (.seq
   (.region [
     y 10 (.mv (.t 0)),
     y 11 (.mkSlice 23 (.int .u64 0) 8 (.t 10) (.t 10)),
     y 12 (.build [(.slice none 0 0), (.int .i64 0)] [(0, 1, (.t 11))]),
     y 13 (.box 48 2 (.t 12)),
     y 2 (.mv (.t 13)),
     y 3 (.mv (.c (.int .i64 0)))])
  .ret))),
  [.tmp 2, .tmp 3]⟩

/-- wainscot/wainscotref03.New -/
def i14 : IFun := ⟨14,
  (.seq
   (.region [
     y 2 (.mv (.c (.pointer none))),
     y 3 (.mv (.c (.int .i64 0)))])
  (.seq
   (.seq
    (.region [
      y 4 (.mv (.t 0)),
      y 5 (.bin .lss .int (.t 4) (.c (.int .i64 1))),
      y 6 (.mv (.t 5)),
      ⟨(some 7), .mv (.t 0), (some (6, false)), [], [], false⟩,
      ⟨(some 8), .bin .gtr .int (.t 7) (.c (.int .i64 4096)), (some (6, false)), [], [], false⟩,
      y 9 (.pick (.t 6) (.c (.bool true)) (.t 8))])
   (.cond (.t 9)
    (.seq
     (.region [
       y 2 (.mv (.c (.pointer none))),
       y 3 (.mv (.c (.int .i64 9)))])
    .ret)
    .skip))
  (.seq
   (.region [
     y 10 (.mv (.t 0)),
     y 11 (.mkSlice 23 (.int .u64 0) 8 (.t 10) (.t 10)),
     y 12 (.build [(.slice none 0 0), (.int .i64 0)] [(0, 1, (.t 11))]),
     y 13 (.box 66 2 (.t 12)),
     y 2 (.mv (.t 13)),
     y 3 (.mv (.c (.int .i64 0)))])
  .ret))),
  [.tmp 2, .tmp 3]⟩

/-- (*wainscot/mem.Mem).Store -/
def i15 : IFun := ⟨11,
  (.seq
   (.region [
     y 5 (.box 23 1 (.t 2)),
     y 6 (.mv (.c (.int .i64 0)))])
  (.seq
   (.region [
     y 7 (.mv (.t 0)),
     y 8 (.mv (.t 1)),
     y 9 (.mkFunc 36 [] [(.t 5)]),
     y 10 (.call (.c (.func (.func 35) #[] #[])) [(.t 7), (.t 8), (.c (.int .i64 1)), (.t 9)] false),
     y 6 (.mv (.t 10))])
  .ret)),
  [.tmp 6]⟩

/-- (*wainscot/wainscotref03.Mem).Store -/
def i16 : IFun := ⟨21,
  (.seq
   (.region [
     y 6 (.mv (.c (.int .i64 0)))])
  (.seq
   (.seq
    (.region [
      y 8 (.mv (.t 0)),
      y 9 (.mv (.t 1)),
      y 10 (.call (.c (.func (.func 37) #[] #[])) [(.t 8), (.t 9), (.c (.int .i64 1))] false),
      y 7 (.mv (.t 10))])
   (.seq
    (.region [
      y 11 (.mv (.t 7)),
      y 12 (.bin .neq .int (.t 11) (.c (.int .i64 0)))])
   (.cond (.t 12)
    (.seq
     (.region [
       y 13 (.mv (.t 7)),
       y 6 (.mv (.t 13))])
    .ret)
    .skip)))
  (.seq
   (.region [
     y 14 (.mv (.t 0)),
     y 15 (.nilCheck (.t 14)),
     y 16 (.addOff 0 (.t 15)),
     y 17 (.load false 1 (.t 16)),
     y 18 (.mv (.t 1)),
     y 19 (.mv (.t 2)),
     y 20 (.idxS 1 (.t 17) (.t 18)),
     x (.store 1 (.t 20) (.t 19))])
  (.seq
   (.region [
     y 6 (.mv (.c (.int .i64 0)))])
  .ret)))),
  [.tmp 6]⟩

/-- (*wainscot/mem.Mem).Len -/
def i17 : IFun := ⟨10,
  (.seq
   (.region [
     y 2 (.mv (.c (.int .i64 0)))])
  (.seq
   (.seq
    (.region [
      y 3 (.mv (.t 0)),
      y 4 (.bin .eql .ptr (.t 3) (.c (.pointer none)))])
   (.cond (.t 4)
    (.seq
     (.region [
       y 2 (.mv (.c (.int .i64 0)))])
    .ret)
    .skip))
  (.seq
   (.region [
     y 5 (.mv (.t 0)),
     y 6 (.nilCheck (.t 5)),
     y 7 (.addOff 0 (.t 6)),
     y 8 (.load false 1 (.t 7)),
     y 9 (.lenS (.t 8)),
     y 2 (.mv (.t 9))])
  .ret))),
  [.tmp 2]⟩

/-- wainscot/chart.Check -/
def i18 : IFun := ⟨35,
  (.seq
   (.region [
     y 1 (.box 25 6 (.t 0)),
     y 2 (.mv (.c (.int .i64 0)))])
  (.seq
   (.block 0
    (.seq
     (.seq
      (.region [
        y 4 (.addOff 0 (.t 1)),
        y 5 (.load false 1 (.t 4)),
        y 6 (.bin .lss .int (.t 5) (.c (.int .i64 1))),
        y 3 (.mv (.t 6))])
     (.cond (.t 3)
      .skip
      (.seq
       (.region [
         y 7 (.addOff 0 (.t 1)),
         y 8 (.load false 1 (.t 7)),
         y 9 (.bin .gtr .int (.t 8) (.c (.int .i64 8))),
         y 3 (.mv (.t 9))])
      (.cond (.t 3)
       .skip
       (.seq
        (.region [
          y 10 (.addOff 1 (.t 1)),
          y 11 (.load false 1 (.t 10)),
          y 12 (.bin .lss .int (.t 11) (.c (.int .i64 1))),
          y 3 (.mv (.t 12))])
       (.cond (.t 3)
        .skip
        (.seq
         (.region [
           y 13 (.addOff 1 (.t 1)),
           y 14 (.load false 1 (.t 13)),
           y 15 (.bin .gtr .int (.t 14) (.c (.int .i64 32))),
           y 3 (.mv (.t 15))])
        (.cond (.t 3)
         .skip
         (.seq
          (.region [
            y 16 (.addOff 2 (.t 1)),
            y 17 (.load false 1 (.t 16)),
            y 18 (.bin .lss .int (.t 17) (.c (.int .i64 1))),
            y 3 (.mv (.t 18))])
         (.cond (.t 3)
          .skip
          (.region [
            y 19 (.addOff 2 (.t 1)),
            y 20 (.load false 1 (.t 19)),
            y 21 (.bin .gtr .int (.t 20) (.c (.int .i64 16))),
            y 3 (.mv (.t 21))])))))))))))
    (.cond (.t 3)
     (.seq
      (.region [
        y 2 (.mv (.c (.int .i64 2)))])
     .ret)
     (.seq
      (.seq
       (.region [
         y 23 (.addOff 3 (.t 1)),
         y 24 (.load false 1 (.t 23)),
         y 25 (.bin .lss .int (.t 24) (.c (.int .i64 0))),
         y 22 (.mv (.t 25))])
      (.cond (.t 22)
       .skip
       (.seq
        (.region [
          y 26 (.addOff 3 (.t 1)),
          y 27 (.load false 1 (.t 26)),
          y 28 (.bin .gtr .int (.t 27) (.c (.int .i64 32))),
          y 22 (.mv (.t 28))])
       (.cond (.t 22)
        .skip
        (.seq
         (.region [
           y 29 (.addOff 4 (.t 1)),
           y 30 (.load false 1 (.t 29)),
           y 31 (.bin .lss .int (.t 30) (.c (.int .i64 0))),
           y 22 (.mv (.t 31))])
        (.cond (.t 22)
         .skip
         (.region [
           y 32 (.addOff 4 (.t 1)),
           y 33 (.load false 1 (.t 32)),
           y 34 (.bin .gtr .int (.t 33) (.c (.int .i64 32))),
           y 22 (.mv (.t 34))])))))))
     (.cond (.t 22)
      (.seq
       (.region [
         y 2 (.mv (.c (.int .i64 2)))])
      .ret)
      .skip)))))
  (.seq
   (.region [
     y 2 (.mv (.c (.int .i64 0)))])
  .ret))),
  [.tmp 2]⟩

/-- wainscot/fast.program -/
def i19 : IFun := ⟨3,
  (.seq
   (.region [
     y 0 (.mv (.c (.map none)))])
  (.seq
   (.region [
     y 1 (.mkMap),
     x (.mapSet (.t 1) (.c (.int .i64 0)) (.c (.func (.func 38) #[] #[]))),
     x (.mapSet (.t 1) (.c (.int .i64 1)) (.c (.func (.func 39) #[] #[]))),
     x (.mapSet (.t 1) (.c (.int .i64 2)) (.c (.func (.func 40) #[] #[]))),
     x (.mapSet (.t 1) (.c (.int .i64 3)) (.c (.func (.func 41) #[] #[]))),
     x (.mapSet (.t 1) (.c (.int .i64 10)) (.c (.func (.func 38) #[] #[]))),
     x (.mapSet (.t 1) (.c (.int .i64 11)) (.c (.func (.func 42) #[] #[]))),
     x (.mapSet (.t 1) (.c (.int .i64 12)) (.c (.func (.func 43) #[] #[]))),
     x (.mapSet (.t 1) (.c (.int .i64 13)) (.c (.func (.func 44) #[] #[]))),
     y 2 (.mv (.t 1)),
     y 0 (.mv (.t 2))])
  .ret)),
  [.tmp 0]⟩

/-- wainscot/wainscotref22.May -/
def i20 : IFun := ⟨44,
  (.seq
   (.region [
     y 6 (.box 25 6 (.t 1)),
     y 7 (.box 27 17 (.t 2)),
     y 10 (.mv (.c (.int .i64 0)))])
  (.seq
   (.seq
    (.region [
      y 11 (.mv (.t 0)),
      y 12 (.bin .eql .ptr (.t 11) (.c (.pointer none))),
      y 13 (.mv (.t 12)),
      ⟨(some 14), .mv (.t 0), (some (13, false)), [], [], false⟩,
      ⟨(some 15), .nilCheck (.t 14), (some (13, false)), [], [], false⟩,
      ⟨(some 16), .addOff 0 (.t 15), (some (13, false)), [], [], false⟩,
      ⟨(some 17), .load false 1 (.t 16), (some (13, false)), [], [], false⟩,
      ⟨(some 18), .lenS (.t 17), (some (13, false)), [], [], false⟩,
      ⟨(some 19), .bin .eql .int (.t 18) (.c (.int .i64 0)), (some (13, false)), [], [], false⟩,
      y 20 (.pick (.t 13) (.c (.bool true)) (.t 19))])
   (.cond (.t 20)
    (.seq
     (.region [
       y 10 (.mv (.c (.int .i64 1)))])
    .ret)
    .skip))
  (.seq
   (.seq
    (.region [
      y 21 (.load true 6 (.t 6)),
      y 22 (.call (.c (.func (.func 45) #[] #[])) [(.t 21)] true),
      y 23 (.bin .neq .int (.t 22) (.c (.int .i64 0)))])
   (.cond (.t 23)
    (.seq
     (.region [
       y 10 (.mv (.c (.int .i64 2)))])
    .ret)
    .skip))
  (.seq
   (.seq
    (.region [
      y 24 (.addOff 3 (.t 7)),
      y 25 (.load false 1 (.t 24)),
      y 26 (.bin .neq .int (.t 25) (.c (.int .i64 0))),
      y 27 (.mv (.t 26)),
      ⟨(some 28), .addOff 4 (.t 7), (some (27, false)), [], [], false⟩,
      ⟨(some 29), .load false 1 (.t 28), (some (27, false)), [], [], false⟩,
      ⟨(some 30), .bin .neq .int (.t 29) (.c (.int .i64 0)), (some (27, false)), [], [], false⟩,
      y 31 (.pick (.t 27) (.c (.bool true)) (.t 30)),
      y 32 (.mv (.t 31)),
      ⟨(some 33), .addOff 2 (.t 7), (some (32, false)), [], [], false⟩,
      ⟨(some 34), .load false 1 (.t 33), (some (32, false)), [], [], false⟩,
      ⟨(some 35), .mv (.t 3), (some (32, false)), [], [], false⟩,
      ⟨(some 36), .bin .lss .int (.t 34) (.t 35), (some (32, false)), [], [], false⟩,
      y 37 (.pick (.t 32) (.c (.bool true)) (.t 36)),
      y 38 (.mv (.t 37)),
      ⟨(some 39), .addOff 2 (.t 7), (some (38, false)), [], [], false⟩,
      ⟨(some 40), .load false 1 (.t 39), (some (38, false)), [], [], false⟩,
      ⟨(some 41), .mv (.t 4), (some (38, false)), [], [], false⟩,
      ⟨(some 42), .bin .gtr .int (.t 40) (.t 41), (some (38, false)), [], [], false⟩,
      y 43 (.pick (.t 38) (.c (.bool true)) (.t 42))])
   (.cond (.t 43)
    (.seq
     (.region [
       y 10 (.mv (.c (.int .i64 292)))])
    .ret)
    .skip))
  (.seq
   (.region [
     y 10 (.mv (.c (.int .i64 0)))])
  .ret))))),
  [.tmp 10]⟩

/-- wainscot/wainscotref22.turn -/
def i21 : IFun := ⟨30,
  (.seq
   (.region [
     y 4 (.box 25 6 (.t 1)),
     y 5 (.box 27 17 (.t 2)),
     y 6 (.new 27 [(.int .i64 0), (.int .i64 0), (.int .i64 0), (.int .i64 0), (.int .i64 0), (.int .i64 0), (.int .i64 0), (.int .u64 0), (.int .u64 0), (.int .u64 0), (.int .u64 0), (.int .u64 0), (.int .i64 0), (.int .i64 0), (.int .i64 0), (.int .i64 0), (.int .i64 0)])])
  (.seq
   (.region [
     y 10 (.mv (.t 0)),
     y 11 (.load true 6 (.t 4)),
     y 12 (.addOff 1 (.t 5)),
     y 13 (.load false 1 (.t 12)),
     y 14 (.call (.c (.func (.func 48) #[] #[])) [(.t 11), (.t 13)] true),
     y 15 (.call (.c (.func (.func 47) #[] #[])) [(.t 14)] false),
     y 16 (.call (.c (.func (.func 46) #[] #[])) [(.t 10), (.t 15)] false),
     y 9 (.mv (.t 16)),
     y 17 (.extract (.t 9) 0),
     y 18 (.extract (.t 9) 1),
     y 7 (.mv (.t 17)),
     y 8 (.mv (.t 18))])
  (.seq
   (.seq
    (.region [
      y 19 (.mv (.t 8)),
      y 20 (.bin .neq .int (.t 19) (.c (.int .i64 0)))])
   (.cond (.t 20)
    (.seq
     (.region [
       y 21 (.load true 17 (.t 5)),
       y 22 (.call (.c (.func (.func 25) #[] #[])) [(.t 21)] false),
       x (.store 17 (.t 6) (.t 22))])
    .ret)
    .skip))
  (.seq
   (.region [
     y 23 (.mv (.t 7)),
     y 24 (.addOff 8 (.t 5)),
     x (.store 1 (.t 24) (.t 23))])
  (.seq
   (.region [
     y 25 (.load true 17 (.t 5)),
     y 26 (.addOff 2 (.t 5)),
     y 27 (.load false 1 (.t 26)),
     y 28 (.bin .add .int (.t 27) (.c (.int .i64 1))),
     y 29 (.call (.c (.func (.func 26) #[] #[])) [(.t 25), (.t 28)] false),
     x (.store 17 (.t 6) (.t 29))])
  .ret))))),
  [.cell 6 true 17]⟩

/-- wainscot/wainscotref22.head -/
def i22 : IFun := ⟨65,
  (.seq
   (.region [
     y 4 (.box 25 6 (.t 1)),
     y 5 (.box 27 17 (.t 2)),
     y 6 (.new 27 [(.int .i64 0), (.int .i64 0), (.int .i64 0), (.int .i64 0), (.int .i64 0), (.int .i64 0), (.int .i64 0), (.int .u64 0), (.int .u64 0), (.int .u64 0), (.int .u64 0), (.int .u64 0), (.int .i64 0), (.int .i64 0), (.int .i64 0), (.int .i64 0), (.int .i64 0)])])
  (.seq
   (.region [
     y 13 (.mv (.t 0)),
     y 14 (.load true 6 (.t 4)),
     y 15 (.addOff 1 (.t 5)),
     y 16 (.load false 1 (.t 15)),
     y 17 (.call (.c (.func (.func 48) #[] #[])) [(.t 14), (.t 16)] true),
     y 18 (.call (.c (.func (.func 46) #[] #[])) [(.t 13), (.t 17)] false),
     y 12 (.mv (.t 18)),
     y 19 (.extract (.t 12) 0),
     y 20 (.extract (.t 12) 1),
     y 7 (.mv (.t 19)),
     y 8 (.mv (.t 20))])
  (.seq
   (.region [
     y 22 (.load true 6 (.t 4)),
     y 23 (.mv (.t 7)),
     y 24 (.call (.c (.func (.func 49) #[] #[])) [(.t 22), (.t 23)] false),
     y 21 (.mv (.t 24)),
     y 25 (.extract (.t 21) 0),
     y 26 (.extract (.t 21) 1),
     y 27 (.extract (.t 21) 2),
     y 9 (.mv (.t 25)),
     y 10 (.mv (.t 26)),
     y 11 (.mv (.t 27))])
  (.seq
   (.seq
    (.region [
      y 28 (.mv (.t 8)),
      y 29 (.bin .neq .int (.t 28) (.c (.int .i64 0))),
      y 30 (.mv (.t 29)),
      ⟨(some 31), .mv (.t 11), (some (30, false)), [], [], false⟩,
      ⟨(some 32), .un .not (.t 31), (some (30, false)), [], [], false⟩,
      y 33 (.pick (.t 30) (.c (.bool true)) (.t 32))])
   (.cond (.t 33)
    (.seq
     (.region [
       y 34 (.load true 17 (.t 5)),
       y 35 (.call (.c (.func (.func 25) #[] #[])) [(.t 34)] false),
       x (.store 17 (.t 6) (.t 35))])
    .ret)
    .skip))
  (.seq
   (.region [
     y 36 (.mv (.t 7)),
     y 37 (.addOff 7 (.t 5)),
     x (.store 1 (.t 37) (.t 36))])
  (.seq
   (.seq
    (.region [
      y 38 (.addOff 2 (.t 5)),
      y 39 (.load false 1 (.t 38)),
      y 40 (.bin .eql .int (.t 39) (.c (.int .i64 11)))])
   (.cond (.t 40)
    (.seq
     (.seq
      (.region [
        y 41 (.mv (.t 9)),
        y 42 (.addOff 5 (.t 5)),
        y 43 (.load false 1 (.t 42)),
        y 44 (.bin .neq .int (.t 41) (.t 43))])
     (.cond (.t 44)
      (.seq
       (.region [
         y 45 (.load true 17 (.t 5)),
         y 46 (.call (.c (.func (.func 26) #[] #[])) [(.t 45), (.c (.int .i64 50))] false),
         x (.store 17 (.t 6) (.t 46))])
      .ret)
      .skip))
    (.seq
     (.region [
       y 47 (.mv (.t 10)),
       y 48 (.addOff 12 (.t 5)),
       x (.store 1 (.t 48) (.t 47))])
    (.seq
     (.region [
       y 49 (.load true 17 (.t 5)),
       y 50 (.call (.c (.func (.func 26) #[] #[])) [(.t 49), (.c (.int .i64 12))] false),
       x (.store 17 (.t 6) (.t 50))])
    .ret)))
    .skip))
  (.seq
   (.region [
     y 51 (.mv (.t 9)),
     y 52 (.addOff 5 (.t 5)),
     x (.store 1 (.t 52) (.t 51))])
  (.seq
   (.region [
     y 53 (.mv (.t 10)),
     y 54 (.addOff 6 (.t 5)),
     x (.store 1 (.t 54) (.t 53))])
  (.seq
   (.seq
    (.region [
      y 55 (.mv (.t 9)),
      y 56 (.bin .lss .int (.t 55) (.c (.int .i64 0)))])
   (.cond (.t 56)
    (.seq
     (.region [
       y 57 (.load true 17 (.t 5)),
       y 58 (.call (.c (.func (.func 26) #[] #[])) [(.t 57), (.c (.int .i64 30))] false),
       x (.store 17 (.t 6) (.t 58))])
    .ret)
    .skip))
  (.seq
   (.seq
    (.region [
      y 59 (.mv (.t 10)),
      y 60 (.bin .lss .int (.t 59) (.c (.int .i64 0)))])
   (.cond (.t 60)
    (.seq
     (.region [
       y 61 (.load true 17 (.t 5)),
       y 62 (.call (.c (.func (.func 26) #[] #[])) [(.t 61), (.c (.int .i64 20))] false),
       x (.store 17 (.t 6) (.t 62))])
    .ret)
    .skip))
  (.seq
   (.region [
     y 63 (.load true 17 (.t 5)),
     y 64 (.call (.c (.func (.func 26) #[] #[])) [(.t 63), (.c (.int .i64 2))] false),
     x (.store 17 (.t 6) (.t 64))])
  .ret))))))))))),
  [.cell 6 true 17]⟩

/-- wainscot/wainscotref22.next -/
def i23 : IFun := ⟨51,
  (.seq
   (.region [
     y 4 (.box 25 6 (.t 1)),
     y 5 (.box 27 17 (.t 2)),
     y 6 (.new 27 [(.int .i64 0), (.int .i64 0), (.int .i64 0), (.int .i64 0), (.int .i64 0), (.int .i64 0), (.int .i64 0), (.int .u64 0), (.int .u64 0), (.int .u64 0), (.int .u64 0), (.int .u64 0), (.int .i64 0), (.int .i64 0), (.int .i64 0), (.int .i64 0), (.int .i64 0)])])
  (.seq
   (.region [
     y 12 (.mv (.t 0)),
     y 13 (.load true 6 (.t 4)),
     y 14 (.addOff 5 (.t 5)),
     y 15 (.load false 1 (.t 14)),
     y 16 (.addOff 6 (.t 5)),
     y 17 (.load false 1 (.t 16)),
     y 18 (.call (.c (.func (.func 50) #[] #[])) [(.t 13), (.t 15), (.t 17)] true),
     y 19 (.call (.c (.func (.func 46) #[] #[])) [(.t 12), (.t 18)] false),
     y 11 (.mv (.t 19)),
     y 20 (.extract (.t 11) 0),
     y 21 (.extract (.t 11) 1),
     y 7 (.mv (.t 20)),
     y 8 (.mv (.t 21))])
  (.seq
   (.seq
    (.region [
      y 22 (.mv (.t 8)),
      y 23 (.bin .neq .int (.t 22) (.c (.int .i64 0)))])
   (.cond (.t 23)
    (.seq
     (.region [
       y 24 (.load true 17 (.t 5)),
       y 25 (.call (.c (.func (.func 25) #[] #[])) [(.t 24)] false),
       x (.store 17 (.t 6) (.t 25))])
    .ret)
    .skip))
  (.seq
   (.region [
     y 27 (.mv (.t 7)),
     y 28 (.load true 6 (.t 4)),
     y 29 (.addOff 5 (.t 5)),
     y 30 (.load false 1 (.t 29)),
     y 31 (.call (.c (.func (.func 52) #[] #[])) [(.t 28), (.t 30)] true),
     y 32 (.addOff 6 (.t 5)),
     y 33 (.load false 1 (.t 32)),
     y 34 (.call (.c (.func (.func 51) #[] #[])) [(.t 27), (.t 31), (.t 33)] true),
     y 26 (.mv (.t 34)),
     y 35 (.extract (.t 26) 0),
     y 36 (.extract (.t 26) 1),
     y 9 (.mv (.t 35)),
     y 10 (.mv (.t 36))])
  (.seq
   (.seq
    (.region [
      y 37 (.mv (.t 10)),
      y 38 (.un .not (.t 37)),
      y 39 (.mv (.t 38)),
      ⟨(some 40), .mv (.t 9), (some (39, false)), [], [], false⟩,
      ⟨(some 41), .addOff 2 (.t 4), (some (39, false)), [], [], false⟩,
      ⟨(some 42), .load false 1 (.t 41), (some (39, false)), [], [], false⟩,
      ⟨(some 43), .bin .geq .int (.t 40) (.t 42), (some (39, false)), [], [], false⟩,
      y 44 (.pick (.t 39) (.c (.bool true)) (.t 43))])
   (.cond (.t 44)
    (.seq
     (.region [
       y 45 (.load true 17 (.t 5)),
       y 46 (.call (.c (.func (.func 26) #[] #[])) [(.t 45), (.c (.int .i64 0))] false),
       x (.store 17 (.t 6) (.t 46))])
    .ret)
    .skip))
  (.seq
   (.region [
     y 47 (.mv (.t 9)),
     y 48 (.addOff 12 (.t 5)),
     x (.store 1 (.t 48) (.t 47))])
  (.seq
   (.region [
     y 49 (.load true 17 (.t 5)),
     y 50 (.call (.c (.func (.func 26) #[] #[])) [(.t 49), (.c (.int .i64 3))] false),
     x (.store 17 (.t 6) (.t 50))])
  .ret))))))),
  [.cell 6 true 17]⟩

/-- wainscot/wainscotref22.Keep -/
def i24 : IFun := ⟨34,
  (.seq
   (.region [
     y 6 (.box 25 6 (.t 1)),
     y 10 (.mv (.c (.bool false)))])
  (.seq
   (.region [
     y 14 (.mv (.t 4)),
     y 15 (.load true 6 (.t 6)),
     y 16 (.mv (.t 2)),
     y 17 (.call (.c (.func (.func 52) #[] #[])) [(.t 15), (.t 16)] true),
     y 18 (.mv (.t 3)),
     y 19 (.call (.c (.func (.func 53) #[] #[])) [(.t 14), (.t 17), (.t 18)] true),
     y 13 (.mv (.t 19)),
     y 20 (.extract (.t 13) 0),
     y 21 (.extract (.t 13) 1),
     y 11 (.mv (.t 20)),
     y 12 (.mv (.t 21))])
  (.seq
   (.region [
     y 22 (.mv (.t 12)),
     y 23 (.bin .eql .int (.t 22) (.c (.int .i64 0))),
     y 24 (.mv (.t 23)),
     ⟨(some 25), .mv (.t 0), (some (24, true)), [], [], false⟩,
     ⟨(some 26), .load true 6 (.t 6), (some (24, true)), [], [], false⟩,
     ⟨(some 27), .mv (.t 2), (some (24, true)), [], [], false⟩,
     ⟨(some 28), .mv (.t 3), (some (24, true)), [], [], false⟩,
     ⟨(some 29), .call (.c (.func (.func 50) #[] #[])) [(.t 26), (.t 27), (.t 28)] true, (some (24, true)), [], [], false⟩,
     ⟨(some 30), .mv (.t 11), (some (24, true)), [], [], false⟩,
     ⟨(some 31), .call (.c (.func (.func 16) #[] #[])) [(.t 25), (.t 29), (.t 30)] false, (some (24, true)), [], [], false⟩,
     ⟨(some 32), .bin .eql .int (.t 31) (.c (.int .i64 0)), (some (24, true)), [], [], false⟩,
     y 33 (.pick (.t 24) (.t 32) (.c (.bool false))),
     y 10 (.mv (.t 33))])
  .ret))),
  [.tmp 10]⟩

/-- wainscot/wainscotref22.Broken -/
def i25 : IFun := ⟨5,
  (.seq
   (.region [
     y 1 (.box 27 17 (.t 0)),
     y 2 (.new 27 [(.int .i64 0), (.int .i64 0), (.int .i64 0), (.int .i64 0), (.int .i64 0), (.int .i64 0), (.int .i64 0), (.int .u64 0), (.int .u64 0), (.int .u64 0), (.int .u64 0), (.int .u64 0), (.int .i64 0), (.int .i64 0), (.int .i64 0), (.int .i64 0), (.int .i64 0)])])
  (.seq
   (.region [
     y 3 (.addOff 3 (.t 1)),
     x (.store 1 (.t 3) (.c (.int .i64 3)))])
  (.seq
   (.region [
     y 4 (.load true 17 (.t 1)),
     x (.store 17 (.t 2) (.t 4))])
  .ret))),
  [.cell 2 true 17]⟩

/-- wainscot/wainscotref22.To -/
def i26 : IFun := ⟨8,
  (.seq
   (.region [
     y 2 (.box 27 17 (.t 0)),
     y 4 (.new 27 [(.int .i64 0), (.int .i64 0), (.int .i64 0), (.int .i64 0), (.int .i64 0), (.int .i64 0), (.int .i64 0), (.int .u64 0), (.int .u64 0), (.int .u64 0), (.int .u64 0), (.int .u64 0), (.int .i64 0), (.int .i64 0), (.int .i64 0), (.int .i64 0), (.int .i64 0)])])
  (.seq
   (.region [
     y 5 (.mv (.t 1)),
     y 6 (.addOff 2 (.t 2)),
     x (.store 1 (.t 6) (.t 5))])
  (.seq
   (.region [
     y 7 (.load true 17 (.t 2)),
     x (.store 17 (.t 4) (.t 7))])
  .ret))),
  [.cell 4 true 17]⟩

/-- wainscot/wainscotref22.Swap -/
def i27 : IFun := ⟨44,
  (.seq
   (.region [
     y 6 (.box 25 6 (.t 1)),
     y 7 (.box 27 17 (.t 2)),
     y 10 (.mv (.c (.bool false))),
     y 11 (.mv (.c (.bool false)))])
  (.seq
   (.region [
     y 17 (.mv (.t 3)),
     y 18 (.mv (.t 4)),
     y 19 (.call (.c (.func (.func 54) #[] #[])) [(.t 17), (.t 18)] true),
     y 16 (.mv (.t 19)),
     y 20 (.extract (.t 16) 0),
     y 21 (.extract (.t 16) 1),
     y 12 (.mv (.t 20)),
     y 13 (.mv (.t 21))])
  (.seq
   (.seq
    (.region [
      y 22 (.mv (.t 13)),
      y 23 (.bin .neq .int (.t 22) (.c (.int .i64 0)))])
   (.cond (.t 23)
    (.seq
     (.region [
       y 10 (.mv (.c (.bool false))),
       y 11 (.mv (.c (.bool false)))])
    .ret)
    .skip))
  (.seq
   (.region [
     y 25 (.mv (.t 0)),
     y 26 (.load true 6 (.t 6)),
     y 27 (.addOff 1 (.t 7)),
     y 28 (.load false 1 (.t 27)),
     y 29 (.call (.c (.func (.func 48) #[] #[])) [(.t 26), (.t 28)] true),
     y 30 (.addOff 7 (.t 7)),
     y 31 (.load false 1 (.t 30)),
     y 32 (.addOff 8 (.t 7)),
     y 33 (.load false 1 (.t 32)),
     y 34 (.mv (.t 12)),
     y 35 (.addOff 8 (.t 7)),
     y 36 (.load false 1 (.t 35)),
     y 37 (.bin .add .int (.t 36) (.c (.int .u64 1))),
     y 38 (.call (.c (.func (.func 55) #[] #[])) [(.t 25), (.t 29), (.t 31), (.t 33), (.t 34), (.t 37)] false),
     y 24 (.mv (.t 38)),
     y 39 (.extract (.t 24) 0),
     y 40 (.extract (.t 24) 1),
     y 14 (.mv (.t 39)),
     y 15 (.mv (.t 40))])
  (.seq
   (.region [
     y 41 (.mv (.t 14)),
     y 42 (.mv (.t 15)),
     y 43 (.bin .eql .int (.t 42) (.c (.int .i64 0))),
     y 10 (.mv (.t 41)),
     y 11 (.mv (.t 43))])
  .ret))))),
  [.tmp 10, .tmp 11]⟩

/-- wainscot/wainscotref22.Done -/
def i28 : IFun := ⟨5,
  (.seq
   (.region [
     y 1 (.box 27 17 (.t 0)),
     y 2 (.new 27 [(.int .i64 0), (.int .i64 0), (.int .i64 0), (.int .i64 0), (.int .i64 0), (.int .i64 0), (.int .i64 0), (.int .u64 0), (.int .u64 0), (.int .u64 0), (.int .u64 0), (.int .u64 0), (.int .i64 0), (.int .i64 0), (.int .i64 0), (.int .i64 0), (.int .i64 0)])])
  (.seq
   (.region [
     y 3 (.addOff 3 (.t 1)),
     x (.store 1 (.t 3) (.c (.int .i64 1)))])
  (.seq
   (.region [
     y 4 (.load true 17 (.t 1)),
     x (.store 17 (.t 2) (.t 4))])
  .ret))),
  [.cell 2 true 17]⟩

/-- slices.Clone[[]uint64,uint64] -/
def i29 : IFun := ⟨8,
  (.seq
   (.region [
     y 2 (.mv (.c (.slice none 0 0)))])
  (.seq
   (.seq
    (.region [
      y 3 (.mv (.t 0)),
      y 4 (.bin .eql .slice (.t 3) (.c (.slice none 0 0)))])
   (.cond (.t 4)
    (.seq
     (.region [
       y 2 (.mv (.c (.slice none 0 0)))])
    .ret)
    .skip))
  (.seq
   (.region [
     y 5 (.buildSlice 23 [] 0 []),
     y 6 (.mv (.t 0)),
     y 7 (.append 23 1 8 (.t 5) (.t 6)),
     y 2 (.mv (.t 7))])
  .ret))),
  [.tmp 2]⟩

/-- wainscot/wainscotlaw22.stocked -/
def i30 : IFun := ⟨99,
  (.seq
   (.region [
     y 8 (.mv (.c (.pointer none))),
     y 9 (.new 25 [(.int .i64 0), (.int .i64 0), (.int .i64 0), (.int .i64 0), (.int .i64 0), (.int .u64 0)])])
  (.seq
   (.region [
     y 21 (.mv (.t 1)),
     y 22 (.mv (.t 2)),
     y 23 (.build [(.int .i64 0), (.int .i64 0), (.int .i64 0), (.int .i64 0), (.int .i64 0), (.int .u64 0)] [(0, 1, (.c (.int .i64 1))), (1, 1, (.c (.int .i64 1))), (2, 1, (.t 21)), (5, 1, (.t 22))]),
     y 10 (.new 25 [(.int .i64 0), (.int .i64 0), (.int .i64 0), (.int .i64 0), (.int .i64 0), (.int .u64 0)]),
     x (.store 6 (.t 10) (.t 23))])
  (.seq
   (.region [
     y 25 (.load true 6 (.t 10)),
     y 26 (.call (.c (.func (.func 56) #[] #[])) [(.t 25)] true),
     y 27 (.minmax true (.t 26) [(.c (.int .i64 1))]),
     y 28 (.call (.c (.func (.func 13) #[] #[])) [(.t 27)] true),
     y 24 (.mv (.t 28)),
     y 29 (.extract (.t 24) 0),
     y 30 (.extract (.t 24) 1),
     y 11 (.mv (.t 29)),
     y 12 (.mv (.t 30))])
  (.seq
   (.seq
    (.region [
      y 31 (.mv (.t 12)),
      y 32 (.bin .neq .int (.t 31) (.c (.int .i64 0))),
      y 33 (.mv (.t 32)),
      ⟨(some 34), .mv (.t 11), (some (33, false)), [], [], false⟩,
      ⟨(some 35), .bin .eql .ptr (.t 34) (.c (.pointer none)), (some (33, false)), [], [], false⟩,
      y 36 (.pick (.t 33) (.c (.bool true)) (.t 35))])
   (.cond (.t 36)
    (.seq
     (.region [
       y 37 (.load true 6 (.t 10)),
       y 8 (.mv (.c (.pointer none))),
       x (.store 6 (.t 9) (.t 37))])
    .ret)
    .skip))
  (.seq
   (.region [
     y 39 (.mv (.t 0)),
     y 40 (.minmax true (.t 39) [(.c (.int .i64 1))]),
     y 41 (.load true 6 (.t 10)),
     y 42 (.call (.c (.func (.func 58) #[] #[])) [(.t 41), (.c (.int .i64 0))] true),
     y 43 (.call (.c (.func (.func 57) #[] #[])) [(.t 40), (.t 42)] true),
     y 38 (.mv (.t 43)),
     y 44 (.extract (.t 38) 0),
     y 45 (.extract (.t 38) 1),
     y 13 (.mv (.t 44)),
     y 14 (.mv (.t 45))])
  (.seq
   (.seq
    (.region [
      y 15 (.mv (.c (.int .i64 0)))])
   (.block 0
    (.loop
     (.seq
      (.seq
       (.region [
         y 46 (.mv (.t 15)),
         y 47 (.mv (.t 0)),
         y 48 (.bin .lss .int (.t 46) (.t 47)),
         y 49 (.mv (.t 48)),
         ⟨(some 50), .mv (.t 15), (some (49, true)), [], [], false⟩,
         ⟨(some 51), .mv (.t 13), (some (49, true)), [], [], false⟩,
         ⟨(some 52), .lenS (.t 51), (some (49, true)), [], [], false⟩,
         ⟨(some 53), .bin .lss .int (.t 50) (.t 52), (some (49, true)), [], [], false⟩,
         y 54 (.pick (.t 49) (.t 53) (.c (.bool false)))])
      (.cond (.t 54)
       .skip
       (.exit 0)))
     (.seq
      (.block 1
       (.region [
         y 57 (.mv (.t 11)),
         y 58 (.load true 6 (.t 10)),
         y 59 (.mv (.t 15)),
         y 60 (.call (.c (.func (.func 59) #[] #[])) [(.t 58), (.c (.int .i64 0)), (.t 59)] true),
         y 61 (.mv (.t 13)),
         y 62 (.mv (.t 15)),
         y 63 (.idxS 1 (.t 61) (.t 62)),
         y 64 (.load false 1 (.t 63)),
         y 65 (.call (.c (.func (.func 15) #[] #[])) [(.t 57), (.t 60), (.t 64)] false)]))
     (.region [
       y 55 (.mv (.t 15)),
       y 56 (.bin .add .int (.t 55) (.c (.int .i64 1))),
       y 15 (.mv (.t 56))]))))))
  (.seq
   (.region [
     y 16 (.mv (.c (.int .i64 0)))])
  (.seq
   (.seq
    (.region [
      y 66 (.mv (.t 0)),
      y 67 (.bin .eql .int (.t 66) (.c (.int .i64 0)))])
   (.cond (.t 67)
    (.region [
      y 16 (.mv (.c (.int .i64 (-1))))])
    .skip))
  (.seq
   (.region [
     y 69 (.mv (.t 16)),
     y 70 (.call (.c (.func (.func 60) #[] #[])) [(.c (.int .i64 0)), (.t 69)] true),
     y 68 (.mv (.t 70)),
     y 71 (.extract (.t 68) 0),
     y 72 (.extract (.t 68) 1),
     y 17 (.mv (.t 71)),
     y 18 (.mv (.t 72))])
  (.seq
   (.region [
     y 74 (.mv (.t 1)),
     y 75 (.mv (.t 1)),
     y 76 (.build [(.int .i64 0), (.int .i64 0), (.bool false), (.bool false)] [(0, 1, (.t 74)), (1, 1, (.t 75)), (2, 1, (.c (.bool true))), (3, 1, (.c (.bool true)))]),
     y 77 (.call (.c (.func (.func 61) #[] #[])) [(.t 76)] true),
     y 73 (.mv (.t 77)),
     y 78 (.extract (.t 73) 0),
     y 79 (.extract (.t 73) 1),
     y 19 (.mv (.t 78)),
     y 20 (.mv (.t 79))])
  (.seq
   (.region [
     y 80 (.mv (.t 11)),
     y 81 (.load true 6 (.t 10)),
     y 82 (.call (.c (.func (.func 62) #[] #[])) [(.t 81), (.c (.int .i64 0))] true),
     y 83 (.mv (.t 17)),
     y 84 (.call (.c (.func (.func 15) #[] #[])) [(.t 80), (.t 82), (.t 83)] false)])
  (.seq
   (.region [
     y 85 (.mv (.t 11)),
     y 86 (.load true 6 (.t 10)),
     y 87 (.call (.c (.func (.func 62) #[] #[])) [(.t 86), (.c (.int .i64 0))] true),
     y 88 (.bin .add .int (.t 87) (.c (.int .i64 1))),
     y 89 (.mv (.t 3)),
     y 90 (.call (.c (.func (.func 15) #[] #[])) [(.t 85), (.t 88), (.t 89)] false)])
  (.seq
   (.region [
     y 91 (.mv (.t 11)),
     y 92 (.load true 6 (.t 10)),
     y 93 (.call (.c (.func (.func 63) #[] #[])) [(.t 92), (.c (.int .i64 0))] true),
     y 94 (.bin .add .int (.t 93) (.c (.int .i64 1))),
     y 95 (.mv (.t 19)),
     y 96 (.call (.c (.func (.func 15) #[] #[])) [(.t 91), (.t 94), (.t 95)] false)])
  (.seq
   (.region [
     y 97 (.mv (.t 11)),
     y 98 (.load true 6 (.t 10)),
     y 8 (.mv (.t 97)),
     x (.store 6 (.t 9) (.t 98))])
  .ret)))))))))))))),
  [.tmp 8, .cell 9 true 6]⟩

/-- wainscot/wainscotlaw22.through -/
def i31 : IFun := ⟨38,
  (.seq
   (.region [
     y 5 (.box 25 6 (.t 1)),
     y 6 (.box 27 17 (.t 2)),
     y 8 (.new 27 [(.int .i64 0), (.int .i64 0), (.int .i64 0), (.int .i64 0), (.int .i64 0), (.int .i64 0), (.int .i64 0), (.int .u64 0), (.int .u64 0), (.int .u64 0), (.int .u64 0), (.int .u64 0), (.int .i64 0), (.int .i64 0), (.int .i64 0), (.int .i64 0), (.int .i64 0)]),
     y 9 (.mv (.c (.int .i64 0)))])
  (.seq
   (.seq
    (.region [
      y 10 (.mv (.c (.int .i64 0)))])
   (.block 0
    (.loop
     (.seq
      (.seq
       (.region [
         y 13 (.mv (.t 10)),
         y 14 (.mv (.t 3)),
         y 15 (.bin .lss .int (.t 13) (.t 14))])
      (.cond (.t 15)
       .skip
       (.exit 0)))
     (.seq
      (.block 1
       (.seq
        (.region [
          y 19 (.mv (.t 0)),
          y 20 (.load true 6 (.t 5)),
          y 21 (.load true 17 (.t 6)),
          y 22 (.call (.c (.func (.func 6) #[] #[])) [(.t 19), (.t 20), (.t 21)] false),
          y 18 (.mv (.t 22)),
          y 23 (.extract (.t 18) 0),
          y 24 (.extract (.t 18) 1),
          y 11 (.new 27 [(.int .i64 0), (.int .i64 0), (.int .i64 0), (.int .i64 0), (.int .i64 0), (.int .i64 0), (.int .i64 0), (.int .u64 0), (.int .u64 0), (.int .u64 0), (.int .u64 0), (.int .u64 0), (.int .i64 0), (.int .i64 0), (.int .i64 0), (.int .i64 0), (.int .i64 0)]),
          x (.store 17 (.t 11) (.t 23)),
          y 12 (.mv (.t 24))])
       (.seq
        (.seq
         (.region [
           y 25 (.mv (.t 12)),
           y 26 (.bin .neq .int (.t 25) (.c (.int .i64 0)))])
        (.cond (.t 26)
         (.seq
          (.region [
            y 27 (.load true 17 (.t 6)),
            y 28 (.mv (.t 10)),
            x (.store 17 (.t 8) (.t 27)),
            y 9 (.mv (.t 28))])
         .ret)
         .skip))
       (.seq
        (.region [
          y 29 (.load true 17 (.t 11)),
          x (.store 17 (.t 6) (.t 29))])
       (.seq
        (.region [
          y 30 (.addOff 3 (.t 6)),
          y 31 (.load false 1 (.t 30)),
          y 32 (.bin .neq .int (.t 31) (.c (.int .i64 0)))])
       (.cond (.t 32)
        (.seq
         (.region [
           y 33 (.load true 17 (.t 6)),
           y 34 (.mv (.t 10)),
           y 35 (.bin .add .int (.t 34) (.c (.int .i64 1))),
           x (.store 17 (.t 8) (.t 33)),
           y 9 (.mv (.t 35))])
        .ret)
        .skip))))))
     (.region [
       y 16 (.mv (.t 10)),
       y 17 (.bin .add .int (.t 16) (.c (.int .i64 1))),
       y 10 (.mv (.t 17))]))))))
  (.seq
   (.region [
     y 36 (.load true 17 (.t 6)),
     y 37 (.mv (.t 3)),
     x (.store 17 (.t 8) (.t 36)),
     y 9 (.mv (.t 37))])
  .ret))),
  [.cell 8 true 17, .tmp 9]⟩

/-- wainscot/wainscotlaw22.listed -/
def i32 : IFun := ⟨42,
  (.seq
   (.region [
     y 3 (.box 25 6 (.t 1)),
     y 4 (.mv (.c (.slice none 0 0))),
     y 5 (.mv (.c (.int .u64 0))),
     y 6 (.mv (.c (.bool false)))])
  (.seq
   (.region [
     y 10 (.mv (.t 0)),
     y 11 (.call (.c (.func (.func 9) #[] #[])) [(.t 10)] true),
     y 12 (.load true 6 (.t 3)),
     y 13 (.call (.c (.func (.func 64) #[] #[])) [(.t 11), (.t 12)] true),
     y 9 (.mv (.t 13)),
     y 14 (.extract (.t 9) 0),
     y 15 (.extract (.t 9) 1),
     y 7 (.new 101 [(.slice none 0 0), (.slice none 0 0), (.bool false), (.slice none 0 0)]),
     x (.store 4 (.t 7) (.t 14)),
     y 8 (.mv (.t 15))])
  (.seq
   (.seq
    (.region [
      y 16 (.mv (.t 8)),
      y 17 (.bin .neq .int (.t 16) (.c (.int .i64 0))),
      y 18 (.mv (.t 17)),
      ⟨(some 19), .addOff 0 (.t 7), (some (18, false)), [], [], false⟩,
      ⟨(some 20), .load false 1 (.t 19), (some (18, false)), [], [], false⟩,
      ⟨(some 21), .lenS (.t 20), (some (18, false)), [], [], false⟩,
      ⟨(some 22), .bin .neq .int (.t 21) (.c (.int .i64 1)), (some (18, false)), [], [], false⟩,
      y 23 (.pick (.t 18) (.c (.bool true)) (.t 22)),
      y 24 (.mv (.t 23)),
      ⟨(some 25), .addOff 0 (.t 7), (some (24, false)), [], [], false⟩,
      ⟨(some 26), .load false 1 (.t 25), (some (24, false)), [], [], false⟩,
      ⟨(some 27), .idxS 4 (.t 26) (.c (.int .i64 0)), (some (24, false)), [], [], false⟩,
      ⟨(some 28), .addOff 0 (.t 27), (some (24, false)), [], [], false⟩,
      ⟨(some 29), .load false 1 (.t 28), (some (24, false)), [], [], false⟩,
      ⟨(some 30), .bin .neq .int (.t 29) (.c (.int .i64 0)), (some (24, false)), [], [], false⟩,
      y 31 (.pick (.t 24) (.c (.bool true)) (.t 30))])
   (.cond (.t 31)
    (.seq
     (.region [
       y 4 (.mv (.c (.slice none 0 0))),
       y 5 (.mv (.c (.int .u64 0))),
       y 6 (.mv (.c (.bool false)))])
    .ret)
    .skip))
  (.seq
   (.region [
     y 32 (.addOff 0 (.t 7)),
     y 33 (.load false 1 (.t 32)),
     y 34 (.idxS 4 (.t 33) (.c (.int .i64 0))),
     y 35 (.addOff 1 (.t 34)),
     y 36 (.load false 1 (.t 35)),
     y 37 (.addOff 0 (.t 7)),
     y 38 (.load false 1 (.t 37)),
     y 39 (.idxS 4 (.t 38) (.c (.int .i64 0))),
     y 40 (.addOff 2 (.t 39)),
     y 41 (.load false 1 (.t 40)),
     y 4 (.mv (.t 36)),
     y 5 (.mv (.t 41)),
     y 6 (.mv (.c (.bool true)))])
  .ret)))),
  [.tmp 4, .tmp 5, .tmp 6]⟩

/-- wainscot/wainscotref00.EqInts -/
def i33 : IFun := ⟨26,
  (.seq
   (.region [
     y 4 (.mv (.c (.bool false)))])
  (.seq
   (.seq
    (.region [
      y 6 (.mv (.t 0)),
      y 7 (.lenS (.t 6)),
      y 8 (.mv (.t 1)),
      y 9 (.lenS (.t 8)),
      y 10 (.bin .neq .int (.t 7) (.t 9))])
   (.cond (.t 10)
    (.seq
     (.region [
       y 4 (.mv (.c (.bool false)))])
    .ret)
    .skip))
  (.seq
   (.seq
    (.region [
      y 5 (.mv (.c (.int .i64 0)))])
   (.block 0
    (.loop
     (.seq
      (.seq
       (.region [
         y 11 (.mv (.t 5)),
         y 12 (.mv (.t 0)),
         y 13 (.lenS (.t 12)),
         y 14 (.bin .lss .int (.t 11) (.t 13))])
      (.cond (.t 14)
       .skip
       (.exit 0)))
     (.seq
      (.block 1
       (.seq
        (.region [
          y 17 (.mv (.t 0)),
          y 18 (.mv (.t 5)),
          y 19 (.idxS 1 (.t 17) (.t 18)),
          y 20 (.load false 1 (.t 19)),
          y 21 (.mv (.t 1)),
          y 22 (.mv (.t 5)),
          y 23 (.idxS 1 (.t 21) (.t 22)),
          y 24 (.load false 1 (.t 23)),
          y 25 (.bin .neq .int (.t 20) (.t 24))])
       (.cond (.t 25)
        (.seq
         (.region [
           y 4 (.mv (.c (.bool false)))])
        .ret)
        .skip)))
     (.region [
       y 15 (.mv (.t 5)),
       y 16 (.bin .add .int (.t 15) (.c (.int .i64 1))),
       y 5 (.mv (.t 16))]))))))
  (.seq
   (.region [
     y 4 (.mv (.c (.bool true)))])
  .ret)))),
  [.tmp 4]⟩

/-- wainscot/wainscotref21.at -/
def i34 : IFun := ⟨15,
  (.seq
   (.region [
     y 3 (.box 25 6 (.t 0)),
     y 6 (.mv (.c (.int .i64 0)))])
  (.seq
   (.seq
    (.region [
      y 7 (.load true 6 (.t 3)),
      y 8 (.call (.c (.func (.func 45) #[] #[])) [(.t 7)] true),
      y 9 (.bin .neq .int (.t 8) (.c (.int .i64 0))),
      y 10 (.mv (.t 9)),
      ⟨(some 11), .mv (.t 1), (some (10, false)), [], [], false⟩,
      ⟨(some 12), .un .not (.t 11), (some (10, false)), [], [], false⟩,
      y 13 (.pick (.t 10) (.c (.bool true)) (.t 12))])
   (.cond (.t 13)
    (.seq
     (.region [
       y 6 (.mv (.c (.int .i64 (-1))))])
    .ret)
    .skip))
  (.seq
   (.region [
     y 14 (.mv (.t 2)),
     y 6 (.mv (.t 14))])
  .ret))),
  [.tmp 6]⟩

/-- (*wainscot/mem.Mem).access -/
def i35 : IFun := ⟨51,
  (.seq
   (.region [
     y 8 (.mv (.c (.int .i64 0)))])
  (.seq
   (.block 0
    (.seq
     (.region [
       y 10 (.mv (.t 0)),
       y 11 (.bin .eql .ptr (.t 10) (.c (.pointer none))),
       y 12 (.mv (.t 11)),
       ⟨(some 13), .mv (.t 0), (some (12, false)), [], [], false⟩,
       ⟨(some 14), .nilCheck (.t 13), (some (12, false)), [], [], false⟩,
       ⟨(some 15), .addOff 0 (.t 14), (some (12, false)), [], [], false⟩,
       ⟨(some 16), .load false 1 (.t 15), (some (12, false)), [], [], false⟩,
       ⟨(some 17), .bin .eql .slice (.t 16) (.c (.slice none 0 0)), (some (12, false)), [], [], false⟩,
       y 18 (.pick (.t 12) (.c (.bool true)) (.t 17)),
       y 9 (.mv (.t 18))])
    (.cond (.t 9)
     (.seq
      (.region [
        y 8 (.mv (.c (.int .i64 1)))])
     .ret)
     (.seq
      (.region [
        y 20 (.mv (.t 1)),
        y 21 (.bin .lss .int (.t 20) (.c (.int .i64 0))),
        y 22 (.mv (.t 21)),
        ⟨(some 23), .mv (.t 1), (some (22, false)), [], [], false⟩,
        ⟨(some 24), .mv (.t 0), (some (22, false)), [], [], false⟩,
        ⟨(some 25), .nilCheck (.t 24), (some (22, false)), [], [], false⟩,
        ⟨(some 26), .addOff 0 (.t 25), (some (22, false)), [], [], false⟩,
        ⟨(some 27), .load false 1 (.t 26), (some (22, false)), [], [], false⟩,
        ⟨(some 28), .lenS (.t 27), (some (22, false)), [], [], false⟩,
        ⟨(some 29), .mv (.t 2), (some (22, false)), [], [], false⟩,
        ⟨(some 30), .bin .sub .int (.t 28) (.t 29), (some (22, false)), [], [], false⟩,
        ⟨(some 31), .bin .gtr .int (.t 23) (.t 30), (some (22, false)), [], [], false⟩,
        y 32 (.pick (.t 22) (.c (.bool true)) (.t 31)),
        y 19 (.mv (.t 32))])
     (.cond (.t 19)
      (.seq
       (.region [
         y 8 (.mv (.c (.int .i64 9)))])
      .ret)
      .skip)))))
  (.seq
   (.region [
     y 33 (.mv (.t 0)),
     y 34 (.nilCheck (.t 33)),
     y 35 (.addOff 1 (.t 34)),
     y 36 (.load false 1 (.t 35)),
     y 37 (.bin .add .int (.t 36) (.c (.int .i64 1))),
     y 38 (.nilCheck (.t 33)),
     y 39 (.addOff 1 (.t 38)),
     x (.store 1 (.t 39) (.t 37))])
  (.seq
   (.region [
     y 40 (.mv (.t 3)),
     y 41 (.mv (.t 0)),
     y 42 (.nilCheck (.t 41)),
     y 43 (.addOff 0 (.t 42)),
     y 44 (.load false 1 (.t 43)),
     y 45 (.mv (.t 1)),
     y 46 (.mv (.t 1)),
     y 47 (.mv (.t 2)),
     y 48 (.bin .add .int (.t 46) (.t 47)),
     y 49 (.slice 23 (.t 44) (some (.t 45)) (some (.t 48)) none),
     y 50 (.call (.t 40) [(.t 49)] false)])
  (.seq
   (.region [
     y 8 (.mv (.c (.int .i64 0)))])
  .ret))))),
  [.tmp 8]⟩

/-- (*wainscot/mem.Mem).Store$1 -/
def i36 : IFun := ⟨6,
  (.region [
    y 3 (.mv (.t 0)),
    y 4 (.load false 1 (.t 1)),
    y 5 (.idxS 1 (.t 3) (.c (.int .i64 0))),
    x (.store 1 (.t 5) (.t 4))]),
  []⟩

/-- (*wainscot/wainscotref03.Mem).there -/
def i37 : IFun := ⟨40,
  (.seq
   (.region [
     y 6 (.mv (.c (.int .i64 0)))])
  (.seq
   (.seq
    (.region [
      y 7 (.mv (.t 1)),
      y 8 (.bin .lss .int (.t 7) (.c (.int .i64 0))),
      y 9 (.mv (.t 8)),
      ⟨(some 10), .mv (.t 1), (some (9, false)), [], [], false⟩,
      ⟨(some 11), .mv (.t 0), (some (9, false)), [], [], false⟩,
      ⟨(some 12), .nilCheck (.t 11), (some (9, false)), [], [], false⟩,
      ⟨(some 13), .addOff 0 (.t 12), (some (9, false)), [], [], false⟩,
      ⟨(some 14), .load false 1 (.t 13), (some (9, false)), [], [], false⟩,
      ⟨(some 15), .lenS (.t 14), (some (9, false)), [], [], false⟩,
      ⟨(some 16), .bin .geq .int (.t 10) (.t 15), (some (9, false)), [], [], false⟩,
      y 17 (.pick (.t 9) (.c (.bool true)) (.t 16)),
      y 18 (.mv (.t 17)),
      ⟨(some 19), .mv (.t 2), (some (18, false)), [], [], false⟩,
      ⟨(some 20), .bin .eql .int (.t 19) (.c (.int .i64 2)), (some (18, false)), [], [], false⟩,
      ⟨(some 21), .mv (.t 20), (some (18, false)), [], [], false⟩,
      ⟨(some 22), .mv (.t 1), (some (21, true)), [], [], false⟩,
      ⟨(some 23), .bin .add .int (.t 22) (.c (.int .i64 1)), (some (21, true)), [], [], false⟩,
      ⟨(some 24), .mv (.t 0), (some (21, true)), [], [], false⟩,
      ⟨(some 25), .nilCheck (.t 24), (some (21, true)), [], [], false⟩,
      ⟨(some 26), .addOff 0 (.t 25), (some (21, true)), [], [], false⟩,
      ⟨(some 27), .load false 1 (.t 26), (some (21, true)), [], [], false⟩,
      ⟨(some 28), .lenS (.t 27), (some (21, true)), [], [], false⟩,
      ⟨(some 29), .bin .geq .int (.t 23) (.t 28), (some (21, true)), [], [], false⟩,
      ⟨(some 30), .pick (.t 21) (.t 29) (.c (.bool false)), (some (18, false)), [], [], false⟩,
      y 31 (.pick (.t 18) (.c (.bool true)) (.t 30))])
   (.cond (.t 31)
    (.seq
     (.region [
       y 6 (.mv (.c (.int .i64 9)))])
    .ret)
    .skip))
  (.seq
   (.region [
     y 32 (.mv (.t 0)),
     y 33 (.mv (.t 0)),
     y 34 (.nilCheck (.t 33)),
     y 35 (.addOff 1 (.t 34)),
     y 36 (.load false 1 (.t 35)),
     y 37 (.bin .add .int (.t 36) (.c (.int .i64 1))),
     y 38 (.nilCheck (.t 32)),
     y 39 (.addOff 1 (.t 38)),
     x (.store 1 (.t 39) (.t 37))])
  (.seq
   (.region [
     y 6 (.mv (.c (.int .i64 0)))])
  .ret)))),
  [.tmp 6]⟩

/-- (*wainscot/fast.step).turn -/
def i38 : IFun := ⟨27,
  (.seq
   (.region [
     y 2 (.mv (.t 0)),
     y 3 (.mv (.t 0)),
     y 4 (.mv (.t 0)),
     y 5 (.nilCheck (.t 4)),
     y 6 (.addOff 1 (.t 5)),
     y 7 (.load true 6 (.t 6)),
     y 8 (.mv (.t 0)),
     y 9 (.nilCheck (.t 8)),
     y 10 (.addOff 7 (.t 9)),
     y 11 (.addOff 1 (.t 10)),
     y 12 (.load false 1 (.t 11)),
     y 13 (.call (.c (.func (.func 62) #[] #[])) [(.t 7), (.t 12)] true),
     y 14 (.call (.c (.func (.func 66) #[] #[])) [(.t 13)] true),
     y 15 (.call (.c (.func (.func 65) #[] #[])) [(.t 3), (.t 14)] false),
     y 16 (.nilCheck (.t 2)),
     y 17 (.addOff 7 (.t 16)),
     y 18 (.addOff 8 (.t 17)),
     x (.store 1 (.t 18) (.t 15))])
  (.region [
    y 19 (.mv (.t 0)),
    y 20 (.mv (.t 0)),
    y 21 (.nilCheck (.t 20)),
    y 22 (.addOff 7 (.t 21)),
    y 23 (.addOff 2 (.t 22)),
    y 24 (.load false 1 (.t 23)),
    y 25 (.bin .add .int (.t 24) (.c (.int .i64 1))),
    y 26 (.call (.c (.func (.func 67) #[] #[])) [(.t 19), (.t 25)] false)])),
  []⟩

/-- (*wainscot/fast.step).look -/
def i39 : IFun := ⟨35,
  (.seq
   (.region [
     y 3 (.mv (.t 0)),
     y 4 (.mv (.t 0)),
     y 5 (.mv (.t 0)),
     y 6 (.call (.c (.func (.func 68) #[] #[])) [(.t 5)] false),
     y 2 (.mv (.t 6)),
     y 7 (.extract (.t 2) 0),
     y 8 (.extract (.t 2) 1),
     y 9 (.nilCheck (.t 3)),
     y 10 (.addOff 7 (.t 9)),
     y 11 (.addOff 5 (.t 10)),
     x (.store 1 (.t 11) (.t 7)),
     y 12 (.nilCheck (.t 4)),
     y 13 (.addOff 7 (.t 12)),
     y 14 (.addOff 6 (.t 13)),
     x (.store 1 (.t 14) (.t 8))])
  (.block 0
   (.seq
    (.region [
      y 18 (.mv (.t 0)),
      y 19 (.nilCheck (.t 18)),
      y 20 (.addOff 7 (.t 19)),
      y 21 (.addOff 5 (.t 20)),
      y 22 (.load false 1 (.t 21)),
      y 23 (.bin .lss .int (.t 22) (.c (.int .i64 0))),
      y 17 (.mv (.t 23))])
   (.cond (.t 17)
    (.region [
      y 24 (.mv (.t 0)),
      y 25 (.call (.c (.func (.func 67) #[] #[])) [(.t 24), (.c (.int .i64 30))] false)])
    (.seq
     (.region [
       y 27 (.mv (.t 0)),
       y 28 (.nilCheck (.t 27)),
       y 29 (.addOff 7 (.t 28)),
       y 30 (.addOff 6 (.t 29)),
       y 31 (.load false 1 (.t 30)),
       y 32 (.bin .lss .int (.t 31) (.c (.int .i64 0))),
       y 26 (.mv (.t 32))])
    (.cond (.t 26)
     (.region [
       y 33 (.mv (.t 0)),
       y 34 (.call (.c (.func (.func 67) #[] #[])) [(.t 33), (.c (.int .i64 20))] false)])
     (.region [
       y 15 (.mv (.t 0)),
       y 16 (.call (.c (.func (.func 67) #[] #[])) [(.t 15), (.c (.int .i64 2))] false)]))))))),
  []⟩

/-- (*wainscot/fast.step).next -/
def i40 : IFun := ⟨62,
  (.seq
   (.region [
     y 5 (.mv (.t 0)),
     y 6 (.mv (.t 0)),
     y 7 (.nilCheck (.t 6)),
     y 8 (.addOff 1 (.t 7)),
     y 9 (.load true 6 (.t 8)),
     y 10 (.mv (.t 0)),
     y 11 (.nilCheck (.t 10)),
     y 12 (.addOff 7 (.t 11)),
     y 13 (.addOff 5 (.t 12)),
     y 14 (.load false 1 (.t 13)),
     y 15 (.mv (.t 0)),
     y 16 (.nilCheck (.t 15)),
     y 17 (.addOff 7 (.t 16)),
     y 18 (.addOff 6 (.t 17)),
     y 19 (.load false 1 (.t 18)),
     y 20 (.call (.c (.func (.func 59) #[] #[])) [(.t 9), (.t 14), (.t 19)] true),
     y 21 (.call (.c (.func (.func 65) #[] #[])) [(.t 5), (.t 20)] false),
     y 2 (.mv (.t 21))])
  (.seq
   (.region [
     y 23 (.mv (.t 2)),
     y 24 (.mv (.t 0)),
     y 25 (.nilCheck (.t 24)),
     y 26 (.addOff 1 (.t 25)),
     y 27 (.load true 6 (.t 26)),
     y 28 (.mv (.t 0)),
     y 29 (.nilCheck (.t 28)),
     y 30 (.addOff 7 (.t 29)),
     y 31 (.addOff 5 (.t 30)),
     y 32 (.load false 1 (.t 31)),
     y 33 (.call (.c (.func (.func 58) #[] #[])) [(.t 27), (.t 32)] true),
     y 34 (.mv (.t 0)),
     y 35 (.nilCheck (.t 34)),
     y 36 (.addOff 7 (.t 35)),
     y 37 (.addOff 6 (.t 36)),
     y 38 (.load false 1 (.t 37)),
     y 39 (.call (.c (.func (.func 69) #[] #[])) [(.t 23), (.t 33), (.t 38)] true),
     y 22 (.mv (.t 39)),
     y 40 (.extract (.t 22) 0),
     y 41 (.extract (.t 22) 1),
     y 3 (.mv (.t 40)),
     y 4 (.mv (.t 41))])
  (.seq
   (.seq
    (.region [
      y 42 (.mv (.t 4)),
      y 43 (.un .not (.t 42)),
      y 44 (.mv (.t 43)),
      ⟨(some 45), .mv (.t 3), (some (44, false)), [], [], false⟩,
      ⟨(some 46), .mv (.t 0), (some (44, false)), [], [], false⟩,
      ⟨(some 47), .nilCheck (.t 46), (some (44, false)), [], [], false⟩,
      ⟨(some 48), .addOff 1 (.t 47), (some (44, false)), [], [], false⟩,
      ⟨(some 49), .addOff 2 (.t 48), (some (44, false)), [], [], false⟩,
      ⟨(some 50), .load false 1 (.t 49), (some (44, false)), [], [], false⟩,
      ⟨(some 51), .bin .geq .int (.t 45) (.t 50), (some (44, false)), [], [], false⟩,
      y 52 (.pick (.t 44) (.c (.bool true)) (.t 51))])
   (.cond (.t 52)
    (.seq
     (.region [
       y 53 (.mv (.t 0)),
       y 54 (.call (.c (.func (.func 67) #[] #[])) [(.t 53), (.c (.int .i64 0))] false)])
    .ret)
    .skip))
  (.seq
   (.region [
     y 55 (.mv (.t 0)),
     y 56 (.mv (.t 3)),
     y 57 (.nilCheck (.t 55)),
     y 58 (.addOff 7 (.t 57)),
     y 59 (.addOff 12 (.t 58)),
     x (.store 1 (.t 59) (.t 56))])
  (.region [
    y 60 (.mv (.t 0)),
    y 61 (.call (.c (.func (.func 67) #[] #[])) [(.t 60), (.c (.int .i64 3))] false)]))))),
  []⟩

/-- (*wainscot/fast.step).take -/
def i41 : IFun := ⟨9,
  (.region [
    y 2 (.mv (.t 0)),
    y 3 (.mv (.t 0)),
    y 4 (.nilCheck (.t 3)),
    y 5 (.addOff 7 (.t 4)),
    y 6 (.addOff 12 (.t 5)),
    y 7 (.load false 1 (.t 6)),
    y 8 (.call (.c (.func (.func 70) #[] #[])) [(.t 2), (.t 7), (.c (.int .i64 0))] false)]),
  []⟩

/-- (*wainscot/fast.step).mine -/
def i42 : IFun := ⟨25,
  (.seq
   (.region [
     y 5 (.mv (.t 0)),
     y 6 (.call (.c (.func (.func 68) #[] #[])) [(.t 5)] false),
     y 4 (.mv (.t 6)),
     y 7 (.extract (.t 4) 0),
     y 8 (.extract (.t 4) 1),
     y 2 (.mv (.t 7)),
     y 3 (.mv (.t 8))])
  (.seq
   (.seq
    (.region [
      y 9 (.mv (.t 2)),
      y 10 (.mv (.t 0)),
      y 11 (.nilCheck (.t 10)),
      y 12 (.addOff 7 (.t 11)),
      y 13 (.addOff 5 (.t 12)),
      y 14 (.load false 1 (.t 13)),
      y 15 (.bin .neq .int (.t 9) (.t 14))])
   (.cond (.t 15)
    (.seq
     (.region [
       y 16 (.mv (.t 0)),
       y 17 (.call (.c (.func (.func 67) #[] #[])) [(.t 16), (.c (.int .i64 50))] false)])
    .ret)
    .skip))
  (.seq
   (.region [
     y 18 (.mv (.t 0)),
     y 19 (.mv (.t 3)),
     y 20 (.nilCheck (.t 18)),
     y 21 (.addOff 7 (.t 20)),
     y 22 (.addOff 12 (.t 21)),
     x (.store 1 (.t 22) (.t 19))])
  (.region [
    y 23 (.mv (.t 0)),
    y 24 (.call (.c (.func (.func 67) #[] #[])) [(.t 23), (.c (.int .i64 12))] false)])))),
  []⟩

/-- (*wainscot/fast.step).tie -/
def i43 : IFun := ⟨57,
  (.seq
   (.region [
     y 5 (.mv (.t 0)),
     y 6 (.nilCheck (.t 5)),
     y 7 (.addOff 7 (.t 6)),
     y 8 (.addOff 12 (.t 7)),
     y 9 (.load false 1 (.t 8)),
     y 10 (.mv (.t 0)),
     y 11 (.nilCheck (.t 10)),
     y 12 (.addOff 1 (.t 11)),
     y 13 (.load true 6 (.t 12)),
     y 14 (.mv (.t 0)),
     y 15 (.nilCheck (.t 14)),
     y 16 (.addOff 7 (.t 15)),
     y 17 (.addOff 5 (.t 16)),
     y 18 (.load false 1 (.t 17)),
     y 19 (.call (.c (.func (.func 58) #[] #[])) [(.t 13), (.t 18)] true),
     y 20 (.mv (.t 0)),
     y 21 (.nilCheck (.t 20)),
     y 22 (.addOff 7 (.t 21)),
     y 23 (.addOff 6 (.t 22)),
     y 24 (.load false 1 (.t 23)),
     y 25 (.call (.c (.func (.func 71) #[] #[])) [(.t 9), (.t 19), (.t 24)] true),
     y 4 (.mv (.t 25)),
     y 26 (.extract (.t 4) 0),
     y 27 (.extract (.t 4) 1),
     y 2 (.mv (.t 26)),
     y 3 (.mv (.t 27))])
  (.seq
   (.region [
     y 28 (.mv (.t 0)),
     y 29 (.mv (.t 3)),
     y 30 (.bin .eql .int (.t 29) (.c (.int .i64 0))),
     y 31 (.call (.c (.func (.func 72) #[] #[])) [(.t 28), (.t 30)] false)])
  (.seq
   (.seq
    (.region [
      y 32 (.mv (.t 0)),
      y 33 (.nilCheck (.t 32)),
      y 34 (.addOff 24 (.t 33)),
      y 35 (.load false 1 (.t 34)),
      y 36 (.un .not (.t 35))])
   (.cond (.t 36)
    (.region [
      y 37 (.mv (.t 0)),
      y 38 (.mv (.t 0)),
      y 39 (.nilCheck (.t 38)),
      y 40 (.addOff 1 (.t 39)),
      y 41 (.load true 6 (.t 40)),
      y 42 (.mv (.t 0)),
      y 43 (.nilCheck (.t 42)),
      y 44 (.addOff 7 (.t 43)),
      y 45 (.addOff 5 (.t 44)),
      y 46 (.load false 1 (.t 45)),
      y 47 (.mv (.t 0)),
      y 48 (.nilCheck (.t 47)),
      y 49 (.addOff 7 (.t 48)),
      y 50 (.addOff 6 (.t 49)),
      y 51 (.load false 1 (.t 50)),
      y 52 (.call (.c (.func (.func 59) #[] #[])) [(.t 41), (.t 46), (.t 51)] true),
      y 53 (.mv (.t 2)),
      y 54 (.call (.c (.func (.func 73) #[] #[])) [(.t 37), (.t 52), (.t 53)] false)])
    .skip))
  (.region [
    y 55 (.mv (.t 0)),
    y 56 (.call (.c (.func (.func 67) #[] #[])) [(.t 55), (.c (.int .i64 13))] false)])))),
  []⟩

/-- (*wainscot/fast.step).give -/
def i44 : IFun := ⟨9,
  (.region [
    y 2 (.mv (.t 0)),
    y 3 (.mv (.t 0)),
    y 4 (.nilCheck (.t 3)),
    y 5 (.addOff 7 (.t 4)),
    y 6 (.addOff 6 (.t 5)),
    y 7 (.load false 1 (.t 6)),
    y 8 (.call (.c (.func (.func 70) #[] #[])) [(.t 2), (.t 7), (.c (.int .i64 10))] false)]),
  []⟩

/-- wainscot/wainscotref21.Check -/
def i45 : IFun := ⟨34,
  (.seq
   (.region [
     y 1 (.box 25 6 (.t 0)),
     y 2 (.mv (.c (.int .i64 0)))])
  (.seq
   (.seq
    (.region [
      y 3 (.addOff 0 (.t 1)),
      y 4 (.load false 1 (.t 3)),
      y 5 (.bin .sub .int (.t 4) (.c (.int .i64 1))),
      y 6 (.call (.c (.func (.func 74) #[] #[])) [(.t 5), (.c (.int .i64 8))] true),
      y 7 (.un .not (.t 6)),
      y 8 (.mv (.t 7)),
      ⟨(some 9), .addOff 1 (.t 1), (some (8, false)), [], [], false⟩,
      ⟨(some 10), .load false 1 (.t 9), (some (8, false)), [], [], false⟩,
      ⟨(some 11), .bin .sub .int (.t 10) (.c (.int .i64 1)), (some (8, false)), [], [], false⟩,
      ⟨(some 12), .call (.c (.func (.func 74) #[] #[])) [(.t 11), (.c (.int .i64 32))] true, (some (8, false)), [], [], false⟩,
      ⟨(some 13), .un .not (.t 12), (some (8, false)), [], [], false⟩,
      y 14 (.pick (.t 8) (.c (.bool true)) (.t 13)),
      y 15 (.mv (.t 14)),
      ⟨(some 16), .addOff 2 (.t 1), (some (15, false)), [], [], false⟩,
      ⟨(some 17), .load false 1 (.t 16), (some (15, false)), [], [], false⟩,
      ⟨(some 18), .bin .sub .int (.t 17) (.c (.int .i64 1)), (some (15, false)), [], [], false⟩,
      ⟨(some 19), .call (.c (.func (.func 74) #[] #[])) [(.t 18), (.c (.int .i64 16))] true, (some (15, false)), [], [], false⟩,
      ⟨(some 20), .un .not (.t 19), (some (15, false)), [], [], false⟩,
      y 21 (.pick (.t 15) (.c (.bool true)) (.t 20)),
      y 22 (.mv (.t 21)),
      ⟨(some 23), .addOff 3 (.t 1), (some (22, false)), [], [], false⟩,
      ⟨(some 24), .load false 1 (.t 23), (some (22, false)), [], [], false⟩,
      ⟨(some 25), .call (.c (.func (.func 74) #[] #[])) [(.t 24), (.c (.int .i64 33))] true, (some (22, false)), [], [], false⟩,
      ⟨(some 26), .un .not (.t 25), (some (22, false)), [], [], false⟩,
      y 27 (.pick (.t 22) (.c (.bool true)) (.t 26)),
      y 28 (.mv (.t 27)),
      ⟨(some 29), .addOff 4 (.t 1), (some (28, false)), [], [], false⟩,
      ⟨(some 30), .load false 1 (.t 29), (some (28, false)), [], [], false⟩,
      ⟨(some 31), .call (.c (.func (.func 74) #[] #[])) [(.t 30), (.c (.int .i64 33))] true, (some (28, false)), [], [], false⟩,
      ⟨(some 32), .un .not (.t 31), (some (28, false)), [], [], false⟩,
      y 33 (.pick (.t 28) (.c (.bool true)) (.t 32))])
   (.cond (.t 33)
    (.seq
     (.region [
       y 2 (.mv (.c (.int .i64 2)))])
    .ret)
    .skip))
  (.seq
   (.region [
     y 2 (.mv (.c (.int .i64 0)))])
  .ret))),
  [.tmp 2]⟩

/-- (*wainscot/wainscotref03.Mem).Load -/
def i46 : IFun := ⟨20,
  (.seq
   (.region [
     y 4 (.mv (.c (.int .u64 0))),
     y 5 (.mv (.c (.int .i64 0)))])
  (.seq
   (.seq
    (.region [
      y 7 (.mv (.t 0)),
      y 8 (.mv (.t 1)),
      y 9 (.call (.c (.func (.func 37) #[] #[])) [(.t 7), (.t 8), (.c (.int .i64 1))] false),
      y 6 (.mv (.t 9))])
   (.seq
    (.region [
      y 10 (.mv (.t 6)),
      y 11 (.bin .neq .int (.t 10) (.c (.int .i64 0)))])
   (.cond (.t 11)
    (.seq
     (.region [
       y 12 (.mv (.t 6)),
       y 4 (.mv (.c (.int .u64 0))),
       y 5 (.mv (.t 12))])
    .ret)
    .skip)))
  (.seq
   (.region [
     y 13 (.mv (.t 0)),
     y 14 (.nilCheck (.t 13)),
     y 15 (.addOff 0 (.t 14)),
     y 16 (.load false 1 (.t 15)),
     y 17 (.mv (.t 1)),
     y 18 (.idxS 1 (.t 16) (.t 17)),
     y 19 (.load false 1 (.t 18)),
     y 4 (.mv (.t 19)),
     y 5 (.mv (.c (.int .i64 0)))])
  .ret))),
  [.tmp 4, .tmp 5]⟩

/-- wainscot/wainscotref22.Behind -/
def i47 : IFun := ⟨7,
  (.seq
   (.region [
     y 2 (.mv (.c (.int .i64 0)))])
  (.seq
   (.seq
    (.region [
      y 3 (.mv (.t 0)),
      y 4 (.bin .lss .int (.t 3) (.c (.int .i64 0)))])
   (.cond (.t 4)
    (.seq
     (.region [
       y 2 (.mv (.c (.int .i64 (-1))))])
    .ret)
    .skip))
  (.seq
   (.region [
     y 5 (.mv (.t 0)),
     y 6 (.bin .add .int (.t 5) (.c (.int .i64 1))),
     y 2 (.mv (.t 6))])
  .ret))),
  [.tmp 2]⟩

/-- wainscot/wainscotref21.Head -/
def i48 : IFun := ⟨13,
  (.seq
   (.region [
     y 2 (.box 25 6 (.t 0)),
     y 4 (.mv (.c (.int .i64 0)))])
  (.seq
   (.region [
     y 5 (.load true 6 (.t 2)),
     y 6 (.mv (.t 1)),
     y 7 (.addOff 0 (.t 2)),
     y 8 (.load false 1 (.t 7)),
     y 9 (.call (.c (.func (.func 74) #[] #[])) [(.t 6), (.t 8)] true),
     y 10 (.mv (.t 1)),
     y 11 (.bin .mul .int (.c (.int .i64 4)) (.t 10)),
     y 12 (.call (.c (.func (.func 34) #[] #[])) [(.t 5), (.t 9), (.t 11)] true),
     y 4 (.mv (.t 12))])
  .ret)),
  [.tmp 4]⟩

/-- wainscot/wainscotref22.Head -/
def i49 : IFun := ⟨31,
  (.seq
   (.region [
     y 2 (.box 25 6 (.t 0)),
     y 4 (.mv (.c (.int .i64 0))),
     y 5 (.mv (.c (.int .i64 0))),
     y 6 (.mv (.c (.bool false)))])
  (.seq
   (.region [
     y 11 (.mv (.t 1)),
     y 12 (.call (.c (.func (.func 75) #[] #[])) [(.t 11)] true),
     y 10 (.mv (.t 12)),
     y 13 (.extract (.t 10) 0),
     y 14 (.extract (.t 10) 1),
     y 15 (.extract (.t 10) 2),
     y 7 (.mv (.t 13)),
     y 8 (.mv (.t 14)),
     y 9 (.mv (.t 15))])
  (.seq
   (.region [
     y 16 (.mv (.t 7)),
     y 17 (.mv (.t 8)),
     y 18 (.mv (.t 9)),
     y 19 (.mv (.t 18)),
     ⟨(some 20), .mv (.t 7), (some (19, true)), [], [], false⟩,
     ⟨(some 21), .addOff 1 (.t 2), (some (19, true)), [], [], false⟩,
     ⟨(some 22), .load false 1 (.t 21), (some (19, true)), [], [], false⟩,
     ⟨(some 23), .bin .lss .int (.t 20) (.t 22), (some (19, true)), [], [], false⟩,
     y 24 (.pick (.t 19) (.t 23) (.c (.bool false))),
     y 25 (.mv (.t 24)),
     ⟨(some 26), .mv (.t 8), (some (25, true)), [], [], false⟩,
     ⟨(some 27), .addOff 2 (.t 2), (some (25, true)), [], [], false⟩,
     ⟨(some 28), .load false 1 (.t 27), (some (25, true)), [], [], false⟩,
     ⟨(some 29), .bin .lss .int (.t 26) (.t 28), (some (25, true)), [], [], false⟩,
     y 30 (.pick (.t 25) (.t 29) (.c (.bool false))),
     y 4 (.mv (.t 16)),
     y 5 (.mv (.t 17)),
     y 6 (.mv (.t 30))])
  .ret))),
  [.tmp 4, .tmp 5, .tmp 6]⟩

/-- wainscot/wainscotref21.Link -/
def i50 : IFun := ⟨34,
  (.seq
   (.region [
     y 3 (.box 25 6 (.t 0)),
     y 6 (.mv (.c (.int .i64 0)))])
  (.seq
   (.region [
     y 7 (.load true 6 (.t 3)),
     y 8 (.mv (.t 1)),
     y 9 (.addOff 1 (.t 3)),
     y 10 (.load false 1 (.t 9)),
     y 11 (.call (.c (.func (.func 74) #[] #[])) [(.t 8), (.t 10)] true),
     y 12 (.mv (.t 11)),
     ⟨(some 13), .mv (.t 2), (some (12, true)), [], [], false⟩,
     ⟨(some 14), .addOff 2 (.t 3), (some (12, true)), [], [], false⟩,
     ⟨(some 15), .load false 1 (.t 14), (some (12, true)), [], [], false⟩,
     ⟨(some 16), .call (.c (.func (.func 74) #[] #[])) [(.t 13), (.t 15)] true, (some (12, true)), [], [], false⟩,
     y 17 (.pick (.t 12) (.t 16) (.c (.bool false))),
     y 18 (.addOff 0 (.t 3)),
     y 19 (.load false 1 (.t 18)),
     y 20 (.bin .mul .int (.c (.int .i64 4)) (.t 19)),
     y 21 (.bin .add .int (.t 20) (.c (.int .i64 4))),
     y 22 (.addOff 1 (.t 3)),
     y 23 (.load false 1 (.t 22)),
     y 24 (.bin .mul .int (.c (.int .i64 4)) (.t 23)),
     y 25 (.bin .add .int (.t 21) (.t 24)),
     y 26 (.mv (.t 1)),
     y 27 (.addOff 2 (.t 3)),
     y 28 (.load false 1 (.t 27)),
     y 29 (.bin .mul .int (.t 26) (.t 28)),
     y 30 (.bin .add .int (.t 25) (.t 29)),
     y 31 (.mv (.t 2)),
     y 32 (.bin .add .int (.t 30) (.t 31)),
     y 33 (.call (.c (.func (.func 34) #[] #[])) [(.t 7), (.t 17), (.t 32)] true),
     y 6 (.mv (.t 33))])
  .ret)),
  [.tmp 6]⟩

/-- wainscot/wainscotref16.Show -/
def i51 : IFun := ⟨25,
  (.seq
   (.region [
     y 6 (.mv (.c (.int .i64 0))),
     y 7 (.mv (.c (.bool false)))])
  (.seq
   (.seq
    (.region [
      y 9 (.mv (.t 2)),
      y 10 (.bin .lss .int (.t 9) (.c (.int .i64 0))),
      y 11 (.mv (.t 10)),
      ⟨(some 12), .mv (.t 2), (some (11, false)), [], [], false⟩,
      ⟨(some 13), .bin .geq .int (.t 12) (.c (.int .i64 16)), (some (11, false)), [], [], false⟩,
      y 14 (.pick (.t 11) (.c (.bool true)) (.t 13))])
   (.cond (.t 14)
    (.seq
     (.region [
       y 6 (.mv (.c (.int .i64 0))),
       y 7 (.mv (.c (.bool false)))])
    .ret)
    .skip))
  (.seq
   (.region [
     y 15 (.mv (.t 0)),
     y 16 (.mv (.t 1)),
     y 17 (.mv (.t 2)),
     y 18 (.call (.c (.func (.func 76) #[] #[])) [(.t 16), (.t 17)] true),
     y 19 (.bin .xor .int (.t 15) (.t 18)),
     y 8 (.mv (.t 19))])
  (.seq
   (.seq
    (.region [
      y 20 (.mv (.t 8)),
      y 21 (.bin .gtr .int (.t 20) (.c (.int .u64 16)))])
   (.cond (.t 21)
    (.seq
     (.region [
       y 6 (.mv (.c (.int .i64 0))),
       y 7 (.mv (.c (.bool false)))])
    .ret)
    .skip))
  (.seq
   (.region [
     y 22 (.mv (.t 8)),
     y 23 (.conv .i64 (.t 22)),
     y 24 (.bin .sub .int (.t 23) (.c (.int .i64 1))),
     y 6 (.mv (.t 24)),
     y 7 (.mv (.c (.bool true)))])
  .ret))))),
  [.tmp 6, .tmp 7]⟩

/-- wainscot/wainscotref21.Key -/
def i52 : IFun := ⟨11,
  (.seq
   (.region [
     y 2 (.box 25 6 (.t 0)),
     y 4 (.mv (.c (.int .u64 0)))])
  (.seq
   (.region [
     y 5 (.addOff 5 (.t 2)),
     y 6 (.load false 1 (.t 5)),
     y 7 (.mv (.t 1)),
     y 8 (.conv .u64 (.t 7)),
     y 9 (.bin .mul .int (.t 8) (.c (.int .u64 11400714819323198485))),
     y 10 (.bin .add .int (.t 6) (.t 9)),
     y 4 (.mv (.t 10))])
  .ret)),
  [.tmp 4]⟩

/-- wainscot/wainscotref16.Hide -/
def i53 : IFun := ⟨29,
  (.seq
   (.region [
     y 6 (.mv (.c (.int .u64 0))),
     y 7 (.mv (.c (.int .i64 0)))])
  (.seq
   (.seq
    (.region [
      y 8 (.mv (.t 0)),
      y 9 (.bin .lss .int (.t 8) (.c (.int .i64 (-1)))),
      y 10 (.mv (.t 9)),
      ⟨(some 11), .mv (.t 0), (some (10, false)), [], [], false⟩,
      ⟨(some 12), .bin .geq .int (.t 11) (.c (.int .i64 16)), (some (10, false)), [], [], false⟩,
      y 13 (.pick (.t 10) (.c (.bool true)) (.t 12)),
      y 14 (.mv (.t 13)),
      ⟨(some 15), .mv (.t 2), (some (14, false)), [], [], false⟩,
      ⟨(some 16), .bin .lss .int (.t 15) (.c (.int .i64 0)), (some (14, false)), [], [], false⟩,
      y 17 (.pick (.t 14) (.c (.bool true)) (.t 16)),
      y 18 (.mv (.t 17)),
      ⟨(some 19), .mv (.t 2), (some (18, false)), [], [], false⟩,
      ⟨(some 20), .bin .geq .int (.t 19) (.c (.int .i64 16)), (some (18, false)), [], [], false⟩,
      y 21 (.pick (.t 18) (.c (.bool true)) (.t 20))])
   (.cond (.t 21)
    (.seq
     (.region [
       y 6 (.mv (.c (.int .u64 0))),
       y 7 (.mv (.c (.int .i64 2)))])
    .ret)
    .skip))
  (.seq
   (.region [
     y 22 (.mv (.t 0)),
     y 23 (.bin .add .int (.t 22) (.c (.int .i64 1))),
     y 24 (.conv .u64 (.t 23)),
     y 25 (.mv (.t 1)),
     y 26 (.mv (.t 2)),
     y 27 (.call (.c (.func (.func 76) #[] #[])) [(.t 25), (.t 26)] true),
     y 28 (.bin .xor .int (.t 24) (.t 27)),
     y 6 (.mv (.t 28)),
     y 7 (.mv (.c (.int .i64 0)))])
  .ret))),
  [.tmp 6, .tmp 7]⟩

/-- wainscot/wainscotref17.Head -/
def i54 : IFun := ⟨33,
  (.seq
   (.region [
     y 4 (.mv (.c (.int .u64 0))),
     y 5 (.mv (.c (.int .i64 0)))])
  (.seq
   (.seq
    (.region [
      y 6 (.mv (.t 0)),
      y 7 (.bin .eql .int (.t 6) (.c (.int .i64 (-1)))),
      y 8 (.mv (.t 7)),
      ⟨(some 9), .mv (.t 1), (some (8, true)), [], [], false⟩,
      ⟨(some 10), .bin .eql .int (.t 9) (.c (.int .i64 (-1))), (some (8, true)), [], [], false⟩,
      y 11 (.pick (.t 8) (.t 10) (.c (.bool false)))])
   (.cond (.t 11)
    (.seq
     (.region [
       y 4 (.mv (.c (.int .u64 0))),
       y 5 (.mv (.c (.int .i64 0)))])
    .ret)
    .skip))
  (.seq
   (.seq
    (.region [
      y 12 (.mv (.t 0)),
      y 13 (.bin .lss .int (.t 12) (.c (.int .i64 0))),
      y 14 (.mv (.t 13)),
      ⟨(some 15), .mv (.t 0), (some (14, false)), [], [], false⟩,
      ⟨(some 16), .bin .geq .int (.t 15) (.c (.int .i64 32)), (some (14, false)), [], [], false⟩,
      y 17 (.pick (.t 14) (.c (.bool true)) (.t 16)),
      y 18 (.mv (.t 17)),
      ⟨(some 19), .mv (.t 1), (some (18, false)), [], [], false⟩,
      ⟨(some 20), .bin .lss .int (.t 19) (.c (.int .i64 (-1))), (some (18, false)), [], [], false⟩,
      y 21 (.pick (.t 18) (.c (.bool true)) (.t 20)),
      y 22 (.mv (.t 21)),
      ⟨(some 23), .mv (.t 1), (some (22, false)), [], [], false⟩,
      ⟨(some 24), .bin .geq .int (.t 23) (.c (.int .i64 16)), (some (22, false)), [], [], false⟩,
      y 25 (.pick (.t 22) (.c (.bool true)) (.t 24))])
   (.cond (.t 25)
    (.seq
     (.region [
       y 4 (.mv (.c (.int .u64 0))),
       y 5 (.mv (.c (.int .i64 2)))])
    .ret)
    .skip))
  (.seq
   (.region [
     y 26 (.mv (.t 0)),
     y 27 (.bin .add .int (.t 26) (.c (.int .i64 1))),
     y 28 (.bin .mul .int (.c (.int .i64 64)) (.t 27)),
     y 29 (.mv (.t 1)),
     y 30 (.bin .add .int (.t 28) (.t 29)),
     y 31 (.bin .add .int (.t 30) (.c (.int .i64 1))),
     y 32 (.conv .u64 (.t 31)),
     y 4 (.mv (.t 32)),
     y 5 (.mv (.c (.int .i64 0)))])
  .ret)))),
  [.tmp 4, .tmp 5]⟩

/-- (*wainscot/wainscotref03.Mem).Cas2 -/
def i55 : IFun := ⟨57,
  (.seq
   (.region [
     y 12 (.mv (.c (.bool false))),
     y 13 (.mv (.c (.int .i64 0)))])
  (.seq
   (.seq
    (.region [
      y 15 (.mv (.t 0)),
      y 16 (.mv (.t 1)),
      y 17 (.call (.c (.func (.func 37) #[] #[])) [(.t 15), (.t 16), (.c (.int .i64 2))] false),
      y 14 (.mv (.t 17))])
   (.seq
    (.region [
      y 18 (.mv (.t 14)),
      y 19 (.bin .neq .int (.t 18) (.c (.int .i64 0)))])
   (.cond (.t 19)
    (.seq
     (.region [
       y 20 (.mv (.t 14)),
       y 12 (.mv (.c (.bool false))),
       y 13 (.mv (.t 20))])
    .ret)
    .skip)))
  (.seq
   (.seq
    (.region [
      y 21 (.mv (.t 0)),
      y 22 (.nilCheck (.t 21)),
      y 23 (.addOff 0 (.t 22)),
      y 24 (.load false 1 (.t 23)),
      y 25 (.mv (.t 1)),
      y 26 (.idxS 1 (.t 24) (.t 25)),
      y 27 (.load false 1 (.t 26)),
      y 28 (.mv (.t 2)),
      y 29 (.bin .neq .int (.t 27) (.t 28)),
      y 30 (.mv (.t 29)),
      ⟨(some 31), .mv (.t 0), (some (30, false)), [], [], false⟩,
      ⟨(some 32), .nilCheck (.t 31), (some (30, false)), [], [], false⟩,
      ⟨(some 33), .addOff 0 (.t 32), (some (30, false)), [], [], false⟩,
      ⟨(some 34), .load false 1 (.t 33), (some (30, false)), [], [], false⟩,
      ⟨(some 35), .mv (.t 1), (some (30, false)), [], [], false⟩,
      ⟨(some 36), .bin .add .int (.t 35) (.c (.int .i64 1)), (some (30, false)), [], [], false⟩,
      ⟨(some 37), .idxS 1 (.t 34) (.t 36), (some (30, false)), [], [], false⟩,
      ⟨(some 38), .load false 1 (.t 37), (some (30, false)), [], [], false⟩,
      ⟨(some 39), .mv (.t 3), (some (30, false)), [], [], false⟩,
      ⟨(some 40), .bin .neq .int (.t 38) (.t 39), (some (30, false)), [], [], false⟩,
      y 41 (.pick (.t 30) (.c (.bool true)) (.t 40))])
   (.cond (.t 41)
    (.seq
     (.region [
       y 12 (.mv (.c (.bool false))),
       y 13 (.mv (.c (.int .i64 0)))])
    .ret)
    .skip))
  (.seq
   (.region [
     y 42 (.mv (.t 0)),
     y 43 (.nilCheck (.t 42)),
     y 44 (.addOff 0 (.t 43)),
     y 45 (.load false 1 (.t 44)),
     y 46 (.mv (.t 1)),
     y 47 (.mv (.t 4)),
     y 48 (.idxS 1 (.t 45) (.t 46)),
     x (.store 1 (.t 48) (.t 47))])
  (.seq
   (.region [
     y 49 (.mv (.t 0)),
     y 50 (.nilCheck (.t 49)),
     y 51 (.addOff 0 (.t 50)),
     y 52 (.load false 1 (.t 51)),
     y 53 (.mv (.t 1)),
     y 54 (.bin .add .int (.t 53) (.c (.int .i64 1))),
     y 55 (.mv (.t 5)),
     y 56 (.idxS 1 (.t 52) (.t 54)),
     x (.store 1 (.t 56) (.t 55))])
  (.seq
   (.region [
     y 12 (.mv (.c (.bool true))),
     y 13 (.mv (.c (.int .i64 0)))])
  .ret)))))),
  [.tmp 12, .tmp 13]⟩

/-- wainscot/chart.Words -/
def i56 : IFun := ⟨14,
  (.seq
   (.region [
     y 1 (.box 25 6 (.t 0)),
     y 2 (.mv (.c (.int .i64 0)))])
  (.seq
   (.seq
    (.region [
      y 3 (.load true 6 (.t 1)),
      y 4 (.call (.c (.func (.func 18) #[] #[])) [(.t 3)] true),
      y 5 (.bin .neq .int (.t 4) (.c (.int .i64 0)))])
   (.cond (.t 5)
    (.seq
     (.region [
       y 2 (.mv (.c (.int .i64 0)))])
    .ret)
    .skip))
  (.seq
   (.region [
     y 6 (.load true 6 (.t 1)),
     y 7 (.call (.c (.func (.func 77) #[] #[])) [(.t 6)] true),
     y 8 (.addOff 1 (.t 1)),
     y 9 (.load false 1 (.t 8)),
     y 10 (.addOff 2 (.t 1)),
     y 11 (.load false 1 (.t 10)),
     y 12 (.bin .mul .int (.t 9) (.t 11)),
     y 13 (.bin .add .int (.t 7) (.t 12)),
     y 2 (.mv (.t 13))])
  .ret))),
  [.tmp 2]⟩

/-- wainscot/link.Fresh -/
def i57 : IFun := ⟨41,
  (.seq
   (.region [
     y 4 (.mv (.c (.slice none 0 0))),
     y 5 (.mv (.c (.int .i64 0)))])
  (.seq
   (.seq
    (.region [
      y 8 (.mv (.t 0)),
      y 9 (.bin .lss .int (.t 8) (.c (.int .i64 1))),
      y 10 (.mv (.t 9)),
      ⟨(some 11), .mv (.t 0), (some (10, false)), [], [], false⟩,
      ⟨(some 12), .bin .gtr .int (.t 11) (.c (.int .i64 16)), (some (10, false)), [], [], false⟩,
      y 13 (.pick (.t 10) (.c (.bool true)) (.t 12))])
   (.cond (.t 13)
    (.seq
     (.region [
       y 4 (.mv (.c (.slice none 0 0))),
       y 5 (.mv (.c (.int .i64 2)))])
    .ret)
    .skip))
  (.seq
   (.region [
     y 14 (.mv (.t 0)),
     y 15 (.mkSlice 23 (.int .u64 0) 8 (.t 14) (.t 14)),
     y 6 (.mv (.t 15))])
  (.seq
   (.seq
    (.region [
      y 16 (.mv (.t 6)),
      y 17 (.lenS (.t 16)),
      y 18 (.mv (.c (.int .i64 0)))])
   (.block 0
    (.loop
     (.seq
      (.region [
        y 19 (.bin .lss .int (.t 18) (.t 17))])
     (.seq
      (.cond (.t 19)
       .skip
       (.exit 0))
     (.seq
      (.block 1
       (.seq
        (.region [
          y 20 (.mv (.t 18)),
          y 7 (.mv (.t 20))])
       (.region [
         y 21 (.mv (.t 6)),
         y 22 (.mv (.t 7)),
         y 23 (.mv (.t 7)),
         y 24 (.bin .add .int (.t 23) (.c (.int .i64 2))),
         y 25 (.conv .u64 (.t 24)),
         y 26 (.mv (.t 1)),
         y 27 (.mv (.t 7)),
         y 28 (.call (.c (.func (.func 78) #[] #[])) [(.t 26), (.t 27)] true),
         y 29 (.bin .xor .int (.t 25) (.t 28)),
         y 30 (.idxS 1 (.t 21) (.t 22)),
         x (.store 1 (.t 30) (.t 29))])))
     (.region [
       y 31 (.bin .add .int (.t 18) (.c (.int .i64 1))),
       y 18 (.mv (.t 31))])))))))
  (.seq
   (.region [
     y 32 (.mv (.t 6)),
     y 33 (.mv (.t 0)),
     y 34 (.bin .sub .int (.t 33) (.c (.int .i64 1))),
     y 35 (.mv (.t 1)),
     y 36 (.mv (.t 0)),
     y 37 (.bin .sub .int (.t 36) (.c (.int .i64 1))),
     y 38 (.call (.c (.func (.func 78) #[] #[])) [(.t 35), (.t 37)] true),
     y 39 (.idxS 1 (.t 32) (.t 34)),
     x (.store 1 (.t 39) (.t 38))])
  (.seq
   (.region [
     y 40 (.mv (.t 6)),
     y 4 (.mv (.t 40)),
     y 5 (.mv (.c (.int .i64 0)))])
  .ret)))))),
  [.tmp 4, .tmp 5]⟩

/-- wainscot/chart.Key -/
def i58 : IFun := ⟨11,
  (.seq
   (.region [
     y 2 (.box 25 6 (.t 0)),
     y 4 (.mv (.c (.int .u64 0)))])
  (.seq
   (.region [
     y 5 (.addOff 5 (.t 2)),
     y 6 (.load false 1 (.t 5)),
     y 7 (.mv (.t 1)),
     y 8 (.conv .u64 (.t 7)),
     y 9 (.bin .mul .int (.t 8) (.c (.int .u64 11400714819323198485))),
     y 10 (.bin .add .int (.t 6) (.t 9)),
     y 4 (.mv (.t 10))])
  .ret)),
  [.tmp 4]⟩

/-- wainscot/chart.Link -/
def i59 : IFun := ⟨21,
  (.seq
   (.region [
     y 3 (.box 25 6 (.t 0)),
     y 4 (.box 3 1 (.t 1)),
     y 5 (.box 3 1 (.t 2)),
     y 6 (.mv (.c (.int .i64 0)))])
  (.seq
   (.seq
    (.region [
      y 7 (.load false 1 (.t 4)),
      y 8 (.bin .lss .int (.t 7) (.c (.int .i64 0))),
      y 9 (.mv (.t 8)),
      ⟨(some 10), .load false 1 (.t 4), (some (9, false)), [], [], false⟩,
      ⟨(some 11), .addOff 1 (.t 3), (some (9, false)), [], [], false⟩,
      ⟨(some 12), .load false 1 (.t 11), (some (9, false)), [], [], false⟩,
      ⟨(some 13), .bin .geq .int (.t 10) (.t 12), (some (9, false)), [], [], false⟩,
      y 14 (.pick (.t 9) (.c (.bool true)) (.t 13))])
   (.cond (.t 14)
    (.seq
     (.region [
       y 6 (.mv (.c (.int .i64 (-1))))])
    .ret)
    .skip))
  (.seq
   (.region [
     y 15 (.load true 6 (.t 3)),
     y 16 (.load false 1 (.t 5)),
     y 17 (.addOff 2 (.t 3)),
     y 18 (.load false 1 (.t 17)),
     y 19 (.mkFunc 80 [] [(.t 3), (.t 4), (.t 5)]),
     y 20 (.call (.c (.func (.func 79) #[] #[])) [(.t 15), (.t 16), (.t 18), (.t 19)] true),
     y 6 (.mv (.t 20))])
  .ret))),
  [.tmp 6]⟩

/-- wainscot/count.Head -/
def i60 : IFun := ⟨33,
  (.seq
   (.region [
     y 4 (.mv (.c (.int .u64 0))),
     y 5 (.mv (.c (.int .i64 0)))])
  (.seq
   (.block 0
    (.seq
     (.region [
       y 7 (.mv (.t 0)),
       y 8 (.bin .eql .int (.t 7) (.c (.int .i64 (-1)))),
       y 9 (.mv (.t 8)),
       ⟨(some 10), .mv (.t 1), (some (9, true)), [], [], false⟩,
       ⟨(some 11), .bin .eql .int (.t 10) (.c (.int .i64 (-1))), (some (9, true)), [], [], false⟩,
       y 12 (.pick (.t 9) (.t 11) (.c (.bool false))),
       y 6 (.mv (.t 12))])
    (.cond (.t 6)
     (.seq
      (.region [
        y 4 (.mv (.c (.int .u64 0))),
        y 5 (.mv (.c (.int .i64 0)))])
     .ret)
     (.seq
      (.region [
        y 14 (.mv (.t 0)),
        y 15 (.call (.c (.func (.func 81) #[] #[])) [(.t 14)] true),
        y 16 (.un .not (.t 15)),
        y 17 (.mv (.t 16)),
        ⟨(some 18), .mv (.t 1), (some (17, false)), [], [], false⟩,
        ⟨(some 19), .bin .lss .int (.t 18) (.c (.int .i64 (-1))), (some (17, false)), [], [], false⟩,
        y 20 (.pick (.t 17) (.c (.bool true)) (.t 19)),
        y 21 (.mv (.t 20)),
        ⟨(some 22), .mv (.t 1), (some (21, false)), [], [], false⟩,
        ⟨(some 23), .bin .geq .int (.t 22) (.c (.int .i64 16)), (some (21, false)), [], [], false⟩,
        y 24 (.pick (.t 21) (.c (.bool true)) (.t 23)),
        y 13 (.mv (.t 24))])
     (.cond (.t 13)
      (.seq
       (.region [
         y 4 (.mv (.c (.int .u64 0))),
         y 5 (.mv (.c (.int .i64 2)))])
      .ret)
      .skip)))))
  (.seq
   (.region [
     y 25 (.mv (.t 0)),
     y 26 (.bin .add .int (.t 25) (.c (.int .i64 1))),
     y 27 (.conv .u64 (.t 26)),
     y 28 (.bin .shl .int (.t 27) (.c (.int .u64 6))),
     y 29 (.mv (.t 1)),
     y 30 (.bin .add .int (.t 29) (.c (.int .i64 1))),
     y 31 (.conv .u64 (.t 30)),
     y 32 (.bin .or .int (.t 28) (.t 31)),
     y 4 (.mv (.t 32)),
     y 5 (.mv (.c (.int .i64 0)))])
  .ret))),
  [.tmp 4, .tmp 5]⟩

/-- wainscot/count.Pack -/
def i61 : IFun := ⟨23,
  (.seq
   (.region [
     y 1 (.box 97 4 (.t 0)),
     y 2 (.mv (.c (.int .u64 0))),
     y 3 (.mv (.c (.int .i64 0)))])
  (.seq
   (.seq
    (.region [
      y 4 (.load true 4 (.t 1)),
      y 5 (.call (.c (.func (.func 82) #[] #[])) [(.t 4)] true),
      y 6 (.un .not (.t 5))])
   (.cond (.t 6)
    (.seq
     (.region [
       y 2 (.mv (.c (.int .u64 0))),
       y 3 (.mv (.c (.int .i64 2)))])
    .ret)
    .skip))
  (.seq
   (.region [
     y 7 (.addOff 0 (.t 1)),
     y 8 (.load false 1 (.t 7)),
     y 9 (.conv .u64 (.t 8)),
     y 10 (.addOff 1 (.t 1)),
     y 11 (.load false 1 (.t 10)),
     y 12 (.conv .u64 (.t 11)),
     y 13 (.bin .shl .int (.t 12) (.c (.int .u64 8))),
     y 14 (.bin .or .int (.t 9) (.t 13)),
     y 15 (.addOff 2 (.t 1)),
     y 16 (.load false 1 (.t 15)),
     y 17 (.call (.c (.func (.func 83) #[] #[])) [(.t 16), (.c (.int .u64 65536))] true),
     y 18 (.bin .or .int (.t 14) (.t 17)),
     y 19 (.addOff 3 (.t 1)),
     y 20 (.load false 1 (.t 19)),
     y 21 (.call (.c (.func (.func 83) #[] #[])) [(.t 20), (.c (.int .u64 131072))] true),
     y 22 (.bin .or .int (.t 18) (.t 21)),
     y 2 (.mv (.t 22)),
     y 3 (.mv (.c (.int .i64 0)))])
  .ret))),
  [.tmp 2, .tmp 3]⟩

/-- wainscot/chart.Head -/
def i62 : IFun := ⟨11,
  (.seq
   (.region [
     y 2 (.box 25 6 (.t 0)),
     y 3 (.box 3 1 (.t 1)),
     y 4 (.mv (.c (.int .i64 0)))])
  (.seq
   (.region [
     y 5 (.load true 6 (.t 2)),
     y 6 (.load false 1 (.t 3)),
     y 7 (.addOff 0 (.t 2)),
     y 8 (.load false 1 (.t 7)),
     y 9 (.mkFunc 84 [] [(.t 3)]),
     y 10 (.call (.c (.func (.func 79) #[] #[])) [(.t 5), (.t 6), (.t 8), (.t 9)] true),
     y 4 (.mv (.t 10))])
  .ret)),
  [.tmp 4]⟩

/-- wainscot/chart.First -/
def i63 : IFun := ⟨11,
  (.seq
   (.region [
     y 2 (.box 25 6 (.t 0)),
     y 3 (.box 3 1 (.t 1)),
     y 4 (.mv (.c (.int .i64 0)))])
  (.seq
   (.region [
     y 5 (.load true 6 (.t 2)),
     y 6 (.load false 1 (.t 3)),
     y 7 (.addOff 1 (.t 2)),
     y 8 (.load false 1 (.t 7)),
     y 9 (.mkFunc 85 [] [(.t 2), (.t 3)]),
     y 10 (.call (.c (.func (.func 79) #[] #[])) [(.t 5), (.t 6), (.t 8), (.t 9)] true),
     y 4 (.mv (.t 10))])
  .ret)),
  [.tmp 4]⟩

/-- wainscot/chart.See -/
def i64 : IFun := ⟨95,
  (.seq
   (.region [
     y 3 (.box 25 6 (.t 1)),
     y 4 (.new 101 [(.slice none 0 0), (.slice none 0 0), (.bool false), (.slice none 0 0)]),
     y 5 (.mv (.c (.int .i64 0)))])
  (.seq
   (.seq
    (.region [
      y 16 (.load true 6 (.t 3)),
      y 17 (.call (.c (.func (.func 18) #[] #[])) [(.t 16)] true),
      y 18 (.bin .neq .int (.t 17) (.c (.int .i64 0))),
      y 19 (.mv (.t 18)),
      ⟨(some 20), .mv (.t 0), (some (19, false)), [], [], false⟩,
      ⟨(some 21), .lenS (.t 20), (some (19, false)), [], [], false⟩,
      ⟨(some 22), .load true 6 (.t 3), (some (19, false)), [], [], false⟩,
      ⟨(some 23), .call (.c (.func (.func 56) #[] #[])) [(.t 22)] true, (some (19, false)), [], [], false⟩,
      ⟨(some 24), .bin .neq .int (.t 21) (.t 23), (some (19, false)), [], [], false⟩,
      y 25 (.pick (.t 19) (.c (.bool true)) (.t 24))])
   (.cond (.t 25)
    (.seq
     (.region [
       y 26 (.build [(.slice none 0 0), (.slice none 0 0), (.bool false), (.slice none 0 0)] []),
       x (.store 4 (.t 4) (.t 26)),
       y 5 (.mv (.c (.int .i64 2)))])
    .ret)
    .skip))
  (.seq
   (.region [
     y 27 (.mv (.t 0)),
     y 28 (.load true 6 (.t 3)),
     y 29 (.build [(.slice none 0 0), (.int .i64 0), (.int .i64 0), (.int .i64 0), (.int .i64 0), (.int .i64 0), (.int .u64 0)] [(0, 1, (.t 27)), (1, 6, (.t 28))]),
     y 6 (.new 122 [(.slice none 0 0), (.int .i64 0), (.int .i64 0), (.int .i64 0), (.int .i64 0), (.int .i64 0), (.int .u64 0)]),
     x (.store 7 (.t 6) (.t 29))])
  (.seq
   (.region [
     y 30 (.mv (.t 0)),
     y 31 (.load true 6 (.t 3)),
     y 32 (.call (.c (.func (.func 87) #[] #[])) [(.t 31)] true),
     y 33 (.idxS 1 (.t 30) (.t 32)),
     y 34 (.load false 1 (.t 33)),
     y 35 (.bin .neq .int (.t 34) (.c (.int .u64 0))),
     y 36 (.build [(.slice none 0 0), (.slice none 0 0), (.bool false), (.slice none 0 0)] [(2, 1, (.t 35))]),
     y 7 (.new 101 [(.slice none 0 0), (.slice none 0 0), (.bool false), (.slice none 0 0)]),
     x (.store 4 (.t 7) (.t 36))])
  (.seq
   (.seq
    (.region [
      y 37 (.addOff 0 (.t 3)),
      y 38 (.load false 1 (.t 37)),
      y 39 (.mv (.c (.int .i64 0)))])
   (.block 0
    (.loop
     (.seq
      (.region [
        y 40 (.bin .lss .int (.t 39) (.t 38))])
     (.seq
      (.cond (.t 40)
       .skip
       (.exit 0))
     (.seq
      (.block 1
       (.seq
        (.region [
          y 41 (.mv (.t 39)),
          y 8 (.mv (.t 41))])
       (.seq
        (.region [
          y 43 (.load true 7 (.t 6)),
          y 44 (.mv (.t 8)),
          y 45 (.call (.c (.func (.func 88) #[] #[])) [(.t 43), (.t 44)] true),
          y 42 (.mv (.t 45)),
          y 46 (.extract (.t 42) 0),
          y 47 (.extract (.t 42) 1),
          y 9 (.new 105 [(.int .i64 0), (.slice none 0 0), (.int .u64 0), (.slice none 0 0)]),
          x (.store 4 (.t 9) (.t 46)),
          y 10 (.mv (.t 47))])
       (.seq
        (.seq
         (.region [
           y 48 (.mv (.t 10)),
           y 49 (.un .not (.t 48))])
        (.cond (.t 49)
         (.seq
          (.region [
            y 50 (.build [(.slice none 0 0), (.slice none 0 0), (.bool false), (.slice none 0 0)] []),
            x (.store 4 (.t 4) (.t 50)),
            y 5 (.mv (.c (.int .i64 150)))])
         .ret)
         .skip))
       (.region [
         y 51 (.addOff 0 (.t 7)),
         y 52 (.load false 1 (.t 51)),
         y 53 (.load true 4 (.t 9)),
         y 54 (.buildSlice 105 [(.int .i64 0), (.slice none 0 0), (.int .u64 0), (.slice none 0 0)] 1 [(0, 4, (.t 53))]),
         y 55 (.append 105 4 64 (.t 52) (.t 54)),
         y 56 (.addOff 0 (.t 7)),
         x (.store 1 (.t 56) (.t 55))])))))
     (.region [
       y 57 (.bin .add .int (.t 39) (.c (.int .i64 1))),
       y 39 (.mv (.t 57))])))))))
  (.seq
   (.region [
     y 59 (.load true 7 (.t 6)),
     y 60 (.mv (.t 0)),
     y 61 (.load true 6 (.t 3)),
     y 62 (.call (.c (.func (.func 90) #[] #[])) [(.t 61)] true),
     y 63 (.idxS 1 (.t 60) (.t 62)),
     y 64 (.load false 1 (.t 63)),
     y 65 (.call (.c (.func (.func 89) #[] #[])) [(.t 59), (.t 64), (.c (.func (.func 91) #[] #[]))] true),
     y 58 (.mv (.t 65)),
     y 66 (.extract (.t 58) 0),
     y 67 (.extract (.t 58) 1),
     y 11 (.mv (.t 66)),
     y 12 (.mv (.t 67))])
  (.seq
   (.seq
    (.region [
      y 68 (.mv (.t 12)),
      y 69 (.un .not (.t 68))])
   (.cond (.t 69)
    (.seq
     (.region [
       y 70 (.build [(.slice none 0 0), (.slice none 0 0), (.bool false), (.slice none 0 0)] []),
       x (.store 4 (.t 4) (.t 70)),
       y 5 (.mv (.c (.int .i64 150)))])
    .ret)
    .skip))
  (.seq
   (.region [
     y 71 (.mv (.t 11)),
     y 72 (.addOff 1 (.t 7)),
     x (.store 1 (.t 72) (.t 71))])
  (.seq
   (.seq
    (.region [
      y 73 (.addOff 1 (.t 3)),
      y 74 (.load false 1 (.t 73)),
      y 75 (.mv (.c (.int .i64 0)))])
   (.block 2
    (.loop
     (.seq
      (.region [
        y 76 (.bin .lss .int (.t 75) (.t 74))])
     (.seq
      (.cond (.t 76)
       .skip
       (.exit 2))
     (.seq
      (.block 3
       (.seq
        (.region [
          y 77 (.mv (.t 75)),
          y 13 (.mv (.t 77))])
       (.seq
        (.region [
          y 79 (.load true 7 (.t 6)),
          y 80 (.mv (.t 13)),
          y 81 (.call (.c (.func (.func 92) #[] #[])) [(.t 79), (.t 80)] true),
          y 78 (.mv (.t 81)),
          y 82 (.extract (.t 78) 0),
          y 83 (.extract (.t 78) 1),
          y 14 (.new 129 [(.int .i64 0), (.int .i64 0), (.bool false), (.bool false), (.slice none 0 0)]),
          x (.store 5 (.t 14) (.t 82)),
          y 15 (.mv (.t 83))])
       (.seq
        (.seq
         (.region [
           y 84 (.mv (.t 15)),
           y 85 (.un .not (.t 84))])
        (.cond (.t 85)
         (.seq
          (.region [
            y 86 (.build [(.slice none 0 0), (.slice none 0 0), (.bool false), (.slice none 0 0)] []),
            x (.store 4 (.t 4) (.t 86)),
            y 5 (.mv (.c (.int .i64 150)))])
         .ret)
         .skip))
       (.region [
         y 87 (.addOff 3 (.t 7)),
         y 88 (.load false 1 (.t 87)),
         y 89 (.load true 5 (.t 14)),
         y 90 (.buildSlice 129 [(.int .i64 0), (.int .i64 0), (.bool false), (.bool false), (.slice none 0 0)] 1 [(0, 5, (.t 89))]),
         y 91 (.append 129 5 48 (.t 88) (.t 90)),
         y 92 (.addOff 3 (.t 7)),
         x (.store 1 (.t 92) (.t 91))])))))
     (.region [
       y 93 (.bin .add .int (.t 75) (.c (.int .i64 1))),
       y 75 (.mv (.t 93))])))))))
  (.seq
   (.region [
     y 94 (.load true 4 (.t 7)),
     x (.store 4 (.t 4) (.t 94)),
     y 5 (.mv (.c (.int .i64 0)))])
  .ret)))))))))),
  [.cell 4 true 4, .tmp 5]⟩

/-- (*wainscot/fast.step).load -/
def i65 : IFun := ⟨21,
  (.seq
   (.region [
     y 4 (.mv (.c (.int .u64 0)))])
  (.seq
   (.region [
     y 8 (.mv (.t 0)),
     y 9 (.nilCheck (.t 8)),
     y 10 (.addOff 0 (.t 9)),
     y 11 (.load false 1 (.t 10)),
     y 12 (.mv (.t 1)),
     y 13 (.call (.c (.func (.func 93) #[] #[])) [(.t 11), (.t 12)] false),
     y 7 (.mv (.t 13)),
     y 14 (.extract (.t 7) 0),
     y 15 (.extract (.t 7) 1),
     y 5 (.mv (.t 14)),
     y 6 (.mv (.t 15))])
  (.seq
   (.region [
     y 16 (.mv (.t 0)),
     y 17 (.mv (.t 6)),
     y 18 (.bin .eql .int (.t 17) (.c (.int .i64 0))),
     y 19 (.call (.c (.func (.func 72) #[] #[])) [(.t 16), (.t 18)] false)])
  (.seq
   (.region [
     y 20 (.mv (.t 5)),
     y 4 (.mv (.t 20))])
  .ret)))),
  [.tmp 4]⟩

/-- wainscot/fast.behind -/
def i66 : IFun := ⟨8,
  (.seq
   (.region [
     y 2 (.mv (.c (.int .i64 0)))])
  (.seq
   (.seq
    (.region [
      y 3 (.mv (.t 0)),
      y 4 (.bin .lss .int (.t 3) (.c (.int .i64 0)))])
   (.cond (.t 4)
    (.seq
     (.region [
       y 5 (.mv (.t 0)),
       y 2 (.mv (.t 5))])
    .ret)
    .skip))
  (.seq
   (.region [
     y 6 (.mv (.t 0)),
     y 7 (.bin .add .int (.t 6) (.c (.int .i64 1))),
     y 2 (.mv (.t 7))])
  .ret))),
  [.tmp 2]⟩

/-- (*wainscot/fast.step).to -/
def i67 : IFun := ⟨9,
  (.region [
    y 4 (.mv (.t 0)),
    y 5 (.mv (.t 1)),
    y 6 (.nilCheck (.t 4)),
    y 7 (.addOff 7 (.t 6)),
    y 8 (.addOff 2 (.t 7)),
    x (.store 1 (.t 8) (.t 5))]),
  []⟩

/-- (*wainscot/fast.step).head -/
def i68 : IFun := ⟨54,
  (.seq
   (.region [
     y 2 (.mv (.c (.int .i64 0))),
     y 3 (.mv (.c (.int .i64 0)))])
  (.seq
   (.region [
     y 5 (.mv (.t 0)),
     y 6 (.mv (.t 0)),
     y 7 (.mv (.t 0)),
     y 8 (.nilCheck (.t 7)),
     y 9 (.addOff 1 (.t 8)),
     y 10 (.load true 6 (.t 9)),
     y 11 (.mv (.t 0)),
     y 12 (.nilCheck (.t 11)),
     y 13 (.addOff 7 (.t 12)),
     y 14 (.addOff 1 (.t 13)),
     y 15 (.load false 1 (.t 14)),
     y 16 (.call (.c (.func (.func 62) #[] #[])) [(.t 10), (.t 15)] true),
     y 17 (.call (.c (.func (.func 65) #[] #[])) [(.t 6), (.t 16)] false),
     y 18 (.nilCheck (.t 5)),
     y 19 (.addOff 7 (.t 18)),
     y 20 (.addOff 7 (.t 19)),
     x (.store 1 (.t 20) (.t 17))])
  (.seq
   (.region [
     y 22 (.mv (.t 0)),
     y 23 (.nilCheck (.t 22)),
     y 24 (.addOff 7 (.t 23)),
     y 25 (.addOff 7 (.t 24)),
     y 26 (.load false 1 (.t 25)),
     y 27 (.call (.c (.func (.func 94) #[] #[])) [(.t 26)] true),
     y 21 (.mv (.t 27)),
     y 28 (.extract (.t 21) 0),
     y 29 (.extract (.t 21) 1),
     y 30 (.extract (.t 21) 2),
     y 2 (.mv (.t 28)),
     y 3 (.mv (.t 29)),
     y 4 (.mv (.t 30))])
  (.seq
   (.region [
     y 31 (.mv (.t 0)),
     y 32 (.mv (.t 4)),
     y 33 (.mv (.t 32)),
     ⟨(some 34), .mv (.t 2), (some (33, true)), [], [], false⟩,
     ⟨(some 35), .mv (.t 0), (some (33, true)), [], [], false⟩,
     ⟨(some 36), .nilCheck (.t 35), (some (33, true)), [], [], false⟩,
     ⟨(some 37), .addOff 1 (.t 36), (some (33, true)), [], [], false⟩,
     ⟨(some 38), .addOff 1 (.t 37), (some (33, true)), [], [], false⟩,
     ⟨(some 39), .load false 1 (.t 38), (some (33, true)), [], [], false⟩,
     ⟨(some 40), .bin .lss .int (.t 34) (.t 39), (some (33, true)), [], [], false⟩,
     y 41 (.pick (.t 33) (.t 40) (.c (.bool false))),
     y 42 (.mv (.t 41)),
     ⟨(some 43), .mv (.t 3), (some (42, true)), [], [], false⟩,
     ⟨(some 44), .mv (.t 0), (some (42, true)), [], [], false⟩,
     ⟨(some 45), .nilCheck (.t 44), (some (42, true)), [], [], false⟩,
     ⟨(some 46), .addOff 1 (.t 45), (some (42, true)), [], [], false⟩,
     ⟨(some 47), .addOff 2 (.t 46), (some (42, true)), [], [], false⟩,
     ⟨(some 48), .load false 1 (.t 47), (some (42, true)), [], [], false⟩,
     ⟨(some 49), .bin .lss .int (.t 43) (.t 48), (some (42, true)), [], [], false⟩,
     y 50 (.pick (.t 42) (.t 49) (.c (.bool false))),
     y 51 (.call (.c (.func (.func 72) #[] #[])) [(.t 31), (.t 50)] false)])
  (.seq
   (.region [
     y 52 (.mv (.t 2)),
     y 53 (.mv (.t 3)),
     y 2 (.mv (.t 52)),
     y 3 (.mv (.t 53))])
  .ret))))),
  [.tmp 2, .tmp 3]⟩

/-- wainscot/link.Show -/
def i69 : IFun := ⟨21,
  (.seq
   (.region [
     y 6 (.mv (.c (.int .i64 0))),
     y 7 (.mv (.c (.bool false)))])
  (.seq
   (.seq
    (.region [
      y 8 (.mv (.t 2)),
      y 9 (.call (.c (.func (.func 95) #[] #[])) [(.t 8)] true),
      y 10 (.un .not (.t 9))])
   (.cond (.t 10)
    (.seq
     (.region [
       y 6 (.mv (.c (.int .i64 0))),
       y 7 (.mv (.c (.bool false)))])
    .ret)
    .skip))
  (.seq
   (.seq
    (.region [
      y 11 (.mv (.t 0)),
      y 12 (.mv (.t 1)),
      y 13 (.mv (.t 2)),
      y 14 (.call (.c (.func (.func 78) #[] #[])) [(.t 12), (.t 13)] true),
      y 15 (.bin .xor .int (.t 11) (.t 14)),
      y 0 (.mv (.t 15))])
   (.seq
    (.region [
      y 16 (.mv (.t 0)),
      y 17 (.bin .gtr .int (.t 16) (.c (.int .u64 16)))])
   (.cond (.t 17)
    (.seq
     (.region [
       y 6 (.mv (.c (.int .i64 0))),
       y 7 (.mv (.c (.bool false)))])
    .ret)
    .skip)))
  (.seq
   (.region [
     y 18 (.mv (.t 0)),
     y 19 (.conv .i64 (.t 18)),
     y 20 (.bin .sub .int (.t 19) (.c (.int .i64 1))),
     y 6 (.mv (.t 20)),
     y 7 (.mv (.c (.bool true)))])
  .ret)))),
  [.tmp 6, .tmp 7]⟩

/-- (*wainscot/fast.step).swap -/
def i70 : IFun := ⟨62,
  (.seq
   (.region [
     y 9 (.mv (.t 0)),
     y 10 (.nilCheck (.t 9)),
     y 11 (.addOff 7 (.t 10)),
     y 12 (.addOff 5 (.t 11)),
     y 13 (.load false 1 (.t 12)),
     y 14 (.mv (.t 1)),
     y 15 (.call (.c (.func (.func 60) #[] #[])) [(.t 13), (.t 14)] true),
     y 8 (.mv (.t 15)),
     y 16 (.extract (.t 8) 0),
     y 17 (.extract (.t 8) 1),
     y 6 (.mv (.t 16)),
     y 7 (.mv (.t 17))])
  (.seq
   (.region [
     y 18 (.mv (.t 0)),
     y 19 (.mv (.t 7)),
     y 20 (.bin .eql .int (.t 19) (.c (.int .i64 0))),
     y 21 (.call (.c (.func (.func 72) #[] #[])) [(.t 18), (.t 20)] false)])
  (.seq
   (.seq
    (.region [
      y 22 (.mv (.t 0)),
      y 23 (.nilCheck (.t 22)),
      y 24 (.addOff 24 (.t 23)),
      y 25 (.load false 1 (.t 24))])
   (.cond (.t 25)
    .ret
    .skip))
  (.seq
   (.seq
    (.region [
      y 26 (.mv (.t 0)),
      y 27 (.mv (.t 0)),
      y 28 (.nilCheck (.t 27)),
      y 29 (.addOff 1 (.t 28)),
      y 30 (.load true 6 (.t 29)),
      y 31 (.mv (.t 0)),
      y 32 (.nilCheck (.t 31)),
      y 33 (.addOff 7 (.t 32)),
      y 34 (.addOff 1 (.t 33)),
      y 35 (.load false 1 (.t 34)),
      y 36 (.call (.c (.func (.func 62) #[] #[])) [(.t 30), (.t 35)] true),
      y 37 (.mv (.t 0)),
      y 38 (.nilCheck (.t 37)),
      y 39 (.addOff 7 (.t 38)),
      y 40 (.addOff 7 (.t 39)),
      y 41 (.load false 1 (.t 40)),
      y 42 (.mv (.t 0)),
      y 43 (.nilCheck (.t 42)),
      y 44 (.addOff 7 (.t 43)),
      y 45 (.addOff 8 (.t 44)),
      y 46 (.load false 1 (.t 45)),
      y 47 (.mv (.t 6)),
      y 48 (.mv (.t 0)),
      y 49 (.nilCheck (.t 48)),
      y 50 (.addOff 7 (.t 49)),
      y 51 (.addOff 8 (.t 50)),
      y 52 (.load false 1 (.t 51)),
      y 53 (.bin .add .int (.t 52) (.c (.int .u64 1))),
      y 54 (.call (.c (.func (.func 96) #[] #[])) [(.t 26), (.t 36), (.t 41), (.t 46), (.t 47), (.t 53)] false)])
   (.cond (.t 54)
    (.seq
     (.region [
       y 55 (.mv (.t 0)),
       y 56 (.nilCheck (.t 55)),
       y 57 (.addOff 7 (.t 56)),
       y 58 (.addOff 3 (.t 57)),
       x (.store 1 (.t 58) (.c (.int .i64 1)))])
    .ret)
    .skip))
  (.region [
    y 59 (.mv (.t 0)),
    y 60 (.mv (.t 2)),
    y 61 (.call (.c (.func (.func 67) #[] #[])) [(.t 59), (.t 60)] false)]))))),
  []⟩

/-- wainscot/link.Hide -/
def i71 : IFun := ⟨27,
  (.seq
   (.region [
     y 6 (.mv (.c (.int .u64 0))),
     y 7 (.mv (.c (.int .i64 0)))])
  (.seq
   (.seq
    (.region [
      y 8 (.mv (.t 0)),
      y 9 (.bin .neq .int (.t 8) (.c (.int .i64 (-1)))),
      y 10 (.mv (.t 9)),
      ⟨(some 11), .mv (.t 0), (some (10, true)), [], [], false⟩,
      ⟨(some 12), .call (.c (.func (.func 95) #[] #[])) [(.t 11)] true, (some (10, true)), [], [], false⟩,
      ⟨(some 13), .un .not (.t 12), (some (10, true)), [], [], false⟩,
      y 14 (.pick (.t 10) (.t 13) (.c (.bool false))),
      y 15 (.mv (.t 14)),
      ⟨(some 16), .mv (.t 2), (some (15, false)), [], [], false⟩,
      ⟨(some 17), .call (.c (.func (.func 95) #[] #[])) [(.t 16)] true, (some (15, false)), [], [], false⟩,
      ⟨(some 18), .un .not (.t 17), (some (15, false)), [], [], false⟩,
      y 19 (.pick (.t 15) (.c (.bool true)) (.t 18))])
   (.cond (.t 19)
    (.seq
     (.region [
       y 6 (.mv (.c (.int .u64 0))),
       y 7 (.mv (.c (.int .i64 2)))])
    .ret)
    .skip))
  (.seq
   (.region [
     y 20 (.mv (.t 0)),
     y 21 (.bin .add .int (.t 20) (.c (.int .i64 1))),
     y 22 (.conv .u64 (.t 21)),
     y 23 (.mv (.t 1)),
     y 24 (.mv (.t 2)),
     y 25 (.call (.c (.func (.func 78) #[] #[])) [(.t 23), (.t 24)] true),
     y 26 (.bin .xor .int (.t 22) (.t 25)),
     y 6 (.mv (.t 26)),
     y 7 (.mv (.c (.int .i64 0)))])
  .ret))),
  [.tmp 6, .tmp 7]⟩

/-- (*wainscot/fast.step).must -/
def i72 : IFun := ⟨15,
  (.region [
    y 4 (.mv (.t 0)),
    y 5 (.mv (.t 0)),
    y 6 (.nilCheck (.t 5)),
    y 7 (.addOff 24 (.t 6)),
    y 8 (.load false 1 (.t 7)),
    y 9 (.mv (.t 8)),
    ⟨(some 10), .mv (.t 1), (some (9, false)), [], [], false⟩,
    ⟨(some 11), .un .not (.t 10), (some (9, false)), [], [], false⟩,
    y 12 (.pick (.t 9) (.c (.bool true)) (.t 11)),
    y 13 (.nilCheck (.t 4)),
    y 14 (.addOff 24 (.t 13)),
    x (.store 1 (.t 14) (.t 12))]),
  []⟩

/-- (*wainscot/fast.step).store -/
def i73 : IFun := ⟨16,
  (.region [
    y 6 (.mv (.t 0)),
    y 7 (.mv (.t 0)),
    y 8 (.nilCheck (.t 7)),
    y 9 (.addOff 0 (.t 8)),
    y 10 (.load false 1 (.t 9)),
    y 11 (.mv (.t 1)),
    y 12 (.mv (.t 2)),
    y 13 (.call (.c (.func (.func 15) #[] #[])) [(.t 10), (.t 11), (.t 12)] false),
    y 14 (.bin .eql .int (.t 13) (.c (.int .i64 0))),
    y 15 (.call (.c (.func (.func 72) #[] #[])) [(.t 6), (.t 14)] false)]),
  []⟩

/-- wainscot/wainscotref21.within -/
def i74 : IFun := ⟨12,
  (.seq
   (.region [
     y 4 (.mv (.c (.bool false)))])
  (.seq
   (.region [
     y 5 (.mv (.t 0)),
     y 6 (.bin .geq .int (.t 5) (.c (.int .i64 0))),
     y 7 (.mv (.t 6)),
     ⟨(some 8), .mv (.t 0), (some (7, true)), [], [], false⟩,
     ⟨(some 9), .mv (.t 1), (some (7, true)), [], [], false⟩,
     ⟨(some 10), .bin .lss .int (.t 8) (.t 9), (some (7, true)), [], [], false⟩,
     y 11 (.pick (.t 7) (.t 10) (.c (.bool false))),
     y 4 (.mv (.t 11))])
  .ret)),
  [.tmp 4]⟩

/-- wainscot/wainscotref17.HeadOf -/
def i75 : IFun := ⟨32,
  (.seq
   (.region [
     y 2 (.mv (.c (.int .i64 0))),
     y 3 (.mv (.c (.int .i64 0))),
     y 4 (.mv (.c (.bool false)))])
  (.seq
   (.seq
    (.region [
      y 5 (.mv (.c (.int .i64 (-1))))])
   (.block 0
    (.loop
     (.seq
      (.seq
       (.region [
         y 9 (.mv (.t 5)),
         y 10 (.bin .lss .int (.t 9) (.c (.int .i64 32)))])
      (.cond (.t 10)
       .skip
       (.exit 0)))
     (.seq
      (.block 1
       (.seq
        (.region [
          y 6 (.mv (.c (.int .i64 (-1))))])
       (.block 2
        (.loop
         (.seq
          (.seq
           (.region [
             y 13 (.mv (.t 6)),
             y 14 (.bin .lss .int (.t 13) (.c (.int .i64 16)))])
          (.cond (.t 14)
           .skip
           (.exit 2)))
         (.seq
          (.block 3
           (.seq
            (.region [
              y 18 (.mv (.t 5)),
              y 19 (.mv (.t 6)),
              y 20 (.call (.c (.func (.func 54) #[] #[])) [(.t 18), (.t 19)] true),
              y 17 (.mv (.t 20)),
              y 21 (.extract (.t 17) 0),
              y 22 (.extract (.t 17) 1),
              y 7 (.mv (.t 21)),
              y 8 (.mv (.t 22))])
           (.seq
            (.region [
              y 23 (.mv (.t 8)),
              y 24 (.bin .eql .int (.t 23) (.c (.int .i64 0))),
              y 25 (.mv (.t 24)),
              ⟨(some 26), .mv (.t 7), (some (25, true)), [], [], false⟩,
              ⟨(some 27), .mv (.t 0), (some (25, true)), [], [], false⟩,
              ⟨(some 28), .bin .eql .int (.t 26) (.t 27), (some (25, true)), [], [], false⟩,
              y 29 (.pick (.t 25) (.t 28) (.c (.bool false)))])
           (.cond (.t 29)
            (.seq
             (.region [
               y 30 (.mv (.t 5)),
               y 31 (.mv (.t 6)),
               y 2 (.mv (.t 30)),
               y 3 (.mv (.t 31)),
               y 4 (.mv (.c (.bool true)))])
            .ret)
            .skip))))
         (.region [
           y 15 (.mv (.t 6)),
           y 16 (.bin .add .int (.t 15) (.c (.int .i64 1))),
           y 6 (.mv (.t 16))])))))))
     (.region [
       y 11 (.mv (.t 5)),
       y 12 (.bin .add .int (.t 11) (.c (.int .i64 1))),
       y 5 (.mv (.t 12))]))))))
  (.seq
   (.region [
     y 2 (.mv (.c (.int .i64 (-1)))),
     y 3 (.mv (.c (.int .i64 (-1)))),
     y 4 (.mv (.c (.bool false)))])
  .ret))),
  [.tmp 2, .tmp 3, .tmp 4]⟩

/-- wainscot/wainscotref16.turned -/
def i76 : IFun := ⟨28,
  (.seq
   (.region [
     y 4 (.mv (.c (.int .u64 0)))])
  (.seq
   (.region [
     y 8 (.mv (.t 0)),
     y 5 (.mv (.t 8))])
  (.seq
   (.seq
    (.region [
      y 6 (.mv (.c (.int .i64 0)))])
   (.block 0
    (.loop
     (.seq
      (.seq
       (.region [
         y 9 (.mv (.t 6)),
         y 10 (.mv (.t 1)),
         y 11 (.bin .mul .int (.c (.int .i64 5)) (.t 10)),
         y 12 (.bin .lss .int (.t 9) (.t 11))])
      (.cond (.t 12)
       .skip
       (.exit 0)))
     (.seq
      (.block 1
       (.region [
         y 15 (.mv (.t 5)),
         y 16 (.bin .shl .int (.t 15) (.c (.int .u64 1))),
         y 17 (.mv (.t 5)),
         y 18 (.bin .shr .int (.t 17) (.c (.int .u64 63))),
         y 19 (.bin .or .int (.t 16) (.t 18)),
         y 5 (.mv (.t 19))]))
     (.region [
       y 13 (.mv (.t 6)),
       y 14 (.bin .add .int (.t 13) (.c (.int .i64 1))),
       y 6 (.mv (.t 14))]))))))
  (.seq
   (.seq
    (.region [
      y 7 (.mv (.c (.int .i64 0)))])
   (.block 2
    (.loop
     (.seq
      (.seq
       (.region [
         y 20 (.mv (.t 7)),
         y 21 (.mv (.t 1)),
         y 22 (.bin .lss .int (.t 20) (.t 21))])
      (.cond (.t 22)
       .skip
       (.exit 2)))
     (.seq
      (.block 3
       (.region [
         y 25 (.mv (.t 5)),
         y 26 (.bin .add .int (.t 25) (.c (.int .u64 2654435769))),
         y 5 (.mv (.t 26))]))
     (.region [
       y 23 (.mv (.t 7)),
       y 24 (.bin .add .int (.t 23) (.c (.int .i64 1))),
       y 7 (.mv (.t 24))]))))))
  (.seq
   (.region [
     y 27 (.mv (.t 5)),
     y 4 (.mv (.t 27))])
  .ret))))),
  [.tmp 4]⟩

/-- wainscot/chart.links -/
def i77 : IFun := ⟨9,
  (.seq
   (.region [
     y 1 (.box 25 6 (.t 0)),
     y 2 (.mv (.c (.int .i64 0)))])
  (.seq
   (.region [
     y 3 (.load true 6 (.t 1)),
     y 4 (.call (.c (.func (.func 86) #[] #[])) [(.t 3)] true),
     y 5 (.addOff 1 (.t 1)),
     y 6 (.load false 1 (.t 5)),
     y 7 (.bin .mul .int (.c (.int .i64 4)) (.t 6)),
     y 8 (.bin .add .int (.t 4) (.t 7)),
     y 2 (.mv (.t 8))])
  .ret)),
  [.tmp 2]⟩

/-- wainscot/link.turned -/
def i78 : IFun := ⟨13,
  (.seq
   (.region [
     y 4 (.mv (.c (.int .u64 0)))])
  (.seq
   (.region [
     y 5 (.mv (.t 0)),
     y 6 (.mv (.t 1)),
     y 7 (.bin .mul .int (.c (.int .i64 5)) (.t 6)),
     y 8 (.call (.c (.func (.func 97) #[] #[])) [(.t 5), (.t 7)] true),
     y 9 (.mv (.t 1)),
     y 10 (.conv .u64 (.t 9)),
     y 11 (.bin .mul .int (.t 10) (.c (.int .u64 2654435769))),
     y 12 (.bin .add .int (.t 8) (.t 11)),
     y 4 (.mv (.t 12))])
  .ret)),
  [.tmp 4]⟩

/-- wainscot/chart.guarded -/
def i79 : IFun := ⟨23,
  (.seq
   (.region [
     y 4 (.box 25 6 (.t 0)),
     y 8 (.mv (.c (.int .i64 0)))])
  (.seq
   (.seq
    (.region [
      y 9 (.load true 6 (.t 4)),
      y 10 (.call (.c (.func (.func 18) #[] #[])) [(.t 9)] true),
      y 11 (.bin .neq .int (.t 10) (.c (.int .i64 0))),
      y 12 (.mv (.t 11)),
      ⟨(some 13), .mv (.t 1), (some (12, false)), [], [], false⟩,
      ⟨(some 14), .bin .lss .int (.t 13) (.c (.int .i64 0)), (some (12, false)), [], [], false⟩,
      y 15 (.pick (.t 12) (.c (.bool true)) (.t 14)),
      y 16 (.mv (.t 15)),
      ⟨(some 17), .mv (.t 1), (some (16, false)), [], [], false⟩,
      ⟨(some 18), .mv (.t 2), (some (16, false)), [], [], false⟩,
      ⟨(some 19), .bin .geq .int (.t 17) (.t 18), (some (16, false)), [], [], false⟩,
      y 20 (.pick (.t 16) (.c (.bool true)) (.t 19))])
   (.cond (.t 20)
    (.seq
     (.region [
       y 8 (.mv (.c (.int .i64 (-1))))])
    .ret)
    .skip))
  (.seq
   (.region [
     y 21 (.mv (.t 3)),
     y 22 (.call (.t 21) [] false),
     y 8 (.mv (.t 22))])
  .ret))),
  [.tmp 8]⟩

/-- wainscot/chart.Link$1 -/
def i80 : IFun := ⟨13,
  (.seq
   (.region [
     y 3 (.mv (.c (.int .i64 0)))])
  (.seq
   (.region [
     y 4 (.load true 6 (.t 0)),
     y 5 (.call (.c (.func (.func 77) #[] #[])) [(.t 4)] true),
     y 6 (.load false 1 (.t 1)),
     y 7 (.addOff 2 (.t 0)),
     y 8 (.load false 1 (.t 7)),
     y 9 (.bin .mul .int (.t 6) (.t 8)),
     y 10 (.bin .add .int (.t 5) (.t 9)),
     y 11 (.load false 1 (.t 2)),
     y 12 (.bin .add .int (.t 10) (.t 11)),
     y 3 (.mv (.t 12))])
  .ret)),
  [.tmp 3]⟩

/-- wainscot/count.slabMay -/
def i81 : IFun := ⟨9,
  (.seq
   (.region [
     y 2 (.mv (.c (.bool false)))])
  (.seq
   (.region [
     y 3 (.mv (.t 0)),
     y 4 (.bin .leq .int (.c (.int .i64 0)) (.t 3)),
     y 5 (.mv (.t 4)),
     ⟨(some 6), .mv (.t 0), (some (5, true)), [], [], false⟩,
     ⟨(some 7), .bin .lss .int (.t 6) (.c (.int .i64 32)), (some (5, true)), [], [], false⟩,
     y 8 (.pick (.t 5) (.t 7) (.c (.bool false))),
     y 2 (.mv (.t 8))])
  .ret)),
  [.tmp 2]⟩

/-- wainscot/count.may -/
def i82 : IFun := ⟨32,
  (.seq
   (.region [
     y 1 (.box 97 4 (.t 0)),
     y 2 (.mv (.c (.bool false)))])
  (.seq
   (.region [
     y 3 (.addOff 3 (.t 1)),
     y 4 (.load false 1 (.t 3)),
     y 5 (.mv (.t 4)),
     ⟨(some 6), .addOff 1 (.t 1), (some (5, true)), [], [], false⟩,
     ⟨(some 7), .load false 1 (.t 6), (some (5, true)), [], [], false⟩,
     ⟨(some 8), .bin .leq .int (.c (.int .i64 1)) (.t 7), (some (5, true)), [], [], false⟩,
     y 9 (.pick (.t 5) (.t 8) (.c (.bool false))),
     y 10 (.mv (.t 9)),
     ⟨(some 11), .addOff 1 (.t 1), (some (10, true)), [], [], false⟩,
     ⟨(some 12), .load false 1 (.t 11), (some (10, true)), [], [], false⟩,
     ⟨(some 13), .bin .leq .int (.t 12) (.c (.int .i64 16)), (some (10, true)), [], [], false⟩,
     y 14 (.pick (.t 10) (.t 13) (.c (.bool false))),
     y 15 (.mv (.t 14)),
     ⟨(some 16), .addOff 0 (.t 1), (some (15, true)), [], [], false⟩,
     ⟨(some 17), .load false 1 (.t 16), (some (15, true)), [], [], false⟩,
     ⟨(some 18), .bin .leq .int (.c (.int .i64 0)) (.t 17), (some (15, true)), [], [], false⟩,
     y 19 (.pick (.t 15) (.t 18) (.c (.bool false))),
     y 20 (.mv (.t 19)),
     ⟨(some 21), .addOff 0 (.t 1), (some (20, true)), [], [], false⟩,
     ⟨(some 22), .load false 1 (.t 21), (some (20, true)), [], [], false⟩,
     ⟨(some 23), .addOff 1 (.t 1), (some (20, true)), [], [], false⟩,
     ⟨(some 24), .load false 1 (.t 23), (some (20, true)), [], [], false⟩,
     ⟨(some 25), .bin .leq .int (.t 22) (.t 24), (some (20, true)), [], [], false⟩,
     y 26 (.pick (.t 20) (.t 25) (.c (.bool false))),
     y 27 (.mv (.t 26)),
     ⟨(some 28), .load true 4 (.t 1), (some (27, false)), [], [], false⟩,
     ⟨(some 29), .build [(.int .i64 0), (.int .i64 0), (.bool false), (.bool false)] [], (some (27, false)), [], [], false⟩,
     ⟨(some 30), .bin .eql (.plain [(some .i64), (some .i64), none, none]) (.t 28) (.t 29), (some (27, false)), [], [], false⟩,
     y 31 (.pick (.t 27) (.c (.bool true)) (.t 30)),
     y 2 (.mv (.t 31))])
  .ret)),
  [.tmp 2]⟩

/-- wainscot/count.flag -/
def i83 : IFun := ⟨7,
  (.seq
   (.region [
     y 4 (.mv (.c (.int .u64 0)))])
  (.seq
   (.seq
    (.region [
      y 5 (.mv (.t 0))])
   (.cond (.t 5)
    (.seq
     (.region [
       y 6 (.mv (.t 1)),
       y 4 (.mv (.t 6))])
    .ret)
    .skip))
  (.seq
   (.region [
     y 4 (.mv (.c (.int .u64 0)))])
  .ret))),
  [.tmp 4]⟩

/-- wainscot/chart.Head$1 -/
def i84 : IFun := ⟨4,
  (.seq
   (.region [
     y 1 (.mv (.c (.int .i64 0)))])
  (.seq
   (.region [
     y 2 (.load false 1 (.t 0)),
     y 3 (.bin .mul .int (.c (.int .i64 4)) (.t 2)),
     y 1 (.mv (.t 3))])
  .ret)),
  [.tmp 1]⟩

/-- wainscot/chart.First$1 -/
def i85 : IFun := ⟨8,
  (.seq
   (.region [
     y 2 (.mv (.c (.int .i64 0)))])
  (.seq
   (.region [
     y 3 (.load true 6 (.t 0)),
     y 4 (.call (.c (.func (.func 86) #[] #[])) [(.t 3)] true),
     y 5 (.load false 1 (.t 1)),
     y 6 (.bin .mul .int (.c (.int .i64 4)) (.t 5)),
     y 7 (.bin .add .int (.t 4) (.t 6)),
     y 2 (.mv (.t 7))])
  .ret)),
  [.tmp 2]⟩

/-- wainscot/chart.slabs -/
def i86 : IFun := ⟨6,
  (.seq
   (.region [
     y 1 (.box 25 6 (.t 0)),
     y 2 (.mv (.c (.int .i64 0)))])
  (.seq
   (.region [
     y 3 (.load true 6 (.t 1)),
     y 4 (.call (.c (.func (.func 98) #[] #[])) [(.t 3)] true),
     y 5 (.bin .add .int (.t 4) (.c (.int .i64 4))),
     y 2 (.mv (.t 5))])
  .ret)),
  [.tmp 2]⟩

/-- wainscot/chart.Lock -/
def i87 : IFun := ⟨6,
  (.seq
   (.region [
     y 1 (.box 25 6 (.t 0)),
     y 2 (.mv (.c (.int .i64 0)))])
  (.seq
   (.region [
     y 3 (.load true 6 (.t 1)),
     y 4 (.mkFunc 99 [] [(.t 1)]),
     y 5 (.call (.c (.func (.func 79) #[] #[])) [(.t 3), (.c (.int .i64 0)), (.c (.int .i64 1)), (.t 4)] true),
     y 2 (.mv (.t 5))])
  .ret)),
  [.tmp 2]⟩

/-- (wainscot/chart.reader).slot -/
def i88 : IFun := ⟨71,
  (.seq
   (.region [
     y 2 (.box 122 7 (.t 0)),
     y 4 (.new 105 [(.int .i64 0), (.slice none 0 0), (.int .u64 0), (.slice none 0 0)]),
     y 5 (.mv (.c (.bool false)))])
  (.seq
   (.region [
     y 10 (.addOff 1 (.t 2)),
     y 11 (.load true 6 (.t 10)),
     y 12 (.mv (.t 1)),
     y 13 (.call (.c (.func (.func 62) #[] #[])) [(.t 11), (.t 12)] true),
     y 6 (.mv (.t 13))])
  (.seq
   (.region [
     y 15 (.addOff 0 (.t 2)),
     y 16 (.load false 1 (.t 15)),
     y 17 (.mv (.t 6)),
     y 18 (.idxS 1 (.t 16) (.t 17)),
     y 19 (.load false 1 (.t 18)),
     y 20 (.call (.c (.func (.func 94) #[] #[])) [(.t 19)] true),
     y 14 (.mv (.t 20)),
     y 21 (.extract (.t 14) 0),
     y 22 (.extract (.t 14) 1),
     y 23 (.extract (.t 14) 2),
     y 7 (.mv (.t 21)),
     y 8 (.mv (.t 22)),
     y 9 (.mv (.t 23))])
  (.seq
   (.seq
    (.region [
      y 24 (.mv (.t 9)),
      y 25 (.un .not (.t 24)),
      y 26 (.mv (.t 25)),
      ⟨(some 27), .mv (.t 7), (some (26, false)), [], [], false⟩,
      ⟨(some 28), .addOff 1 (.t 2), (some (26, false)), [], [], false⟩,
      ⟨(some 29), .addOff 1 (.t 28), (some (26, false)), [], [], false⟩,
      ⟨(some 30), .load false 1 (.t 29), (some (26, false)), [], [], false⟩,
      ⟨(some 31), .bin .geq .int (.t 27) (.t 30), (some (26, false)), [], [], false⟩,
      y 32 (.pick (.t 26) (.c (.bool true)) (.t 31))])
   (.cond (.t 32)
    (.seq
     (.region [
       y 33 (.build [(.int .i64 0), (.slice none 0 0), (.int .u64 0), (.slice none 0 0)] []),
       x (.store 4 (.t 4) (.t 33)),
       y 5 (.mv (.c (.bool false)))])
    .ret)
    .skip))
  (.seq
   (.region [
     y 34 (.mv (.t 7)),
     y 35 (.addOff 0 (.t 2)),
     y 36 (.load false 1 (.t 35)),
     y 37 (.mv (.t 6)),
     y 38 (.bin .add .int (.t 37) (.c (.int .i64 1))),
     y 39 (.idxS 1 (.t 36) (.t 38)),
     y 40 (.load false 1 (.t 39)),
     y 41 (.build [(.int .i64 0), (.slice none 0 0), (.int .u64 0), (.slice none 0 0)] [(0, 1, (.t 34)), (2, 1, (.t 40))]),
     x (.store 4 (.t 4) (.t 41))])
  (.seq
   (.seq
    (.region [
      y 42 (.mv (.t 7)),
      y 43 (.bin .neq .int (.t 42) (.c (.int .i64 (-1))))])
   (.cond (.t 43)
    (.seq
     (.region [
       y 45 (.load true 7 (.t 2)),
       y 46 (.mv (.t 7)),
       y 47 (.mv (.t 8)),
       y 48 (.call (.c (.func (.func 100) #[] #[])) [(.t 45), (.t 46), (.t 47)] true),
       y 44 (.mv (.t 48)),
       y 49 (.extract (.t 44) 0),
       y 50 (.extract (.t 44) 1),
       y 51 (.addOff 1 (.t 4)),
       x (.store 1 (.t 51) (.t 49)),
       y 5 (.mv (.t 50))])
    (.seq
     (.region [
       y 52 (.mv (.t 5)),
       y 53 (.un .not (.t 52))])
    (.cond (.t 53)
     (.seq
      (.region [
        y 54 (.build [(.int .i64 0), (.slice none 0 0), (.int .u64 0), (.slice none 0 0)] []),
        x (.store 4 (.t 4) (.t 54)),
        y 5 (.mv (.c (.bool false)))])
     .ret)
     .skip)))
    .skip))
  (.seq
   (.seq
    (.region [
      y 56 (.load true 7 (.t 2)),
      y 57 (.addOff 0 (.t 2)),
      y 58 (.load false 1 (.t 57)),
      y 59 (.mv (.t 6)),
      y 60 (.bin .add .int (.t 59) (.c (.int .i64 2))),
      y 61 (.idxS 1 (.t 58) (.t 60)),
      y 62 (.load false 1 (.t 61)),
      y 63 (.call (.c (.func (.func 89) #[] #[])) [(.t 56), (.t 62), (.c (.func (.func 101) #[] #[]))] true),
      y 55 (.mv (.t 63)),
      y 64 (.extract (.t 55) 0),
      y 65 (.extract (.t 55) 1),
      y 66 (.addOff 3 (.t 4)),
      x (.store 1 (.t 66) (.t 64)),
      y 5 (.mv (.t 65))])
   (.seq
    (.region [
      y 67 (.mv (.t 5)),
      y 68 (.un .not (.t 67))])
   (.cond (.t 68)
    (.seq
     (.region [
       y 69 (.build [(.int .i64 0), (.slice none 0 0), (.int .u64 0), (.slice none 0 0)] []),
       x (.store 4 (.t 4) (.t 69)),
       y 5 (.mv (.c (.bool false)))])
    .ret)
    .skip)))
  (.seq
   (.region [
     y 70 (.load true 4 (.t 4)),
     x (.store 4 (.t 4) (.t 70)),
     y 5 (.mv (.c (.bool true)))])
  .ret)))))))),
  [.cell 4 true 4, .tmp 5]⟩

/-- (wainscot/chart.reader).chain -/
def i89 : IFun := ⟨48,
  (.seq
   (.region [
     y 3 (.box 122 7 (.t 0)),
     y 6 (.mv (.c (.slice none 0 0))),
     y 7 (.mv (.c (.bool false)))])
  (.seq
   (.region [
     y 11 (.mkMap),
     y 8 (.mv (.t 11))])
  (.block 0
   (.loop
    (.block 1
     (.seq
      (.region [
        y 13 (.mv (.t 2)),
        y 14 (.mv (.t 1)),
        y 15 (.call (.t 13) [(.t 14)] false),
        y 12 (.mv (.t 15)),
        y 16 (.extract (.t 12) 0),
        y 17 (.extract (.t 12) 1),
        y 9 (.mv (.t 16)),
        y 10 (.mv (.t 17))])
     (.seq
      (.block 2
       (.seq
        (.seq
         (.region [
           y 19 (.mv (.t 10)),
           y 20 (.un .not (.t 19)),
           y 18 (.mv (.t 20))])
        (.cond (.t 18)
         .skip
         (.seq
          (.region [
            y 21 (.mv (.t 9)),
            y 22 (.addOff 1 (.t 3)),
            y 23 (.addOff 1 (.t 22)),
            y 24 (.load false 1 (.t 23)),
            y 25 (.bin .geq .int (.t 21) (.t 24)),
            y 18 (.mv (.t 25))])
         (.cond (.t 18)
          .skip
          (.region [
            y 26 (.mv (.t 8)),
            y 27 (.mv (.t 9)),
            y 28 (.lookup (.int .i64 0) false (.t 26) (.t 27)),
            y 29 (.bin .gtr .int (.t 28) (.c (.int .i64 0))),
            y 18 (.mv (.t 29))])))))
       (.cond (.t 18)
        (.seq
         (.region [
           y 6 (.mv (.c (.slice none 0 0))),
           y 7 (.mv (.c (.bool false)))])
        .ret)
        (.seq
         (.region [
           y 31 (.mv (.t 9)),
           y 32 (.bin .eql .int (.t 31) (.c (.int .i64 (-1)))),
           y 30 (.mv (.t 32))])
        (.cond (.t 30)
         (.seq
          (.region [
            y 33 (.mv (.t 6)),
            y 6 (.mv (.t 33)),
            y 7 (.mv (.c (.bool true)))])
         .ret)
         .skip)))))
     (.seq
      (.region [
        y 34 (.mv (.t 8)),
        y 35 (.mv (.t 9)),
        x (.mapSet (.t 34) (.t 35) (.c (.int .i64 1)))])
     (.seq
      (.region [
        y 36 (.mv (.t 6)),
        y 37 (.mv (.t 9)),
        y 38 (.buildSlice 3 [(.int .i64 0)] 1 [(0, 1, (.t 37))]),
        y 39 (.append 3 1 8 (.t 36) (.t 38)),
        y 6 (.mv (.t 39))])
     (.region [
       y 40 (.addOff 0 (.t 3)),
       y 41 (.load false 1 (.t 40)),
       y 42 (.addOff 1 (.t 3)),
       y 43 (.load true 6 (.t 42)),
       y 44 (.mv (.t 9)),
       y 45 (.call (.c (.func (.func 102) #[] #[])) [(.t 43), (.t 44)] true),
       y 46 (.idxS 1 (.t 41) (.t 45)),
       y 47 (.load false 1 (.t 46)),
       y 1 (.mv (.t 47))])))))))))),
  [.tmp 6, .tmp 7]⟩

/-- wainscot/chart.Shelf -/
def i90 : IFun := ⟨6,
  (.seq
   (.region [
     y 1 (.box 25 6 (.t 0)),
     y 2 (.mv (.c (.int .i64 0)))])
  (.seq
   (.region [
     y 3 (.load true 6 (.t 1)),
     y 4 (.mkFunc 103 [] [(.t 1)]),
     y 5 (.call (.c (.func (.func 79) #[] #[])) [(.t 3), (.c (.int .i64 0)), (.c (.int .i64 1)), (.t 4)] true),
     y 2 (.mv (.t 5))])
  .ret)),
  [.tmp 2]⟩

/-- wainscot/chart.shelfOf -/
def i91 : IFun := ⟨9,
  (.seq
   (.region [
     y 2 (.mv (.c (.int .i64 0))),
     y 3 (.mv (.c (.bool false)))])
  (.seq
   (.region [
     y 4 (.mv (.t 0)),
     y 5 (.conv .i64 (.t 4)),
     y 6 (.bin .sub .int (.t 5) (.c (.int .i64 1))),
     y 7 (.mv (.t 0)),
     y 8 (.bin .leq .int (.t 7) (.c (.int .u64 32))),
     y 2 (.mv (.t 6)),
     y 3 (.mv (.t 8))])
  .ret)),
  [.tmp 2, .tmp 3]⟩

/-- (wainscot/chart.reader).slab -/
def i92 : IFun := ⟨53,
  (.seq
   (.region [
     y 2 (.box 122 7 (.t 0)),
     y 4 (.new 129 [(.int .i64 0), (.int .i64 0), (.bool false), (.bool false), (.slice none 0 0)]),
     y 5 (.mv (.c (.bool false)))])
  (.seq
   (.region [
     y 8 (.addOff 1 (.t 2)),
     y 9 (.load true 6 (.t 8)),
     y 10 (.mv (.t 1)),
     y 11 (.call (.c (.func (.func 63) #[] #[])) [(.t 9), (.t 10)] true),
     y 6 (.mv (.t 11))])
  (.seq
   (.region [
     y 12 (.addOff 0 (.t 2)),
     y 13 (.load false 1 (.t 12)),
     y 14 (.mv (.t 6)),
     y 15 (.idxS 1 (.t 13) (.t 14)),
     y 16 (.load false 1 (.t 15)),
     y 7 (.mv (.t 16))])
  (.seq
   (.seq
    (.region [
      y 18 (.addOff 0 (.t 2)),
      y 19 (.load false 1 (.t 18)),
      y 20 (.mv (.t 6)),
      y 21 (.bin .add .int (.t 20) (.c (.int .i64 1))),
      y 22 (.idxS 1 (.t 19) (.t 21)),
      y 23 (.load false 1 (.t 22)),
      y 24 (.call (.c (.func (.func 104) #[] #[])) [(.t 23)] true),
      y 17 (.mv (.t 24)),
      y 25 (.extract (.t 17) 0),
      y 26 (.extract (.t 17) 1),
      y 27 (.addOff 0 (.t 4)),
      x (.store 4 (.t 27) (.t 25)),
      y 5 (.mv (.t 26))])
   (.seq
    (.region [
      y 28 (.mv (.t 5)),
      y 29 (.un .not (.t 28)),
      y 30 (.mv (.t 29)),
      ⟨(some 31), .mv (.t 7), (some (30, false)), [], [], false⟩,
      ⟨(some 32), .addOff 1 (.t 2), (some (30, false)), [], [], false⟩,
      ⟨(some 33), .addOff 2 (.t 32), (some (30, false)), [], [], false⟩,
      ⟨(some 34), .load false 1 (.t 33), (some (30, false)), [], [], false⟩,
      ⟨(some 35), .conv .u64 (.t 34), (some (30, false)), [], [], false⟩,
      ⟨(some 36), .bin .gtr .int (.t 31) (.t 35), (some (30, false)), [], [], false⟩,
      y 37 (.pick (.t 30) (.c (.bool true)) (.t 36))])
   (.cond (.t 37)
    (.seq
     (.region [
       y 38 (.build [(.int .i64 0), (.int .i64 0), (.bool false), (.bool false), (.slice none 0 0)] []),
       x (.store 5 (.t 4) (.t 38)),
       y 5 (.mv (.c (.bool false)))])
    .ret)
    .skip)))
  (.seq
   (.seq
    (.region [
      y 40 (.load true 7 (.t 2)),
      y 41 (.mv (.t 1)),
      y 42 (.mv (.t 7)),
      y 43 (.conv .i64 (.t 42)),
      y 44 (.bin .sub .int (.t 43) (.c (.int .i64 1))),
      y 45 (.call (.c (.func (.func 100) #[] #[])) [(.t 40), (.t 41), (.t 44)] true),
      y 39 (.mv (.t 45)),
      y 46 (.extract (.t 39) 0),
      y 47 (.extract (.t 39) 1),
      y 48 (.addOff 4 (.t 4)),
      x (.store 1 (.t 48) (.t 46)),
      y 5 (.mv (.t 47))])
   (.seq
    (.region [
      y 49 (.mv (.t 5)),
      y 50 (.un .not (.t 49))])
   (.cond (.t 50)
    (.seq
     (.region [
       y 51 (.build [(.int .i64 0), (.int .i64 0), (.bool false), (.bool false), (.slice none 0 0)] []),
       x (.store 5 (.t 4) (.t 51)),
       y 5 (.mv (.c (.bool false)))])
    .ret)
    .skip)))
  (.seq
   (.region [
     y 52 (.load true 5 (.t 4)),
     x (.store 5 (.t 4) (.t 52)),
     y 5 (.mv (.c (.bool true)))])
  .ret)))))),
  [.cell 4 true 5, .tmp 5]⟩

/-- (*wainscot/mem.Mem).Load -/
def i93 : IFun := ⟨12,
  (.seq
   (.region [
     y 4 (.new 23 [(.int .u64 0)]),
     y 5 (.mv (.c (.int .i64 0)))])
  (.seq
   (.region [
     y 6 (.mv (.t 0)),
     y 7 (.mv (.t 1)),
     y 8 (.mkFunc 105 [] [(.t 4)]),
     y 9 (.call (.c (.func (.func 35) #[] #[])) [(.t 6), (.t 7), (.c (.int .i64 1)), (.t 8)] false),
     y 5 (.mv (.t 9))])
  (.seq
   (.region [
     y 10 (.load false 1 (.t 4)),
     y 11 (.mv (.t 5)),
     x (.store 1 (.t 4) (.t 10)),
     y 5 (.mv (.t 11))])
  .ret))),
  [.cell 4 false 1, .tmp 5]⟩

/-- wainscot/count.HeadOf -/
def i94 : IFun := ⟨15,
  (.seq
   (.region [
     y 2 (.mv (.c (.int .i64 0))),
     y 3 (.mv (.c (.int .i64 0))),
     y 4 (.mv (.c (.bool false)))])
  (.seq
   (.region [
     y 6 (.mv (.t 0)),
     y 7 (.call (.c (.func (.func 106) #[] #[])) [(.t 6), (.c (.int .i64 1)), (.c (.int .i64 1)), (.c (.func (.func 107) #[] #[]))] true),
     y 5 (.mv (.t 7)),
     y 8 (.extract (.t 5) 0),
     y 9 (.extract (.t 5) 1),
     y 10 (.extract (.t 5) 2),
     y 2 (.mv (.t 8)),
     y 3 (.mv (.t 9)),
     y 4 (.mv (.t 10))])
  (.seq
   (.seq
    (.region [
      y 11 (.mv (.t 4)),
      y 12 (.un .not (.t 11))])
   (.cond (.t 12)
    (.seq
     (.region [
       y 2 (.mv (.c (.int .i64 (-1)))),
       y 3 (.mv (.c (.int .i64 (-1)))),
       y 4 (.mv (.c (.bool false)))])
    .ret)
    .skip))
  (.seq
   (.region [
     y 13 (.mv (.t 2)),
     y 14 (.mv (.t 3)),
     y 2 (.mv (.t 13)),
     y 3 (.mv (.t 14)),
     y 4 (.mv (.c (.bool true)))])
  .ret)))),
  [.tmp 2, .tmp 3, .tmp 4]⟩

/-- wainscot/link.object -/
def i95 : IFun := ⟨9,
  (.seq
   (.region [
     y 2 (.mv (.c (.bool false)))])
  (.seq
   (.region [
     y 3 (.mv (.t 0)),
     y 4 (.bin .leq .int (.c (.int .i64 0)) (.t 3)),
     y 5 (.mv (.t 4)),
     ⟨(some 6), .mv (.t 0), (some (5, true)), [], [], false⟩,
     ⟨(some 7), .bin .lss .int (.t 6) (.c (.int .i64 16)), (some (5, true)), [], [], false⟩,
     y 8 (.pick (.t 5) (.t 7) (.c (.bool false))),
     y 2 (.mv (.t 8))])
  .ret)),
  [.tmp 2]⟩

/-- (*wainscot/fast.step).cas2 -/
def i96 : IFun := ⟨33,
  (.seq
   (.region [
     y 12 (.mv (.c (.bool false)))])
  (.seq
   (.region [
     y 16 (.mv (.t 0)),
     y 17 (.nilCheck (.t 16)),
     y 18 (.addOff 0 (.t 17)),
     y 19 (.load false 1 (.t 18)),
     y 20 (.mv (.t 1)),
     y 21 (.mv (.t 2)),
     y 22 (.mv (.t 3)),
     y 23 (.mv (.t 4)),
     y 24 (.mv (.t 5)),
     y 25 (.call (.c (.func (.func 108) #[] #[])) [(.t 19), (.t 20), (.t 21), (.t 22), (.t 23), (.t 24)] false),
     y 15 (.mv (.t 25)),
     y 26 (.extract (.t 15) 0),
     y 27 (.extract (.t 15) 1),
     y 13 (.mv (.t 26)),
     y 14 (.mv (.t 27))])
  (.seq
   (.region [
     y 28 (.mv (.t 0)),
     y 29 (.mv (.t 14)),
     y 30 (.bin .eql .int (.t 29) (.c (.int .i64 0))),
     y 31 (.call (.c (.func (.func 72) #[] #[])) [(.t 28), (.t 30)] false)])
  (.seq
   (.region [
     y 32 (.mv (.t 13)),
     y 12 (.mv (.t 32))])
  .ret)))),
  [.tmp 12]⟩

/-- math/bits.RotateLeft64 -/
def i97 : IFun := ⟨17,
  (.seq
   (.region [
     y 4 (.mv (.c (.int .u64 0)))])
  (.seq
   (.region [
     y 6 (.mv (.t 1)),
     y 7 (.conv .u64 (.t 6)),
     y 8 (.bin .and .int (.t 7) (.c (.int .u64 63))),
     y 5 (.mv (.t 8))])
  (.seq
   (.region [
     y 9 (.mv (.t 0)),
     y 10 (.mv (.t 5)),
     y 11 (.bin .shl .int (.t 9) (.t 10)),
     y 12 (.mv (.t 0)),
     y 13 (.mv (.t 5)),
     y 14 (.bin .sub .int (.c (.int .u64 64)) (.t 13)),
     y 15 (.bin .shr .int (.t 12) (.t 14)),
     y 16 (.bin .or .int (.t 11) (.t 15)),
     y 4 (.mv (.t 16))])
  .ret))),
  [.tmp 4]⟩

/-- wainscot/chart.base -/
def i98 : IFun := ⟨6,
  (.seq
   (.region [
     y 1 (.box 25 6 (.t 0)),
     y 2 (.mv (.c (.int .i64 0)))])
  (.seq
   (.region [
     y 3 (.addOff 0 (.t 1)),
     y 4 (.load false 1 (.t 3)),
     y 5 (.bin .mul .int (.c (.int .i64 4)) (.t 4)),
     y 2 (.mv (.t 5))])
  .ret)),
  [.tmp 2]⟩

/-- wainscot/chart.Lock$1 -/
def i99 : IFun := ⟨4,
  (.seq
   (.region [
     y 1 (.mv (.c (.int .i64 0)))])
  (.seq
   (.region [
     y 2 (.load true 6 (.t 0)),
     y 3 (.call (.c (.func (.func 98) #[] #[])) [(.t 2)] true),
     y 1 (.mv (.t 3))])
  .ret)),
  [.tmp 1]⟩

/-- (wainscot/chart.reader).list -/
def i100 : IFun := ⟨41,
  (.seq
   (.region [
     y 3 (.box 122 7 (.t 0)),
     y 6 (.mv (.c (.slice none 0 0))),
     y 7 (.mv (.c (.bool false)))])
  (.seq
   (.seq
    (.region [
      y 11 (.mv (.t 2)),
      y 12 (.addOff 1 (.t 3)),
      y 13 (.addOff 2 (.t 12)),
      y 14 (.load false 1 (.t 13)),
      y 15 (.bin .geq .int (.t 11) (.t 14))])
   (.cond (.t 15)
    (.seq
     (.region [
       y 6 (.mv (.c (.slice none 0 0))),
       y 7 (.mv (.c (.bool false)))])
    .ret)
    .skip))
  (.seq
   (.region [
     y 16 (.addOff 1 (.t 3)),
     y 17 (.load true 6 (.t 16)),
     y 18 (.mv (.t 1)),
     y 19 (.call (.c (.func (.func 59) #[] #[])) [(.t 17), (.t 18), (.c (.int .i64 0))] true),
     y 8 (.mv (.t 19))])
  (.seq
   (.region [
     y 21 (.addOff 0 (.t 3)),
     y 22 (.load false 1 (.t 21)),
     y 23 (.mv (.t 8)),
     y 24 (.mv (.t 8)),
     y 25 (.addOff 1 (.t 3)),
     y 26 (.addOff 2 (.t 25)),
     y 27 (.load false 1 (.t 26)),
     y 28 (.bin .add .int (.t 24) (.t 27)),
     y 29 (.slice 23 (.t 22) (some (.t 23)) (some (.t 28)) none),
     y 30 (.addOff 1 (.t 3)),
     y 31 (.load true 6 (.t 30)),
     y 32 (.mv (.t 1)),
     y 33 (.call (.c (.func (.func 58) #[] #[])) [(.t 31), (.t 32)] true),
     y 34 (.mv (.t 2)),
     y 35 (.call (.c (.func (.func 109) #[] #[])) [(.t 29), (.t 33), (.t 34)] true),
     y 20 (.mv (.t 35)),
     y 36 (.extract (.t 20) 0),
     y 37 (.extract (.t 20) 1),
     y 9 (.mv (.t 36)),
     y 10 (.mv (.t 37))])
  (.seq
   (.region [
     y 38 (.mv (.t 9)),
     y 39 (.mv (.t 10)),
     y 40 (.bin .eql .int (.t 39) (.c (.int .i64 0))),
     y 6 (.mv (.t 38)),
     y 7 (.mv (.t 40))])
  .ret))))),
  [.tmp 6, .tmp 7]⟩

/-- wainscot/chart.partOf -/
def i101 : IFun := ⟨15,
  (.seq
   (.region [
     y 2 (.mv (.c (.int .i64 0))),
     y 3 (.mv (.c (.bool false)))])
  (.seq
   (.region [
     y 8 (.mv (.t 0)),
     y 9 (.call (.c (.func (.func 110) #[] #[])) [(.t 8)] true),
     y 7 (.mv (.t 9)),
     y 10 (.extract (.t 7) 0),
     y 11 (.extract (.t 7) 1),
     y 12 (.extract (.t 7) 2),
     y 4 (.mv (.t 10)),
     y 5 (.mv (.t 11)),
     y 6 (.mv (.t 12))])
  (.seq
   (.region [
     y 13 (.mv (.t 4)),
     y 14 (.mv (.t 6)),
     y 2 (.mv (.t 13)),
     y 3 (.mv (.t 14))])
  .ret))),
  [.tmp 2, .tmp 3]⟩

/-- wainscot/chart.Next -/
def i102 : IFun := ⟨11,
  (.seq
   (.region [
     y 2 (.box 25 6 (.t 0)),
     y 3 (.box 3 1 (.t 1)),
     y 4 (.mv (.c (.int .i64 0)))])
  (.seq
   (.region [
     y 5 (.load true 6 (.t 2)),
     y 6 (.load false 1 (.t 3)),
     y 7 (.addOff 1 (.t 2)),
     y 8 (.load false 1 (.t 7)),
     y 9 (.mkFunc 111 [] [(.t 2), (.t 3)]),
     y 10 (.call (.c (.func (.func 79) #[] #[])) [(.t 5), (.t 6), (.t 8), (.t 9)] true),
     y 4 (.mv (.t 10))])
  .ret)),
  [.tmp 4]⟩

/-- wainscot/chart.Shelf$1 -/
def i103 : IFun := ⟨5,
  (.seq
   (.region [
     y 1 (.mv (.c (.int .i64 0)))])
  (.seq
   (.region [
     y 2 (.load true 6 (.t 0)),
     y 3 (.call (.c (.func (.func 98) #[] #[])) [(.t 2)] true),
     y 4 (.bin .add .int (.t 3) (.c (.int .i64 1))),
     y 1 (.mv (.t 4))])
  .ret)),
  [.tmp 1]⟩

/-- wainscot/count.Counts -/
def i104 : IFun := ⟨28,
  (.seq
   (.region [
     y 2 (.new 97 [(.int .i64 0), (.int .i64 0), (.bool false), (.bool false)]),
     y 3 (.mv (.c (.bool false)))])
  (.seq
   (.region [
     y 5 (.mv (.t 0)),
     y 6 (.bin .and .int (.t 5) (.c (.int .u64 255))),
     y 7 (.conv .i64 (.t 6)),
     y 8 (.mv (.t 0)),
     y 9 (.bin .shr .int (.t 8) (.c (.int .u64 8))),
     y 10 (.bin .and .int (.t 9) (.c (.int .u64 255))),
     y 11 (.conv .i64 (.t 10)),
     y 12 (.mv (.t 0)),
     y 13 (.bin .and .int (.t 12) (.c (.int .u64 65536))),
     y 14 (.bin .neq .int (.t 13) (.c (.int .u64 0))),
     y 15 (.mv (.t 0)),
     y 16 (.bin .and .int (.t 15) (.c (.int .u64 131072))),
     y 17 (.bin .neq .int (.t 16) (.c (.int .u64 0))),
     y 18 (.build [(.int .i64 0), (.int .i64 0), (.bool false), (.bool false)] [(0, 1, (.t 7)), (1, 1, (.t 11)), (2, 1, (.t 14)), (3, 1, (.t 17))]),
     y 4 (.new 97 [(.int .i64 0), (.int .i64 0), (.bool false), (.bool false)]),
     x (.store 4 (.t 4) (.t 18))])
  (.seq
   (.seq
    (.region [
      y 19 (.mv (.t 0)),
      y 20 (.bin .geq .int (.t 19) (.c (.int .u64 262144))),
      y 21 (.mv (.t 20)),
      ⟨(some 22), .load true 4 (.t 4), (some (21, false)), [], [], false⟩,
      ⟨(some 23), .call (.c (.func (.func 82) #[] #[])) [(.t 22)] true, (some (21, false)), [], [], false⟩,
      ⟨(some 24), .un .not (.t 23), (some (21, false)), [], [], false⟩,
      y 25 (.pick (.t 21) (.c (.bool true)) (.t 24))])
   (.cond (.t 25)
    (.seq
     (.region [
       y 26 (.build [(.int .i64 0), (.int .i64 0), (.bool false), (.bool false)] []),
       x (.store 4 (.t 2) (.t 26)),
       y 3 (.mv (.c (.bool false)))])
    .ret)
    .skip))
  (.seq
   (.region [
     y 27 (.load true 4 (.t 4)),
     x (.store 4 (.t 2) (.t 27)),
     y 3 (.mv (.c (.bool true)))])
  .ret)))),
  [.cell 2 true 4, .tmp 3]⟩

/-- (*wainscot/mem.Mem).Load$1 -/
def i105 : IFun := ⟨6,
  (.region [
    y 3 (.mv (.t 0)),
    y 4 (.idxS 1 (.t 3) (.c (.int .i64 0))),
    y 5 (.load false 1 (.t 4)),
    x (.store 1 (.t 1) (.t 5))]),
  []⟩

/-- wainscot/count.told[int] -/
def i106 : IFun := ⟨34,
  (.seq
   (.region [
     y 8 (.mv (.c (.int .i64 0))),
     y 9 (.mv (.c (.int .i64 0))),
     y 10 (.mv (.c (.bool false)))])
  (.seq
   (.region [
     y 13 (.mv (.t 0)),
     y 14 (.bin .shr .int (.t 13) (.c (.int .u64 6))),
     y 15 (.conv .i64 (.t 14)),
     y 16 (.mv (.t 1)),
     y 17 (.bin .sub .int (.t 15) (.t 16)),
     y 18 (.mv (.t 0)),
     y 19 (.bin .and .int (.t 18) (.c (.int .u64 63))),
     y 20 (.conv .i64 (.t 19)),
     y 21 (.mv (.t 2)),
     y 22 (.bin .sub .int (.t 20) (.t 21)),
     y 11 (.mv (.t 17)),
     y 12 (.mv (.t 22))])
  (.seq
   (.seq
    (.region [
      y 23 (.mv (.t 0)),
      y 24 (.bin .gtr .int (.t 23) (.c (.int .u64 4095))),
      y 25 (.mv (.t 24)),
      ⟨(some 26), .mv (.t 3), (some (25, false)), [], [], false⟩,
      ⟨(some 27), .mv (.t 11), (some (25, false)), [], [], false⟩,
      ⟨(some 28), .mv (.t 12), (some (25, false)), [], [], false⟩,
      ⟨(some 29), .call (.t 26) [(.t 27), (.t 28)] false, (some (25, false)), [], [], false⟩,
      ⟨(some 30), .un .not (.t 29), (some (25, false)), [], [], false⟩,
      y 31 (.pick (.t 25) (.c (.bool true)) (.t 30))])
   (.cond (.t 31)
    (.seq
     (.region [
       y 8 (.mv (.c (.int .i64 0))),
       y 9 (.mv (.c (.int .i64 0))),
       y 10 (.mv (.c (.bool false)))])
    .ret)
    .skip))
  (.seq
   (.region [
     y 32 (.mv (.t 11)),
     y 33 (.mv (.t 12)),
     y 8 (.mv (.t 32)),
     y 9 (.mv (.t 33)),
     y 10 (.mv (.c (.bool true)))])
  .ret)))),
  [.tmp 8, .tmp 9, .tmp 10]⟩

/-- wainscot/count.HeadOf$1 -/
def i107 : IFun := ⟨15,
  (.seq
   (.region [
     y 4 (.mv (.c (.bool false)))])
  (.seq
   (.region [
     y 8 (.mv (.t 0)),
     y 9 (.mv (.t 1)),
     y 10 (.call (.c (.func (.func 60) #[] #[])) [(.t 8), (.t 9)] true),
     y 7 (.mv (.t 10)),
     y 11 (.extract (.t 7) 0),
     y 12 (.extract (.t 7) 1),
     y 5 (.mv (.t 11)),
     y 6 (.mv (.t 12))])
  (.seq
   (.region [
     y 13 (.mv (.t 6)),
     y 14 (.bin .eql .int (.t 13) (.c (.int .i64 0))),
     y 4 (.mv (.t 14))])
  .ret))),
  [.tmp 4]⟩

/-- (*wainscot/mem.Mem).Cas2 -/
def i108 : IFun := ⟨20,
  (.seq
   (.region [
     y 8 (.box 23 1 (.t 2)),
     y 9 (.box 23 1 (.t 3)),
     y 10 (.box 23 1 (.t 4)),
     y 11 (.box 23 1 (.t 5)),
     y 12 (.new 4 [(.bool false)]),
     y 13 (.mv (.c (.int .i64 0)))])
  (.seq
   (.region [
     y 14 (.mv (.t 0)),
     y 15 (.mv (.t 1)),
     y 16 (.mkFunc 112 [] [(.t 8), (.t 9), (.t 12), (.t 10), (.t 11)]),
     y 17 (.call (.c (.func (.func 35) #[] #[])) [(.t 14), (.t 15), (.c (.int .i64 2)), (.t 16)] false),
     y 13 (.mv (.t 17))])
  (.seq
   (.region [
     y 18 (.load false 1 (.t 12)),
     y 19 (.mv (.t 13)),
     x (.store 1 (.t 12) (.t 18)),
     y 13 (.mv (.t 19))])
  .ret))),
  [.cell 12 false 1, .tmp 13]⟩

/-- wainscot/link.List -/
def i109 : IFun := ⟨58,
  (.seq
   (.region [
     y 6 (.mv (.c (.slice none 0 0))),
     y 7 (.mv (.c (.int .i64 0)))])
  (.seq
   (.seq
    (.region [
      y 12 (.mv (.t 0)),
      y 13 (.lenS (.t 12)),
      y 14 (.bin .gtr .int (.t 13) (.c (.int .i64 16))),
      y 15 (.mv (.t 14)),
      ⟨(some 16), .mv (.t 2), (some (15, false)), [], [], false⟩,
      ⟨(some 17), .bin .lss .int (.t 16) (.c (.int .i64 (-1))), (some (15, false)), [], [], false⟩,
      y 18 (.pick (.t 15) (.c (.bool true)) (.t 17)),
      y 19 (.mv (.t 18)),
      ⟨(some 20), .mv (.t 2), (some (19, false)), [], [], false⟩,
      ⟨(some 21), .mv (.t 0), (some (19, false)), [], [], false⟩,
      ⟨(some 22), .lenS (.t 21), (some (19, false)), [], [], false⟩,
      ⟨(some 23), .bin .geq .int (.t 20) (.t 22), (some (19, false)), [], [], false⟩,
      y 24 (.pick (.t 19) (.c (.bool true)) (.t 23))])
   (.cond (.t 24)
    (.seq
     (.region [
       y 6 (.mv (.c (.slice none 0 0))),
       y 7 (.mv (.c (.int .i64 2)))])
    .ret)
    .skip))
  (.seq
   (.region [
     y 8 (.new 142 [(.bool false), (.bool false), (.bool false), (.bool false), (.bool false), (.bool false), (.bool false), (.bool false), (.bool false), (.bool false), (.bool false), (.bool false), (.bool false), (.bool false), (.bool false), (.bool false)])])
  (.seq
   (.region [
     y 9 (.mv (.c (.slice none 0 0)))])
  (.seq
   .skip
  (.seq
   (.block 0
    (.loop
     (.block 1
      (.seq
       (.block 2
        (.seq
         (.region [
           y 26 (.mv (.t 2)),
           y 27 (.bin .eql .int (.t 26) (.c (.int .i64 (-1)))),
           y 25 (.mv (.t 27))])
        (.cond (.t 25)
         (.exit 0)
         (.seq
          (.region [
            y 29 (.mv (.t 2)),
            y 30 (.idxA 16 1 (.t 8) (.t 29)),
            y 31 (.load false 1 (.t 30)),
            y 28 (.mv (.t 31))])
         (.cond (.t 28)
          (.seq
           (.region [
             y 6 (.mv (.c (.slice none 0 0))),
             y 7 (.mv (.c (.int .i64 150)))])
          .ret)
          .skip)))))
      (.seq
       (.region [
         y 32 (.mv (.t 2)),
         y 33 (.idxA 16 1 (.t 8) (.t 32)),
         x (.store 1 (.t 33) (.c (.bool true)))])
      (.seq
       (.region [
         y 34 (.mv (.t 9)),
         y 35 (.mv (.t 2)),
         y 36 (.buildSlice 3 [(.int .i64 0)] 1 [(0, 1, (.t 35))]),
         y 37 (.append 3 1 8 (.t 34) (.t 36)),
         y 9 (.mv (.t 37))])
      (.seq
       (.region [
         y 39 (.mv (.t 0)),
         y 40 (.mv (.t 2)),
         y 41 (.idxS 1 (.t 39) (.t 40)),
         y 42 (.load false 1 (.t 41)),
         y 43 (.mv (.t 1)),
         y 44 (.mv (.t 2)),
         y 45 (.call (.c (.func (.func 69) #[] #[])) [(.t 42), (.t 43), (.t 44)] true),
         y 38 (.mv (.t 45)),
         y 46 (.extract (.t 38) 0),
         y 47 (.extract (.t 38) 1),
         y 10 (.mv (.t 46)),
         y 11 (.mv (.t 47))])
      (.seq
       (.seq
        (.region [
          y 48 (.mv (.t 11)),
          y 49 (.un .not (.t 48)),
          y 50 (.mv (.t 49)),
          ⟨(some 51), .mv (.t 10), (some (50, false)), [], [], false⟩,
          ⟨(some 52), .mv (.t 0), (some (50, false)), [], [], false⟩,
          ⟨(some 53), .lenS (.t 52), (some (50, false)), [], [], false⟩,
          ⟨(some 54), .bin .geq .int (.t 51) (.t 53), (some (50, false)), [], [], false⟩,
          y 55 (.pick (.t 50) (.c (.bool true)) (.t 54))])
       (.cond (.t 55)
        (.seq
         (.region [
           y 6 (.mv (.c (.slice none 0 0))),
           y 7 (.mv (.c (.int .i64 150)))])
        .ret)
        .skip))
      (.region [
        y 56 (.mv (.t 10)),
        y 2 (.mv (.t 56))])))))))))
  (.seq
   (.region [
     y 57 (.mv (.t 9)),
     y 6 (.mv (.t 57)),
     y 7 (.mv (.c (.int .i64 0)))])
  .ret))))))),
  [.tmp 6, .tmp 7]⟩

/-- wainscot/count.PartOf -/
def i110 : IFun := ⟨15,
  (.seq
   (.region [
     y 2 (.mv (.c (.int .i64 0))),
     y 3 (.mv (.c (.int .i64 0))),
     y 4 (.mv (.c (.bool false)))])
  (.seq
   (.region [
     y 6 (.mv (.t 0)),
     y 7 (.call (.c (.func (.func 106) #[] #[])) [(.t 6), (.c (.int .i64 0)), (.c (.int .i64 1)), (.c (.func (.func 113) #[] #[]))] true),
     y 5 (.mv (.t 7)),
     y 8 (.extract (.t 5) 0),
     y 9 (.extract (.t 5) 1),
     y 10 (.extract (.t 5) 2),
     y 3 (.mv (.t 8)),
     y 2 (.mv (.t 9)),
     y 4 (.mv (.t 10))])
  (.seq
   (.seq
    (.region [
      y 11 (.mv (.t 4)),
      y 12 (.un .not (.t 11))])
   (.cond (.t 12)
    (.seq
     (.region [
       y 2 (.mv (.c (.int .i64 (-1)))),
       y 3 (.mv (.c (.int .i64 0))),
       y 4 (.mv (.c (.bool false)))])
    .ret)
    .skip))
  (.seq
   (.region [
     y 13 (.mv (.t 2)),
     y 14 (.mv (.t 3)),
     y 2 (.mv (.t 13)),
     y 3 (.mv (.t 14)),
     y 4 (.mv (.c (.bool true)))])
  .ret)))),
  [.tmp 2, .tmp 3, .tmp 4]⟩

/-- wainscot/chart.Next$1 -/
def i111 : IFun := ⟨9,
  (.seq
   (.region [
     y 2 (.mv (.c (.int .i64 0)))])
  (.seq
   (.region [
     y 3 (.load true 6 (.t 0)),
     y 4 (.call (.c (.func (.func 86) #[] #[])) [(.t 3)] true),
     y 5 (.load false 1 (.t 1)),
     y 6 (.bin .mul .int (.c (.int .i64 4)) (.t 5)),
     y 7 (.bin .add .int (.t 4) (.t 6)),
     y 8 (.bin .add .int (.t 7) (.c (.int .i64 2))),
     y 2 (.mv (.t 8))])
  .ret)),
  [.tmp 2]⟩

/-- (*wainscot/mem.Mem).Cas2$1 -/
def i112 : IFun := ⟨25,
  (.seq
   (.region [
     y 7 (.mv (.t 0)),
     y 8 (.idxS 1 (.t 7) (.c (.int .i64 0))),
     y 9 (.load false 1 (.t 8)),
     y 10 (.mv (.t 0)),
     y 11 (.idxS 1 (.t 10) (.c (.int .i64 1))),
     y 12 (.load false 1 (.t 11)),
     y 13 (.build [(.int .u64 0), (.int .u64 0)] [(0, 1, (.t 9)), (1, 1, (.t 12))]),
     y 14 (.load false 1 (.t 1)),
     y 15 (.load false 1 (.t 2)),
     y 16 (.build [(.int .u64 0), (.int .u64 0)] [(0, 1, (.t 14)), (1, 1, (.t 15))]),
     y 17 (.bin .eql (.plain [(some .u64), (some .u64)]) (.t 13) (.t 16)),
     x (.store 1 (.t 3) (.t 17))])
  (.seq
   (.region [
     y 18 (.load false 1 (.t 3))])
  (.cond (.t 18)
   (.region [
     y 19 (.mv (.t 0)),
     y 20 (.mv (.t 0)),
     y 21 (.load false 1 (.t 4)),
     y 22 (.load false 1 (.t 5)),
     y 23 (.idxS 1 (.t 19) (.c (.int .i64 0))),
     ⟨none, .store 1 (.t 23) (.t 21), none, [], [3], false⟩,
     y 24 (.idxS 1 (.t 20) (.c (.int .i64 1))),
     x (.store 1 (.t 24) (.t 22))])
   .skip))),
  []⟩

/-- wainscot/count.PartOf$1 -/
def i113 : IFun := ⟨15,
  (.seq
   (.region [
     y 4 (.mv (.c (.bool false)))])
  (.seq
   (.region [
     y 8 (.mv (.t 1)),
     y 9 (.mv (.t 0)),
     y 10 (.call (.c (.func (.func 114) #[] #[])) [(.t 8), (.t 9)] true),
     y 7 (.mv (.t 10)),
     y 11 (.extract (.t 7) 0),
     y 12 (.extract (.t 7) 1),
     y 5 (.mv (.t 11)),
     y 6 (.mv (.t 12))])
  (.seq
   (.region [
     y 13 (.mv (.t 6)),
     y 14 (.bin .eql .int (.t 13) (.c (.int .i64 0))),
     y 4 (.mv (.t 14))])
  .ret))),
  [.tmp 4]⟩

/-- wainscot/count.Part -/
def i114 : IFun := ⟨32,
  (.seq
   (.region [
     y 4 (.mv (.c (.int .u64 0))),
     y 5 (.mv (.c (.int .i64 0)))])
  (.seq
   (.block 0
    (.seq
     (.region [
       y 7 (.mv (.t 0)),
       y 8 (.bin .eql .int (.t 7) (.c (.int .i64 (-1)))),
       y 9 (.mv (.t 8)),
       ⟨(some 10), .mv (.t 1), (some (9, true)), [], [], false⟩,
       ⟨(some 11), .bin .eql .int (.t 10) (.c (.int .i64 0)), (some (9, true)), [], [], false⟩,
       y 12 (.pick (.t 9) (.t 11) (.c (.bool false))),
       y 6 (.mv (.t 12))])
    (.cond (.t 6)
     (.seq
      (.region [
        y 4 (.mv (.c (.int .u64 0))),
        y 5 (.mv (.c (.int .i64 0)))])
     .ret)
     (.seq
      (.region [
        y 14 (.mv (.t 0)),
        y 15 (.call (.c (.func (.func 81) #[] #[])) [(.t 14)] true),
        y 16 (.un .not (.t 15)),
        y 17 (.mv (.t 16)),
        ⟨(some 18), .mv (.t 1), (some (17, false)), [], [], false⟩,
        ⟨(some 19), .bin .lss .int (.t 18) (.c (.int .i64 1)), (some (17, false)), [], [], false⟩,
        y 20 (.pick (.t 17) (.c (.bool true)) (.t 19)),
        y 21 (.mv (.t 20)),
        ⟨(some 22), .mv (.t 1), (some (21, false)), [], [], false⟩,
        ⟨(some 23), .bin .gtr .int (.t 22) (.c (.int .i64 63)), (some (21, false)), [], [], false⟩,
        y 24 (.pick (.t 21) (.c (.bool true)) (.t 23)),
        y 13 (.mv (.t 24))])
     (.cond (.t 13)
      (.seq
       (.region [
         y 4 (.mv (.c (.int .u64 0))),
         y 5 (.mv (.c (.int .i64 2)))])
      .ret)
      .skip)))))
  (.seq
   (.region [
     y 25 (.mv (.t 1)),
     y 26 (.conv .u64 (.t 25)),
     y 27 (.bin .shl .int (.t 26) (.c (.int .u64 6))),
     y 28 (.mv (.t 0)),
     y 29 (.bin .add .int (.t 28) (.c (.int .i64 1))),
     y 30 (.conv .u64 (.t 29)),
     y 31 (.bin .or .int (.t 27) (.t 30)),
     y 4 (.mv (.t 31)),
     y 5 (.mv (.c (.int .i64 0)))])
  .ret))),
  [.tmp 4, .tmp 5]⟩

theorem c3 : cFun Tryz.prog 0 quiet Tryz.f3 = some i3 := by kernel_rfl
theorem g3 : Tryz.prog.funcs[3]? = some Tryz.f3 := by kernel_rfl
theorem c4 : cFun Tryz.prog 0 quiet Tryz.f4 = some i4 := by kernel_rfl
theorem g4 : Tryz.prog.funcs[4]? = some Tryz.f4 := by kernel_rfl
theorem c5 : cFun Tryz.prog 0 quiet Tryz.f5 = some i5 := by kernel_rfl
theorem g5 : Tryz.prog.funcs[5]? = some Tryz.f5 := by kernel_rfl
theorem c6 : cFun Tryz.prog 0 quiet Tryz.f6 = some i6 := by kernel_rfl
theorem g6 : Tryz.prog.funcs[6]? = some Tryz.f6 := by kernel_rfl
theorem c7 : cFun Tryz.prog 0 quiet Tryz.f7 = some i7 := by kernel_rfl
theorem g7 : Tryz.prog.funcs[7]? = some Tryz.f7 := by kernel_rfl
theorem c8 : cFun Tryz.prog 0 quiet Tryz.f8 = some i8 := by kernel_rfl
theorem g8 : Tryz.prog.funcs[8]? = some Tryz.f8 := by kernel_rfl
theorem c9 : cFun Tryz.prog 0 quiet Tryz.f9 = some i9 := by kernel_rfl
theorem g9 : Tryz.prog.funcs[9]? = some Tryz.f9 := by kernel_rfl
theorem c10 : cFun Tryz.prog 0 quiet Tryz.f10 = some i10 := by kernel_rfl
theorem g10 : Tryz.prog.funcs[10]? = some Tryz.f10 := by kernel_rfl
theorem c11 : cFun Tryz.prog 0 quiet Tryz.f11 = some i11 := by kernel_rfl
theorem g11 : Tryz.prog.funcs[11]? = some Tryz.f11 := by kernel_rfl
theorem c12 : cFun Tryz.prog 0 quiet Tryz.f12 = some i12 := by kernel_rfl
theorem g12 : Tryz.prog.funcs[12]? = some Tryz.f12 := by kernel_rfl
theorem c13 : cFun Tryz.prog 0 quiet Tryz.f13 = some i13 := by kernel_rfl
theorem g13 : Tryz.prog.funcs[13]? = some Tryz.f13 := by kernel_rfl
theorem c14 : cFun Tryz.prog 0 quiet Tryz.f14 = some i14 := by kernel_rfl
theorem g14 : Tryz.prog.funcs[14]? = some Tryz.f14 := by kernel_rfl
theorem c15 : cFun Tryz.prog 0 quiet Tryz.f15 = some i15 := by kernel_rfl
theorem g15 : Tryz.prog.funcs[15]? = some Tryz.f15 := by kernel_rfl
theorem c16 : cFun Tryz.prog 0 quiet Tryz.f16 = some i16 := by kernel_rfl
theorem g16 : Tryz.prog.funcs[16]? = some Tryz.f16 := by kernel_rfl
theorem c17 : cFun Tryz.prog 0 quiet Tryz.f17 = some i17 := by kernel_rfl
theorem g17 : Tryz.prog.funcs[17]? = some Tryz.f17 := by kernel_rfl
theorem c18 : cFun Tryz.prog 0 quiet Tryz.f18 = some i18 := by kernel_rfl
theorem g18 : Tryz.prog.funcs[18]? = some Tryz.f18 := by kernel_rfl
theorem c19 : cFun Tryz.prog 0 quiet Tryz.f19 = some i19 := by kernel_rfl
theorem g19 : Tryz.prog.funcs[19]? = some Tryz.f19 := by kernel_rfl
theorem c20 : cFun Tryz.prog 0 quiet Tryz.f20 = some i20 := by kernel_rfl
theorem g20 : Tryz.prog.funcs[20]? = some Tryz.f20 := by kernel_rfl
theorem c21 : cFun Tryz.prog 0 quiet Tryz.f21 = some i21 := by kernel_rfl
theorem g21 : Tryz.prog.funcs[21]? = some Tryz.f21 := by kernel_rfl
theorem c22 : cFun Tryz.prog 0 quiet Tryz.f22 = some i22 := by kernel_rfl
theorem g22 : Tryz.prog.funcs[22]? = some Tryz.f22 := by kernel_rfl
theorem c23 : cFun Tryz.prog 0 quiet Tryz.f23 = some i23 := by kernel_rfl
theorem g23 : Tryz.prog.funcs[23]? = some Tryz.f23 := by kernel_rfl
theorem c24 : cFun Tryz.prog 0 quiet Tryz.f24 = some i24 := by kernel_rfl
theorem g24 : Tryz.prog.funcs[24]? = some Tryz.f24 := by kernel_rfl
theorem c25 : cFun Tryz.prog 0 quiet Tryz.f25 = some i25 := by kernel_rfl
theorem g25 : Tryz.prog.funcs[25]? = some Tryz.f25 := by kernel_rfl
theorem c26 : cFun Tryz.prog 0 quiet Tryz.f26 = some i26 := by kernel_rfl
theorem g26 : Tryz.prog.funcs[26]? = some Tryz.f26 := by kernel_rfl
theorem c27 : cFun Tryz.prog 0 quiet Tryz.f27 = some i27 := by kernel_rfl
theorem g27 : Tryz.prog.funcs[27]? = some Tryz.f27 := by kernel_rfl
theorem c28 : cFun Tryz.prog 0 quiet Tryz.f28 = some i28 := by kernel_rfl
theorem g28 : Tryz.prog.funcs[28]? = some Tryz.f28 := by kernel_rfl
theorem c29 : cFun Tryz.prog 0 quiet Tryz.f29 = some i29 := by kernel_rfl
theorem g29 : Tryz.prog.funcs[29]? = some Tryz.f29 := by kernel_rfl
theorem c30 : cFun Tryz.prog 0 quiet Tryz.f30 = some i30 := by kernel_rfl
theorem g30 : Tryz.prog.funcs[30]? = some Tryz.f30 := by kernel_rfl
theorem c31 : cFun Tryz.prog 0 quiet Tryz.f31 = some i31 := by kernel_rfl
theorem g31 : Tryz.prog.funcs[31]? = some Tryz.f31 := by kernel_rfl
theorem c32 : cFun Tryz.prog 0 quiet Tryz.f32 = some i32 := by kernel_rfl
theorem g32 : Tryz.prog.funcs[32]? = some Tryz.f32 := by kernel_rfl
theorem c33 : cFun Tryz.prog 0 quiet Tryz.f33 = some i33 := by kernel_rfl
theorem g33 : Tryz.prog.funcs[33]? = some Tryz.f33 := by kernel_rfl
theorem c34 : cFun Tryz.prog 0 quiet Tryz.f34 = some i34 := by kernel_rfl
theorem g34 : Tryz.prog.funcs[34]? = some Tryz.f34 := by kernel_rfl
theorem c35 : cFun Tryz.prog 0 quiet Tryz.f35 = some i35 := by kernel_rfl
theorem g35 : Tryz.prog.funcs[35]? = some Tryz.f35 := by kernel_rfl
theorem c36 : cFun Tryz.prog 0 quiet Tryz.f36 = some i36 := by kernel_rfl
theorem g36 : Tryz.prog.funcs[36]? = some Tryz.f36 := by kernel_rfl
theorem c37 : cFun Tryz.prog 0 quiet Tryz.f37 = some i37 := by kernel_rfl
theorem g37 : Tryz.prog.funcs[37]? = some Tryz.f37 := by kernel_rfl
theorem c38 : cFun Tryz.prog 0 quiet Tryz.f38 = some i38 := by kernel_rfl
theorem g38 : Tryz.prog.funcs[38]? = some Tryz.f38 := by kernel_rfl
theorem c39 : cFun Tryz.prog 0 quiet Tryz.f39 = some i39 := by kernel_rfl
theorem g39 : Tryz.prog.funcs[39]? = some Tryz.f39 := by kernel_rfl
theorem c40 : cFun Tryz.prog 0 quiet Tryz.f40 = some i40 := by kernel_rfl
theorem g40 : Tryz.prog.funcs[40]? = some Tryz.f40 := by kernel_rfl
theorem c41 : cFun Tryz.prog 0 quiet Tryz.f41 = some i41 := by kernel_rfl
theorem g41 : Tryz.prog.funcs[41]? = some Tryz.f41 := by kernel_rfl
theorem c42 : cFun Tryz.prog 0 quiet Tryz.f42 = some i42 := by kernel_rfl
theorem g42 : Tryz.prog.funcs[42]? = some Tryz.f42 := by kernel_rfl
theorem c43 : cFun Tryz.prog 0 quiet Tryz.f43 = some i43 := by kernel_rfl
theorem g43 : Tryz.prog.funcs[43]? = some Tryz.f43 := by kernel_rfl
theorem c44 : cFun Tryz.prog 0 quiet Tryz.f44 = some i44 := by kernel_rfl
theorem g44 : Tryz.prog.funcs[44]? = some Tryz.f44 := by kernel_rfl
theorem c45 : cFun Tryz.prog 0 quiet Tryz.f45 = some i45 := by kernel_rfl
theorem g45 : Tryz.prog.funcs[45]? = some Tryz.f45 := by kernel_rfl
theorem c46 : cFun Tryz.prog 0 quiet Tryz.f46 = some i46 := by kernel_rfl
theorem g46 : Tryz.prog.funcs[46]? = some Tryz.f46 := by kernel_rfl
theorem c47 : cFun Tryz.prog 0 quiet Tryz.f47 = some i47 := by kernel_rfl
theorem g47 : Tryz.prog.funcs[47]? = some Tryz.f47 := by kernel_rfl
theorem c48 : cFun Tryz.prog 0 quiet Tryz.f48 = some i48 := by kernel_rfl
theorem g48 : Tryz.prog.funcs[48]? = some Tryz.f48 := by kernel_rfl
theorem c49 : cFun Tryz.prog 0 quiet Tryz.f49 = some i49 := by kernel_rfl
theorem g49 : Tryz.prog.funcs[49]? = some Tryz.f49 := by kernel_rfl
theorem c50 : cFun Tryz.prog 0 quiet Tryz.f50 = some i50 := by kernel_rfl
theorem g50 : Tryz.prog.funcs[50]? = some Tryz.f50 := by kernel_rfl
theorem c51 : cFun Tryz.prog 0 quiet Tryz.f51 = some i51 := by kernel_rfl
theorem g51 : Tryz.prog.funcs[51]? = some Tryz.f51 := by kernel_rfl
theorem c52 : cFun Tryz.prog 0 quiet Tryz.f52 = some i52 := by kernel_rfl
theorem g52 : Tryz.prog.funcs[52]? = some Tryz.f52 := by kernel_rfl
theorem c53 : cFun Tryz.prog 0 quiet Tryz.f53 = some i53 := by kernel_rfl
theorem g53 : Tryz.prog.funcs[53]? = some Tryz.f53 := by kernel_rfl
theorem c54 : cFun Tryz.prog 0 quiet Tryz.f54 = some i54 := by kernel_rfl
theorem g54 : Tryz.prog.funcs[54]? = some Tryz.f54 := by kernel_rfl
theorem c55 : cFun Tryz.prog 0 quiet Tryz.f55 = some i55 := by kernel_rfl
theorem g55 : Tryz.prog.funcs[55]? = some Tryz.f55 := by kernel_rfl
theorem c56 : cFun Tryz.prog 0 quiet Tryz.f56 = some i56 := by kernel_rfl
theorem g56 : Tryz.prog.funcs[56]? = some Tryz.f56 := by kernel_rfl
theorem c57 : cFun Tryz.prog 0 quiet Tryz.f57 = some i57 := by kernel_rfl
theorem g57 : Tryz.prog.funcs[57]? = some Tryz.f57 := by kernel_rfl
theorem c58 : cFun Tryz.prog 0 quiet Tryz.f58 = some i58 := by kernel_rfl
theorem g58 : Tryz.prog.funcs[58]? = some Tryz.f58 := by kernel_rfl
theorem c59 : cFun Tryz.prog 0 quiet Tryz.f59 = some i59 := by kernel_rfl
theorem g59 : Tryz.prog.funcs[59]? = some Tryz.f59 := by kernel_rfl
theorem c60 : cFun Tryz.prog 0 quiet Tryz.f60 = some i60 := by kernel_rfl
theorem g60 : Tryz.prog.funcs[60]? = some Tryz.f60 := by kernel_rfl
theorem c61 : cFun Tryz.prog 0 quiet Tryz.f61 = some i61 := by kernel_rfl
theorem g61 : Tryz.prog.funcs[61]? = some Tryz.f61 := by kernel_rfl
theorem c62 : cFun Tryz.prog 0 quiet Tryz.f62 = some i62 := by kernel_rfl
theorem g62 : Tryz.prog.funcs[62]? = some Tryz.f62 := by kernel_rfl
theorem c63 : cFun Tryz.prog 0 quiet Tryz.f63 = some i63 := by kernel_rfl
theorem g63 : Tryz.prog.funcs[63]? = some Tryz.f63 := by kernel_rfl
theorem c64 : cFun Tryz.prog 0 quiet Tryz.f64 = some i64 := by kernel_rfl
theorem g64 : Tryz.prog.funcs[64]? = some Tryz.f64 := by kernel_rfl
theorem c65 : cFun Tryz.prog 0 quiet Tryz.f65 = some i65 := by kernel_rfl
theorem g65 : Tryz.prog.funcs[65]? = some Tryz.f65 := by kernel_rfl
theorem c66 : cFun Tryz.prog 0 quiet Tryz.f66 = some i66 := by kernel_rfl
theorem g66 : Tryz.prog.funcs[66]? = some Tryz.f66 := by kernel_rfl
theorem c67 : cFun Tryz.prog 0 quiet Tryz.f67 = some i67 := by kernel_rfl
theorem g67 : Tryz.prog.funcs[67]? = some Tryz.f67 := by kernel_rfl
theorem c68 : cFun Tryz.prog 0 quiet Tryz.f68 = some i68 := by kernel_rfl
theorem g68 : Tryz.prog.funcs[68]? = some Tryz.f68 := by kernel_rfl
theorem c69 : cFun Tryz.prog 0 quiet Tryz.f69 = some i69 := by kernel_rfl
theorem g69 : Tryz.prog.funcs[69]? = some Tryz.f69 := by kernel_rfl
theorem c70 : cFun Tryz.prog 0 quiet Tryz.f70 = some i70 := by kernel_rfl
theorem g70 : Tryz.prog.funcs[70]? = some Tryz.f70 := by kernel_rfl
theorem c71 : cFun Tryz.prog 0 quiet Tryz.f71 = some i71 := by kernel_rfl
theorem g71 : Tryz.prog.funcs[71]? = some Tryz.f71 := by kernel_rfl
theorem c72 : cFun Tryz.prog 0 quiet Tryz.f72 = some i72 := by kernel_rfl
theorem g72 : Tryz.prog.funcs[72]? = some Tryz.f72 := by kernel_rfl
theorem c73 : cFun Tryz.prog 0 quiet Tryz.f73 = some i73 := by kernel_rfl
theorem g73 : Tryz.prog.funcs[73]? = some Tryz.f73 := by kernel_rfl
theorem c74 : cFun Tryz.prog 0 quiet Tryz.f74 = some i74 := by kernel_rfl
theorem g74 : Tryz.prog.funcs[74]? = some Tryz.f74 := by kernel_rfl
theorem c75 : cFun Tryz.prog 0 quiet Tryz.f75 = some i75 := by kernel_rfl
theorem g75 : Tryz.prog.funcs[75]? = some Tryz.f75 := by kernel_rfl
theorem c76 : cFun Tryz.prog 0 quiet Tryz.f76 = some i76 := by kernel_rfl
theorem g76 : Tryz.prog.funcs[76]? = some Tryz.f76 := by kernel_rfl
theorem c77 : cFun Tryz.prog 0 quiet Tryz.f77 = some i77 := by kernel_rfl
theorem g77 : Tryz.prog.funcs[77]? = some Tryz.f77 := by kernel_rfl
theorem c78 : cFun Tryz.prog 0 quiet Tryz.f78 = some i78 := by kernel_rfl
theorem g78 : Tryz.prog.funcs[78]? = some Tryz.f78 := by kernel_rfl
theorem c79 : cFun Tryz.prog 0 quiet Tryz.f79 = some i79 := by kernel_rfl
theorem g79 : Tryz.prog.funcs[79]? = some Tryz.f79 := by kernel_rfl
theorem c80 : cFun Tryz.prog 0 quiet Tryz.f80 = some i80 := by kernel_rfl
theorem g80 : Tryz.prog.funcs[80]? = some Tryz.f80 := by kernel_rfl
theorem c81 : cFun Tryz.prog 0 quiet Tryz.f81 = some i81 := by kernel_rfl
theorem g81 : Tryz.prog.funcs[81]? = some Tryz.f81 := by kernel_rfl
theorem c82 : cFun Tryz.prog 0 quiet Tryz.f82 = some i82 := by kernel_rfl
theorem g82 : Tryz.prog.funcs[82]? = some Tryz.f82 := by kernel_rfl
theorem c83 : cFun Tryz.prog 0 quiet Tryz.f83 = some i83 := by kernel_rfl
theorem g83 : Tryz.prog.funcs[83]? = some Tryz.f83 := by kernel_rfl
theorem c84 : cFun Tryz.prog 0 quiet Tryz.f84 = some i84 := by kernel_rfl
theorem g84 : Tryz.prog.funcs[84]? = some Tryz.f84 := by kernel_rfl
theorem c85 : cFun Tryz.prog 0 quiet Tryz.f85 = some i85 := by kernel_rfl
theorem g85 : Tryz.prog.funcs[85]? = some Tryz.f85 := by kernel_rfl
theorem c86 : cFun Tryz.prog 0 quiet Tryz.f86 = some i86 := by kernel_rfl
theorem g86 : Tryz.prog.funcs[86]? = some Tryz.f86 := by kernel_rfl
theorem c87 : cFun Tryz.prog 0 quiet Tryz.f87 = some i87 := by kernel_rfl
theorem g87 : Tryz.prog.funcs[87]? = some Tryz.f87 := by kernel_rfl
theorem c88 : cFun Tryz.prog 0 quiet Tryz.f88 = some i88 := by kernel_rfl
theorem g88 : Tryz.prog.funcs[88]? = some Tryz.f88 := by kernel_rfl
theorem c89 : cFun Tryz.prog 0 quiet Tryz.f89 = some i89 := by kernel_rfl
theorem g89 : Tryz.prog.funcs[89]? = some Tryz.f89 := by kernel_rfl
theorem c90 : cFun Tryz.prog 0 quiet Tryz.f90 = some i90 := by kernel_rfl
theorem g90 : Tryz.prog.funcs[90]? = some Tryz.f90 := by kernel_rfl
theorem c91 : cFun Tryz.prog 0 quiet Tryz.f91 = some i91 := by kernel_rfl
theorem g91 : Tryz.prog.funcs[91]? = some Tryz.f91 := by kernel_rfl
theorem c92 : cFun Tryz.prog 0 quiet Tryz.f92 = some i92 := by kernel_rfl
theorem g92 : Tryz.prog.funcs[92]? = some Tryz.f92 := by kernel_rfl
theorem c93 : cFun Tryz.prog 0 quiet Tryz.f93 = some i93 := by kernel_rfl
theorem g93 : Tryz.prog.funcs[93]? = some Tryz.f93 := by kernel_rfl
theorem c94 : cFun Tryz.prog 0 quiet Tryz.f94 = some i94 := by kernel_rfl
theorem g94 : Tryz.prog.funcs[94]? = some Tryz.f94 := by kernel_rfl
theorem c95 : cFun Tryz.prog 0 quiet Tryz.f95 = some i95 := by kernel_rfl
theorem g95 : Tryz.prog.funcs[95]? = some Tryz.f95 := by kernel_rfl
theorem c96 : cFun Tryz.prog 0 quiet Tryz.f96 = some i96 := by kernel_rfl
theorem g96 : Tryz.prog.funcs[96]? = some Tryz.f96 := by kernel_rfl
theorem c97 : cFun Tryz.prog 0 quiet Tryz.f97 = some i97 := by kernel_rfl
theorem g97 : Tryz.prog.funcs[97]? = some Tryz.f97 := by kernel_rfl
theorem c98 : cFun Tryz.prog 0 quiet Tryz.f98 = some i98 := by kernel_rfl
theorem g98 : Tryz.prog.funcs[98]? = some Tryz.f98 := by kernel_rfl
theorem c99 : cFun Tryz.prog 0 quiet Tryz.f99 = some i99 := by kernel_rfl
theorem g99 : Tryz.prog.funcs[99]? = some Tryz.f99 := by kernel_rfl
theorem c100 : cFun Tryz.prog 0 quiet Tryz.f100 = some i100 := by kernel_rfl
theorem g100 : Tryz.prog.funcs[100]? = some Tryz.f100 := by kernel_rfl
theorem c101 : cFun Tryz.prog 0 quiet Tryz.f101 = some i101 := by kernel_rfl
theorem g101 : Tryz.prog.funcs[101]? = some Tryz.f101 := by kernel_rfl
theorem c102 : cFun Tryz.prog 0 quiet Tryz.f102 = some i102 := by kernel_rfl
theorem g102 : Tryz.prog.funcs[102]? = some Tryz.f102 := by kernel_rfl
theorem c103 : cFun Tryz.prog 0 quiet Tryz.f103 = some i103 := by kernel_rfl
theorem g103 : Tryz.prog.funcs[103]? = some Tryz.f103 := by kernel_rfl
theorem c104 : cFun Tryz.prog 0 quiet Tryz.f104 = some i104 := by kernel_rfl
theorem g104 : Tryz.prog.funcs[104]? = some Tryz.f104 := by kernel_rfl
theorem c105 : cFun Tryz.prog 0 quiet Tryz.f105 = some i105 := by kernel_rfl
theorem g105 : Tryz.prog.funcs[105]? = some Tryz.f105 := by kernel_rfl
theorem c106 : cFun Tryz.prog 0 quiet Tryz.f106 = some i106 := by kernel_rfl
theorem g106 : Tryz.prog.funcs[106]? = some Tryz.f106 := by kernel_rfl
theorem c107 : cFun Tryz.prog 0 quiet Tryz.f107 = some i107 := by kernel_rfl
theorem g107 : Tryz.prog.funcs[107]? = some Tryz.f107 := by kernel_rfl
theorem c108 : cFun Tryz.prog 0 quiet Tryz.f108 = some i108 := by kernel_rfl
theorem g108 : Tryz.prog.funcs[108]? = some Tryz.f108 := by kernel_rfl
theorem c109 : cFun Tryz.prog 0 quiet Tryz.f109 = some i109 := by kernel_rfl
theorem g109 : Tryz.prog.funcs[109]? = some Tryz.f109 := by kernel_rfl
theorem c110 : cFun Tryz.prog 0 quiet Tryz.f110 = some i110 := by kernel_rfl
theorem g110 : Tryz.prog.funcs[110]? = some Tryz.f110 := by kernel_rfl
theorem c111 : cFun Tryz.prog 0 quiet Tryz.f111 = some i111 := by kernel_rfl
theorem g111 : Tryz.prog.funcs[111]? = some Tryz.f111 := by kernel_rfl
theorem c112 : cFun Tryz.prog 0 quiet Tryz.f112 = some i112 := by kernel_rfl
theorem g112 : Tryz.prog.funcs[112]? = some Tryz.f112 := by kernel_rfl
theorem c113 : cFun Tryz.prog 0 quiet Tryz.f113 = some i113 := by kernel_rfl
theorem g113 : Tryz.prog.funcs[113]? = some Tryz.f113 := by kernel_rfl
theorem c114 : cFun Tryz.prog 0 quiet Tryz.f114 = some i114 := by kernel_rfl
theorem g114 : Tryz.prog.funcs[114]? = some Tryz.f114 := by kernel_rfl

def table : Tree := (.node 59 i59 (.node 31 i31 (.node 17 i17 (.node 10 i10 (.node 6 i6 (.node 4 i4 (.node 3 i3 .leaf .leaf) (.node 5 i5 .leaf .leaf)) (.node 8 i8 (.node 7 i7 .leaf .leaf) (.node 9 i9 .leaf .leaf))) (.node 14 i14 (.node 12 i12 (.node 11 i11 .leaf .leaf) (.node 13 i13 .leaf .leaf)) (.node 16 i16 (.node 15 i15 .leaf .leaf) .leaf))) (.node 24 i24 (.node 21 i21 (.node 19 i19 (.node 18 i18 .leaf .leaf) (.node 20 i20 .leaf .leaf)) (.node 23 i23 (.node 22 i22 .leaf .leaf) .leaf)) (.node 28 i28 (.node 26 i26 (.node 25 i25 .leaf .leaf) (.node 27 i27 .leaf .leaf)) (.node 30 i30 (.node 29 i29 .leaf .leaf) .leaf)))) (.node 45 i45 (.node 38 i38 (.node 35 i35 (.node 33 i33 (.node 32 i32 .leaf .leaf) (.node 34 i34 .leaf .leaf)) (.node 37 i37 (.node 36 i36 .leaf .leaf) .leaf)) (.node 42 i42 (.node 40 i40 (.node 39 i39 .leaf .leaf) (.node 41 i41 .leaf .leaf)) (.node 44 i44 (.node 43 i43 .leaf .leaf) .leaf))) (.node 52 i52 (.node 49 i49 (.node 47 i47 (.node 46 i46 .leaf .leaf) (.node 48 i48 .leaf .leaf)) (.node 51 i51 (.node 50 i50 .leaf .leaf) .leaf)) (.node 56 i56 (.node 54 i54 (.node 53 i53 .leaf .leaf) (.node 55 i55 .leaf .leaf)) (.node 58 i58 (.node 57 i57 .leaf .leaf) .leaf))))) (.node 87 i87 (.node 73 i73 (.node 66 i66 (.node 63 i63 (.node 61 i61 (.node 60 i60 .leaf .leaf) (.node 62 i62 .leaf .leaf)) (.node 65 i65 (.node 64 i64 .leaf .leaf) .leaf)) (.node 70 i70 (.node 68 i68 (.node 67 i67 .leaf .leaf) (.node 69 i69 .leaf .leaf)) (.node 72 i72 (.node 71 i71 .leaf .leaf) .leaf))) (.node 80 i80 (.node 77 i77 (.node 75 i75 (.node 74 i74 .leaf .leaf) (.node 76 i76 .leaf .leaf)) (.node 79 i79 (.node 78 i78 .leaf .leaf) .leaf)) (.node 84 i84 (.node 82 i82 (.node 81 i81 .leaf .leaf) (.node 83 i83 .leaf .leaf)) (.node 86 i86 (.node 85 i85 .leaf .leaf) .leaf)))) (.node 101 i101 (.node 94 i94 (.node 91 i91 (.node 89 i89 (.node 88 i88 .leaf .leaf) (.node 90 i90 .leaf .leaf)) (.node 93 i93 (.node 92 i92 .leaf .leaf) .leaf)) (.node 98 i98 (.node 96 i96 (.node 95 i95 .leaf .leaf) (.node 97 i97 .leaf .leaf)) (.node 100 i100 (.node 99 i99 .leaf .leaf) .leaf))) (.node 108 i108 (.node 105 i105 (.node 103 i103 (.node 102 i102 .leaf .leaf) (.node 104 i104 .leaf .leaf)) (.node 107 i107 (.node 106 i106 .leaf .leaf) .leaf)) (.node 112 i112 (.node 110 i110 (.node 109 i109 .leaf .leaf) (.node 111 i111 .leaf .leaf)) (.node 114 i114 (.node 113 i113 .leaf .leaf) .leaf))))))

theorem fits : table.All (Fits Tryz.prog 0 quiet) := ⟨⟨_, g59, c59⟩, ⟨⟨_, g31, c31⟩, ⟨⟨_, g17, c17⟩, ⟨⟨_, g10, c10⟩, ⟨⟨_, g6, c6⟩, ⟨⟨_, g4, c4⟩, ⟨⟨_, g3, c3⟩, trivial, trivial⟩, ⟨⟨_, g5, c5⟩, trivial, trivial⟩⟩, ⟨⟨_, g8, c8⟩, ⟨⟨_, g7, c7⟩, trivial, trivial⟩, ⟨⟨_, g9, c9⟩, trivial, trivial⟩⟩⟩, ⟨⟨_, g14, c14⟩, ⟨⟨_, g12, c12⟩, ⟨⟨_, g11, c11⟩, trivial, trivial⟩, ⟨⟨_, g13, c13⟩, trivial, trivial⟩⟩, ⟨⟨_, g16, c16⟩, ⟨⟨_, g15, c15⟩, trivial, trivial⟩, trivial⟩⟩⟩, ⟨⟨_, g24, c24⟩, ⟨⟨_, g21, c21⟩, ⟨⟨_, g19, c19⟩, ⟨⟨_, g18, c18⟩, trivial, trivial⟩, ⟨⟨_, g20, c20⟩, trivial, trivial⟩⟩, ⟨⟨_, g23, c23⟩, ⟨⟨_, g22, c22⟩, trivial, trivial⟩, trivial⟩⟩, ⟨⟨_, g28, c28⟩, ⟨⟨_, g26, c26⟩, ⟨⟨_, g25, c25⟩, trivial, trivial⟩, ⟨⟨_, g27, c27⟩, trivial, trivial⟩⟩, ⟨⟨_, g30, c30⟩, ⟨⟨_, g29, c29⟩, trivial, trivial⟩, trivial⟩⟩⟩⟩, ⟨⟨_, g45, c45⟩, ⟨⟨_, g38, c38⟩, ⟨⟨_, g35, c35⟩, ⟨⟨_, g33, c33⟩, ⟨⟨_, g32, c32⟩, trivial, trivial⟩, ⟨⟨_, g34, c34⟩, trivial, trivial⟩⟩, ⟨⟨_, g37, c37⟩, ⟨⟨_, g36, c36⟩, trivial, trivial⟩, trivial⟩⟩, ⟨⟨_, g42, c42⟩, ⟨⟨_, g40, c40⟩, ⟨⟨_, g39, c39⟩, trivial, trivial⟩, ⟨⟨_, g41, c41⟩, trivial, trivial⟩⟩, ⟨⟨_, g44, c44⟩, ⟨⟨_, g43, c43⟩, trivial, trivial⟩, trivial⟩⟩⟩, ⟨⟨_, g52, c52⟩, ⟨⟨_, g49, c49⟩, ⟨⟨_, g47, c47⟩, ⟨⟨_, g46, c46⟩, trivial, trivial⟩, ⟨⟨_, g48, c48⟩, trivial, trivial⟩⟩, ⟨⟨_, g51, c51⟩, ⟨⟨_, g50, c50⟩, trivial, trivial⟩, trivial⟩⟩, ⟨⟨_, g56, c56⟩, ⟨⟨_, g54, c54⟩, ⟨⟨_, g53, c53⟩, trivial, trivial⟩, ⟨⟨_, g55, c55⟩, trivial, trivial⟩⟩, ⟨⟨_, g58, c58⟩, ⟨⟨_, g57, c57⟩, trivial, trivial⟩, trivial⟩⟩⟩⟩⟩, ⟨⟨_, g87, c87⟩, ⟨⟨_, g73, c73⟩, ⟨⟨_, g66, c66⟩, ⟨⟨_, g63, c63⟩, ⟨⟨_, g61, c61⟩, ⟨⟨_, g60, c60⟩, trivial, trivial⟩, ⟨⟨_, g62, c62⟩, trivial, trivial⟩⟩, ⟨⟨_, g65, c65⟩, ⟨⟨_, g64, c64⟩, trivial, trivial⟩, trivial⟩⟩, ⟨⟨_, g70, c70⟩, ⟨⟨_, g68, c68⟩, ⟨⟨_, g67, c67⟩, trivial, trivial⟩, ⟨⟨_, g69, c69⟩, trivial, trivial⟩⟩, ⟨⟨_, g72, c72⟩, ⟨⟨_, g71, c71⟩, trivial, trivial⟩, trivial⟩⟩⟩, ⟨⟨_, g80, c80⟩, ⟨⟨_, g77, c77⟩, ⟨⟨_, g75, c75⟩, ⟨⟨_, g74, c74⟩, trivial, trivial⟩, ⟨⟨_, g76, c76⟩, trivial, trivial⟩⟩, ⟨⟨_, g79, c79⟩, ⟨⟨_, g78, c78⟩, trivial, trivial⟩, trivial⟩⟩, ⟨⟨_, g84, c84⟩, ⟨⟨_, g82, c82⟩, ⟨⟨_, g81, c81⟩, trivial, trivial⟩, ⟨⟨_, g83, c83⟩, trivial, trivial⟩⟩, ⟨⟨_, g86, c86⟩, ⟨⟨_, g85, c85⟩, trivial, trivial⟩, trivial⟩⟩⟩⟩, ⟨⟨_, g101, c101⟩, ⟨⟨_, g94, c94⟩, ⟨⟨_, g91, c91⟩, ⟨⟨_, g89, c89⟩, ⟨⟨_, g88, c88⟩, trivial, trivial⟩, ⟨⟨_, g90, c90⟩, trivial, trivial⟩⟩, ⟨⟨_, g93, c93⟩, ⟨⟨_, g92, c92⟩, trivial, trivial⟩, trivial⟩⟩, ⟨⟨_, g98, c98⟩, ⟨⟨_, g96, c96⟩, ⟨⟨_, g95, c95⟩, trivial, trivial⟩, ⟨⟨_, g97, c97⟩, trivial, trivial⟩⟩, ⟨⟨_, g100, c100⟩, ⟨⟨_, g99, c99⟩, trivial, trivial⟩, trivial⟩⟩⟩, ⟨⟨_, g108, c108⟩, ⟨⟨_, g105, c105⟩, ⟨⟨_, g103, c103⟩, ⟨⟨_, g102, c102⟩, trivial, trivial⟩, ⟨⟨_, g104, c104⟩, trivial, trivial⟩⟩, ⟨⟨_, g107, c107⟩, ⟨⟨_, g106, c106⟩, trivial, trivial⟩, trivial⟩⟩, ⟨⟨_, g112, c112⟩, ⟨⟨_, g110, c110⟩, ⟨⟨_, g109, c109⟩, trivial, trivial⟩, ⟨⟨_, g111, c111⟩, trivial, trivial⟩⟩, ⟨⟨_, g114, c114⟩, ⟨⟨_, g113, c113⟩, trivial, trivial⟩, trivial⟩⟩⟩⟩⟩⟩

theorem mixed : Tryz.prog.follows .mixedOrders = true := by kernel_rfl

theorem allOk (n : Nat) : CallOK Tryz.prog 0 (fCalls table.look n) := fCalls_ok (stands_look fits) mixed n

theorem allOk' (n : Nat) : CallOK Tryz.prog 0 (calls table.find n) := calls_ok (stands_of fits) mixed n

end Go.Proofs.YtepddcemoofmlaaGreat.Fast
