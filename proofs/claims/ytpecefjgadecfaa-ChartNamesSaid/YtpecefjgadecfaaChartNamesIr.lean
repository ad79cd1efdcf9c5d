/- The compact form of the functions that are reached (written by program), and that it is theirs. -/
import Derived.Test.YtpecefjgadecfaaAe22
import Derived.Test.YtpecefjgadecfaaProg
import Derived.KernelRfl
namespace Go.Proofs.Ytpecefjgadecfaa.ChartNames
open Go Go.Proofs.Ytpecefjgadecfaa.AE
set_option maxRecDepth 100000
set_option linter.unusedVariables false

def quiet : FuncId → Bool := fun f => [8, 9, 10, 11, 12, 13, 14, 15, 16, 17, 29, 33, 39, 40, 41, 45, 49, 54, 55, 56, 57, 62, 63, 64, 65, 71, 73, 74, 75, 76, 81, 82, 84, 88, 89, 91].contains f

/-- wainscot/wainscotlaw21.ChartNames -/
def i7 : IFun := ⟨104,
  (.seq
   (.region [
     ⟨(some 0), .mv (.c (.bool false)), none, [], [], false⟩])
  (.seq
   (.region [
     ⟨(some 8), .build [(.int .i64 0), (.int .i64 0), (.int .i64 0), (.int .i64 0), (.int .i64 0), (.int .u64 0)] [], none, [], [], false⟩,
     ⟨(some 9), .build [(.int .i64 0), (.int .i64 0), (.int .i64 0), (.int .i64 0), (.int .i64 0), (.int .u64 0)] [(0, 1, (.c (.int .i64 9))), (1, 1, (.c (.int .i64 1))), (2, 1, (.c (.int .i64 1)))], none, [], [], false⟩,
     ⟨(some 10), .build [(.int .i64 0), (.int .i64 0), (.int .i64 0), (.int .i64 0), (.int .i64 0), (.int .u64 0)] [(0, 1, (.c (.int .i64 1))), (1, 1, (.c (.int .i64 33))), (2, 1, (.c (.int .i64 1)))], none, [], [], false⟩,
     ⟨(some 11), .build [(.int .i64 0), (.int .i64 0), (.int .i64 0), (.int .i64 0), (.int .i64 0), (.int .u64 0)] [(0, 1, (.c (.int .i64 1))), (1, 1, (.c (.int .i64 1))), (2, 1, (.c (.int .i64 17)))], none, [], [], false⟩,
     ⟨(some 12), .build [(.int .i64 0), (.int .i64 0), (.int .i64 0), (.int .i64 0), (.int .i64 0), (.int .u64 0)] [(0, 1, (.c (.int .i64 1))), (1, 1, (.c (.int .i64 1))), (2, 1, (.c (.int .i64 1))), (3, 1, (.c (.int .i64 33)))], none, [], [], false⟩,
     ⟨(some 13), .build [(.int .i64 0), (.int .i64 0), (.int .i64 0), (.int .i64 0), (.int .i64 0), (.int .u64 0)] [(0, 1, (.c (.int .i64 1))), (1, 1, (.c (.int .i64 1))), (2, 1, (.c (.int .i64 1))), (4, 1, (.c (.int .i64 (-1))))], none, [], [], false⟩,
     ⟨(some 14), .buildSlice 24 [(.int .i64 0), (.int .i64 0), (.int .i64 0), (.int .i64 0), (.int .i64 0), (.int .u64 0), (.int .i64 0), (.int .i64 0), (.int .i64 0), (.int .i64 0), (.int .i64 0), (.int .u64 0), (.int .i64 0), (.int .i64 0), (.int .i64 0), (.int .i64 0), (.int .i64 0), (.int .u64 0), (.int .i64 0), (.int .i64 0), (.int .i64 0), (.int .i64 0), (.int .i64 0), (.int .u64 0), (.int .i64 0), (.int .i64 0), (.int .i64 0), (.int .i64 0), (.int .i64 0), (.int .u64 0), (.int .i64 0), (.int .i64 0), (.int .i64 0), (.int .i64 0), (.int .i64 0), (.int .u64 0)] 6 [(0, 6, (.t 8)), (6, 6, (.t 9)), (12, 6, (.t 10)), (18, 6, (.t 11)), (24, 6, (.t 12)), (30, 6, (.t 13))], none, [], [], false⟩,
     ⟨(some 1), .mv (.t 14), none, [], [], false⟩])
  (.seq
   (.seq
    (.region [
      ⟨(some 2), .mv (.c (.int .i64 0)), none, [], [], false⟩])
   (.block 0
    (.loop
     (.seq
      (.seq
       (.region [
         ⟨(some 15), .mv (.t 2), none, [], [], false⟩,
         ⟨(some 16), .mv (.t 1), none, [], [], false⟩,
         ⟨(some 17), .lenS (.t 16), none, [], [], false⟩,
         ⟨(some 18), .bin .lss .int (.t 15) (.t 17), none, [], [], false⟩])
      (.cond (.t 18)
       .skip
       (.exit 0)))
     (.seq
      (.block 1
       (.seq
        (.region [
          ⟨(some 22), .mv (.t 1), none, [], [], false⟩,
          ⟨(some 23), .mv (.t 2), none, [], [], false⟩,
          ⟨(some 24), .idxS 6 (.t 22) (.t 23), none, [], [], false⟩,
          ⟨(some 25), .load true 6 (.t 24), none, [], [], false⟩,
          ⟨(some 26), .call (.c (.func (.func 33) #[] #[])) [(.c (.slice none 0 0)), (.t 25)] true, none, [], [], false⟩,
          ⟨(some 21), .mv (.t 26), none, [], [], false⟩,
          ⟨(some 27), .extract (.t 21) 0, none, [], [], false⟩,
          ⟨(some 28), .extract (.t 21) 1, none, [], [], false⟩,
          ⟨(some 3), .new 40 [(.slice none 0 0), (.slice none 0 0), (.bool false), (.slice none 0 0)], none, [], [], false⟩,
          ⟨none, .store 4 (.t 3) (.t 27), none, [], [], false⟩,
          ⟨(some 4), .mv (.t 28), none, [], [], false⟩])
       (.seq
        (.region [
          ⟨(some 29), .mv (.t 1), none, [], [], false⟩,
          ⟨(some 30), .mv (.t 2), none, [], [], false⟩,
          ⟨(some 31), .idxS 6 (.t 29) (.t 30), none, [], [], false⟩,
          ⟨(some 32), .load true 6 (.t 31), none, [], [], false⟩,
          ⟨(some 33), .call (.c (.func (.func 8) #[] #[])) [(.t 32)] true, none, [], [], false⟩,
          ⟨(some 34), .bin .neq .int (.t 33) (.c (.int .i64 2)), none, [], [], false⟩,
          ⟨(some 35), .mv (.t 34), none, [], [], false⟩,
          ⟨(some 36), .mv (.t 1), (some (35, false)), [], [], false⟩,
          ⟨(some 37), .mv (.t 2), (some (35, false)), [], [], false⟩,
          ⟨(some 38), .idxS 6 (.t 36) (.t 37), (some (35, false)), [], [], false⟩,
          ⟨(some 39), .load true 6 (.t 38), (some (35, false)), [], [], false⟩,
          ⟨(some 40), .call (.c (.func (.func 9) #[] #[])) [(.t 39)] true, (some (35, false)), [], [], false⟩,
          ⟨(some 41), .bin .neq .int (.t 40) (.c (.int .i64 0)), (some (35, false)), [], [], false⟩,
          ⟨(some 42), .pick (.t 35) (.c (.bool true)) (.t 41), none, [], [], false⟩,
          ⟨(some 43), .mv (.t 42), none, [], [], false⟩,
          ⟨(some 44), .mv (.t 1), (some (43, false)), [], [], false⟩,
          ⟨(some 45), .mv (.t 2), (some (43, false)), [], [], false⟩,
          ⟨(some 46), .idxS 6 (.t 44) (.t 45), (some (43, false)), [], [], false⟩,
          ⟨(some 47), .load true 6 (.t 46), (some (43, false)), [], [], false⟩,
          ⟨(some 48), .call (.c (.func (.func 12) #[] #[])) [(.t 47)] true, (some (43, false)), [], [], false⟩,
          ⟨(some 49), .bin .neq .int (.t 48) (.c (.int .i64 (-1))), (some (43, false)), [], [], false⟩,
          ⟨(some 50), .pick (.t 43) (.c (.bool true)) (.t 49), none, [], [], false⟩,
          ⟨(some 51), .mv (.t 50), none, [], [], false⟩,
          ⟨(some 52), .mv (.t 4), (some (51, false)), [], [], false⟩,
          ⟨(some 53), .bin .neq .int (.t 52) (.c (.int .i64 2)), (some (51, false)), [], [], false⟩,
          ⟨(some 54), .pick (.t 51) (.c (.bool true)) (.t 53), none, [], [], false⟩])
       (.cond (.t 54)
        (.seq
         (.region [
           ⟨(some 0), .mv (.c (.bool false)), none, [], [], false⟩])
        .ret)
        .skip))))
     (.region [
       ⟨(some 19), .mv (.t 2), none, [], [], false⟩,
       ⟨(some 20), .bin .add .int (.t 19) (.c (.int .i64 1)), none, [], [], false⟩,
       ⟨(some 2), .mv (.t 20), none, [], [], false⟩]))))))
  (.seq
   (.region [
     ⟨(some 55), .build [(.int .i64 0), (.int .i64 0), (.int .i64 0), (.int .i64 0), (.int .i64 0), (.int .u64 0)] [(0, 1, (.c (.int .i64 8))), (1, 1, (.c (.int .i64 32))), (2, 1, (.c (.int .i64 16))), (3, 1, (.c (.int .i64 32))), (4, 1, (.c (.int .i64 32)))], none, [], [], false⟩,
     ⟨(some 5), .new 24 [(.int .i64 0), (.int .i64 0), (.int .i64 0), (.int .i64 0), (.int .i64 0), (.int .u64 0)], none, [], [], false⟩,
     ⟨none, .store 6 (.t 5) (.t 55), none, [], [], false⟩])
  (.seq
   (.region [
     ⟨(some 58), .call (.c (.func (.func 39) #[] #[])) [] true, none, [], [], false⟩,
     ⟨(some 57), .mkSlice 22 (.int .u64 0) 8 (.c (.int .i64 35)) (.c (.int .i64 35)), none, [], [], false⟩,
     ⟨(some 59), .call (.c (.func (.func 33) #[] #[])) [(.t 57), (.t 58)] true, none, [], [], false⟩,
     ⟨(some 56), .mv (.t 59), none, [], [], false⟩,
     ⟨(some 60), .extract (.t 56) 0, none, [], [], false⟩,
     ⟨(some 61), .extract (.t 56) 1, none, [], [], false⟩,
     ⟨(some 6), .new 40 [(.slice none 0 0), (.slice none 0 0), (.bool false), (.slice none 0 0)], none, [], [], false⟩,
     ⟨none, .store 4 (.t 6) (.t 60), none, [], [], false⟩,
     ⟨(some 7), .mv (.t 61), none, [], [], false⟩])
  (.seq
   (.region [
     ⟨(some 62), .mv (.c (.bool true)), none, [], [], false⟩,
     ⟨(some 63), .call (.c (.func (.func 31) #[] #[])) [] false, (some (62, true)), [], [], false⟩,
     ⟨(some 64), .pick (.t 62) (.t 63) (.c (.bool false)), none, [], [], false⟩,
     ⟨(some 65), .mv (.t 64), none, [], [], false⟩,
     ⟨(some 66), .load true 6 (.t 5), (some (65, true)), [], [], false⟩,
     ⟨(some 67), .call (.c (.func (.func 8) #[] #[])) [(.t 66)] true, (some (65, true)), [], [], false⟩,
     ⟨(some 68), .bin .eql .int (.t 67) (.c (.int .i64 0)), (some (65, true)), [], [], false⟩,
     ⟨(some 69), .pick (.t 65) (.t 68) (.c (.bool false)), none, [], [], false⟩,
     ⟨(some 70), .mv (.t 69), none, [], [], false⟩,
     ⟨(some 71), .load true 6 (.t 5), (some (70, true)), [], [], false⟩,
     ⟨(some 72), .call (.c (.func (.func 9) #[] #[])) [(.t 71)] true, (some (70, true)), [], [], false⟩,
     ⟨(some 73), .bin .eql .int (.t 72) (.c (.int .i64 676)), (some (70, true)), [], [], false⟩,
     ⟨(some 74), .pick (.t 70) (.t 73) (.c (.bool false)), none, [], [], false⟩,
     ⟨(some 75), .mv (.t 74), none, [], [], false⟩,
     ⟨(some 76), .load true 6 (.t 5), (some (75, true)), [], [], false⟩,
     ⟨(some 77), .call (.c (.func (.func 10) #[] #[])) [(.t 76), (.c (.int .i64 8))] true, (some (75, true)), [], [], false⟩,
     ⟨(some 78), .bin .eql .int (.t 77) (.c (.int .i64 (-1))), (some (75, true)), [], [], false⟩,
     ⟨(some 79), .pick (.t 75) (.t 78) (.c (.bool false)), none, [], [], false⟩,
     ⟨(some 80), .mv (.t 79), none, [], [], false⟩,
     ⟨(some 81), .load true 6 (.t 5), (some (80, true)), [], [], false⟩,
     ⟨(some 82), .call (.c (.func (.func 15) #[] #[])) [(.t 81), (.c (.int .i64 32))] true, (some (80, true)), [], [], false⟩,
     ⟨(some 83), .bin .eql .int (.t 82) (.c (.int .i64 (-1))), (some (80, true)), [], [], false⟩,
     ⟨(some 84), .pick (.t 80) (.t 83) (.c (.bool false)), none, [], [], false⟩,
     ⟨(some 85), .mv (.t 84), none, [], [], false⟩,
     ⟨(some 86), .load true 6 (.t 5), (some (85, true)), [], [], false⟩,
     ⟨(some 87), .call (.c (.func (.func 17) #[] #[])) [(.t 86), (.c (.int .i64 (-1))), (.c (.int .i64 0))] true, (some (85, true)), [], [], false⟩,
     ⟨(some 88), .bin .eql .int (.t 87) (.c (.int .i64 (-1))), (some (85, true)), [], [], false⟩,
     ⟨(some 89), .pick (.t 85) (.t 88) (.c (.bool false)), none, [], [], false⟩,
     ⟨(some 90), .mv (.t 89), none, [], [], false⟩,
     ⟨(some 91), .mv (.t 7), (some (90, true)), [], [], false⟩,
     ⟨(some 92), .bin .eql .int (.t 91) (.c (.int .i64 2)), (some (90, true)), [], [], false⟩,
     ⟨(some 93), .pick (.t 90) (.t 92) (.c (.bool false)), none, [], [], false⟩,
     ⟨(some 94), .mv (.t 93), none, [], [], false⟩,
     ⟨(some 95), .call (.c (.func (.func 39) #[] #[])) [] true, (some (94, true)), [], [], false⟩,
     ⟨(some 96), .call (.c (.func (.func 29) #[] #[])) [(.t 95), (.c (.int .i64 0))] true, (some (94, true)), [], [], false⟩,
     ⟨(some 97), .bin .eql .int (.t 96) (.c (.int .u64 0)), (some (94, true)), [], [], false⟩,
     ⟨(some 98), .pick (.t 94) (.t 97) (.c (.bool false)), none, [], [], false⟩,
     ⟨(some 99), .mv (.t 98), none, [], [], false⟩,
     ⟨(some 100), .call (.c (.func (.func 39) #[] #[])) [] true, (some (99, true)), [], [], false⟩,
     ⟨(some 101), .call (.c (.func (.func 29) #[] #[])) [(.t 100), (.c (.int .i64 1))] true, (some (99, true)), [], [], false⟩,
     ⟨(some 102), .bin .eql .int (.t 101) (.c (.int .u64 11400714819323198485)), (some (99, true)), [], [], false⟩,
     ⟨(some 103), .pick (.t 99) (.t 102) (.c (.bool false)), none, [], [], false⟩,
     ⟨(some 0), .mv (.t 103), none, [], [], false⟩])
  .ret)))))),
  [.tmp 0]⟩

/-- wainscot/chart.Check -/
def i8 : IFun := ⟨35,
  (.seq
   (.region [
     ⟨(some 1), .box 24 6 (.t 0), none, [], [], false⟩,
     ⟨(some 2), .mv (.c (.int .i64 0)), none, [], [], false⟩])
  (.seq
   (.block 0
    (.seq
     (.seq
      (.region [
        ⟨(some 4), .addOff 0 (.t 1), none, [], [], false⟩,
        ⟨(some 5), .load false 1 (.t 4), none, [], [], false⟩,
        ⟨(some 6), .bin .lss .int (.t 5) (.c (.int .i64 1)), none, [], [], false⟩,
        ⟨(some 3), .mv (.t 6), none, [], [], false⟩])
     (.cond (.t 3)
      .skip
      (.seq
       (.region [
         ⟨(some 7), .addOff 0 (.t 1), none, [], [], false⟩,
         ⟨(some 8), .load false 1 (.t 7), none, [], [], false⟩,
         ⟨(some 9), .bin .gtr .int (.t 8) (.c (.int .i64 8)), none, [], [], false⟩,
         ⟨(some 3), .mv (.t 9), none, [], [], false⟩])
      (.cond (.t 3)
       .skip
       (.seq
        (.region [
          ⟨(some 10), .addOff 1 (.t 1), none, [], [], false⟩,
          ⟨(some 11), .load false 1 (.t 10), none, [], [], false⟩,
          ⟨(some 12), .bin .lss .int (.t 11) (.c (.int .i64 1)), none, [], [], false⟩,
          ⟨(some 3), .mv (.t 12), none, [], [], false⟩])
       (.cond (.t 3)
        .skip
        (.seq
         (.region [
           ⟨(some 13), .addOff 1 (.t 1), none, [], [], false⟩,
           ⟨(some 14), .load false 1 (.t 13), none, [], [], false⟩,
           ⟨(some 15), .bin .gtr .int (.t 14) (.c (.int .i64 32)), none, [], [], false⟩,
           ⟨(some 3), .mv (.t 15), none, [], [], false⟩])
        (.cond (.t 3)
         .skip
         (.seq
          (.region [
            ⟨(some 16), .addOff 2 (.t 1), none, [], [], false⟩,
            ⟨(some 17), .load false 1 (.t 16), none, [], [], false⟩,
            ⟨(some 18), .bin .lss .int (.t 17) (.c (.int .i64 1)), none, [], [], false⟩,
            ⟨(some 3), .mv (.t 18), none, [], [], false⟩])
         (.cond (.t 3)
          .skip
          (.region [
            ⟨(some 19), .addOff 2 (.t 1), none, [], [], false⟩,
            ⟨(some 20), .load false 1 (.t 19), none, [], [], false⟩,
            ⟨(some 21), .bin .gtr .int (.t 20) (.c (.int .i64 16)), none, [], [], false⟩,
            ⟨(some 3), .mv (.t 21), none, [], [], false⟩])))))))))))
    (.cond (.t 3)
     (.seq
      (.region [
        ⟨(some 2), .mv (.c (.int .i64 2)), none, [], [], false⟩])
     .ret)
     (.seq
      (.seq
       (.region [
         ⟨(some 23), .addOff 3 (.t 1), none, [], [], false⟩,
         ⟨(some 24), .load false 1 (.t 23), none, [], [], false⟩,
         ⟨(some 25), .bin .lss .int (.t 24) (.c (.int .i64 0)), none, [], [], false⟩,
         ⟨(some 22), .mv (.t 25), none, [], [], false⟩])
      (.cond (.t 22)
       .skip
       (.seq
        (.region [
          ⟨(some 26), .addOff 3 (.t 1), none, [], [], false⟩,
          ⟨(some 27), .load false 1 (.t 26), none, [], [], false⟩,
          ⟨(some 28), .bin .gtr .int (.t 27) (.c (.int .i64 32)), none, [], [], false⟩,
          ⟨(some 22), .mv (.t 28), none, [], [], false⟩])
       (.cond (.t 22)
        .skip
        (.seq
         (.region [
           ⟨(some 29), .addOff 4 (.t 1), none, [], [], false⟩,
           ⟨(some 30), .load false 1 (.t 29), none, [], [], false⟩,
           ⟨(some 31), .bin .lss .int (.t 30) (.c (.int .i64 0)), none, [], [], false⟩,
           ⟨(some 22), .mv (.t 31), none, [], [], false⟩])
        (.cond (.t 22)
         .skip
         (.region [
           ⟨(some 32), .addOff 4 (.t 1), none, [], [], false⟩,
           ⟨(some 33), .load false 1 (.t 32), none, [], [], false⟩,
           ⟨(some 34), .bin .gtr .int (.t 33) (.c (.int .i64 32)), none, [], [], false⟩,
           ⟨(some 22), .mv (.t 34), none, [], [], false⟩])))))))
     (.cond (.t 22)
      (.seq
       (.region [
         ⟨(some 2), .mv (.c (.int .i64 2)), none, [], [], false⟩])
      .ret)
      .skip)))))
  (.seq
   (.region [
     ⟨(some 2), .mv (.c (.int .i64 0)), none, [], [], false⟩])
  .ret))),
  [.tmp 2]⟩

/-- wainscot/chart.Words -/
def i9 : IFun := ⟨14,
  (.seq
   (.region [
     ⟨(some 1), .box 24 6 (.t 0), none, [], [], false⟩,
     ⟨(some 2), .mv (.c (.int .i64 0)), none, [], [], false⟩])
  (.seq
   (.seq
    (.region [
      ⟨(some 3), .load true 6 (.t 1), none, [], [], false⟩,
      ⟨(some 4), .call (.c (.func (.func 8) #[] #[])) [(.t 3)] true, none, [], [], false⟩,
      ⟨(some 5), .bin .neq .int (.t 4) (.c (.int .i64 0)), none, [], [], false⟩])
   (.cond (.t 5)
    (.seq
     (.region [
       ⟨(some 2), .mv (.c (.int .i64 0)), none, [], [], false⟩])
    .ret)
    .skip))
  (.seq
   (.region [
     ⟨(some 6), .load true 6 (.t 1), none, [], [], false⟩,
     ⟨(some 7), .call (.c (.func (.func 40) #[] #[])) [(.t 6)] true, none, [], [], false⟩,
     ⟨(some 8), .addOff 1 (.t 1), none, [], [], false⟩,
     ⟨(some 9), .load false 1 (.t 8), none, [], [], false⟩,
     ⟨(some 10), .addOff 2 (.t 1), none, [], [], false⟩,
     ⟨(some 11), .load false 1 (.t 10), none, [], [], false⟩,
     ⟨(some 12), .bin .mul .int (.t 9) (.t 11), none, [], [], false⟩,
     ⟨(some 13), .bin .add .int (.t 7) (.t 12), none, [], [], false⟩,
     ⟨(some 2), .mv (.t 13), none, [], [], false⟩])
  .ret))),
  [.tmp 2]⟩

/-- wainscot/chart.Head -/
def i10 : IFun := ⟨11,
  (.seq
   (.region [
     ⟨(some 2), .box 24 6 (.t 0), none, [], [], false⟩,
     ⟨(some 3), .box 3 1 (.t 1), none, [], [], false⟩,
     ⟨(some 4), .mv (.c (.int .i64 0)), none, [], [], false⟩])
  (.seq
   (.region [
     ⟨(some 5), .load true 6 (.t 2), none, [], [], false⟩,
     ⟨(some 6), .load false 1 (.t 3), none, [], [], false⟩,
     ⟨(some 7), .addOff 0 (.t 2), none, [], [], false⟩,
     ⟨(some 8), .load false 1 (.t 7), none, [], [], false⟩,
     ⟨(some 9), .mkFunc 42 [] [(.t 3)], none, [], [], false⟩,
     ⟨(some 10), .call (.c (.func (.func 41) #[] #[])) [(.t 5), (.t 6), (.t 8), (.t 9)] true, none, [], [], false⟩,
     ⟨(some 4), .mv (.t 10), none, [], [], false⟩])
  .ret)),
  [.tmp 4]⟩

/-- wainscot/chart.Part -/
def i11 : IFun := ⟨11,
  (.seq
   (.region [
     ⟨(some 2), .box 24 6 (.t 0), none, [], [], false⟩,
     ⟨(some 3), .box 3 1 (.t 1), none, [], [], false⟩,
     ⟨(some 4), .mv (.c (.int .i64 0)), none, [], [], false⟩])
  (.seq
   (.region [
     ⟨(some 5), .load true 6 (.t 2), none, [], [], false⟩,
     ⟨(some 6), .load false 1 (.t 3), none, [], [], false⟩,
     ⟨(some 7), .addOff 0 (.t 2), none, [], [], false⟩,
     ⟨(some 8), .load false 1 (.t 7), none, [], [], false⟩,
     ⟨(some 9), .mkFunc 43 [] [(.t 3)], none, [], [], false⟩,
     ⟨(some 10), .call (.c (.func (.func 41) #[] #[])) [(.t 5), (.t 6), (.t 8), (.t 9)] true, none, [], [], false⟩,
     ⟨(some 4), .mv (.t 10), none, [], [], false⟩])
  .ret)),
  [.tmp 4]⟩

/-- wainscot/chart.Lock -/
def i12 : IFun := ⟨6,
  (.seq
   (.region [
     ⟨(some 1), .box 24 6 (.t 0), none, [], [], false⟩,
     ⟨(some 2), .mv (.c (.int .i64 0)), none, [], [], false⟩])
  (.seq
   (.region [
     ⟨(some 3), .load true 6 (.t 1), none, [], [], false⟩,
     ⟨(some 4), .mkFunc 44 [] [(.t 1)], none, [], [], false⟩,
     ⟨(some 5), .call (.c (.func (.func 41) #[] #[])) [(.t 3), (.c (.int .i64 0)), (.c (.int .i64 1)), (.t 4)] true, none, [], [], false⟩,
     ⟨(some 2), .mv (.t 5), none, [], [], false⟩])
  .ret)),
  [.tmp 2]⟩

/-- wainscot/chart.Shelf -/
def i13 : IFun := ⟨6,
  (.seq
   (.region [
     ⟨(some 1), .box 24 6 (.t 0), none, [], [], false⟩,
     ⟨(some 2), .mv (.c (.int .i64 0)), none, [], [], false⟩])
  (.seq
   (.region [
     ⟨(some 3), .load true 6 (.t 1), none, [], [], false⟩,
     ⟨(some 4), .mkFunc 46 [] [(.t 1)], none, [], [], false⟩,
     ⟨(some 5), .call (.c (.func (.func 41) #[] #[])) [(.t 3), (.c (.int .i64 0)), (.c (.int .i64 1)), (.t 4)] true, none, [], [], false⟩,
     ⟨(some 2), .mv (.t 5), none, [], [], false⟩])
  .ret)),
  [.tmp 2]⟩

/-- wainscot/chart.Held -/
def i14 : IFun := ⟨6,
  (.seq
   (.region [
     ⟨(some 1), .box 24 6 (.t 0), none, [], [], false⟩,
     ⟨(some 2), .mv (.c (.int .i64 0)), none, [], [], false⟩])
  (.seq
   (.region [
     ⟨(some 3), .load true 6 (.t 1), none, [], [], false⟩,
     ⟨(some 4), .mkFunc 47 [] [(.t 1)], none, [], [], false⟩,
     ⟨(some 5), .call (.c (.func (.func 41) #[] #[])) [(.t 3), (.c (.int .i64 0)), (.c (.int .i64 1)), (.t 4)] true, none, [], [], false⟩,
     ⟨(some 2), .mv (.t 5), none, [], [], false⟩])
  .ret)),
  [.tmp 2]⟩

/-- wainscot/chart.First -/
def i15 : IFun := ⟨11,
  (.seq
   (.region [
     ⟨(some 2), .box 24 6 (.t 0), none, [], [], false⟩,
     ⟨(some 3), .box 3 1 (.t 1), none, [], [], false⟩,
     ⟨(some 4), .mv (.c (.int .i64 0)), none, [], [], false⟩])
  (.seq
   (.region [
     ⟨(some 5), .load true 6 (.t 2), none, [], [], false⟩,
     ⟨(some 6), .load false 1 (.t 3), none, [], [], false⟩,
     ⟨(some 7), .addOff 1 (.t 2), none, [], [], false⟩,
     ⟨(some 8), .load false 1 (.t 7), none, [], [], false⟩,
     ⟨(some 9), .mkFunc 48 [] [(.t 2), (.t 3)], none, [], [], false⟩,
     ⟨(some 10), .call (.c (.func (.func 41) #[] #[])) [(.t 5), (.t 6), (.t 8), (.t 9)] true, none, [], [], false⟩,
     ⟨(some 4), .mv (.t 10), none, [], [], false⟩])
  .ret)),
  [.tmp 4]⟩

/-- wainscot/chart.Next -/
def i16 : IFun := ⟨11,
  (.seq
   (.region [
     ⟨(some 2), .box 24 6 (.t 0), none, [], [], false⟩,
     ⟨(some 3), .box 3 1 (.t 1), none, [], [], false⟩,
     ⟨(some 4), .mv (.c (.int .i64 0)), none, [], [], false⟩])
  (.seq
   (.region [
     ⟨(some 5), .load true 6 (.t 2), none, [], [], false⟩,
     ⟨(some 6), .load false 1 (.t 3), none, [], [], false⟩,
     ⟨(some 7), .addOff 1 (.t 2), none, [], [], false⟩,
     ⟨(some 8), .load false 1 (.t 7), none, [], [], false⟩,
     ⟨(some 9), .mkFunc 50 [] [(.t 2), (.t 3)], none, [], [], false⟩,
     ⟨(some 10), .call (.c (.func (.func 41) #[] #[])) [(.t 5), (.t 6), (.t 8), (.t 9)] true, none, [], [], false⟩,
     ⟨(some 4), .mv (.t 10), none, [], [], false⟩])
  .ret)),
  [.tmp 4]⟩

/-- wainscot/chart.Link -/
def i17 : IFun := ⟨21,
  (.seq
   (.region [
     ⟨(some 3), .box 24 6 (.t 0), none, [], [], false⟩,
     ⟨(some 4), .box 3 1 (.t 1), none, [], [], false⟩,
     ⟨(some 5), .box 3 1 (.t 2), none, [], [], false⟩,
     ⟨(some 6), .mv (.c (.int .i64 0)), none, [], [], false⟩])
  (.seq
   (.seq
    (.region [
      ⟨(some 7), .load false 1 (.t 4), none, [], [], false⟩,
      ⟨(some 8), .bin .lss .int (.t 7) (.c (.int .i64 0)), none, [], [], false⟩,
      ⟨(some 9), .mv (.t 8), none, [], [], false⟩,
      ⟨(some 10), .load false 1 (.t 4), (some (9, false)), [], [], false⟩,
      ⟨(some 11), .addOff 1 (.t 3), (some (9, false)), [], [], false⟩,
      ⟨(some 12), .load false 1 (.t 11), (some (9, false)), [], [], false⟩,
      ⟨(some 13), .bin .geq .int (.t 10) (.t 12), (some (9, false)), [], [], false⟩,
      ⟨(some 14), .pick (.t 9) (.c (.bool true)) (.t 13), none, [], [], false⟩])
   (.cond (.t 14)
    (.seq
     (.region [
       ⟨(some 6), .mv (.c (.int .i64 (-1))), none, [], [], false⟩])
    .ret)
    .skip))
  (.seq
   (.region [
     ⟨(some 15), .load true 6 (.t 3), none, [], [], false⟩,
     ⟨(some 16), .load false 1 (.t 5), none, [], [], false⟩,
     ⟨(some 17), .addOff 2 (.t 3), none, [], [], false⟩,
     ⟨(some 18), .load false 1 (.t 17), none, [], [], false⟩,
     ⟨(some 19), .mkFunc 51 [] [(.t 3), (.t 4), (.t 5)], none, [], [], false⟩,
     ⟨(some 20), .call (.c (.func (.func 41) #[] #[])) [(.t 15), (.t 16), (.t 18), (.t 19)] true, none, [], [], false⟩,
     ⟨(some 6), .mv (.t 20), none, [], [], false⟩])
  .ret))),
  [.tmp 6]⟩

/-- wainscot/chart.Key -/
def i29 : IFun := ⟨11,
  (.seq
   (.region [
     ⟨(some 2), .box 24 6 (.t 0), none, [], [], false⟩,
     ⟨(some 4), .mv (.c (.int .u64 0)), none, [], [], false⟩])
  (.seq
   (.region [
     ⟨(some 5), .addOff 5 (.t 2), none, [], [], false⟩,
     ⟨(some 6), .load false 1 (.t 5), none, [], [], false⟩,
     ⟨(some 7), .mv (.t 1), none, [], [], false⟩,
     ⟨(some 8), .conv .u64 (.t 7), none, [], [], false⟩,
     ⟨(some 9), .bin .mul .int (.t 8) (.c (.int .u64 11400714819323198485)), none, [], [], false⟩,
     ⟨(some 10), .bin .add .int (.t 6) (.t 9), none, [], [], false⟩,
     ⟨(some 4), .mv (.t 10), none, [], [], false⟩])
  .ret)),
  [.tmp 4]⟩

/-- wainscot/wainscotlaw21.works -/
def i31 : IFun := ⟨87,
  (.seq
   (.region [
     ⟨(some 0), .mv (.c (.bool false)), none, [], [], false⟩])
  (.seq
   (.region [
     ⟨(some 4), .call (.c (.func (.func 39) #[] #[])) [] true, none, [], [], false⟩,
     ⟨(some 1), .new 24 [(.int .i64 0), (.int .i64 0), (.int .i64 0), (.int .i64 0), (.int .i64 0), (.int .u64 0)], none, [], [], false⟩,
     ⟨none, .store 6 (.t 1) (.t 4), none, [], [], false⟩])
  (.seq
   (.region [
     ⟨(some 6), .mkSlice 22 (.int .u64 0) 8 (.c (.int .i64 36)) (.c (.int .i64 36)), none, [], [], false⟩,
     ⟨(some 7), .load true 6 (.t 1), none, [], [], false⟩,
     ⟨(some 8), .call (.c (.func (.func 33) #[] #[])) [(.t 6), (.t 7)] true, none, [], [], false⟩,
     ⟨(some 5), .mv (.t 8), none, [], [], false⟩,
     ⟨(some 9), .extract (.t 5) 0, none, [], [], false⟩,
     ⟨(some 10), .extract (.t 5) 1, none, [], [], false⟩,
     ⟨(some 2), .new 40 [(.slice none 0 0), (.slice none 0 0), (.bool false), (.slice none 0 0)], none, [], [], false⟩,
     ⟨none, .store 4 (.t 2) (.t 9), none, [], [], false⟩,
     ⟨(some 3), .mv (.t 10), none, [], [], false⟩])
  (.seq
   (.region [
     ⟨(some 11), .load true 6 (.t 1), none, [], [], false⟩,
     ⟨(some 12), .call (.c (.func (.func 9) #[] #[])) [(.t 11)] true, none, [], [], false⟩,
     ⟨(some 13), .bin .eql .int (.t 12) (.c (.int .i64 36)), none, [], [], false⟩,
     ⟨(some 14), .mv (.t 13), none, [], [], false⟩,
     ⟨(some 15), .load true 6 (.t 1), (some (14, true)), [], [], false⟩,
     ⟨(some 16), .call (.c (.func (.func 10) #[] #[])) [(.t 15), (.c (.int .i64 1))] true, (some (14, true)), [], [], false⟩,
     ⟨(some 17), .bin .eql .int (.t 16) (.c (.int .i64 4)), (some (14, true)), [], [], false⟩,
     ⟨(some 18), .pick (.t 14) (.t 17) (.c (.bool false)), none, [], [], false⟩,
     ⟨(some 19), .mv (.t 18), none, [], [], false⟩,
     ⟨(some 20), .load true 6 (.t 1), (some (19, true)), [], [], false⟩,
     ⟨(some 21), .call (.c (.func (.func 11) #[] #[])) [(.t 20), (.c (.int .i64 1))] true, (some (19, true)), [], [], false⟩,
     ⟨(some 22), .bin .eql .int (.t 21) (.c (.int .i64 6)), (some (19, true)), [], [], false⟩,
     ⟨(some 23), .pick (.t 19) (.t 22) (.c (.bool false)), none, [], [], false⟩,
     ⟨(some 24), .mv (.t 23), none, [], [], false⟩,
     ⟨(some 25), .load true 6 (.t 1), (some (24, true)), [], [], false⟩,
     ⟨(some 26), .call (.c (.func (.func 12) #[] #[])) [(.t 25)] true, (some (24, true)), [], [], false⟩,
     ⟨(some 27), .bin .eql .int (.t 26) (.c (.int .i64 8)), (some (24, true)), [], [], false⟩,
     ⟨(some 28), .pick (.t 24) (.t 27) (.c (.bool false)), none, [], [], false⟩,
     ⟨(some 29), .mv (.t 28), none, [], [], false⟩,
     ⟨(some 30), .load true 6 (.t 1), (some (29, true)), [], [], false⟩,
     ⟨(some 31), .call (.c (.func (.func 14) #[] #[])) [(.t 30)] true, (some (29, true)), [], [], false⟩,
     ⟨(some 32), .bin .eql .int (.t 31) (.c (.int .i64 10)), (some (29, true)), [], [], false⟩,
     ⟨(some 33), .pick (.t 29) (.t 32) (.c (.bool false)), none, [], [], false⟩,
     ⟨(some 34), .mv (.t 33), none, [], [], false⟩,
     ⟨(some 35), .load true 6 (.t 1), (some (34, true)), [], [], false⟩,
     ⟨(some 36), .call (.c (.func (.func 15) #[] #[])) [(.t 35), (.c (.int .i64 0))] true, (some (34, true)), [], [], false⟩,
     ⟨(some 37), .bin .eql .int (.t 36) (.c (.int .i64 12)), (some (34, true)), [], [], false⟩,
     ⟨(some 38), .pick (.t 34) (.t 37) (.c (.bool false)), none, [], [], false⟩,
     ⟨(some 39), .mv (.t 38), none, [], [], false⟩,
     ⟨(some 40), .load true 6 (.t 1), (some (39, true)), [], [], false⟩,
     ⟨(some 41), .call (.c (.func (.func 16) #[] #[])) [(.t 40), (.c (.int .i64 2))] true, (some (39, true)), [], [], false⟩,
     ⟨(some 42), .bin .eql .int (.t 41) (.c (.int .i64 22)), (some (39, true)), [], [], false⟩,
     ⟨(some 43), .pick (.t 39) (.t 42) (.c (.bool false)), none, [], [], false⟩,
     ⟨(some 44), .mv (.t 43), none, [], [], false⟩,
     ⟨(some 45), .load true 6 (.t 1), (some (44, true)), [], [], false⟩,
     ⟨(some 46), .call (.c (.func (.func 17) #[] #[])) [(.t 45), (.c (.int .i64 2)), (.c (.int .i64 3))] true, (some (44, true)), [], [], false⟩,
     ⟨(some 47), .bin .eql .int (.t 46) (.c (.int .i64 35)), (some (44, true)), [], [], false⟩,
     ⟨(some 48), .pick (.t 44) (.t 47) (.c (.bool false)), none, [], [], false⟩,
     ⟨(some 49), .mv (.t 48), none, [], [], false⟩,
     ⟨(some 50), .load true 6 (.t 1), (some (49, true)), [], [], false⟩,
     ⟨(some 51), .call (.c (.func (.func 17) #[] #[])) [(.t 50), (.c (.int .i64 2)), (.c (.int .i64 4))] true, (some (49, true)), [], [], false⟩,
     ⟨(some 52), .bin .eql .int (.t 51) (.c (.int .i64 (-1))), (some (49, true)), [], [], false⟩,
     ⟨(some 53), .pick (.t 49) (.t 52) (.c (.bool false)), none, [], [], false⟩,
     ⟨(some 54), .mv (.t 53), none, [], [], false⟩,
     ⟨(some 55), .mv (.t 3), (some (54, true)), [], [], false⟩,
     ⟨(some 56), .bin .eql .int (.t 55) (.c (.int .i64 0)), (some (54, true)), [], [], false⟩,
     ⟨(some 57), .pick (.t 54) (.t 56) (.c (.bool false)), none, [], [], false⟩,
     ⟨(some 58), .mv (.t 57), none, [], [], false⟩,
     ⟨(some 59), .addOff 0 (.t 2), (some (58, true)), [], [], false⟩,
     ⟨(some 60), .load false 1 (.t 59), (some (58, true)), [], [], false⟩,
     ⟨(some 61), .lenS (.t 60), (some (58, true)), [], [], false⟩,
     ⟨(some 62), .bin .eql .int (.t 61) (.c (.int .i64 2)), (some (58, true)), [], [], false⟩,
     ⟨(some 63), .pick (.t 58) (.t 62) (.c (.bool false)), none, [], [], false⟩,
     ⟨(some 64), .mv (.t 63), none, [], [], false⟩,
     ⟨(some 65), .addOff 0 (.t 2), (some (64, true)), [], [], false⟩,
     ⟨(some 66), .load false 1 (.t 65), (some (64, true)), [], [], false⟩,
     ⟨(some 67), .idxS 4 (.t 66) (.c (.int .i64 0)), (some (64, true)), [], [], false⟩,
     ⟨(some 68), .addOff 0 (.t 67), (some (64, true)), [], [], false⟩,
     ⟨(some 69), .load false 1 (.t 68), (some (64, true)), [], [], false⟩,
     ⟨(some 70), .bin .eql .int (.t 69) (.c (.int .i64 (-1))), (some (64, true)), [], [], false⟩,
     ⟨(some 71), .pick (.t 64) (.t 70) (.c (.bool false)), none, [], [], false⟩,
     ⟨(some 72), .mv (.t 71), none, [], [], false⟩,
     ⟨(some 73), .addOff 3 (.t 2), (some (72, true)), [], [], false⟩,
     ⟨(some 74), .load false 1 (.t 73), (some (72, true)), [], [], false⟩,
     ⟨(some 75), .lenS (.t 74), (some (72, true)), [], [], false⟩,
     ⟨(some 76), .bin .eql .int (.t 75) (.c (.int .i64 3)), (some (72, true)), [], [], false⟩,
     ⟨(some 77), .pick (.t 72) (.t 76) (.c (.bool false)), none, [], [], false⟩,
     ⟨(some 78), .mv (.t 77), none, [], [], false⟩,
     ⟨(some 79), .addOff 3 (.t 2), (some (78, true)), [], [], false⟩,
     ⟨(some 80), .load false 1 (.t 79), (some (78, true)), [], [], false⟩,
     ⟨(some 81), .idxS 5 (.t 80) (.c (.int .i64 0)), (some (78, true)), [], [], false⟩,
     ⟨(some 82), .addOff 0 (.t 81), (some (78, true)), [], [], false⟩,
     ⟨(some 83), .addOff 3 (.t 82), (some (78, true)), [], [], false⟩,
     ⟨(some 84), .load false 1 (.t 83), (some (78, true)), [], [], false⟩,
     ⟨(some 85), .un .not (.t 84), (some (78, true)), [], [], false⟩,
     ⟨(some 86), .pick (.t 78) (.t 85) (.c (.bool false)), none, [], [], false⟩,
     ⟨(some 0), .mv (.t 86), none, [], [], false⟩])
  .ret)))),
  [.tmp 0]⟩

/-- wainscot/chart.See -/
def i33 : IFun := ⟨95,
  (.seq
   (.region [
     ⟨(some 3), .box 24 6 (.t 1), none, [], [], false⟩,
     ⟨(some 4), .new 40 [(.slice none 0 0), (.slice none 0 0), (.bool false), (.slice none 0 0)], none, [], [], false⟩,
     ⟨(some 5), .mv (.c (.int .i64 0)), none, [], [], false⟩])
  (.seq
   (.seq
    (.region [
      ⟨(some 16), .load true 6 (.t 3), none, [], [], false⟩,
      ⟨(some 17), .call (.c (.func (.func 8) #[] #[])) [(.t 16)] true, none, [], [], false⟩,
      ⟨(some 18), .bin .neq .int (.t 17) (.c (.int .i64 0)), none, [], [], false⟩,
      ⟨(some 19), .mv (.t 18), none, [], [], false⟩,
      ⟨(some 20), .mv (.t 0), (some (19, false)), [], [], false⟩,
      ⟨(some 21), .lenS (.t 20), (some (19, false)), [], [], false⟩,
      ⟨(some 22), .load true 6 (.t 3), (some (19, false)), [], [], false⟩,
      ⟨(some 23), .call (.c (.func (.func 9) #[] #[])) [(.t 22)] true, (some (19, false)), [], [], false⟩,
      ⟨(some 24), .bin .neq .int (.t 21) (.t 23), (some (19, false)), [], [], false⟩,
      ⟨(some 25), .pick (.t 19) (.c (.bool true)) (.t 24), none, [], [], false⟩])
   (.cond (.t 25)
    (.seq
     (.region [
       ⟨(some 26), .build [(.slice none 0 0), (.slice none 0 0), (.bool false), (.slice none 0 0)] [], none, [], [], false⟩,
       ⟨none, .store 4 (.t 4) (.t 26), none, [], [], false⟩,
       ⟨(some 5), .mv (.c (.int .i64 2)), none, [], [], false⟩])
    .ret)
    .skip))
  (.seq
   (.region [
     ⟨(some 27), .mv (.t 0), none, [], [], false⟩,
     ⟨(some 28), .load true 6 (.t 3), none, [], [], false⟩,
     ⟨(some 29), .build [(.slice none 0 0), (.int .i64 0), (.int .i64 0), (.int .i64 0), (.int .i64 0), (.int .i64 0), (.int .u64 0)] [(0, 1, (.t 27)), (1, 6, (.t 28))], none, [], [], false⟩,
     ⟨(some 6), .new 64 [(.slice none 0 0), (.int .i64 0), (.int .i64 0), (.int .i64 0), (.int .i64 0), (.int .i64 0), (.int .u64 0)], none, [], [], false⟩,
     ⟨none, .store 7 (.t 6) (.t 29), none, [], [], false⟩])
  (.seq
   (.region [
     ⟨(some 30), .mv (.t 0), none, [], [], false⟩,
     ⟨(some 31), .load true 6 (.t 3), none, [], [], false⟩,
     ⟨(some 32), .call (.c (.func (.func 12) #[] #[])) [(.t 31)] true, none, [], [], false⟩,
     ⟨(some 33), .idxS 1 (.t 30) (.t 32), none, [], [], false⟩,
     ⟨(some 34), .load false 1 (.t 33), none, [], [], false⟩,
     ⟨(some 35), .bin .neq .int (.t 34) (.c (.int .u64 0)), none, [], [], false⟩,
     ⟨(some 36), .build [(.slice none 0 0), (.slice none 0 0), (.bool false), (.slice none 0 0)] [(2, 1, (.t 35))], none, [], [], false⟩,
     ⟨(some 7), .new 40 [(.slice none 0 0), (.slice none 0 0), (.bool false), (.slice none 0 0)], none, [], [], false⟩,
     ⟨none, .store 4 (.t 7) (.t 36), none, [], [], false⟩])
  (.seq
   (.seq
    (.region [
      ⟨(some 37), .addOff 0 (.t 3), none, [], [], false⟩,
      ⟨(some 38), .load false 1 (.t 37), none, [], [], false⟩,
      ⟨(some 39), .mv (.c (.int .i64 0)), none, [], [], false⟩])
   (.block 0
    (.loop
     (.seq
      (.region [
        ⟨(some 40), .bin .lss .int (.t 39) (.t 38), none, [], [], false⟩])
     (.seq
      (.cond (.t 40)
       .skip
       (.exit 0))
     (.seq
      (.block 1
       (.seq
        (.region [
          ⟨(some 41), .mv (.t 39), none, [], [], false⟩,
          ⟨(some 8), .mv (.t 41), none, [], [], false⟩])
       (.seq
        (.region [
          ⟨(some 43), .load true 7 (.t 6), none, [], [], false⟩,
          ⟨(some 44), .mv (.t 8), none, [], [], false⟩,
          ⟨(some 45), .call (.c (.func (.func 54) #[] #[])) [(.t 43), (.t 44)] true, none, [], [], false⟩,
          ⟨(some 42), .mv (.t 45), none, [], [], false⟩,
          ⟨(some 46), .extract (.t 42) 0, none, [], [], false⟩,
          ⟨(some 47), .extract (.t 42) 1, none, [], [], false⟩,
          ⟨(some 9), .new 58 [(.int .i64 0), (.slice none 0 0), (.int .u64 0), (.slice none 0 0)], none, [], [], false⟩,
          ⟨none, .store 4 (.t 9) (.t 46), none, [], [], false⟩,
          ⟨(some 10), .mv (.t 47), none, [], [], false⟩])
       (.seq
        (.seq
         (.region [
           ⟨(some 48), .mv (.t 10), none, [], [], false⟩,
           ⟨(some 49), .un .not (.t 48), none, [], [], false⟩])
        (.cond (.t 49)
         (.seq
          (.region [
            ⟨(some 50), .build [(.slice none 0 0), (.slice none 0 0), (.bool false), (.slice none 0 0)] [], none, [], [], false⟩,
            ⟨none, .store 4 (.t 4) (.t 50), none, [], [], false⟩,
            ⟨(some 5), .mv (.c (.int .i64 150)), none, [], [], false⟩])
         .ret)
         .skip))
       (.region [
         ⟨(some 51), .addOff 0 (.t 7), none, [], [], false⟩,
         ⟨(some 52), .load false 1 (.t 51), none, [], [], false⟩,
         ⟨(some 53), .load true 4 (.t 9), none, [], [], false⟩,
         ⟨(some 54), .buildSlice 58 [(.int .i64 0), (.slice none 0 0), (.int .u64 0), (.slice none 0 0)] 1 [(0, 4, (.t 53))], none, [], [], false⟩,
         ⟨(some 55), .append 58 4 64 (.t 52) (.t 54), none, [], [], false⟩,
         ⟨(some 56), .addOff 0 (.t 7), none, [], [], false⟩,
         ⟨none, .store 1 (.t 56) (.t 55), none, [], [], false⟩])))))
     (.region [
       ⟨(some 57), .bin .add .int (.t 39) (.c (.int .i64 1)), none, [], [], false⟩,
       ⟨(some 39), .mv (.t 57), none, [], [], false⟩])))))))
  (.seq
   (.region [
     ⟨(some 59), .load true 7 (.t 6), none, [], [], false⟩,
     ⟨(some 60), .mv (.t 0), none, [], [], false⟩,
     ⟨(some 61), .load true 6 (.t 3), none, [], [], false⟩,
     ⟨(some 62), .call (.c (.func (.func 13) #[] #[])) [(.t 61)] true, none, [], [], false⟩,
     ⟨(some 63), .idxS 1 (.t 60) (.t 62), none, [], [], false⟩,
     ⟨(some 64), .load false 1 (.t 63), none, [], [], false⟩,
     ⟨(some 65), .call (.c (.func (.func 55) #[] #[])) [(.t 59), (.t 64), (.c (.func (.func 56) #[] #[]))] true, none, [], [], false⟩,
     ⟨(some 58), .mv (.t 65), none, [], [], false⟩,
     ⟨(some 66), .extract (.t 58) 0, none, [], [], false⟩,
     ⟨(some 67), .extract (.t 58) 1, none, [], [], false⟩,
     ⟨(some 11), .mv (.t 66), none, [], [], false⟩,
     ⟨(some 12), .mv (.t 67), none, [], [], false⟩])
  (.seq
   (.seq
    (.region [
      ⟨(some 68), .mv (.t 12), none, [], [], false⟩,
      ⟨(some 69), .un .not (.t 68), none, [], [], false⟩])
   (.cond (.t 69)
    (.seq
     (.region [
       ⟨(some 70), .build [(.slice none 0 0), (.slice none 0 0), (.bool false), (.slice none 0 0)] [], none, [], [], false⟩,
       ⟨none, .store 4 (.t 4) (.t 70), none, [], [], false⟩,
       ⟨(some 5), .mv (.c (.int .i64 150)), none, [], [], false⟩])
    .ret)
    .skip))
  (.seq
   (.region [
     ⟨(some 71), .mv (.t 11), none, [], [], false⟩,
     ⟨(some 72), .addOff 1 (.t 7), none, [], [], false⟩,
     ⟨none, .store 1 (.t 72) (.t 71), none, [], [], false⟩])
  (.seq
   (.seq
    (.region [
      ⟨(some 73), .addOff 1 (.t 3), none, [], [], false⟩,
      ⟨(some 74), .load false 1 (.t 73), none, [], [], false⟩,
      ⟨(some 75), .mv (.c (.int .i64 0)), none, [], [], false⟩])
   (.block 2
    (.loop
     (.seq
      (.region [
        ⟨(some 76), .bin .lss .int (.t 75) (.t 74), none, [], [], false⟩])
     (.seq
      (.cond (.t 76)
       .skip
       (.exit 2))
     (.seq
      (.block 3
       (.seq
        (.region [
          ⟨(some 77), .mv (.t 75), none, [], [], false⟩,
          ⟨(some 13), .mv (.t 77), none, [], [], false⟩])
       (.seq
        (.region [
          ⟨(some 79), .load true 7 (.t 6), none, [], [], false⟩,
          ⟨(some 80), .mv (.t 13), none, [], [], false⟩,
          ⟨(some 81), .call (.c (.func (.func 57) #[] #[])) [(.t 79), (.t 80)] true, none, [], [], false⟩,
          ⟨(some 78), .mv (.t 81), none, [], [], false⟩,
          ⟨(some 82), .extract (.t 78) 0, none, [], [], false⟩,
          ⟨(some 83), .extract (.t 78) 1, none, [], [], false⟩,
          ⟨(some 14), .new 62 [(.int .i64 0), (.int .i64 0), (.bool false), (.bool false), (.slice none 0 0)], none, [], [], false⟩,
          ⟨none, .store 5 (.t 14) (.t 82), none, [], [], false⟩,
          ⟨(some 15), .mv (.t 83), none, [], [], false⟩])
       (.seq
        (.seq
         (.region [
           ⟨(some 84), .mv (.t 15), none, [], [], false⟩,
           ⟨(some 85), .un .not (.t 84), none, [], [], false⟩])
        (.cond (.t 85)
         (.seq
          (.region [
            ⟨(some 86), .build [(.slice none 0 0), (.slice none 0 0), (.bool false), (.slice none 0 0)] [], none, [], [], false⟩,
            ⟨none, .store 4 (.t 4) (.t 86), none, [], [], false⟩,
            ⟨(some 5), .mv (.c (.int .i64 150)), none, [], [], false⟩])
         .ret)
         .skip))
       (.region [
         ⟨(some 87), .addOff 3 (.t 7), none, [], [], false⟩,
         ⟨(some 88), .load false 1 (.t 87), none, [], [], false⟩,
         ⟨(some 89), .load true 5 (.t 14), none, [], [], false⟩,
         ⟨(some 90), .buildSlice 62 [(.int .i64 0), (.int .i64 0), (.bool false), (.bool false), (.slice none 0 0)] 1 [(0, 5, (.t 89))], none, [], [], false⟩,
         ⟨(some 91), .append 62 5 48 (.t 88) (.t 90), none, [], [], false⟩,
         ⟨(some 92), .addOff 3 (.t 7), none, [], [], false⟩,
         ⟨none, .store 1 (.t 92) (.t 91), none, [], [], false⟩])))))
     (.region [
       ⟨(some 93), .bin .add .int (.t 75) (.c (.int .i64 1)), none, [], [], false⟩,
       ⟨(some 75), .mv (.t 93), none, [], [], false⟩])))))))
  (.seq
   (.region [
     ⟨(some 94), .load true 4 (.t 7), none, [], [], false⟩,
     ⟨none, .store 4 (.t 4) (.t 94), none, [], [], false⟩,
     ⟨(some 5), .mv (.c (.int .i64 0)), none, [], [], false⟩])
  .ret)))))))))),
  [.cell 4 true 4, .tmp 5]⟩

/-- wainscot/wainscotlaw21.small -/
def i39 : IFun := ⟨2,
  (.seq
   (.region [
     ⟨(some 0), .new 24 [(.int .i64 0), (.int .i64 0), (.int .i64 0), (.int .i64 0), (.int .i64 0), (.int .u64 0)], none, [], [], false⟩])
  (.seq
   (.region [
     ⟨(some 1), .build [(.int .i64 0), (.int .i64 0), (.int .i64 0), (.int .i64 0), (.int .i64 0), (.int .u64 0)] [(0, 1, (.c (.int .i64 2))), (1, 1, (.c (.int .i64 3))), (2, 1, (.c (.int .i64 4)))], none, [], [], false⟩,
     ⟨none, .store 6 (.t 0) (.t 1), none, [], [], false⟩])
  .ret)),
  [.cell 0 true 6]⟩

/-- wainscot/chart.links -/
def i40 : IFun := ⟨9,
  (.seq
   (.region [
     ⟨(some 1), .box 24 6 (.t 0), none, [], [], false⟩,
     ⟨(some 2), .mv (.c (.int .i64 0)), none, [], [], false⟩])
  (.seq
   (.region [
     ⟨(some 3), .load true 6 (.t 1), none, [], [], false⟩,
     ⟨(some 4), .call (.c (.func (.func 49) #[] #[])) [(.t 3)] true, none, [], [], false⟩,
     ⟨(some 5), .addOff 1 (.t 1), none, [], [], false⟩,
     ⟨(some 6), .load false 1 (.t 5), none, [], [], false⟩,
     ⟨(some 7), .bin .mul .int (.c (.int .i64 4)) (.t 6), none, [], [], false⟩,
     ⟨(some 8), .bin .add .int (.t 4) (.t 7), none, [], [], false⟩,
     ⟨(some 2), .mv (.t 8), none, [], [], false⟩])
  .ret)),
  [.tmp 2]⟩

/-- wainscot/chart.guarded -/
def i41 : IFun := ⟨23,
  (.seq
   (.region [
     ⟨(some 4), .box 24 6 (.t 0), none, [], [], false⟩,
     ⟨(some 8), .mv (.c (.int .i64 0)), none, [], [], false⟩])
  (.seq
   (.seq
    (.region [
      ⟨(some 9), .load true 6 (.t 4), none, [], [], false⟩,
      ⟨(some 10), .call (.c (.func (.func 8) #[] #[])) [(.t 9)] true, none, [], [], false⟩,
      ⟨(some 11), .bin .neq .int (.t 10) (.c (.int .i64 0)), none, [], [], false⟩,
      ⟨(some 12), .mv (.t 11), none, [], [], false⟩,
      ⟨(some 13), .mv (.t 1), (some (12, false)), [], [], false⟩,
      ⟨(some 14), .bin .lss .int (.t 13) (.c (.int .i64 0)), (some (12, false)), [], [], false⟩,
      ⟨(some 15), .pick (.t 12) (.c (.bool true)) (.t 14), none, [], [], false⟩,
      ⟨(some 16), .mv (.t 15), none, [], [], false⟩,
      ⟨(some 17), .mv (.t 1), (some (16, false)), [], [], false⟩,
      ⟨(some 18), .mv (.t 2), (some (16, false)), [], [], false⟩,
      ⟨(some 19), .bin .geq .int (.t 17) (.t 18), (some (16, false)), [], [], false⟩,
      ⟨(some 20), .pick (.t 16) (.c (.bool true)) (.t 19), none, [], [], false⟩])
   (.cond (.t 20)
    (.seq
     (.region [
       ⟨(some 8), .mv (.c (.int .i64 (-1))), none, [], [], false⟩])
    .ret)
    .skip))
  (.seq
   (.region [
     ⟨(some 21), .mv (.t 3), none, [], [], false⟩,
     ⟨(some 22), .call (.t 21) [] false, none, [], [], false⟩,
     ⟨(some 8), .mv (.t 22), none, [], [], false⟩])
  .ret))),
  [.tmp 8]⟩

/-- wainscot/chart.Head$1 -/
def i42 : IFun := ⟨4,
  (.seq
   (.region [
     ⟨(some 1), .mv (.c (.int .i64 0)), none, [], [], false⟩])
  (.seq
   (.region [
     ⟨(some 2), .load false 1 (.t 0), none, [], [], false⟩,
     ⟨(some 3), .bin .mul .int (.c (.int .i64 4)) (.t 2), none, [], [], false⟩,
     ⟨(some 1), .mv (.t 3), none, [], [], false⟩])
  .ret)),
  [.tmp 1]⟩

/-- wainscot/chart.Part$1 -/
def i43 : IFun := ⟨5,
  (.seq
   (.region [
     ⟨(some 1), .mv (.c (.int .i64 0)), none, [], [], false⟩])
  (.seq
   (.region [
     ⟨(some 2), .load false 1 (.t 0), none, [], [], false⟩,
     ⟨(some 3), .bin .mul .int (.c (.int .i64 4)) (.t 2), none, [], [], false⟩,
     ⟨(some 4), .bin .add .int (.t 3) (.c (.int .i64 2)), none, [], [], false⟩,
     ⟨(some 1), .mv (.t 4), none, [], [], false⟩])
  .ret)),
  [.tmp 1]⟩

/-- wainscot/chart.Lock$1 -/
def i44 : IFun := ⟨4,
  (.seq
   (.region [
     ⟨(some 1), .mv (.c (.int .i64 0)), none, [], [], false⟩])
  (.seq
   (.region [
     ⟨(some 2), .load true 6 (.t 0), none, [], [], false⟩,
     ⟨(some 3), .call (.c (.func (.func 45) #[] #[])) [(.t 2)] true, none, [], [], false⟩,
     ⟨(some 1), .mv (.t 3), none, [], [], false⟩])
  .ret)),
  [.tmp 1]⟩

/-- wainscot/chart.base -/
def i45 : IFun := ⟨6,
  (.seq
   (.region [
     ⟨(some 1), .box 24 6 (.t 0), none, [], [], false⟩,
     ⟨(some 2), .mv (.c (.int .i64 0)), none, [], [], false⟩])
  (.seq
   (.region [
     ⟨(some 3), .addOff 0 (.t 1), none, [], [], false⟩,
     ⟨(some 4), .load false 1 (.t 3), none, [], [], false⟩,
     ⟨(some 5), .bin .mul .int (.c (.int .i64 4)) (.t 4), none, [], [], false⟩,
     ⟨(some 2), .mv (.t 5), none, [], [], false⟩])
  .ret)),
  [.tmp 2]⟩

/-- wainscot/chart.Shelf$1 -/
def i46 : IFun := ⟨5,
  (.seq
   (.region [
     ⟨(some 1), .mv (.c (.int .i64 0)), none, [], [], false⟩])
  (.seq
   (.region [
     ⟨(some 2), .load true 6 (.t 0), none, [], [], false⟩,
     ⟨(some 3), .call (.c (.func (.func 45) #[] #[])) [(.t 2)] true, none, [], [], false⟩,
     ⟨(some 4), .bin .add .int (.t 3) (.c (.int .i64 1)), none, [], [], false⟩,
     ⟨(some 1), .mv (.t 4), none, [], [], false⟩])
  .ret)),
  [.tmp 1]⟩

/-- wainscot/chart.Held$1 -/
def i47 : IFun := ⟨5,
  (.seq
   (.region [
     ⟨(some 1), .mv (.c (.int .i64 0)), none, [], [], false⟩])
  (.seq
   (.region [
     ⟨(some 2), .load true 6 (.t 0), none, [], [], false⟩,
     ⟨(some 3), .call (.c (.func (.func 45) #[] #[])) [(.t 2)] true, none, [], [], false⟩,
     ⟨(some 4), .bin .add .int (.t 3) (.c (.int .i64 2)), none, [], [], false⟩,
     ⟨(some 1), .mv (.t 4), none, [], [], false⟩])
  .ret)),
  [.tmp 1]⟩

/-- wainscot/chart.First$1 -/
def i48 : IFun := ⟨8,
  (.seq
   (.region [
     ⟨(some 2), .mv (.c (.int .i64 0)), none, [], [], false⟩])
  (.seq
   (.region [
     ⟨(some 3), .load true 6 (.t 0), none, [], [], false⟩,
     ⟨(some 4), .call (.c (.func (.func 49) #[] #[])) [(.t 3)] true, none, [], [], false⟩,
     ⟨(some 5), .load false 1 (.t 1), none, [], [], false⟩,
     ⟨(some 6), .bin .mul .int (.c (.int .i64 4)) (.t 5), none, [], [], false⟩,
     ⟨(some 7), .bin .add .int (.t 4) (.t 6), none, [], [], false⟩,
     ⟨(some 2), .mv (.t 7), none, [], [], false⟩])
  .ret)),
  [.tmp 2]⟩

/-- wainscot/chart.slabs -/
def i49 : IFun := ⟨6,
  (.seq
   (.region [
     ⟨(some 1), .box 24 6 (.t 0), none, [], [], false⟩,
     ⟨(some 2), .mv (.c (.int .i64 0)), none, [], [], false⟩])
  (.seq
   (.region [
     ⟨(some 3), .load true 6 (.t 1), none, [], [], false⟩,
     ⟨(some 4), .call (.c (.func (.func 45) #[] #[])) [(.t 3)] true, none, [], [], false⟩,
     ⟨(some 5), .bin .add .int (.t 4) (.c (.int .i64 4)), none, [], [], false⟩,
     ⟨(some 2), .mv (.t 5), none, [], [], false⟩])
  .ret)),
  [.tmp 2]⟩

/-- wainscot/chart.Next$1 -/
def i50 : IFun := ⟨9,
  (.seq
   (.region [
     ⟨(some 2), .mv (.c (.int .i64 0)), none, [], [], false⟩])
  (.seq
   (.region [
     ⟨(some 3), .load true 6 (.t 0), none, [], [], false⟩,
     ⟨(some 4), .call (.c (.func (.func 49) #[] #[])) [(.t 3)] true, none, [], [], false⟩,
     ⟨(some 5), .load false 1 (.t 1), none, [], [], false⟩,
     ⟨(some 6), .bin .mul .int (.c (.int .i64 4)) (.t 5), none, [], [], false⟩,
     ⟨(some 7), .bin .add .int (.t 4) (.t 6), none, [], [], false⟩,
     ⟨(some 8), .bin .add .int (.t 7) (.c (.int .i64 2)), none, [], [], false⟩,
     ⟨(some 2), .mv (.t 8), none, [], [], false⟩])
  .ret)),
  [.tmp 2]⟩

/-- wainscot/chart.Link$1 -/
def i51 : IFun := ⟨13,
  (.seq
   (.region [
     ⟨(some 3), .mv (.c (.int .i64 0)), none, [], [], false⟩])
  (.seq
   (.region [
     ⟨(some 4), .load true 6 (.t 0), none, [], [], false⟩,
     ⟨(some 5), .call (.c (.func (.func 40) #[] #[])) [(.t 4)] true, none, [], [], false⟩,
     ⟨(some 6), .load false 1 (.t 1), none, [], [], false⟩,
     ⟨(some 7), .addOff 2 (.t 0), none, [], [], false⟩,
     ⟨(some 8), .load false 1 (.t 7), none, [], [], false⟩,
     ⟨(some 9), .bin .mul .int (.t 6) (.t 8), none, [], [], false⟩,
     ⟨(some 10), .bin .add .int (.t 5) (.t 9), none, [], [], false⟩,
     ⟨(some 11), .load false 1 (.t 2), none, [], [], false⟩,
     ⟨(some 12), .bin .add .int (.t 10) (.t 11), none, [], [], false⟩,
     ⟨(some 3), .mv (.t 12), none, [], [], false⟩])
  .ret)),
  [.tmp 3]⟩

/-- (wainscot/chart.reader).slot -/
def i54 : IFun := ⟨71,
  (.seq
   (.region [
     ⟨(some 2), .box 64 7 (.t 0), none, [], [], false⟩,
     ⟨(some 4), .new 58 [(.int .i64 0), (.slice none 0 0), (.int .u64 0), (.slice none 0 0)], none, [], [], false⟩,
     ⟨(some 5), .mv (.c (.bool false)), none, [], [], false⟩])
  (.seq
   (.region [
     ⟨(some 10), .addOff 1 (.t 2), none, [], [], false⟩,
     ⟨(some 11), .load true 6 (.t 10), none, [], [], false⟩,
     ⟨(some 12), .mv (.t 1), none, [], [], false⟩,
     ⟨(some 13), .call (.c (.func (.func 10) #[] #[])) [(.t 11), (.t 12)] true, none, [], [], false⟩,
     ⟨(some 6), .mv (.t 13), none, [], [], false⟩])
  (.seq
   (.region [
     ⟨(some 15), .addOff 0 (.t 2), none, [], [], false⟩,
     ⟨(some 16), .load false 1 (.t 15), none, [], [], false⟩,
     ⟨(some 17), .mv (.t 6), none, [], [], false⟩,
     ⟨(some 18), .idxS 1 (.t 16) (.t 17), none, [], [], false⟩,
     ⟨(some 19), .load false 1 (.t 18), none, [], [], false⟩,
     ⟨(some 20), .call (.c (.func (.func 62) #[] #[])) [(.t 19)] true, none, [], [], false⟩,
     ⟨(some 14), .mv (.t 20), none, [], [], false⟩,
     ⟨(some 21), .extract (.t 14) 0, none, [], [], false⟩,
     ⟨(some 22), .extract (.t 14) 1, none, [], [], false⟩,
     ⟨(some 23), .extract (.t 14) 2, none, [], [], false⟩,
     ⟨(some 7), .mv (.t 21), none, [], [], false⟩,
     ⟨(some 8), .mv (.t 22), none, [], [], false⟩,
     ⟨(some 9), .mv (.t 23), none, [], [], false⟩])
  (.seq
   (.seq
    (.region [
      ⟨(some 24), .mv (.t 9), none, [], [], false⟩,
      ⟨(some 25), .un .not (.t 24), none, [], [], false⟩,
      ⟨(some 26), .mv (.t 25), none, [], [], false⟩,
      ⟨(some 27), .mv (.t 7), (some (26, false)), [], [], false⟩,
      ⟨(some 28), .addOff 1 (.t 2), (some (26, false)), [], [], false⟩,
      ⟨(some 29), .addOff 1 (.t 28), (some (26, false)), [], [], false⟩,
      ⟨(some 30), .load false 1 (.t 29), (some (26, false)), [], [], false⟩,
      ⟨(some 31), .bin .geq .int (.t 27) (.t 30), (some (26, false)), [], [], false⟩,
      ⟨(some 32), .pick (.t 26) (.c (.bool true)) (.t 31), none, [], [], false⟩])
   (.cond (.t 32)
    (.seq
     (.region [
       ⟨(some 33), .build [(.int .i64 0), (.slice none 0 0), (.int .u64 0), (.slice none 0 0)] [], none, [], [], false⟩,
       ⟨none, .store 4 (.t 4) (.t 33), none, [], [], false⟩,
       ⟨(some 5), .mv (.c (.bool false)), none, [], [], false⟩])
    .ret)
    .skip))
  (.seq
   (.region [
     ⟨(some 34), .mv (.t 7), none, [], [], false⟩,
     ⟨(some 35), .addOff 0 (.t 2), none, [], [], false⟩,
     ⟨(some 36), .load false 1 (.t 35), none, [], [], false⟩,
     ⟨(some 37), .mv (.t 6), none, [], [], false⟩,
     ⟨(some 38), .bin .add .int (.t 37) (.c (.int .i64 1)), none, [], [], false⟩,
     ⟨(some 39), .idxS 1 (.t 36) (.t 38), none, [], [], false⟩,
     ⟨(some 40), .load false 1 (.t 39), none, [], [], false⟩,
     ⟨(some 41), .build [(.int .i64 0), (.slice none 0 0), (.int .u64 0), (.slice none 0 0)] [(0, 1, (.t 34)), (2, 1, (.t 40))], none, [], [], false⟩,
     ⟨none, .store 4 (.t 4) (.t 41), none, [], [], false⟩])
  (.seq
   (.seq
    (.region [
      ⟨(some 42), .mv (.t 7), none, [], [], false⟩,
      ⟨(some 43), .bin .neq .int (.t 42) (.c (.int .i64 (-1))), none, [], [], false⟩])
   (.cond (.t 43)
    (.seq
     (.region [
       ⟨(some 45), .load true 7 (.t 2), none, [], [], false⟩,
       ⟨(some 46), .mv (.t 7), none, [], [], false⟩,
       ⟨(some 47), .mv (.t 8), none, [], [], false⟩,
       ⟨(some 48), .call (.c (.func (.func 63) #[] #[])) [(.t 45), (.t 46), (.t 47)] true, none, [], [], false⟩,
       ⟨(some 44), .mv (.t 48), none, [], [], false⟩,
       ⟨(some 49), .extract (.t 44) 0, none, [], [], false⟩,
       ⟨(some 50), .extract (.t 44) 1, none, [], [], false⟩,
       ⟨(some 51), .addOff 1 (.t 4), none, [], [], false⟩,
       ⟨none, .store 1 (.t 51) (.t 49), none, [], [], false⟩,
       ⟨(some 5), .mv (.t 50), none, [], [], false⟩])
    (.seq
     (.region [
       ⟨(some 52), .mv (.t 5), none, [], [], false⟩,
       ⟨(some 53), .un .not (.t 52), none, [], [], false⟩])
    (.cond (.t 53)
     (.seq
      (.region [
        ⟨(some 54), .build [(.int .i64 0), (.slice none 0 0), (.int .u64 0), (.slice none 0 0)] [], none, [], [], false⟩,
        ⟨none, .store 4 (.t 4) (.t 54), none, [], [], false⟩,
        ⟨(some 5), .mv (.c (.bool false)), none, [], [], false⟩])
     .ret)
     .skip)))
    .skip))
  (.seq
   (.seq
    (.region [
      ⟨(some 56), .load true 7 (.t 2), none, [], [], false⟩,
      ⟨(some 57), .addOff 0 (.t 2), none, [], [], false⟩,
      ⟨(some 58), .load false 1 (.t 57), none, [], [], false⟩,
      ⟨(some 59), .mv (.t 6), none, [], [], false⟩,
      ⟨(some 60), .bin .add .int (.t 59) (.c (.int .i64 2)), none, [], [], false⟩,
      ⟨(some 61), .idxS 1 (.t 58) (.t 60), none, [], [], false⟩,
      ⟨(some 62), .load false 1 (.t 61), none, [], [], false⟩,
      ⟨(some 63), .call (.c (.func (.func 55) #[] #[])) [(.t 56), (.t 62), (.c (.func (.func 64) #[] #[]))] true, none, [], [], false⟩,
      ⟨(some 55), .mv (.t 63), none, [], [], false⟩,
      ⟨(some 64), .extract (.t 55) 0, none, [], [], false⟩,
      ⟨(some 65), .extract (.t 55) 1, none, [], [], false⟩,
      ⟨(some 66), .addOff 3 (.t 4), none, [], [], false⟩,
      ⟨none, .store 1 (.t 66) (.t 64), none, [], [], false⟩,
      ⟨(some 5), .mv (.t 65), none, [], [], false⟩])
   (.seq
    (.region [
      ⟨(some 67), .mv (.t 5), none, [], [], false⟩,
      ⟨(some 68), .un .not (.t 67), none, [], [], false⟩])
   (.cond (.t 68)
    (.seq
     (.region [
       ⟨(some 69), .build [(.int .i64 0), (.slice none 0 0), (.int .u64 0), (.slice none 0 0)] [], none, [], [], false⟩,
       ⟨none, .store 4 (.t 4) (.t 69), none, [], [], false⟩,
       ⟨(some 5), .mv (.c (.bool false)), none, [], [], false⟩])
    .ret)
    .skip)))
  (.seq
   (.region [
     ⟨(some 70), .load true 4 (.t 4), none, [], [], false⟩,
     ⟨none, .store 4 (.t 4) (.t 70), none, [], [], false⟩,
     ⟨(some 5), .mv (.c (.bool true)), none, [], [], false⟩])
  .ret)))))))),
  [.cell 4 true 4, .tmp 5]⟩

/-- (wainscot/chart.reader).chain -/
def i55 : IFun := ⟨48,
  (.seq
   (.region [
     ⟨(some 3), .box 64 7 (.t 0), none, [], [], false⟩,
     ⟨(some 6), .mv (.c (.slice none 0 0)), none, [], [], false⟩,
     ⟨(some 7), .mv (.c (.bool false)), none, [], [], false⟩])
  (.seq
   (.region [
     ⟨(some 11), .mkMap, none, [], [], false⟩,
     ⟨(some 8), .mv (.t 11), none, [], [], false⟩])
  (.block 0
   (.loop
    (.block 1
     (.seq
      (.region [
        ⟨(some 13), .mv (.t 2), none, [], [], false⟩,
        ⟨(some 14), .mv (.t 1), none, [], [], false⟩,
        ⟨(some 15), .call (.t 13) [(.t 14)] false, none, [], [], false⟩,
        ⟨(some 12), .mv (.t 15), none, [], [], false⟩,
        ⟨(some 16), .extract (.t 12) 0, none, [], [], false⟩,
        ⟨(some 17), .extract (.t 12) 1, none, [], [], false⟩,
        ⟨(some 9), .mv (.t 16), none, [], [], false⟩,
        ⟨(some 10), .mv (.t 17), none, [], [], false⟩])
     (.seq
      (.block 2
       (.seq
        (.seq
         (.region [
           ⟨(some 19), .mv (.t 10), none, [], [], false⟩,
           ⟨(some 20), .un .not (.t 19), none, [], [], false⟩,
           ⟨(some 18), .mv (.t 20), none, [], [], false⟩])
        (.cond (.t 18)
         .skip
         (.seq
          (.region [
            ⟨(some 21), .mv (.t 9), none, [], [], false⟩,
            ⟨(some 22), .addOff 1 (.t 3), none, [], [], false⟩,
            ⟨(some 23), .addOff 1 (.t 22), none, [], [], false⟩,
            ⟨(some 24), .load false 1 (.t 23), none, [], [], false⟩,
            ⟨(some 25), .bin .geq .int (.t 21) (.t 24), none, [], [], false⟩,
            ⟨(some 18), .mv (.t 25), none, [], [], false⟩])
         (.cond (.t 18)
          .skip
          (.region [
            ⟨(some 26), .mv (.t 8), none, [], [], false⟩,
            ⟨(some 27), .mv (.t 9), none, [], [], false⟩,
            ⟨(some 28), .lookup (.int .i64 0) false (.t 26) (.t 27), none, [], [], false⟩,
            ⟨(some 29), .bin .gtr .int (.t 28) (.c (.int .i64 0)), none, [], [], false⟩,
            ⟨(some 18), .mv (.t 29), none, [], [], false⟩])))))
       (.cond (.t 18)
        (.seq
         (.region [
           ⟨(some 6), .mv (.c (.slice none 0 0)), none, [], [], false⟩,
           ⟨(some 7), .mv (.c (.bool false)), none, [], [], false⟩])
        .ret)
        (.seq
         (.region [
           ⟨(some 31), .mv (.t 9), none, [], [], false⟩,
           ⟨(some 32), .bin .eql .int (.t 31) (.c (.int .i64 (-1))), none, [], [], false⟩,
           ⟨(some 30), .mv (.t 32), none, [], [], false⟩])
        (.cond (.t 30)
         (.seq
          (.region [
            ⟨(some 33), .mv (.t 6), none, [], [], false⟩,
            ⟨(some 6), .mv (.t 33), none, [], [], false⟩,
            ⟨(some 7), .mv (.c (.bool true)), none, [], [], false⟩])
         .ret)
         .skip)))))
     (.seq
      (.region [
        ⟨(some 34), .mv (.t 8), none, [], [], false⟩,
        ⟨(some 35), .mv (.t 9), none, [], [], false⟩,
        ⟨none, .mapSet (.t 34) (.t 35) (.c (.int .i64 1)), none, [], [], false⟩])
     (.seq
      (.region [
        ⟨(some 36), .mv (.t 6), none, [], [], false⟩,
        ⟨(some 37), .mv (.t 9), none, [], [], false⟩,
        ⟨(some 38), .buildSlice 3 [(.int .i64 0)] 1 [(0, 1, (.t 37))], none, [], [], false⟩,
        ⟨(some 39), .append 3 1 8 (.t 36) (.t 38), none, [], [], false⟩,
        ⟨(some 6), .mv (.t 39), none, [], [], false⟩])
     (.region [
       ⟨(some 40), .addOff 0 (.t 3), none, [], [], false⟩,
       ⟨(some 41), .load false 1 (.t 40), none, [], [], false⟩,
       ⟨(some 42), .addOff 1 (.t 3), none, [], [], false⟩,
       ⟨(some 43), .load true 6 (.t 42), none, [], [], false⟩,
       ⟨(some 44), .mv (.t 9), none, [], [], false⟩,
       ⟨(some 45), .call (.c (.func (.func 16) #[] #[])) [(.t 43), (.t 44)] true, none, [], [], false⟩,
       ⟨(some 46), .idxS 1 (.t 41) (.t 45), none, [], [], false⟩,
       ⟨(some 47), .load false 1 (.t 46), none, [], [], false⟩,
       ⟨(some 1), .mv (.t 47), none, [], [], false⟩])))))))))),
  [.tmp 6, .tmp 7]⟩

/-- wainscot/chart.shelfOf -/
def i56 : IFun := ⟨9,
  (.seq
   (.region [
     ⟨(some 2), .mv (.c (.int .i64 0)), none, [], [], false⟩,
     ⟨(some 3), .mv (.c (.bool false)), none, [], [], false⟩])
  (.seq
   (.region [
     ⟨(some 4), .mv (.t 0), none, [], [], false⟩,
     ⟨(some 5), .conv .i64 (.t 4), none, [], [], false⟩,
     ⟨(some 6), .bin .sub .int (.t 5) (.c (.int .i64 1)), none, [], [], false⟩,
     ⟨(some 7), .mv (.t 0), none, [], [], false⟩,
     ⟨(some 8), .bin .leq .int (.t 7) (.c (.int .u64 32)), none, [], [], false⟩,
     ⟨(some 2), .mv (.t 6), none, [], [], false⟩,
     ⟨(some 3), .mv (.t 8), none, [], [], false⟩])
  .ret)),
  [.tmp 2, .tmp 3]⟩

/-- (wainscot/chart.reader).slab -/
def i57 : IFun := ⟨53,
  (.seq
   (.region [
     ⟨(some 2), .box 64 7 (.t 0), none, [], [], false⟩,
     ⟨(some 4), .new 62 [(.int .i64 0), (.int .i64 0), (.bool false), (.bool false), (.slice none 0 0)], none, [], [], false⟩,
     ⟨(some 5), .mv (.c (.bool false)), none, [], [], false⟩])
  (.seq
   (.region [
     ⟨(some 8), .addOff 1 (.t 2), none, [], [], false⟩,
     ⟨(some 9), .load true 6 (.t 8), none, [], [], false⟩,
     ⟨(some 10), .mv (.t 1), none, [], [], false⟩,
     ⟨(some 11), .call (.c (.func (.func 15) #[] #[])) [(.t 9), (.t 10)] true, none, [], [], false⟩,
     ⟨(some 6), .mv (.t 11), none, [], [], false⟩])
  (.seq
   (.region [
     ⟨(some 12), .addOff 0 (.t 2), none, [], [], false⟩,
     ⟨(some 13), .load false 1 (.t 12), none, [], [], false⟩,
     ⟨(some 14), .mv (.t 6), none, [], [], false⟩,
     ⟨(some 15), .idxS 1 (.t 13) (.t 14), none, [], [], false⟩,
     ⟨(some 16), .load false 1 (.t 15), none, [], [], false⟩,
     ⟨(some 7), .mv (.t 16), none, [], [], false⟩])
  (.seq
   (.seq
    (.region [
      ⟨(some 18), .addOff 0 (.t 2), none, [], [], false⟩,
      ⟨(some 19), .load false 1 (.t 18), none, [], [], false⟩,
      ⟨(some 20), .mv (.t 6), none, [], [], false⟩,
      ⟨(some 21), .bin .add .int (.t 20) (.c (.int .i64 1)), none, [], [], false⟩,
      ⟨(some 22), .idxS 1 (.t 19) (.t 21), none, [], [], false⟩,
      ⟨(some 23), .load false 1 (.t 22), none, [], [], false⟩,
      ⟨(some 24), .call (.c (.func (.func 65) #[] #[])) [(.t 23)] true, none, [], [], false⟩,
      ⟨(some 17), .mv (.t 24), none, [], [], false⟩,
      ⟨(some 25), .extract (.t 17) 0, none, [], [], false⟩,
      ⟨(some 26), .extract (.t 17) 1, none, [], [], false⟩,
      ⟨(some 27), .addOff 0 (.t 4), none, [], [], false⟩,
      ⟨none, .store 4 (.t 27) (.t 25), none, [], [], false⟩,
      ⟨(some 5), .mv (.t 26), none, [], [], false⟩])
   (.seq
    (.region [
      ⟨(some 28), .mv (.t 5), none, [], [], false⟩,
      ⟨(some 29), .un .not (.t 28), none, [], [], false⟩,
      ⟨(some 30), .mv (.t 29), none, [], [], false⟩,
      ⟨(some 31), .mv (.t 7), (some (30, false)), [], [], false⟩,
      ⟨(some 32), .addOff 1 (.t 2), (some (30, false)), [], [], false⟩,
      ⟨(some 33), .addOff 2 (.t 32), (some (30, false)), [], [], false⟩,
      ⟨(some 34), .load false 1 (.t 33), (some (30, false)), [], [], false⟩,
      ⟨(some 35), .conv .u64 (.t 34), (some (30, false)), [], [], false⟩,
      ⟨(some 36), .bin .gtr .int (.t 31) (.t 35), (some (30, false)), [], [], false⟩,
      ⟨(some 37), .pick (.t 30) (.c (.bool true)) (.t 36), none, [], [], false⟩])
   (.cond (.t 37)
    (.seq
     (.region [
       ⟨(some 38), .build [(.int .i64 0), (.int .i64 0), (.bool false), (.bool false), (.slice none 0 0)] [], none, [], [], false⟩,
       ⟨none, .store 5 (.t 4) (.t 38), none, [], [], false⟩,
       ⟨(some 5), .mv (.c (.bool false)), none, [], [], false⟩])
    .ret)
    .skip)))
  (.seq
   (.seq
    (.region [
      ⟨(some 40), .load true 7 (.t 2), none, [], [], false⟩,
      ⟨(some 41), .mv (.t 1), none, [], [], false⟩,
      ⟨(some 42), .mv (.t 7), none, [], [], false⟩,
      ⟨(some 43), .conv .i64 (.t 42), none, [], [], false⟩,
      ⟨(some 44), .bin .sub .int (.t 43) (.c (.int .i64 1)), none, [], [], false⟩,
      ⟨(some 45), .call (.c (.func (.func 63) #[] #[])) [(.t 40), (.t 41), (.t 44)] true, none, [], [], false⟩,
      ⟨(some 39), .mv (.t 45), none, [], [], false⟩,
      ⟨(some 46), .extract (.t 39) 0, none, [], [], false⟩,
      ⟨(some 47), .extract (.t 39) 1, none, [], [], false⟩,
      ⟨(some 48), .addOff 4 (.t 4), none, [], [], false⟩,
      ⟨none, .store 1 (.t 48) (.t 46), none, [], [], false⟩,
      ⟨(some 5), .mv (.t 47), none, [], [], false⟩])
   (.seq
    (.region [
      ⟨(some 49), .mv (.t 5), none, [], [], false⟩,
      ⟨(some 50), .un .not (.t 49), none, [], [], false⟩])
   (.cond (.t 50)
    (.seq
     (.region [
       ⟨(some 51), .build [(.int .i64 0), (.int .i64 0), (.bool false), (.bool false), (.slice none 0 0)] [], none, [], [], false⟩,
       ⟨none, .store 5 (.t 4) (.t 51), none, [], [], false⟩,
       ⟨(some 5), .mv (.c (.bool false)), none, [], [], false⟩])
    .ret)
    .skip)))
  (.seq
   (.region [
     ⟨(some 52), .load true 5 (.t 4), none, [], [], false⟩,
     ⟨none, .store 5 (.t 4) (.t 52), none, [], [], false⟩,
     ⟨(some 5), .mv (.c (.bool true)), none, [], [], false⟩])
  .ret)))))),
  [.cell 4 true 5, .tmp 5]⟩

/-- wainscot/count.HeadOf -/
def i62 : IFun := ⟨15,
  (.seq
   (.region [
     ⟨(some 2), .mv (.c (.int .i64 0)), none, [], [], false⟩,
     ⟨(some 3), .mv (.c (.int .i64 0)), none, [], [], false⟩,
     ⟨(some 4), .mv (.c (.bool false)), none, [], [], false⟩])
  (.seq
   (.region [
     ⟨(some 6), .mv (.t 0), none, [], [], false⟩,
     ⟨(some 7), .call (.c (.func (.func 71) #[] #[])) [(.t 6), (.c (.int .i64 1)), (.c (.int .i64 1)), (.c (.func (.func 72) #[] #[]))] true, none, [], [], false⟩,
     ⟨(some 5), .mv (.t 7), none, [], [], false⟩,
     ⟨(some 8), .extract (.t 5) 0, none, [], [], false⟩,
     ⟨(some 9), .extract (.t 5) 1, none, [], [], false⟩,
     ⟨(some 10), .extract (.t 5) 2, none, [], [], false⟩,
     ⟨(some 2), .mv (.t 8), none, [], [], false⟩,
     ⟨(some 3), .mv (.t 9), none, [], [], false⟩,
     ⟨(some 4), .mv (.t 10), none, [], [], false⟩])
  (.seq
   (.seq
    (.region [
      ⟨(some 11), .mv (.t 4), none, [], [], false⟩,
      ⟨(some 12), .un .not (.t 11), none, [], [], false⟩])
   (.cond (.t 12)
    (.seq
     (.region [
       ⟨(some 2), .mv (.c (.int .i64 (-1))), none, [], [], false⟩,
       ⟨(some 3), .mv (.c (.int .i64 (-1))), none, [], [], false⟩,
       ⟨(some 4), .mv (.c (.bool false)), none, [], [], false⟩])
    .ret)
    .skip))
  (.seq
   (.region [
     ⟨(some 13), .mv (.t 2), none, [], [], false⟩,
     ⟨(some 14), .mv (.t 3), none, [], [], false⟩,
     ⟨(some 2), .mv (.t 13), none, [], [], false⟩,
     ⟨(some 3), .mv (.t 14), none, [], [], false⟩,
     ⟨(some 4), .mv (.c (.bool true)), none, [], [], false⟩])
  .ret)))),
  [.tmp 2, .tmp 3, .tmp 4]⟩

/-- (wainscot/chart.reader).list -/
def i63 : IFun := ⟨41,
  (.seq
   (.region [
     ⟨(some 3), .box 64 7 (.t 0), none, [], [], false⟩,
     ⟨(some 6), .mv (.c (.slice none 0 0)), none, [], [], false⟩,
     ⟨(some 7), .mv (.c (.bool false)), none, [], [], false⟩])
  (.seq
   (.seq
    (.region [
      ⟨(some 11), .mv (.t 2), none, [], [], false⟩,
      ⟨(some 12), .addOff 1 (.t 3), none, [], [], false⟩,
      ⟨(some 13), .addOff 2 (.t 12), none, [], [], false⟩,
      ⟨(some 14), .load false 1 (.t 13), none, [], [], false⟩,
      ⟨(some 15), .bin .geq .int (.t 11) (.t 14), none, [], [], false⟩])
   (.cond (.t 15)
    (.seq
     (.region [
       ⟨(some 6), .mv (.c (.slice none 0 0)), none, [], [], false⟩,
       ⟨(some 7), .mv (.c (.bool false)), none, [], [], false⟩])
    .ret)
    .skip))
  (.seq
   (.region [
     ⟨(some 16), .addOff 1 (.t 3), none, [], [], false⟩,
     ⟨(some 17), .load true 6 (.t 16), none, [], [], false⟩,
     ⟨(some 18), .mv (.t 1), none, [], [], false⟩,
     ⟨(some 19), .call (.c (.func (.func 17) #[] #[])) [(.t 17), (.t 18), (.c (.int .i64 0))] true, none, [], [], false⟩,
     ⟨(some 8), .mv (.t 19), none, [], [], false⟩])
  (.seq
   (.region [
     ⟨(some 21), .addOff 0 (.t 3), none, [], [], false⟩,
     ⟨(some 22), .load false 1 (.t 21), none, [], [], false⟩,
     ⟨(some 23), .mv (.t 8), none, [], [], false⟩,
     ⟨(some 24), .mv (.t 8), none, [], [], false⟩,
     ⟨(some 25), .addOff 1 (.t 3), none, [], [], false⟩,
     ⟨(some 26), .addOff 2 (.t 25), none, [], [], false⟩,
     ⟨(some 27), .load false 1 (.t 26), none, [], [], false⟩,
     ⟨(some 28), .bin .add .int (.t 24) (.t 27), none, [], [], false⟩,
     ⟨(some 29), .slice 22 (.t 22) (some (.t 23)) (some (.t 28)) none, none, [], [], false⟩,
     ⟨(some 30), .addOff 1 (.t 3), none, [], [], false⟩,
     ⟨(some 31), .load true 6 (.t 30), none, [], [], false⟩,
     ⟨(some 32), .mv (.t 1), none, [], [], false⟩,
     ⟨(some 33), .call (.c (.func (.func 29) #[] #[])) [(.t 31), (.t 32)] true, none, [], [], false⟩,
     ⟨(some 34), .mv (.t 2), none, [], [], false⟩,
     ⟨(some 35), .call (.c (.func (.func 74) #[] #[])) [(.t 29), (.t 33), (.t 34)] true, none, [], [], false⟩,
     ⟨(some 20), .mv (.t 35), none, [], [], false⟩,
     ⟨(some 36), .extract (.t 20) 0, none, [], [], false⟩,
     ⟨(some 37), .extract (.t 20) 1, none, [], [], false⟩,
     ⟨(some 9), .mv (.t 36), none, [], [], false⟩,
     ⟨(some 10), .mv (.t 37), none, [], [], false⟩])
  (.seq
   (.region [
     ⟨(some 38), .mv (.t 9), none, [], [], false⟩,
     ⟨(some 39), .mv (.t 10), none, [], [], false⟩,
     ⟨(some 40), .bin .eql .int (.t 39) (.c (.int .i64 0)), none, [], [], false⟩,
     ⟨(some 6), .mv (.t 38), none, [], [], false⟩,
     ⟨(some 7), .mv (.t 40), none, [], [], false⟩])
  .ret))))),
  [.tmp 6, .tmp 7]⟩

/-- wainscot/chart.partOf -/
def i64 : IFun := ⟨15,
  (.seq
   (.region [
     ⟨(some 2), .mv (.c (.int .i64 0)), none, [], [], false⟩,
     ⟨(some 3), .mv (.c (.bool false)), none, [], [], false⟩])
  (.seq
   (.region [
     ⟨(some 8), .mv (.t 0), none, [], [], false⟩,
     ⟨(some 9), .call (.c (.func (.func 75) #[] #[])) [(.t 8)] true, none, [], [], false⟩,
     ⟨(some 7), .mv (.t 9), none, [], [], false⟩,
     ⟨(some 10), .extract (.t 7) 0, none, [], [], false⟩,
     ⟨(some 11), .extract (.t 7) 1, none, [], [], false⟩,
     ⟨(some 12), .extract (.t 7) 2, none, [], [], false⟩,
     ⟨(some 4), .mv (.t 10), none, [], [], false⟩,
     ⟨(some 5), .mv (.t 11), none, [], [], false⟩,
     ⟨(some 6), .mv (.t 12), none, [], [], false⟩])
  (.seq
   (.region [
     ⟨(some 13), .mv (.t 4), none, [], [], false⟩,
     ⟨(some 14), .mv (.t 6), none, [], [], false⟩,
     ⟨(some 2), .mv (.t 13), none, [], [], false⟩,
     ⟨(some 3), .mv (.t 14), none, [], [], false⟩])
  .ret))),
  [.tmp 2, .tmp 3]⟩

/-- wainscot/count.Counts -/
def i65 : IFun := ⟨28,
  (.seq
   (.region [
     ⟨(some 2), .new 60 [(.int .i64 0), (.int .i64 0), (.bool false), (.bool false)], none, [], [], false⟩,
     ⟨(some 3), .mv (.c (.bool false)), none, [], [], false⟩])
  (.seq
   (.region [
     ⟨(some 5), .mv (.t 0), none, [], [], false⟩,
     ⟨(some 6), .bin .and .int (.t 5) (.c (.int .u64 255)), none, [], [], false⟩,
     ⟨(some 7), .conv .i64 (.t 6), none, [], [], false⟩,
     ⟨(some 8), .mv (.t 0), none, [], [], false⟩,
     ⟨(some 9), .bin .shr .int (.t 8) (.c (.int .u64 8)), none, [], [], false⟩,
     ⟨(some 10), .bin .and .int (.t 9) (.c (.int .u64 255)), none, [], [], false⟩,
     ⟨(some 11), .conv .i64 (.t 10), none, [], [], false⟩,
     ⟨(some 12), .mv (.t 0), none, [], [], false⟩,
     ⟨(some 13), .bin .and .int (.t 12) (.c (.int .u64 65536)), none, [], [], false⟩,
     ⟨(some 14), .bin .neq .int (.t 13) (.c (.int .u64 0)), none, [], [], false⟩,
     ⟨(some 15), .mv (.t 0), none, [], [], false⟩,
     ⟨(some 16), .bin .and .int (.t 15) (.c (.int .u64 131072)), none, [], [], false⟩,
     ⟨(some 17), .bin .neq .int (.t 16) (.c (.int .u64 0)), none, [], [], false⟩,
     ⟨(some 18), .build [(.int .i64 0), (.int .i64 0), (.bool false), (.bool false)] [(0, 1, (.t 7)), (1, 1, (.t 11)), (2, 1, (.t 14)), (3, 1, (.t 17))], none, [], [], false⟩,
     ⟨(some 4), .new 60 [(.int .i64 0), (.int .i64 0), (.bool false), (.bool false)], none, [], [], false⟩,
     ⟨none, .store 4 (.t 4) (.t 18), none, [], [], false⟩])
  (.seq
   (.seq
    (.region [
      ⟨(some 19), .mv (.t 0), none, [], [], false⟩,
      ⟨(some 20), .bin .geq .int (.t 19) (.c (.int .u64 262144)), none, [], [], false⟩,
      ⟨(some 21), .mv (.t 20), none, [], [], false⟩,
      ⟨(some 22), .load true 4 (.t 4), (some (21, false)), [], [], false⟩,
      ⟨(some 23), .call (.c (.func (.func 76) #[] #[])) [(.t 22)] true, (some (21, false)), [], [], false⟩,
      ⟨(some 24), .un .not (.t 23), (some (21, false)), [], [], false⟩,
      ⟨(some 25), .pick (.t 21) (.c (.bool true)) (.t 24), none, [], [], false⟩])
   (.cond (.t 25)
    (.seq
     (.region [
       ⟨(some 26), .build [(.int .i64 0), (.int .i64 0), (.bool false), (.bool false)] [], none, [], [], false⟩,
       ⟨none, .store 4 (.t 2) (.t 26), none, [], [], false⟩,
       ⟨(some 3), .mv (.c (.bool false)), none, [], [], false⟩])
    .ret)
    .skip))
  (.seq
   (.region [
     ⟨(some 27), .load true 4 (.t 4), none, [], [], false⟩,
     ⟨none, .store 4 (.t 2) (.t 27), none, [], [], false⟩,
     ⟨(some 3), .mv (.c (.bool true)), none, [], [], false⟩])
  .ret)))),
  [.cell 2 true 4, .tmp 3]⟩

/-- wainscot/count.told[int] -/
def i71 : IFun := ⟨34,
  (.seq
   (.region [
     ⟨(some 8), .mv (.c (.int .i64 0)), none, [], [], false⟩,
     ⟨(some 9), .mv (.c (.int .i64 0)), none, [], [], false⟩,
     ⟨(some 10), .mv (.c (.bool false)), none, [], [], false⟩])
  (.seq
   (.region [
     ⟨(some 13), .mv (.t 0), none, [], [], false⟩,
     ⟨(some 14), .bin .shr .int (.t 13) (.c (.int .u64 6)), none, [], [], false⟩,
     ⟨(some 15), .conv .i64 (.t 14), none, [], [], false⟩,
     ⟨(some 16), .mv (.t 1), none, [], [], false⟩,
     ⟨(some 17), .bin .sub .int (.t 15) (.t 16), none, [], [], false⟩,
     ⟨(some 18), .mv (.t 0), none, [], [], false⟩,
     ⟨(some 19), .bin .and .int (.t 18) (.c (.int .u64 63)), none, [], [], false⟩,
     ⟨(some 20), .conv .i64 (.t 19), none, [], [], false⟩,
     ⟨(some 21), .mv (.t 2), none, [], [], false⟩,
     ⟨(some 22), .bin .sub .int (.t 20) (.t 21), none, [], [], false⟩,
     ⟨(some 11), .mv (.t 17), none, [], [], false⟩,
     ⟨(some 12), .mv (.t 22), none, [], [], false⟩])
  (.seq
   (.seq
    (.region [
      ⟨(some 23), .mv (.t 0), none, [], [], false⟩,
      ⟨(some 24), .bin .gtr .int (.t 23) (.c (.int .u64 4095)), none, [], [], false⟩,
      ⟨(some 25), .mv (.t 24), none, [], [], false⟩,
      ⟨(some 26), .mv (.t 3), (some (25, false)), [], [], false⟩,
      ⟨(some 27), .mv (.t 11), (some (25, false)), [], [], false⟩,
      ⟨(some 28), .mv (.t 12), (some (25, false)), [], [], false⟩,
      ⟨(some 29), .call (.t 26) [(.t 27), (.t 28)] false, (some (25, false)), [], [], false⟩,
      ⟨(some 30), .un .not (.t 29), (some (25, false)), [], [], false⟩,
      ⟨(some 31), .pick (.t 25) (.c (.bool true)) (.t 30), none, [], [], false⟩])
   (.cond (.t 31)
    (.seq
     (.region [
       ⟨(some 8), .mv (.c (.int .i64 0)), none, [], [], false⟩,
       ⟨(some 9), .mv (.c (.int .i64 0)), none, [], [], false⟩,
       ⟨(some 10), .mv (.c (.bool false)), none, [], [], false⟩])
    .ret)
    .skip))
  (.seq
   (.region [
     ⟨(some 32), .mv (.t 11), none, [], [], false⟩,
     ⟨(some 33), .mv (.t 12), none, [], [], false⟩,
     ⟨(some 8), .mv (.t 32), none, [], [], false⟩,
     ⟨(some 9), .mv (.t 33), none, [], [], false⟩,
     ⟨(some 10), .mv (.c (.bool true)), none, [], [], false⟩])
  .ret)))),
  [.tmp 8, .tmp 9, .tmp 10]⟩

/-- wainscot/count.HeadOf$1 -/
def i72 : IFun := ⟨15,
  (.seq
   (.region [
     ⟨(some 4), .mv (.c (.bool false)), none, [], [], false⟩])
  (.seq
   (.region [
     ⟨(some 8), .mv (.t 0), none, [], [], false⟩,
     ⟨(some 9), .mv (.t 1), none, [], [], false⟩,
     ⟨(some 10), .call (.c (.func (.func 73) #[] #[])) [(.t 8), (.t 9)] true, none, [], [], false⟩,
     ⟨(some 7), .mv (.t 10), none, [], [], false⟩,
     ⟨(some 11), .extract (.t 7) 0, none, [], [], false⟩,
     ⟨(some 12), .extract (.t 7) 1, none, [], [], false⟩,
     ⟨(some 5), .mv (.t 11), none, [], [], false⟩,
     ⟨(some 6), .mv (.t 12), none, [], [], false⟩])
  (.seq
   (.region [
     ⟨(some 13), .mv (.t 6), none, [], [], false⟩,
     ⟨(some 14), .bin .eql .int (.t 13) (.c (.int .i64 0)), none, [], [], false⟩,
     ⟨(some 4), .mv (.t 14), none, [], [], false⟩])
  .ret))),
  [.tmp 4]⟩

/-- wainscot/count.Head -/
def i73 : IFun := ⟨33,
  (.seq
   (.region [
     ⟨(some 4), .mv (.c (.int .u64 0)), none, [], [], false⟩,
     ⟨(some 5), .mv (.c (.int .i64 0)), none, [], [], false⟩])
  (.seq
   (.block 0
    (.seq
     (.region [
       ⟨(some 7), .mv (.t 0), none, [], [], false⟩,
       ⟨(some 8), .bin .eql .int (.t 7) (.c (.int .i64 (-1))), none, [], [], false⟩,
       ⟨(some 9), .mv (.t 8), none, [], [], false⟩,
       ⟨(some 10), .mv (.t 1), (some (9, true)), [], [], false⟩,
       ⟨(some 11), .bin .eql .int (.t 10) (.c (.int .i64 (-1))), (some (9, true)), [], [], false⟩,
       ⟨(some 12), .pick (.t 9) (.t 11) (.c (.bool false)), none, [], [], false⟩,
       ⟨(some 6), .mv (.t 12), none, [], [], false⟩])
    (.cond (.t 6)
     (.seq
      (.region [
        ⟨(some 4), .mv (.c (.int .u64 0)), none, [], [], false⟩,
        ⟨(some 5), .mv (.c (.int .i64 0)), none, [], [], false⟩])
     .ret)
     (.seq
      (.region [
        ⟨(some 14), .mv (.t 0), none, [], [], false⟩,
        ⟨(some 15), .call (.c (.func (.func 81) #[] #[])) [(.t 14)] true, none, [], [], false⟩,
        ⟨(some 16), .un .not (.t 15), none, [], [], false⟩,
        ⟨(some 17), .mv (.t 16), none, [], [], false⟩,
        ⟨(some 18), .mv (.t 1), (some (17, false)), [], [], false⟩,
        ⟨(some 19), .bin .lss .int (.t 18) (.c (.int .i64 (-1))), (some (17, false)), [], [], false⟩,
        ⟨(some 20), .pick (.t 17) (.c (.bool true)) (.t 19), none, [], [], false⟩,
        ⟨(some 21), .mv (.t 20), none, [], [], false⟩,
        ⟨(some 22), .mv (.t 1), (some (21, false)), [], [], false⟩,
        ⟨(some 23), .bin .geq .int (.t 22) (.c (.int .i64 16)), (some (21, false)), [], [], false⟩,
        ⟨(some 24), .pick (.t 21) (.c (.bool true)) (.t 23), none, [], [], false⟩,
        ⟨(some 13), .mv (.t 24), none, [], [], false⟩])
     (.cond (.t 13)
      (.seq
       (.region [
         ⟨(some 4), .mv (.c (.int .u64 0)), none, [], [], false⟩,
         ⟨(some 5), .mv (.c (.int .i64 2)), none, [], [], false⟩])
      .ret)
      .skip)))))
  (.seq
   (.region [
     ⟨(some 25), .mv (.t 0), none, [], [], false⟩,
     ⟨(some 26), .bin .add .int (.t 25) (.c (.int .i64 1)), none, [], [], false⟩,
     ⟨(some 27), .conv .u64 (.t 26), none, [], [], false⟩,
     ⟨(some 28), .bin .shl .int (.t 27) (.c (.int .u64 6)), none, [], [], false⟩,
     ⟨(some 29), .mv (.t 1), none, [], [], false⟩,
     ⟨(some 30), .bin .add .int (.t 29) (.c (.int .i64 1)), none, [], [], false⟩,
     ⟨(some 31), .conv .u64 (.t 30), none, [], [], false⟩,
     ⟨(some 32), .bin .or .int (.t 28) (.t 31), none, [], [], false⟩,
     ⟨(some 4), .mv (.t 32), none, [], [], false⟩,
     ⟨(some 5), .mv (.c (.int .i64 0)), none, [], [], false⟩])
  .ret))),
  [.tmp 4, .tmp 5]⟩

/-- wainscot/link.List -/
def i74 : IFun := ⟨58,
  (.seq
   (.region [
     ⟨(some 6), .mv (.c (.slice none 0 0)), none, [], [], false⟩,
     ⟨(some 7), .mv (.c (.int .i64 0)), none, [], [], false⟩])
  (.seq
   (.seq
    (.region [
      ⟨(some 12), .mv (.t 0), none, [], [], false⟩,
      ⟨(some 13), .lenS (.t 12), none, [], [], false⟩,
      ⟨(some 14), .bin .gtr .int (.t 13) (.c (.int .i64 16)), none, [], [], false⟩,
      ⟨(some 15), .mv (.t 14), none, [], [], false⟩,
      ⟨(some 16), .mv (.t 2), (some (15, false)), [], [], false⟩,
      ⟨(some 17), .bin .lss .int (.t 16) (.c (.int .i64 (-1))), (some (15, false)), [], [], false⟩,
      ⟨(some 18), .pick (.t 15) (.c (.bool true)) (.t 17), none, [], [], false⟩,
      ⟨(some 19), .mv (.t 18), none, [], [], false⟩,
      ⟨(some 20), .mv (.t 2), (some (19, false)), [], [], false⟩,
      ⟨(some 21), .mv (.t 0), (some (19, false)), [], [], false⟩,
      ⟨(some 22), .lenS (.t 21), (some (19, false)), [], [], false⟩,
      ⟨(some 23), .bin .geq .int (.t 20) (.t 22), (some (19, false)), [], [], false⟩,
      ⟨(some 24), .pick (.t 19) (.c (.bool true)) (.t 23), none, [], [], false⟩])
   (.cond (.t 24)
    (.seq
     (.region [
       ⟨(some 6), .mv (.c (.slice none 0 0)), none, [], [], false⟩,
       ⟨(some 7), .mv (.c (.int .i64 2)), none, [], [], false⟩])
    .ret)
    .skip))
  (.seq
   (.region [
     ⟨(some 8), .new 97 [(.bool false), (.bool false), (.bool false), (.bool false), (.bool false), (.bool false), (.bool false), (.bool false), (.bool false), (.bool false), (.bool false), (.bool false), (.bool false), (.bool false), (.bool false), (.bool false)], none, [], [], false⟩])
  (.seq
   (.region [
     ⟨(some 9), .mv (.c (.slice none 0 0)), none, [], [], false⟩])
  (.seq
   .skip
  (.seq
   (.block 0
    (.loop
     (.block 1
      (.seq
       (.block 2
        (.seq
         (.region [
           ⟨(some 26), .mv (.t 2), none, [], [], false⟩,
           ⟨(some 27), .bin .eql .int (.t 26) (.c (.int .i64 (-1))), none, [], [], false⟩,
           ⟨(some 25), .mv (.t 27), none, [], [], false⟩])
        (.cond (.t 25)
         (.exit 0)
         (.seq
          (.region [
            ⟨(some 29), .mv (.t 2), none, [], [], false⟩,
            ⟨(some 30), .idxA 16 1 (.t 8) (.t 29), none, [], [], false⟩,
            ⟨(some 31), .load false 1 (.t 30), none, [], [], false⟩,
            ⟨(some 28), .mv (.t 31), none, [], [], false⟩])
         (.cond (.t 28)
          (.seq
           (.region [
             ⟨(some 6), .mv (.c (.slice none 0 0)), none, [], [], false⟩,
             ⟨(some 7), .mv (.c (.int .i64 150)), none, [], [], false⟩])
          .ret)
          .skip)))))
      (.seq
       (.region [
         ⟨(some 32), .mv (.t 2), none, [], [], false⟩,
         ⟨(some 33), .idxA 16 1 (.t 8) (.t 32), none, [], [], false⟩,
         ⟨none, .store 1 (.t 33) (.c (.bool true)), none, [], [], false⟩])
      (.seq
       (.region [
         ⟨(some 34), .mv (.t 9), none, [], [], false⟩,
         ⟨(some 35), .mv (.t 2), none, [], [], false⟩,
         ⟨(some 36), .buildSlice 3 [(.int .i64 0)] 1 [(0, 1, (.t 35))], none, [], [], false⟩,
         ⟨(some 37), .append 3 1 8 (.t 34) (.t 36), none, [], [], false⟩,
         ⟨(some 9), .mv (.t 37), none, [], [], false⟩])
      (.seq
       (.region [
         ⟨(some 39), .mv (.t 0), none, [], [], false⟩,
         ⟨(some 40), .mv (.t 2), none, [], [], false⟩,
         ⟨(some 41), .idxS 1 (.t 39) (.t 40), none, [], [], false⟩,
         ⟨(some 42), .load false 1 (.t 41), none, [], [], false⟩,
         ⟨(some 43), .mv (.t 1), none, [], [], false⟩,
         ⟨(some 44), .mv (.t 2), none, [], [], false⟩,
         ⟨(some 45), .call (.c (.func (.func 82) #[] #[])) [(.t 42), (.t 43), (.t 44)] true, none, [], [], false⟩,
         ⟨(some 38), .mv (.t 45), none, [], [], false⟩,
         ⟨(some 46), .extract (.t 38) 0, none, [], [], false⟩,
         ⟨(some 47), .extract (.t 38) 1, none, [], [], false⟩,
         ⟨(some 10), .mv (.t 46), none, [], [], false⟩,
         ⟨(some 11), .mv (.t 47), none, [], [], false⟩])
      (.seq
       (.seq
        (.region [
          ⟨(some 48), .mv (.t 11), none, [], [], false⟩,
          ⟨(some 49), .un .not (.t 48), none, [], [], false⟩,
          ⟨(some 50), .mv (.t 49), none, [], [], false⟩,
          ⟨(some 51), .mv (.t 10), (some (50, false)), [], [], false⟩,
          ⟨(some 52), .mv (.t 0), (some (50, false)), [], [], false⟩,
          ⟨(some 53), .lenS (.t 52), (some (50, false)), [], [], false⟩,
          ⟨(some 54), .bin .geq .int (.t 51) (.t 53), (some (50, false)), [], [], false⟩,
          ⟨(some 55), .pick (.t 50) (.c (.bool true)) (.t 54), none, [], [], false⟩])
       (.cond (.t 55)
        (.seq
         (.region [
           ⟨(some 6), .mv (.c (.slice none 0 0)), none, [], [], false⟩,
           ⟨(some 7), .mv (.c (.int .i64 150)), none, [], [], false⟩])
        .ret)
        .skip))
      (.region [
        ⟨(some 56), .mv (.t 10), none, [], [], false⟩,
        ⟨(some 2), .mv (.t 56), none, [], [], false⟩])))))))))
  (.seq
   (.region [
     ⟨(some 57), .mv (.t 9), none, [], [], false⟩,
     ⟨(some 6), .mv (.t 57), none, [], [], false⟩,
     ⟨(some 7), .mv (.c (.int .i64 0)), none, [], [], false⟩])
  .ret))))))),
  [.tmp 6, .tmp 7]⟩

/-- wainscot/count.PartOf -/
def i75 : IFun := ⟨15,
  (.seq
   (.region [
     ⟨(some 2), .mv (.c (.int .i64 0)), none, [], [], false⟩,
     ⟨(some 3), .mv (.c (.int .i64 0)), none, [], [], false⟩,
     ⟨(some 4), .mv (.c (.bool false)), none, [], [], false⟩])
  (.seq
   (.region [
     ⟨(some 6), .mv (.t 0), none, [], [], false⟩,
     ⟨(some 7), .call (.c (.func (.func 71) #[] #[])) [(.t 6), (.c (.int .i64 0)), (.c (.int .i64 1)), (.c (.func (.func 83) #[] #[]))] true, none, [], [], false⟩,
     ⟨(some 5), .mv (.t 7), none, [], [], false⟩,
     ⟨(some 8), .extract (.t 5) 0, none, [], [], false⟩,
     ⟨(some 9), .extract (.t 5) 1, none, [], [], false⟩,
     ⟨(some 10), .extract (.t 5) 2, none, [], [], false⟩,
     ⟨(some 3), .mv (.t 8), none, [], [], false⟩,
     ⟨(some 2), .mv (.t 9), none, [], [], false⟩,
     ⟨(some 4), .mv (.t 10), none, [], [], false⟩])
  (.seq
   (.seq
    (.region [
      ⟨(some 11), .mv (.t 4), none, [], [], false⟩,
      ⟨(some 12), .un .not (.t 11), none, [], [], false⟩])
   (.cond (.t 12)
    (.seq
     (.region [
       ⟨(some 2), .mv (.c (.int .i64 (-1))), none, [], [], false⟩,
       ⟨(some 3), .mv (.c (.int .i64 0)), none, [], [], false⟩,
       ⟨(some 4), .mv (.c (.bool false)), none, [], [], false⟩])
    .ret)
    .skip))
  (.seq
   (.region [
     ⟨(some 13), .mv (.t 2), none, [], [], false⟩,
     ⟨(some 14), .mv (.t 3), none, [], [], false⟩,
     ⟨(some 2), .mv (.t 13), none, [], [], false⟩,
     ⟨(some 3), .mv (.t 14), none, [], [], false⟩,
     ⟨(some 4), .mv (.c (.bool true)), none, [], [], false⟩])
  .ret)))),
  [.tmp 2, .tmp 3, .tmp 4]⟩

/-- wainscot/count.may -/
def i76 : IFun := ⟨32,
  (.seq
   (.region [
     ⟨(some 1), .box 60 4 (.t 0), none, [], [], false⟩,
     ⟨(some 2), .mv (.c (.bool false)), none, [], [], false⟩])
  (.seq
   (.region [
     ⟨(some 3), .addOff 3 (.t 1), none, [], [], false⟩,
     ⟨(some 4), .load false 1 (.t 3), none, [], [], false⟩,
     ⟨(some 5), .mv (.t 4), none, [], [], false⟩,
     ⟨(some 6), .addOff 1 (.t 1), (some (5, true)), [], [], false⟩,
     ⟨(some 7), .load false 1 (.t 6), (some (5, true)), [], [], false⟩,
     ⟨(some 8), .bin .leq .int (.c (.int .i64 1)) (.t 7), (some (5, true)), [], [], false⟩,
     ⟨(some 9), .pick (.t 5) (.t 8) (.c (.bool false)), none, [], [], false⟩,
     ⟨(some 10), .mv (.t 9), none, [], [], false⟩,
     ⟨(some 11), .addOff 1 (.t 1), (some (10, true)), [], [], false⟩,
     ⟨(some 12), .load false 1 (.t 11), (some (10, true)), [], [], false⟩,
     ⟨(some 13), .bin .leq .int (.t 12) (.c (.int .i64 16)), (some (10, true)), [], [], false⟩,
     ⟨(some 14), .pick (.t 10) (.t 13) (.c (.bool false)), none, [], [], false⟩,
     ⟨(some 15), .mv (.t 14), none, [], [], false⟩,
     ⟨(some 16), .addOff 0 (.t 1), (some (15, true)), [], [], false⟩,
     ⟨(some 17), .load false 1 (.t 16), (some (15, true)), [], [], false⟩,
     ⟨(some 18), .bin .leq .int (.c (.int .i64 0)) (.t 17), (some (15, true)), [], [], false⟩,
     ⟨(some 19), .pick (.t 15) (.t 18) (.c (.bool false)), none, [], [], false⟩,
     ⟨(some 20), .mv (.t 19), none, [], [], false⟩,
     ⟨(some 21), .addOff 0 (.t 1), (some (20, true)), [], [], false⟩,
     ⟨(some 22), .load false 1 (.t 21), (some (20, true)), [], [], false⟩,
     ⟨(some 23), .addOff 1 (.t 1), (some (20, true)), [], [], false⟩,
     ⟨(some 24), .load false 1 (.t 23), (some (20, true)), [], [], false⟩,
     ⟨(some 25), .bin .leq .int (.t 22) (.t 24), (some (20, true)), [], [], false⟩,
     ⟨(some 26), .pick (.t 20) (.t 25) (.c (.bool false)), none, [], [], false⟩,
     ⟨(some 27), .mv (.t 26), none, [], [], false⟩,
     ⟨(some 28), .load true 4 (.t 1), (some (27, false)), [], [], false⟩,
     ⟨(some 29), .build [(.int .i64 0), (.int .i64 0), (.bool false), (.bool false)] [], (some (27, false)), [], [], false⟩,
     ⟨(some 30), .bin .eql (.plain [(some .i64), (some .i64), none, none]) (.t 28) (.t 29), (some (27, false)), [], [], false⟩,
     ⟨(some 31), .pick (.t 27) (.c (.bool true)) (.t 30), none, [], [], false⟩,
     ⟨(some 2), .mv (.t 31), none, [], [], false⟩])
  .ret)),
  [.tmp 2]⟩

/-- wainscot/count.slabMay -/
def i81 : IFun := ⟨9,
  (.seq
   (.region [
     ⟨(some 2), .mv (.c (.bool false)), none, [], [], false⟩])
  (.seq
   (.region [
     ⟨(some 3), .mv (.t 0), none, [], [], false⟩,
     ⟨(some 4), .bin .leq .int (.c (.int .i64 0)) (.t 3), none, [], [], false⟩,
     ⟨(some 5), .mv (.t 4), none, [], [], false⟩,
     ⟨(some 6), .mv (.t 0), (some (5, true)), [], [], false⟩,
     ⟨(some 7), .bin .lss .int (.t 6) (.c (.int .i64 32)), (some (5, true)), [], [], false⟩,
     ⟨(some 8), .pick (.t 5) (.t 7) (.c (.bool false)), none, [], [], false⟩,
     ⟨(some 2), .mv (.t 8), none, [], [], false⟩])
  .ret)),
  [.tmp 2]⟩

/-- wainscot/link.Show -/
def i82 : IFun := ⟨21,
  (.seq
   (.region [
     ⟨(some 6), .mv (.c (.int .i64 0)), none, [], [], false⟩,
     ⟨(some 7), .mv (.c (.bool false)), none, [], [], false⟩])
  (.seq
   (.seq
    (.region [
      ⟨(some 8), .mv (.t 2), none, [], [], false⟩,
      ⟨(some 9), .call (.c (.func (.func 88) #[] #[])) [(.t 8)] true, none, [], [], false⟩,
      ⟨(some 10), .un .not (.t 9), none, [], [], false⟩])
   (.cond (.t 10)
    (.seq
     (.region [
       ⟨(some 6), .mv (.c (.int .i64 0)), none, [], [], false⟩,
       ⟨(some 7), .mv (.c (.bool false)), none, [], [], false⟩])
    .ret)
    .skip))
  (.seq
   (.seq
    (.region [
      ⟨(some 11), .mv (.t 0), none, [], [], false⟩,
      ⟨(some 12), .mv (.t 1), none, [], [], false⟩,
      ⟨(some 13), .mv (.t 2), none, [], [], false⟩,
      ⟨(some 14), .call (.c (.func (.func 89) #[] #[])) [(.t 12), (.t 13)] true, none, [], [], false⟩,
      ⟨(some 15), .bin .xor .int (.t 11) (.t 14), none, [], [], false⟩,
      ⟨(some 0), .mv (.t 15), none, [], [], false⟩])
   (.seq
    (.region [
      ⟨(some 16), .mv (.t 0), none, [], [], false⟩,
      ⟨(some 17), .bin .gtr .int (.t 16) (.c (.int .u64 16)), none, [], [], false⟩])
   (.cond (.t 17)
    (.seq
     (.region [
       ⟨(some 6), .mv (.c (.int .i64 0)), none, [], [], false⟩,
       ⟨(some 7), .mv (.c (.bool false)), none, [], [], false⟩])
    .ret)
    .skip)))
  (.seq
   (.region [
     ⟨(some 18), .mv (.t 0), none, [], [], false⟩,
     ⟨(some 19), .conv .i64 (.t 18), none, [], [], false⟩,
     ⟨(some 20), .bin .sub .int (.t 19) (.c (.int .i64 1)), none, [], [], false⟩,
     ⟨(some 6), .mv (.t 20), none, [], [], false⟩,
     ⟨(some 7), .mv (.c (.bool true)), none, [], [], false⟩])
  .ret)))),
  [.tmp 6, .tmp 7]⟩

/-- wainscot/count.PartOf$1 -/
def i83 : IFun := ⟨15,
  (.seq
   (.region [
     ⟨(some 4), .mv (.c (.bool false)), none, [], [], false⟩])
  (.seq
   (.region [
     ⟨(some 8), .mv (.t 1), none, [], [], false⟩,
     ⟨(some 9), .mv (.t 0), none, [], [], false⟩,
     ⟨(some 10), .call (.c (.func (.func 84) #[] #[])) [(.t 8), (.t 9)] true, none, [], [], false⟩,
     ⟨(some 7), .mv (.t 10), none, [], [], false⟩,
     ⟨(some 11), .extract (.t 7) 0, none, [], [], false⟩,
     ⟨(some 12), .extract (.t 7) 1, none, [], [], false⟩,
     ⟨(some 5), .mv (.t 11), none, [], [], false⟩,
     ⟨(some 6), .mv (.t 12), none, [], [], false⟩])
  (.seq
   (.region [
     ⟨(some 13), .mv (.t 6), none, [], [], false⟩,
     ⟨(some 14), .bin .eql .int (.t 13) (.c (.int .i64 0)), none, [], [], false⟩,
     ⟨(some 4), .mv (.t 14), none, [], [], false⟩])
  .ret))),
  [.tmp 4]⟩

/-- wainscot/count.Part -/
def i84 : IFun := ⟨32,
  (.seq
   (.region [
     ⟨(some 4), .mv (.c (.int .u64 0)), none, [], [], false⟩,
     ⟨(some 5), .mv (.c (.int .i64 0)), none, [], [], false⟩])
  (.seq
   (.block 0
    (.seq
     (.region [
       ⟨(some 7), .mv (.t 0), none, [], [], false⟩,
       ⟨(some 8), .bin .eql .int (.t 7) (.c (.int .i64 (-1))), none, [], [], false⟩,
       ⟨(some 9), .mv (.t 8), none, [], [], false⟩,
       ⟨(some 10), .mv (.t 1), (some (9, true)), [], [], false⟩,
       ⟨(some 11), .bin .eql .int (.t 10) (.c (.int .i64 0)), (some (9, true)), [], [], false⟩,
       ⟨(some 12), .pick (.t 9) (.t 11) (.c (.bool false)), none, [], [], false⟩,
       ⟨(some 6), .mv (.t 12), none, [], [], false⟩])
    (.cond (.t 6)
     (.seq
      (.region [
        ⟨(some 4), .mv (.c (.int .u64 0)), none, [], [], false⟩,
        ⟨(some 5), .mv (.c (.int .i64 0)), none, [], [], false⟩])
     .ret)
     (.seq
      (.region [
        ⟨(some 14), .mv (.t 0), none, [], [], false⟩,
        ⟨(some 15), .call (.c (.func (.func 81) #[] #[])) [(.t 14)] true, none, [], [], false⟩,
        ⟨(some 16), .un .not (.t 15), none, [], [], false⟩,
        ⟨(some 17), .mv (.t 16), none, [], [], false⟩,
        ⟨(some 18), .mv (.t 1), (some (17, false)), [], [], false⟩,
        ⟨(some 19), .bin .lss .int (.t 18) (.c (.int .i64 1)), (some (17, false)), [], [], false⟩,
        ⟨(some 20), .pick (.t 17) (.c (.bool true)) (.t 19), none, [], [], false⟩,
        ⟨(some 21), .mv (.t 20), none, [], [], false⟩,
        ⟨(some 22), .mv (.t 1), (some (21, false)), [], [], false⟩,
        ⟨(some 23), .bin .gtr .int (.t 22) (.c (.int .i64 63)), (some (21, false)), [], [], false⟩,
        ⟨(some 24), .pick (.t 21) (.c (.bool true)) (.t 23), none, [], [], false⟩,
        ⟨(some 13), .mv (.t 24), none, [], [], false⟩])
     (.cond (.t 13)
      (.seq
       (.region [
         ⟨(some 4), .mv (.c (.int .u64 0)), none, [], [], false⟩,
         ⟨(some 5), .mv (.c (.int .i64 2)), none, [], [], false⟩])
      .ret)
      .skip)))))
  (.seq
   (.region [
     ⟨(some 25), .mv (.t 1), none, [], [], false⟩,
     ⟨(some 26), .conv .u64 (.t 25), none, [], [], false⟩,
     ⟨(some 27), .bin .shl .int (.t 26) (.c (.int .u64 6)), none, [], [], false⟩,
     ⟨(some 28), .mv (.t 0), none, [], [], false⟩,
     ⟨(some 29), .bin .add .int (.t 28) (.c (.int .i64 1)), none, [], [], false⟩,
     ⟨(some 30), .conv .u64 (.t 29), none, [], [], false⟩,
     ⟨(some 31), .bin .or .int (.t 27) (.t 30), none, [], [], false⟩,
     ⟨(some 4), .mv (.t 31), none, [], [], false⟩,
     ⟨(some 5), .mv (.c (.int .i64 0)), none, [], [], false⟩])
  .ret))),
  [.tmp 4, .tmp 5]⟩

/-- wainscot/link.object -/
def i88 : IFun := ⟨9,
  (.seq
   (.region [
     ⟨(some 2), .mv (.c (.bool false)), none, [], [], false⟩])
  (.seq
   (.region [
     ⟨(some 3), .mv (.t 0), none, [], [], false⟩,
     ⟨(some 4), .bin .leq .int (.c (.int .i64 0)) (.t 3), none, [], [], false⟩,
     ⟨(some 5), .mv (.t 4), none, [], [], false⟩,
     ⟨(some 6), .mv (.t 0), (some (5, true)), [], [], false⟩,
     ⟨(some 7), .bin .lss .int (.t 6) (.c (.int .i64 16)), (some (5, true)), [], [], false⟩,
     ⟨(some 8), .pick (.t 5) (.t 7) (.c (.bool false)), none, [], [], false⟩,
     ⟨(some 2), .mv (.t 8), none, [], [], false⟩])
  .ret)),
  [.tmp 2]⟩

/-- wainscot/link.turned -/
def i89 : IFun := ⟨13,
  (.seq
   (.region [
     ⟨(some 4), .mv (.c (.int .u64 0)), none, [], [], false⟩])
  (.seq
   (.region [
     ⟨(some 5), .mv (.t 0), none, [], [], false⟩,
     ⟨(some 6), .mv (.t 1), none, [], [], false⟩,
     ⟨(some 7), .bin .mul .int (.c (.int .i64 5)) (.t 6), none, [], [], false⟩,
     ⟨(some 8), .call (.c (.func (.func 91) #[] #[])) [(.t 5), (.t 7)] true, none, [], [], false⟩,
     ⟨(some 9), .mv (.t 1), none, [], [], false⟩,
     ⟨(some 10), .conv .u64 (.t 9), none, [], [], false⟩,
     ⟨(some 11), .bin .mul .int (.t 10) (.c (.int .u64 2654435769)), none, [], [], false⟩,
     ⟨(some 12), .bin .add .int (.t 8) (.t 11), none, [], [], false⟩,
     ⟨(some 4), .mv (.t 12), none, [], [], false⟩])
  .ret)),
  [.tmp 4]⟩

/-- math/bits.RotateLeft64 -/
def i91 : IFun := ⟨17,
  (.seq
   (.region [
     ⟨(some 4), .mv (.c (.int .u64 0)), none, [], [], false⟩])
  (.seq
   (.region [
     ⟨(some 6), .mv (.t 1), none, [], [], false⟩,
     ⟨(some 7), .conv .u64 (.t 6), none, [], [], false⟩,
     ⟨(some 8), .bin .and .int (.t 7) (.c (.int .u64 63)), none, [], [], false⟩,
     ⟨(some 5), .mv (.t 8), none, [], [], false⟩])
  (.seq
   (.region [
     ⟨(some 9), .mv (.t 0), none, [], [], false⟩,
     ⟨(some 10), .mv (.t 5), none, [], [], false⟩,
     ⟨(some 11), .bin .shl .int (.t 9) (.t 10), none, [], [], false⟩,
     ⟨(some 12), .mv (.t 0), none, [], [], false⟩,
     ⟨(some 13), .mv (.t 5), none, [], [], false⟩,
     ⟨(some 14), .bin .sub .int (.c (.int .u64 64)) (.t 13), none, [], [], false⟩,
     ⟨(some 15), .bin .shr .int (.t 12) (.t 14), none, [], [], false⟩,
     ⟨(some 16), .bin .or .int (.t 11) (.t 15), none, [], [], false⟩,
     ⟨(some 4), .mv (.t 16), none, [], [], false⟩])
  .ret))),
  [.tmp 4]⟩

theorem c7 : cFun Try.prog 0 quiet Try.f7 = some i7 := by kernel_rfl
theorem g7 : Try.prog.funcs[7]? = some Try.f7 := by kernel_rfl
theorem c8 : cFun Try.prog 0 quiet Try.f8 = some i8 := by kernel_rfl
theorem g8 : Try.prog.funcs[8]? = some Try.f8 := by kernel_rfl
theorem c9 : cFun Try.prog 0 quiet Try.f9 = some i9 := by kernel_rfl
theorem g9 : Try.prog.funcs[9]? = some Try.f9 := by kernel_rfl
theorem c10 : cFun Try.prog 0 quiet Try.f10 = some i10 := by kernel_rfl
theorem g10 : Try.prog.funcs[10]? = some Try.f10 := by kernel_rfl
theorem c11 : cFun Try.prog 0 quiet Try.f11 = some i11 := by kernel_rfl
theorem g11 : Try.prog.funcs[11]? = some Try.f11 := by kernel_rfl
theorem c12 : cFun Try.prog 0 quiet Try.f12 = some i12 := by kernel_rfl
theorem g12 : Try.prog.funcs[12]? = some Try.f12 := by kernel_rfl
theorem c13 : cFun Try.prog 0 quiet Try.f13 = some i13 := by kernel_rfl
theorem g13 : Try.prog.funcs[13]? = some Try.f13 := by kernel_rfl
theorem c14 : cFun Try.prog 0 quiet Try.f14 = some i14 := by kernel_rfl
theorem g14 : Try.prog.funcs[14]? = some Try.f14 := by kernel_rfl
theorem c15 : cFun Try.prog 0 quiet Try.f15 = some i15 := by kernel_rfl
theorem g15 : Try.prog.funcs[15]? = some Try.f15 := by kernel_rfl
theorem c16 : cFun Try.prog 0 quiet Try.f16 = some i16 := by kernel_rfl
theorem g16 : Try.prog.funcs[16]? = some Try.f16 := by kernel_rfl
theorem c17 : cFun Try.prog 0 quiet Try.f17 = some i17 := by kernel_rfl
theorem g17 : Try.prog.funcs[17]? = some Try.f17 := by kernel_rfl
theorem c29 : cFun Try.prog 0 quiet Try.f29 = some i29 := by kernel_rfl
theorem g29 : Try.prog.funcs[29]? = some Try.f29 := by kernel_rfl
theorem c31 : cFun Try.prog 0 quiet Try.f31 = some i31 := by kernel_rfl
theorem g31 : Try.prog.funcs[31]? = some Try.f31 := by kernel_rfl
theorem c33 : cFun Try.prog 0 quiet Try.f33 = some i33 := by kernel_rfl
theorem g33 : Try.prog.funcs[33]? = some Try.f33 := by kernel_rfl
theorem c39 : cFun Try.prog 0 quiet Try.f39 = some i39 := by kernel_rfl
theorem g39 : Try.prog.funcs[39]? = some Try.f39 := by kernel_rfl
theorem c40 : cFun Try.prog 0 quiet Try.f40 = some i40 := by kernel_rfl
theorem g40 : Try.prog.funcs[40]? = some Try.f40 := by kernel_rfl
theorem c41 : cFun Try.prog 0 quiet Try.f41 = some i41 := by kernel_rfl
theorem g41 : Try.prog.funcs[41]? = some Try.f41 := by kernel_rfl
theorem c42 : cFun Try.prog 0 quiet Try.f42 = some i42 := by kernel_rfl
theorem g42 : Try.prog.funcs[42]? = some Try.f42 := by kernel_rfl
theorem c43 : cFun Try.prog 0 quiet Try.f43 = some i43 := by kernel_rfl
theorem g43 : Try.prog.funcs[43]? = some Try.f43 := by kernel_rfl
theorem c44 : cFun Try.prog 0 quiet Try.f44 = some i44 := by kernel_rfl
theorem g44 : Try.prog.funcs[44]? = some Try.f44 := by kernel_rfl
theorem c45 : cFun Try.prog 0 quiet Try.f45 = some i45 := by kernel_rfl
theorem g45 : Try.prog.funcs[45]? = some Try.f45 := by kernel_rfl
theorem c46 : cFun Try.prog 0 quiet Try.f46 = some i46 := by kernel_rfl
theorem g46 : Try.prog.funcs[46]? = some Try.f46 := by kernel_rfl
theorem c47 : cFun Try.prog 0 quiet Try.f47 = some i47 := by kernel_rfl
theorem g47 : Try.prog.funcs[47]? = some Try.f47 := by kernel_rfl
theorem c48 : cFun Try.prog 0 quiet Try.f48 = some i48 := by kernel_rfl
theorem g48 : Try.prog.funcs[48]? = some Try.f48 := by kernel_rfl
theorem c49 : cFun Try.prog 0 quiet Try.f49 = some i49 := by kernel_rfl
theorem g49 : Try.prog.funcs[49]? = some Try.f49 := by kernel_rfl
theorem c50 : cFun Try.prog 0 quiet Try.f50 = some i50 := by kernel_rfl
theorem g50 : Try.prog.funcs[50]? = some Try.f50 := by kernel_rfl
theorem c51 : cFun Try.prog 0 quiet Try.f51 = some i51 := by kernel_rfl
theorem g51 : Try.prog.funcs[51]? = some Try.f51 := by kernel_rfl
theorem c54 : cFun Try.prog 0 quiet Try.f54 = some i54 := by kernel_rfl
theorem g54 : Try.prog.funcs[54]? = some Try.f54 := by kernel_rfl
theorem c55 : cFun Try.prog 0 quiet Try.f55 = some i55 := by kernel_rfl
theorem g55 : Try.prog.funcs[55]? = some Try.f55 := by kernel_rfl
theorem c56 : cFun Try.prog 0 quiet Try.f56 = some i56 := by kernel_rfl
theorem g56 : Try.prog.funcs[56]? = some Try.f56 := by kernel_rfl
theorem c57 : cFun Try.prog 0 quiet Try.f57 = some i57 := by kernel_rfl
theorem g57 : Try.prog.funcs[57]? = some Try.f57 := by kernel_rfl
theorem c62 : cFun Try.prog 0 quiet Try.f62 = some i62 := by kernel_rfl
theorem g62 : Try.prog.funcs[62]? = some Try.f62 := by kernel_rfl
theorem c63 : cFun Try.prog 0 quiet Try.f63 = some i63 := by kernel_rfl
theorem g63 : Try.prog.funcs[63]? = some Try.f63 := by kernel_rfl
theorem c64 : cFun Try.prog 0 quiet Try.f64 = some i64 := by kernel_rfl
theorem g64 : Try.prog.funcs[64]? = some Try.f64 := by kernel_rfl
theorem c65 : cFun Try.prog 0 quiet Try.f65 = some i65 := by kernel_rfl
theorem g65 : Try.prog.funcs[65]? = some Try.f65 := by kernel_rfl
theorem c71 : cFun Try.prog 0 quiet Try.f71 = some i71 := by kernel_rfl
theorem g71 : Try.prog.funcs[71]? = some Try.f71 := by kernel_rfl
theorem c72 : cFun Try.prog 0 quiet Try.f72 = some i72 := by kernel_rfl
theorem g72 : Try.prog.funcs[72]? = some Try.f72 := by kernel_rfl
theorem c73 : cFun Try.prog 0 quiet Try.f73 = some i73 := by kernel_rfl
theorem g73 : Try.prog.funcs[73]? = some Try.f73 := by kernel_rfl
theorem c74 : cFun Try.prog 0 quiet Try.f74 = some i74 := by kernel_rfl
theorem g74 : Try.prog.funcs[74]? = some Try.f74 := by kernel_rfl
theorem c75 : cFun Try.prog 0 quiet Try.f75 = some i75 := by kernel_rfl
theorem g75 : Try.prog.funcs[75]? = some Try.f75 := by kernel_rfl
theorem c76 : cFun Try.prog 0 quiet Try.f76 = some i76 := by kernel_rfl
theorem g76 : Try.prog.funcs[76]? = some Try.f76 := by kernel_rfl
theorem c81 : cFun Try.prog 0 quiet Try.f81 = some i81 := by kernel_rfl
theorem g81 : Try.prog.funcs[81]? = some Try.f81 := by kernel_rfl
theorem c82 : cFun Try.prog 0 quiet Try.f82 = some i82 := by kernel_rfl
theorem g82 : Try.prog.funcs[82]? = some Try.f82 := by kernel_rfl
theorem c83 : cFun Try.prog 0 quiet Try.f83 = some i83 := by kernel_rfl
theorem g83 : Try.prog.funcs[83]? = some Try.f83 := by kernel_rfl
theorem c84 : cFun Try.prog 0 quiet Try.f84 = some i84 := by kernel_rfl
theorem g84 : Try.prog.funcs[84]? = some Try.f84 := by kernel_rfl
theorem c88 : cFun Try.prog 0 quiet Try.f88 = some i88 := by kernel_rfl
theorem g88 : Try.prog.funcs[88]? = some Try.f88 := by kernel_rfl
theorem c89 : cFun Try.prog 0 quiet Try.f89 = some i89 := by kernel_rfl
theorem g89 : Try.prog.funcs[89]? = some Try.f89 := by kernel_rfl
theorem c91 : cFun Try.prog 0 quiet Try.f91 = some i91 := by kernel_rfl
theorem g91 : Try.prog.funcs[91]? = some Try.f91 := by kernel_rfl

def table : Tree := (.node 49 i49 (.node 31 i31 (.node 13 i13 (.node 10 i10 (.node 8 i8 (.node 7 i7 .leaf .leaf) (.node 9 i9 .leaf .leaf)) (.node 12 i12 (.node 11 i11 .leaf .leaf) .leaf)) (.node 16 i16 (.node 15 i15 (.node 14 i14 .leaf .leaf) .leaf) (.node 29 i29 (.node 17 i17 .leaf .leaf) .leaf))) (.node 43 i43 (.node 40 i40 (.node 39 i39 (.node 33 i33 .leaf .leaf) .leaf) (.node 42 i42 (.node 41 i41 .leaf .leaf) .leaf)) (.node 46 i46 (.node 45 i45 (.node 44 i44 .leaf .leaf) .leaf) (.node 48 i48 (.node 47 i47 .leaf .leaf) .leaf)))) (.node 72 i72 (.node 57 i57 (.node 54 i54 (.node 51 i51 (.node 50 i50 .leaf .leaf) .leaf) (.node 56 i56 (.node 55 i55 .leaf .leaf) .leaf)) (.node 64 i64 (.node 63 i63 (.node 62 i62 .leaf .leaf) .leaf) (.node 71 i71 (.node 65 i65 .leaf .leaf) .leaf))) (.node 82 i82 (.node 75 i75 (.node 74 i74 (.node 73 i73 .leaf .leaf) .leaf) (.node 81 i81 (.node 76 i76 .leaf .leaf) .leaf)) (.node 88 i88 (.node 84 i84 (.node 83 i83 .leaf .leaf) .leaf) (.node 91 i91 (.node 89 i89 .leaf .leaf) .leaf)))))

theorem fits : table.All (Fits Try.prog 0 quiet) := ⟨⟨_, g49, c49⟩, ⟨⟨_, g31, c31⟩, ⟨⟨_, g13, c13⟩, ⟨⟨_, g10, c10⟩, ⟨⟨_, g8, c8⟩, ⟨⟨_, g7, c7⟩, trivial, trivial⟩, ⟨⟨_, g9, c9⟩, trivial, trivial⟩⟩, ⟨⟨_, g12, c12⟩, ⟨⟨_, g11, c11⟩, trivial, trivial⟩, trivial⟩⟩, ⟨⟨_, g16, c16⟩, ⟨⟨_, g15, c15⟩, ⟨⟨_, g14, c14⟩, trivial, trivial⟩, trivial⟩, ⟨⟨_, g29, c29⟩, ⟨⟨_, g17, c17⟩, trivial, trivial⟩, trivial⟩⟩⟩, ⟨⟨_, g43, c43⟩, ⟨⟨_, g40, c40⟩, ⟨⟨_, g39, c39⟩, ⟨⟨_, g33, c33⟩, trivial, trivial⟩, trivial⟩, ⟨⟨_, g42, c42⟩, ⟨⟨_, g41, c41⟩, trivial, trivial⟩, trivial⟩⟩, ⟨⟨_, g46, c46⟩, ⟨⟨_, g45, c45⟩, ⟨⟨_, g44, c44⟩, trivial, trivial⟩, trivial⟩, ⟨⟨_, g48, c48⟩, ⟨⟨_, g47, c47⟩, trivial, trivial⟩, trivial⟩⟩⟩⟩, ⟨⟨_, g72, c72⟩, ⟨⟨_, g57, c57⟩, ⟨⟨_, g54, c54⟩, ⟨⟨_, g51, c51⟩, ⟨⟨_, g50, c50⟩, trivial, trivial⟩, trivial⟩, ⟨⟨_, g56, c56⟩, ⟨⟨_, g55, c55⟩, trivial, trivial⟩, trivial⟩⟩, ⟨⟨_, g64, c64⟩, ⟨⟨_, g63, c63⟩, ⟨⟨_, g62, c62⟩, trivial, trivial⟩, trivial⟩, ⟨⟨_, g71, c71⟩, ⟨⟨_, g65, c65⟩, trivial, trivial⟩, trivial⟩⟩⟩, ⟨⟨_, g82, c82⟩, ⟨⟨_, g75, c75⟩, ⟨⟨_, g74, c74⟩, ⟨⟨_, g73, c73⟩, trivial, trivial⟩, trivial⟩, ⟨⟨_, g81, c81⟩, ⟨⟨_, g76, c76⟩, trivial, trivial⟩, trivial⟩⟩, ⟨⟨_, g88, c88⟩, ⟨⟨_, g84, c84⟩, ⟨⟨_, g83, c83⟩, trivial, trivial⟩, trivial⟩, ⟨⟨_, g91, c91⟩, ⟨⟨_, g89, c89⟩, trivial, trivial⟩, trivial⟩⟩⟩⟩⟩

theorem mixed : Try.prog.follows .mixedOrders = true := by kernel_rfl

theorem allOk (n : Nat) : CallOK Try.prog 0 (calls table.find n) := calls_ok (stands_of fits) mixed n

end Go.Proofs.Ytpecefjgadecfaa.ChartNames
