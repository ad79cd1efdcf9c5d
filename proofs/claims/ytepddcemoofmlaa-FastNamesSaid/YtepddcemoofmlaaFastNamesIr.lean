/- The compact form of the functions that are reached (written by program), and that it is theirs. -/
import Derived.Test.YtepddcemoofmlaaAe26
import Derived.Test.YtepddcemoofmlaaProg
import Derived.KernelRfl
namespace Go.Proofs.Ytepddcemoofmlaa.FastNames
open Go Go.Proofs.Ytepddcemoofmlaa.AE
set_option maxRecDepth 100000
set_option linter.unusedVariables false

def quiet : FuncId → Bool := fun f => [13, 14, 15, 16, 17, 18, 19, 20, 21, 22, 23, 24, 25, 26, 27, 30, 32, 33, 35, 36, 37, 39, 40, 41, 42, 43, 44, 45, 46, 54, 55, 57, 58, 59, 60, 62, 64, 67, 69, 72, 74, 75, 78, 81].contains f

/-- wainscot/wainscotlaw22.FastNames -/
def i5 : IFun := ⟨201,
  (.seq
   (.region [
     ⟨(some 0), .mv (.c (.bool false)), none, [], [], false⟩])
  (.seq
   (.region [
     ⟨(some 28), .call (.c (.func (.func 7) #[] #[])) [(.c (.int .i64 2)), (.c (.int .i64 3)), (.c (.int .u64 1)), (.c (.int .u64 0))] false, none, [], [], false⟩,
     ⟨(some 27), .mv (.t 28), none, [], [], false⟩,
     ⟨(some 29), .extract (.t 27) 0, none, [], [], false⟩,
     ⟨(some 30), .extract (.t 27) 1, none, [], [], false⟩,
     ⟨(some 2), .new 26 [(.int .i64 0), (.int .i64 0), (.int .i64 0), (.int .i64 0), (.int .i64 0), (.int .u64 0)], none, [], [], false⟩,
     ⟨(some 1), .mv (.t 29), none, [], [], false⟩,
     ⟨none, .store 6 (.t 2) (.t 30), none, [], [], false⟩])
  (.seq
   (.seq
    (.region [
      ⟨(some 31), .mv (.t 1), none, [], [], false⟩,
      ⟨(some 32), .bin .eql .ptr (.t 31) (.c (.pointer none)), none, [], [], false⟩])
   (.cond (.t 32)
    (.seq
     (.region [
       ⟨(some 0), .mv (.c (.bool false)), none, [], [], false⟩])
    .ret)
    .skip))
  (.seq
   (.region [
     ⟨(some 34), .load true 6 (.t 2), none, [], [], false⟩,
     ⟨(some 35), .build [(.int .i64 0), (.int .i64 0), (.int .i64 0), (.int .i64 0), (.int .i64 0), (.int .i64 0), (.int .i64 0), (.int .u64 0), (.int .u64 0), (.int .u64 0), (.int .u64 0), (.int .u64 0), (.int .i64 0), (.int .i64 0), (.int .i64 0), (.int .i64 0), (.int .i64 0)] [], none, [], [], false⟩,
     ⟨(some 36), .call (.c (.func (.func 11) #[] #[])) [(.c (.pointer none)), (.t 34), (.t 35)] false, none, [], [], false⟩,
     ⟨(some 33), .mv (.t 36), none, [], [], false⟩,
     ⟨(some 37), .extract (.t 33) 0, none, [], [], false⟩,
     ⟨(some 38), .extract (.t 33) 1, none, [], [], false⟩,
     ⟨(some 3), .new 30 [(.int .i64 0), (.int .i64 0), (.int .i64 0), (.int .i64 0), (.int .i64 0), (.int .i64 0), (.int .i64 0), (.int .u64 0), (.int .u64 0), (.int .u64 0), (.int .u64 0), (.int .u64 0), (.int .i64 0), (.int .i64 0), (.int .i64 0), (.int .i64 0), (.int .i64 0)], none, [], [], false⟩,
     ⟨none, .store 17 (.t 3) (.t 37), none, [], [], false⟩,
     ⟨(some 4), .mv (.t 38), none, [], [], false⟩])
  (.seq
   (.region [
     ⟨(some 40), .build [(.slice none 0 0), (.int .i64 0)] [], none, [], [], false⟩,
     ⟨(some 41), .box 47 2 (.t 40), none, [], [], false⟩,
     ⟨(some 42), .load true 6 (.t 2), none, [], [], false⟩,
     ⟨(some 43), .build [(.int .i64 0), (.int .i64 0), (.int .i64 0), (.int .i64 0), (.int .i64 0), (.int .i64 0), (.int .i64 0), (.int .u64 0), (.int .u64 0), (.int .u64 0), (.int .u64 0), (.int .u64 0), (.int .i64 0), (.int .i64 0), (.int .i64 0), (.int .i64 0), (.int .i64 0)] [], none, [], [], false⟩,
     ⟨(some 44), .call (.c (.func (.func 11) #[] #[])) [(.t 41), (.t 42), (.t 43)] false, none, [], [], false⟩,
     ⟨(some 39), .mv (.t 44), none, [], [], false⟩,
     ⟨(some 45), .extract (.t 39) 0, none, [], [], false⟩,
     ⟨(some 46), .extract (.t 39) 1, none, [], [], false⟩,
     ⟨(some 5), .new 30 [(.int .i64 0), (.int .i64 0), (.int .i64 0), (.int .i64 0), (.int .i64 0), (.int .i64 0), (.int .i64 0), (.int .u64 0), (.int .u64 0), (.int .u64 0), (.int .u64 0), (.int .u64 0), (.int .i64 0), (.int .i64 0), (.int .i64 0), (.int .i64 0), (.int .i64 0)], none, [], [], false⟩,
     ⟨none, .store 17 (.t 5) (.t 45), none, [], [], false⟩,
     ⟨(some 6), .mv (.t 46), none, [], [], false⟩])
  (.seq
   (.region [
     ⟨(some 48), .mv (.t 1), none, [], [], false⟩,
     ⟨(some 49), .build [(.int .i64 0), (.int .i64 0), (.int .i64 0), (.int .i64 0), (.int .i64 0), (.int .u64 0)] [], none, [], [], false⟩,
     ⟨(some 50), .build [(.int .i64 0), (.int .i64 0), (.int .i64 0), (.int .i64 0), (.int .i64 0), (.int .i64 0), (.int .i64 0), (.int .u64 0), (.int .u64 0), (.int .u64 0), (.int .u64 0), (.int .u64 0), (.int .i64 0), (.int .i64 0), (.int .i64 0), (.int .i64 0), (.int .i64 0)] [], none, [], [], false⟩,
     ⟨(some 51), .call (.c (.func (.func 11) #[] #[])) [(.t 48), (.t 49), (.t 50)] false, none, [], [], false⟩,
     ⟨(some 47), .mv (.t 51), none, [], [], false⟩,
     ⟨(some 52), .extract (.t 47) 0, none, [], [], false⟩,
     ⟨(some 53), .extract (.t 47) 1, none, [], [], false⟩,
     ⟨(some 7), .new 30 [(.int .i64 0), (.int .i64 0), (.int .i64 0), (.int .i64 0), (.int .i64 0), (.int .i64 0), (.int .i64 0), (.int .u64 0), (.int .u64 0), (.int .u64 0), (.int .u64 0), (.int .u64 0), (.int .i64 0), (.int .i64 0), (.int .i64 0), (.int .i64 0), (.int .i64 0)], none, [], [], false⟩,
     ⟨none, .store 17 (.t 7) (.t 52), none, [], [], false⟩,
     ⟨(some 8), .mv (.t 53), none, [], [], false⟩])
  (.seq
   (.region [
     ⟨(some 54), .mv (.t 4), none, [], [], false⟩,
     ⟨(some 55), .bin .eql .int (.t 54) (.c (.int .i64 1)), none, [], [], false⟩,
     ⟨(some 56), .mv (.t 55), none, [], [], false⟩,
     ⟨(some 57), .mv (.t 6), (some (56, true)), [], [], false⟩,
     ⟨(some 58), .bin .eql .int (.t 57) (.c (.int .i64 1)), (some (56, true)), [], [], false⟩,
     ⟨(some 59), .pick (.t 56) (.t 58) (.c (.bool false)), none, [], [], false⟩,
     ⟨(some 60), .mv (.t 59), none, [], [], false⟩,
     ⟨(some 61), .mv (.t 8), (some (60, true)), [], [], false⟩,
     ⟨(some 62), .bin .eql .int (.t 61) (.c (.int .i64 2)), (some (60, true)), [], [], false⟩,
     ⟨(some 63), .pick (.t 60) (.t 62) (.c (.bool false)), none, [], [], false⟩,
     ⟨(some 9), .mv (.t 63), none, [], [], false⟩])
  (.seq
   (.region [
     ⟨(some 64), .build [(.int .i64 0), (.int .i64 0), (.int .i64 0), (.int .i64 0), (.int .i64 0), (.int .i64 0), (.int .i64 0), (.int .u64 0), (.int .u64 0), (.int .u64 0), (.int .u64 0), (.int .u64 0), (.int .i64 0), (.int .i64 0), (.int .i64 0), (.int .i64 0), (.int .i64 0)] [(3, 1, (.c (.int .i64 1)))], none, [], [], false⟩,
     ⟨(some 65), .build [(.int .i64 0), (.int .i64 0), (.int .i64 0), (.int .i64 0), (.int .i64 0), (.int .i64 0), (.int .i64 0), (.int .u64 0), (.int .u64 0), (.int .u64 0), (.int .u64 0), (.int .u64 0), (.int .i64 0), (.int .i64 0), (.int .i64 0), (.int .i64 0), (.int .i64 0)] [(4, 1, (.c (.int .i64 1)))], none, [], [], false⟩,
     ⟨(some 66), .build [(.int .i64 0), (.int .i64 0), (.int .i64 0), (.int .i64 0), (.int .i64 0), (.int .i64 0), (.int .i64 0), (.int .u64 0), (.int .u64 0), (.int .u64 0), (.int .u64 0), (.int .u64 0), (.int .i64 0), (.int .i64 0), (.int .i64 0), (.int .i64 0), (.int .i64 0)] [(2, 1, (.c (.int .i64 4)))], none, [], [], false⟩,
     ⟨(some 67), .build [(.int .i64 0), (.int .i64 0), (.int .i64 0), (.int .i64 0), (.int .i64 0), (.int .i64 0), (.int .i64 0), (.int .u64 0), (.int .u64 0), (.int .u64 0), (.int .u64 0), (.int .u64 0), (.int .i64 0), (.int .i64 0), (.int .i64 0), (.int .i64 0), (.int .i64 0)] [(2, 1, (.c (.int .i64 9)))], none, [], [], false⟩,
     ⟨(some 68), .build [(.int .i64 0), (.int .i64 0), (.int .i64 0), (.int .i64 0), (.int .i64 0), (.int .i64 0), (.int .i64 0), (.int .u64 0), (.int .u64 0), (.int .u64 0), (.int .u64 0), (.int .u64 0), (.int .i64 0), (.int .i64 0), (.int .i64 0), (.int .i64 0), (.int .i64 0)] [(2, 1, (.c (.int .i64 14)))], none, [], [], false⟩,
     ⟨(some 69), .build [(.int .i64 0), (.int .i64 0), (.int .i64 0), (.int .i64 0), (.int .i64 0), (.int .i64 0), (.int .i64 0), (.int .u64 0), (.int .u64 0), (.int .u64 0), (.int .u64 0), (.int .u64 0), (.int .i64 0), (.int .i64 0), (.int .i64 0), (.int .i64 0), (.int .i64 0)] [(2, 1, (.c (.int .i64 (-1))))], none, [], [], false⟩,
     ⟨(some 70), .buildSlice 30 [(.int .i64 0), (.int .i64 0), (.int .i64 0), (.int .i64 0), (.int .i64 0), (.int .i64 0), (.int .i64 0), (.int .u64 0), (.int .u64 0), (.int .u64 0), (.int .u64 0), (.int .u64 0), (.int .i64 0), (.int .i64 0), (.int .i64 0), (.int .i64 0), (.int .i64 0), (.int .i64 0), (.int .i64 0), (.int .i64 0), (.int .i64 0), (.int .i64 0), (.int .i64 0), (.int .i64 0), (.int .u64 0), (.int .u64 0), (.int .u64 0), (.int .u64 0), (.int .u64 0), (.int .i64 0), (.int .i64 0), (.int .i64 0), (.int .i64 0), (.int .i64 0), (.int .i64 0), (.int .i64 0), (.int .i64 0), (.int .i64 0), (.int .i64 0), (.int .i64 0), (.int .i64 0), (.int .u64 0), (.int .u64 0), (.int .u64 0), (.int .u64 0), (.int .u64 0), (.int .i64 0), (.int .i64 0), (.int .i64 0), (.int .i64 0), (.int .i64 0), (.int .i64 0), (.int .i64 0), (.int .i64 0), (.int .i64 0), (.int .i64 0), (.int .i64 0), (.int .i64 0), (.int .u64 0), (.int .u64 0), (.int .u64 0), (.int .u64 0), (.int .u64 0), (.int .i64 0), (.int .i64 0), (.int .i64 0), (.int .i64 0), (.int .i64 0), (.int .i64 0), (.int .i64 0), (.int .i64 0), (.int .i64 0), (.int .i64 0), (.int .i64 0), (.int .i64 0), (.int .u64 0), (.int .u64 0), (.int .u64 0), (.int .u64 0), (.int .u64 0), (.int .i64 0), (.int .i64 0), (.int .i64 0), (.int .i64 0), (.int .i64 0), (.int .i64 0), (.int .i64 0), (.int .i64 0), (.int .i64 0), (.int .i64 0), (.int .i64 0), (.int .i64 0), (.int .u64 0), (.int .u64 0), (.int .u64 0), (.int .u64 0), (.int .u64 0), (.int .i64 0), (.int .i64 0), (.int .i64 0), (.int .i64 0), (.int .i64 0)] 6 [(0, 17, (.t 64)), (17, 17, (.t 65)), (34, 17, (.t 66)), (51, 17, (.t 67)), (68, 17, (.t 68)), (85, 17, (.t 69))], none, [], [], false⟩,
     ⟨(some 10), .mv (.t 70), none, [], [], false⟩])
  (.seq
   (.seq
    (.region [
      ⟨(some 11), .mv (.c (.int .i64 0)), none, [], [], false⟩])
   (.block 0
    (.loop
     (.seq
      (.seq
       (.region [
         ⟨(some 71), .mv (.t 11), none, [], [], false⟩,
         ⟨(some 72), .mv (.t 10), none, [], [], false⟩,
         ⟨(some 73), .lenS (.t 72), none, [], [], false⟩,
         ⟨(some 74), .bin .lss .int (.t 71) (.t 73), none, [], [], false⟩])
      (.cond (.t 74)
       .skip
       (.exit 0)))
     (.seq
      (.block 1
       (.seq
        (.region [
          ⟨(some 78), .mv (.t 1), none, [], [], false⟩,
          ⟨(some 79), .load true 6 (.t 2), none, [], [], false⟩,
          ⟨(some 80), .mv (.t 10), none, [], [], false⟩,
          ⟨(some 81), .mv (.t 11), none, [], [], false⟩,
          ⟨(some 82), .idxS 17 (.t 80) (.t 81), none, [], [], false⟩,
          ⟨(some 83), .load true 17 (.t 82), none, [], [], false⟩,
          ⟨(some 84), .call (.c (.func (.func 11) #[] #[])) [(.t 78), (.t 79), (.t 83)] false, none, [], [], false⟩,
          ⟨(some 77), .mv (.t 84), none, [], [], false⟩,
          ⟨(some 85), .extract (.t 77) 0, none, [], [], false⟩,
          ⟨(some 86), .extract (.t 77) 1, none, [], [], false⟩,
          ⟨(some 12), .new 30 [(.int .i64 0), (.int .i64 0), (.int .i64 0), (.int .i64 0), (.int .i64 0), (.int .i64 0), (.int .i64 0), (.int .u64 0), (.int .u64 0), (.int .u64 0), (.int .u64 0), (.int .u64 0), (.int .i64 0), (.int .i64 0), (.int .i64 0), (.int .i64 0), (.int .i64 0)], none, [], [], false⟩,
          ⟨none, .store 17 (.t 12) (.t 85), none, [], [], false⟩,
          ⟨(some 13), .mv (.t 86), none, [], [], false⟩])
       (.region [
         ⟨(some 87), .mv (.t 9), none, [], [], false⟩,
         ⟨(some 88), .mv (.t 87), none, [], [], false⟩,
         ⟨(some 89), .mv (.t 13), (some (88, true)), [], [], false⟩,
         ⟨(some 90), .bin .eql .int (.t 89) (.c (.int .i64 292)), (some (88, true)), [], [], false⟩,
         ⟨(some 91), .pick (.t 88) (.t 90) (.c (.bool false)), none, [], [], false⟩,
         ⟨(some 92), .mv (.t 91), none, [], [], false⟩,
         ⟨(some 93), .load true 17 (.t 12), (some (92, true)), [], [], false⟩,
         ⟨(some 94), .build [(.int .i64 0), (.int .i64 0), (.int .i64 0), (.int .i64 0), (.int .i64 0), (.int .i64 0), (.int .i64 0), (.int .u64 0), (.int .u64 0), (.int .u64 0), (.int .u64 0), (.int .u64 0), (.int .i64 0), (.int .i64 0), (.int .i64 0), (.int .i64 0), (.int .i64 0)] [], (some (92, true)), [], [], false⟩,
         ⟨(some 95), .bin .eql (.plain [(some .i64), (some .i64), (some .i64), (some .i64), (some .i64), (some .i64), (some .i64), (some .u64), (some .u64), (some .u64), (some .u64), (some .u64), (some .i64), (some .i64), (some .i64), (some .i64), (some .i64)]) (.t 93) (.t 94), (some (92, true)), [], [], false⟩,
         ⟨(some 96), .pick (.t 92) (.t 95) (.c (.bool false)), none, [], [], false⟩,
         ⟨(some 9), .mv (.t 96), none, [], [], false⟩])))
     (.region [
       ⟨(some 75), .mv (.t 11), none, [], [], false⟩,
       ⟨(some 76), .bin .add .int (.t 75) (.c (.int .i64 1)), none, [], [], false⟩,
       ⟨(some 11), .mv (.t 76), none, [], [], false⟩]))))))
  (.seq
   (.region [
     ⟨(some 97), .build [(.int .i64 0), (.int .i64 0), (.int .i64 0), (.int .i64 0), (.int .i64 0), (.int .i64 0), (.int .i64 0), (.int .u64 0), (.int .u64 0), (.int .u64 0), (.int .u64 0), (.int .u64 0), (.int .i64 0), (.int .i64 0), (.int .i64 0), (.int .i64 0), (.int .i64 0)] [(1, 1, (.c (.int .i64 1)))], none, [], [], false⟩,
     ⟨(some 98), .build [(.int .i64 0), (.int .i64 0), (.int .i64 0), (.int .i64 0), (.int .i64 0), (.int .i64 0), (.int .i64 0), (.int .u64 0), (.int .u64 0), (.int .u64 0), (.int .u64 0), (.int .u64 0), (.int .i64 0), (.int .i64 0), (.int .i64 0), (.int .i64 0), (.int .i64 0)] [(1, 1, (.c (.int .i64 (-1)))), (2, 1, (.c (.int .i64 10)))], none, [], [], false⟩,
     ⟨(some 99), .build [(.int .i64 0), (.int .i64 0), (.int .i64 0), (.int .i64 0), (.int .i64 0), (.int .i64 0), (.int .i64 0), (.int .u64 0), (.int .u64 0), (.int .u64 0), (.int .u64 0), (.int .u64 0), (.int .i64 0), (.int .i64 0), (.int .i64 0), (.int .i64 0), (.int .i64 0)] [(2, 1, (.c (.int .i64 2))), (5, 1, (.c (.int .i64 1)))], none, [], [], false⟩,
     ⟨(some 100), .build [(.int .i64 0), (.int .i64 0), (.int .i64 0), (.int .i64 0), (.int .i64 0), (.int .i64 0), (.int .i64 0), (.int .u64 0), (.int .u64 0), (.int .u64 0), (.int .u64 0), (.int .u64 0), (.int .i64 0), (.int .i64 0), (.int .i64 0), (.int .i64 0), (.int .i64 0)] [(2, 1, (.c (.int .i64 2))), (6, 1, (.c (.int .i64 3)))], none, [], [], false⟩,
     ⟨(some 101), .build [(.int .i64 0), (.int .i64 0), (.int .i64 0), (.int .i64 0), (.int .i64 0), (.int .i64 0), (.int .i64 0), (.int .u64 0), (.int .u64 0), (.int .u64 0), (.int .u64 0), (.int .u64 0), (.int .i64 0), (.int .i64 0), (.int .i64 0), (.int .i64 0), (.int .i64 0)] [(2, 1, (.c (.int .i64 3))), (5, 1, (.c (.int .i64 32)))], none, [], [], false⟩,
     ⟨(some 102), .build [(.int .i64 0), (.int .i64 0), (.int .i64 0), (.int .i64 0), (.int .i64 0), (.int .i64 0), (.int .i64 0), (.int .u64 0), (.int .u64 0), (.int .u64 0), (.int .u64 0), (.int .u64 0), (.int .i64 0), (.int .i64 0), (.int .i64 0), (.int .i64 0), (.int .i64 0)] [(2, 1, (.c (.int .i64 12))), (6, 1, (.c (.int .i64 16)))], none, [], [], false⟩,
     ⟨(some 103), .build [(.int .i64 0), (.int .i64 0), (.int .i64 0), (.int .i64 0), (.int .i64 0), (.int .i64 0), (.int .i64 0), (.int .u64 0), (.int .u64 0), (.int .u64 0), (.int .u64 0), (.int .u64 0), (.int .i64 0), (.int .i64 0), (.int .i64 0), (.int .i64 0), (.int .i64 0)] [(2, 1, (.c (.int .i64 12))), (12, 1, (.c (.int .i64 (-2))))], none, [], [], false⟩,
     ⟨(some 104), .build [(.int .i64 0), (.int .i64 0), (.int .i64 0), (.int .i64 0), (.int .i64 0), (.int .i64 0), (.int .i64 0), (.int .u64 0), (.int .u64 0), (.int .u64 0), (.int .u64 0), (.int .u64 0), (.int .i64 0), (.int .i64 0), (.int .i64 0), (.int .i64 0), (.int .i64 0)] [(2, 1, (.c (.int .i64 13))), (5, 1, (.c (.int .i64 (-1))))], none, [], [], false⟩,
     ⟨(some 105), .buildSlice 30 [(.int .i64 0), (.int .i64 0), (.int .i64 0), (.int .i64 0), (.int .i64 0), (.int .i64 0), (.int .i64 0), (.int .u64 0), (.int .u64 0), (.int .u64 0), (.int .u64 0), (.int .u64 0), (.int .i64 0), (.int .i64 0), (.int .i64 0), (.int .i64 0), (.int .i64 0), (.int .i64 0), (.int .i64 0), (.int .i64 0), (.int .i64 0), (.int .i64 0), (.int .i64 0), (.int .i64 0), (.int .u64 0), (.int .u64 0), (.int .u64 0), (.int .u64 0), (.int .u64 0), (.int .i64 0), (.int .i64 0), (.int .i64 0), (.int .i64 0), (.int .i64 0), (.int .i64 0), (.int .i64 0), (.int .i64 0), (.int .i64 0), (.int .i64 0), (.int .i64 0), (.int .i64 0), (.int .u64 0), (.int .u64 0), (.int .u64 0), (.int .u64 0), (.int .u64 0), (.int .i64 0), (.int .i64 0), (.int .i64 0), (.int .i64 0), (.int .i64 0), (.int .i64 0), (.int .i64 0), (.int .i64 0), (.int .i64 0), (.int .i64 0), (.int .i64 0), (.int .i64 0), (.int .u64 0), (.int .u64 0), (.int .u64 0), (.int .u64 0), (.int .u64 0), (.int .i64 0), (.int .i64 0), (.int .i64 0), (.int .i64 0), (.int .i64 0), (.int .i64 0), (.int .i64 0), (.int .i64 0), (.int .i64 0), (.int .i64 0), (.int .i64 0), (.int .i64 0), (.int .u64 0), (.int .u64 0), (.int .u64 0), (.int .u64 0), (.int .u64 0), (.int .i64 0), (.int .i64 0), (.int .i64 0), (.int .i64 0), (.int .i64 0), (.int .i64 0), (.int .i64 0), (.int .i64 0), (.int .i64 0), (.int .i64 0), (.int .i64 0), (.int .i64 0), (.int .u64 0), (.int .u64 0), (.int .u64 0), (.int .u64 0), (.int .u64 0), (.int .i64 0), (.int .i64 0), (.int .i64 0), (.int .i64 0), (.int .i64 0), (.int .i64 0), (.int .i64 0), (.int .i64 0), (.int .i64 0), (.int .i64 0), (.int .i64 0), (.int .i64 0), (.int .u64 0), (.int .u64 0), (.int .u64 0), (.int .u64 0), (.int .u64 0), (.int .i64 0), (.int .i64 0), (.int .i64 0), (.int .i64 0), (.int .i64 0), (.int .i64 0), (.int .i64 0), (.int .i64 0), (.int .i64 0), (.int .i64 0), (.int .i64 0), (.int .i64 0), (.int .u64 0), (.int .u64 0), (.int .u64 0), (.int .u64 0), (.int .u64 0), (.int .i64 0), (.int .i64 0), (.int .i64 0), (.int .i64 0), (.int .i64 0)] 8 [(0, 17, (.t 97)), (17, 17, (.t 98)), (34, 17, (.t 99)), (51, 17, (.t 100)), (68, 17, (.t 101)), (85, 17, (.t 102)), (102, 17, (.t 103)), (119, 17, (.t 104))], none, [], [], false⟩,
     ⟨(some 14), .mv (.t 105), none, [], [], false⟩])
  (.seq
   (.seq
    (.region [
      ⟨(some 15), .mv (.c (.int .i64 0)), none, [], [], false⟩])
   (.block 2
    (.loop
     (.seq
      (.seq
       (.region [
         ⟨(some 106), .mv (.t 15), none, [], [], false⟩,
         ⟨(some 107), .mv (.t 14), none, [], [], false⟩,
         ⟨(some 108), .lenS (.t 107), none, [], [], false⟩,
         ⟨(some 109), .bin .lss .int (.t 106) (.t 108), none, [], [], false⟩])
      (.cond (.t 109)
       .skip
       (.exit 2)))
     (.seq
      (.block 3
       (.seq
        (.region [
          ⟨(some 113), .mv (.t 1), none, [], [], false⟩,
          ⟨(some 114), .load true 6 (.t 2), none, [], [], false⟩,
          ⟨(some 115), .mv (.t 14), none, [], [], false⟩,
          ⟨(some 116), .mv (.t 15), none, [], [], false⟩,
          ⟨(some 117), .idxS 17 (.t 115) (.t 116), none, [], [], false⟩,
          ⟨(some 118), .load true 17 (.t 117), none, [], [], false⟩,
          ⟨(some 119), .call (.c (.func (.func 11) #[] #[])) [(.t 113), (.t 114), (.t 118)] false, none, [], [], false⟩,
          ⟨(some 112), .mv (.t 119), none, [], [], false⟩,
          ⟨(some 120), .extract (.t 112) 0, none, [], [], false⟩,
          ⟨(some 121), .extract (.t 112) 1, none, [], [], false⟩,
          ⟨(some 16), .new 30 [(.int .i64 0), (.int .i64 0), (.int .i64 0), (.int .i64 0), (.int .i64 0), (.int .i64 0), (.int .i64 0), (.int .u64 0), (.int .u64 0), (.int .u64 0), (.int .u64 0), (.int .u64 0), (.int .i64 0), (.int .i64 0), (.int .i64 0), (.int .i64 0), (.int .i64 0)], none, [], [], false⟩,
          ⟨none, .store 17 (.t 16) (.t 120), none, [], [], false⟩,
          ⟨(some 17), .mv (.t 121), none, [], [], false⟩])
       (.seq
        (.region [
          ⟨(some 122), .mv (.t 14), none, [], [], false⟩,
          ⟨(some 123), .mv (.t 15), none, [], [], false⟩,
          ⟨(some 124), .idxS 17 (.t 122) (.t 123), none, [], [], false⟩,
          ⟨(some 125), .load true 17 (.t 124), none, [], [], false⟩,
          ⟨(some 18), .new 30 [(.int .i64 0), (.int .i64 0), (.int .i64 0), (.int .i64 0), (.int .i64 0), (.int .i64 0), (.int .i64 0), (.int .u64 0), (.int .u64 0), (.int .u64 0), (.int .u64 0), (.int .u64 0), (.int .i64 0), (.int .i64 0), (.int .i64 0), (.int .i64 0), (.int .i64 0)], none, [], [], false⟩,
          ⟨none, .store 17 (.t 18) (.t 125), none, [], [], false⟩])
       (.seq
        (.region [
          ⟨(some 126), .addOff 3 (.t 18), none, [], [], false⟩,
          ⟨none, .store 1 (.t 126) (.c (.int .i64 3)), none, [], [], false⟩])
       (.region [
         ⟨(some 127), .mv (.t 9), none, [], [], false⟩,
         ⟨(some 128), .mv (.t 127), none, [], [], false⟩,
         ⟨(some 129), .mv (.t 17), (some (128, true)), [], [], false⟩,
         ⟨(some 130), .bin .eql .int (.t 129) (.c (.int .i64 0)), (some (128, true)), [], [], false⟩,
         ⟨(some 131), .pick (.t 128) (.t 130) (.c (.bool false)), none, [], [], false⟩,
         ⟨(some 132), .mv (.t 131), none, [], [], false⟩,
         ⟨(some 133), .load true 17 (.t 16), (some (132, true)), [], [], false⟩,
         ⟨(some 134), .load true 17 (.t 18), (some (132, true)), [], [], false⟩,
         ⟨(some 135), .bin .eql (.plain [(some .i64), (some .i64), (some .i64), (some .i64), (some .i64), (some .i64), (some .i64), (some .u64), (some .u64), (some .u64), (some .u64), (some .u64), (some .i64), (some .i64), (some .i64), (some .i64), (some .i64)]) (.t 133) (.t 134), (some (132, true)), [], [], false⟩,
         ⟨(some 136), .pick (.t 132) (.t 135) (.c (.bool false)), none, [], [], false⟩,
         ⟨(some 9), .mv (.t 136), none, [], [], false⟩])))))
     (.region [
       ⟨(some 110), .mv (.t 15), none, [], [], false⟩,
       ⟨(some 111), .bin .add .int (.t 110) (.c (.int .i64 1)), none, [], [], false⟩,
       ⟨(some 15), .mv (.t 111), none, [], [], false⟩]))))))
  (.seq
   (.region [
     ⟨(some 138), .call (.c (.func (.func 7) #[] #[])) [(.c (.int .i64 0)), (.c (.int .i64 3)), (.c (.int .u64 1)), (.c (.int .u64 0))] false, none, [], [], false⟩,
     ⟨(some 137), .mv (.t 138), none, [], [], false⟩,
     ⟨(some 139), .extract (.t 137) 0, none, [], [], false⟩,
     ⟨(some 140), .extract (.t 137) 1, none, [], [], false⟩,
     ⟨(some 20), .new 26 [(.int .i64 0), (.int .i64 0), (.int .i64 0), (.int .i64 0), (.int .i64 0), (.int .u64 0)], none, [], [], false⟩,
     ⟨(some 19), .mv (.t 139), none, [], [], false⟩,
     ⟨none, .store 6 (.t 20) (.t 140), none, [], [], false⟩])
  (.seq
   (.seq
    (.region [
      ⟨(some 141), .mv (.t 19), none, [], [], false⟩,
      ⟨(some 142), .bin .eql .ptr (.t 141) (.c (.pointer none)), none, [], [], false⟩])
   (.cond (.t 142)
    (.seq
     (.region [
       ⟨(some 0), .mv (.c (.bool false)), none, [], [], false⟩])
    .ret)
    .skip))
  (.seq
   (.region [
     ⟨(some 144), .mv (.t 19), none, [], [], false⟩,
     ⟨(some 145), .load true 6 (.t 20), none, [], [], false⟩,
     ⟨(some 146), .build [(.int .i64 0), (.int .i64 0), (.int .i64 0), (.int .i64 0), (.int .i64 0), (.int .i64 0), (.int .i64 0), (.int .u64 0), (.int .u64 0), (.int .u64 0), (.int .u64 0), (.int .u64 0), (.int .i64 0), (.int .i64 0), (.int .i64 0), (.int .i64 0), (.int .i64 0)] [(0, 1, (.c (.int .i64 1)))], none, [], [], false⟩,
     ⟨(some 147), .call (.c (.func (.func 8) #[] #[])) [(.t 144), (.t 145), (.t 146), (.c (.int .i64 9))] false, none, [], [], false⟩,
     ⟨(some 143), .mv (.t 147), none, [], [], false⟩,
     ⟨(some 148), .extract (.t 143) 0, none, [], [], false⟩,
     ⟨(some 149), .extract (.t 143) 1, none, [], [], false⟩,
     ⟨(some 21), .new 30 [(.int .i64 0), (.int .i64 0), (.int .i64 0), (.int .i64 0), (.int .i64 0), (.int .i64 0), (.int .i64 0), (.int .u64 0), (.int .u64 0), (.int .u64 0), (.int .u64 0), (.int .u64 0), (.int .i64 0), (.int .i64 0), (.int .i64 0), (.int .i64 0), (.int .i64 0)], none, [], [], false⟩,
     ⟨none, .store 17 (.t 21) (.t 148), none, [], [], false⟩,
     ⟨(some 22), .mv (.t 149), none, [], [], false⟩])
  (.seq
   (.region [
     ⟨(some 150), .mv (.t 19), none, [], [], false⟩,
     ⟨(some 151), .load true 6 (.t 20), none, [], [], false⟩,
     ⟨(some 152), .call (.c (.func (.func 13) #[] #[])) [(.t 151), (.c (.int .i64 0))] true, none, [], [], false⟩,
     ⟨(some 153), .call (.c (.func (.func 12) #[] #[])) [(.t 150), (.t 152), (.c (.int .u64 0))] false, none, [], [], false⟩])
  (.seq
   (.region [
     ⟨(some 155), .mv (.t 19), none, [], [], false⟩,
     ⟨(some 156), .load true 6 (.t 20), none, [], [], false⟩,
     ⟨(some 157), .build [(.int .i64 0), (.int .i64 0), (.int .i64 0), (.int .i64 0), (.int .i64 0), (.int .i64 0), (.int .i64 0), (.int .u64 0), (.int .u64 0), (.int .u64 0), (.int .u64 0), (.int .u64 0), (.int .i64 0), (.int .i64 0), (.int .i64 0), (.int .i64 0), (.int .i64 0)] [(0, 1, (.c (.int .i64 1)))], none, [], [], false⟩,
     ⟨(some 158), .call (.c (.func (.func 8) #[] #[])) [(.t 155), (.t 156), (.t 157), (.c (.int .i64 9))] false, none, [], [], false⟩,
     ⟨(some 154), .mv (.t 158), none, [], [], false⟩,
     ⟨(some 159), .extract (.t 154) 0, none, [], [], false⟩,
     ⟨(some 160), .extract (.t 154) 1, none, [], [], false⟩,
     ⟨(some 23), .new 30 [(.int .i64 0), (.int .i64 0), (.int .i64 0), (.int .i64 0), (.int .i64 0), (.int .i64 0), (.int .i64 0), (.int .u64 0), (.int .u64 0), (.int .u64 0), (.int .u64 0), (.int .u64 0), (.int .i64 0), (.int .i64 0), (.int .i64 0), (.int .i64 0), (.int .i64 0)], none, [], [], false⟩,
     ⟨none, .store 17 (.t 23) (.t 159), none, [], [], false⟩,
     ⟨(some 24), .mv (.t 160), none, [], [], false⟩])
  (.seq
   (.region [
     ⟨(some 162), .mv (.t 19), none, [], [], false⟩,
     ⟨(some 163), .load true 6 (.t 20), none, [], [], false⟩,
     ⟨(some 164), .build [(.int .i64 0), (.int .i64 0), (.int .i64 0), (.int .i64 0), (.int .i64 0), (.int .i64 0), (.int .i64 0), (.int .u64 0), (.int .u64 0), (.int .u64 0), (.int .u64 0), (.int .u64 0), (.int .i64 0), (.int .i64 0), (.int .i64 0), (.int .i64 0), (.int .i64 0)] [(0, 1, (.c (.int .i64 2))), (2, 1, (.c (.int .i64 10)))], none, [], [], false⟩,
     ⟨(some 165), .call (.c (.func (.func 8) #[] #[])) [(.t 162), (.t 163), (.t 164), (.c (.int .i64 9))] false, none, [], [], false⟩,
     ⟨(some 161), .mv (.t 165), none, [], [], false⟩,
     ⟨(some 166), .extract (.t 161) 0, none, [], [], false⟩,
     ⟨(some 167), .extract (.t 161) 1, none, [], [], false⟩,
     ⟨(some 25), .new 30 [(.int .i64 0), (.int .i64 0), (.int .i64 0), (.int .i64 0), (.int .i64 0), (.int .i64 0), (.int .i64 0), (.int .u64 0), (.int .u64 0), (.int .u64 0), (.int .u64 0), (.int .u64 0), (.int .i64 0), (.int .i64 0), (.int .i64 0), (.int .i64 0), (.int .i64 0)], none, [], [], false⟩,
     ⟨none, .store 17 (.t 25) (.t 166), none, [], [], false⟩,
     ⟨(some 26), .mv (.t 167), none, [], [], false⟩])
  (.seq
   (.region [
     ⟨(some 168), .mv (.c (.bool true)), none, [], [], false⟩,
     ⟨(some 169), .call (.c (.func (.func 10) #[] #[])) [] false, (some (168, true)), [], [], false⟩,
     ⟨(some 170), .pick (.t 168) (.t 169) (.c (.bool false)), none, [], [], false⟩,
     ⟨(some 171), .mv (.t 170), none, [], [], false⟩,
     ⟨(some 172), .mv (.t 9), (some (171, true)), [], [], false⟩,
     ⟨(some 173), .pick (.t 171) (.t 172) (.c (.bool false)), none, [], [], false⟩,
     ⟨(some 174), .mv (.t 173), none, [], [], false⟩,
     ⟨(some 175), .addOff 2 (.t 21), (some (174, true)), [], [], false⟩,
     ⟨(some 176), .load false 1 (.t 175), (some (174, true)), [], [], false⟩,
     ⟨(some 177), .bin .eql .int (.t 176) (.c (.int .i64 20)), (some (174, true)), [], [], false⟩,
     ⟨(some 178), .pick (.t 174) (.t 177) (.c (.bool false)), none, [], [], false⟩,
     ⟨(some 179), .mv (.t 178), none, [], [], false⟩,
     ⟨(some 180), .mv (.t 22), (some (179, true)), [], [], false⟩,
     ⟨(some 181), .bin .eql .int (.t 180) (.c (.int .i64 2)), (some (179, true)), [], [], false⟩,
     ⟨(some 182), .pick (.t 179) (.t 181) (.c (.bool false)), none, [], [], false⟩,
     ⟨(some 183), .mv (.t 182), none, [], [], false⟩,
     ⟨(some 184), .addOff 2 (.t 23), (some (183, true)), [], [], false⟩,
     ⟨(some 185), .load false 1 (.t 184), (some (183, true)), [], [], false⟩,
     ⟨(some 186), .bin .eql .int (.t 185) (.c (.int .i64 30)), (some (183, true)), [], [], false⟩,
     ⟨(some 187), .pick (.t 183) (.t 186) (.c (.bool false)), none, [], [], false⟩,
     ⟨(some 188), .mv (.t 187), none, [], [], false⟩,
     ⟨(some 189), .mv (.t 24), (some (188, true)), [], [], false⟩,
     ⟨(some 190), .bin .eql .int (.t 189) (.c (.int .i64 2)), (some (188, true)), [], [], false⟩,
     ⟨(some 191), .pick (.t 188) (.t 190) (.c (.bool false)), none, [], [], false⟩,
     ⟨(some 192), .mv (.t 191), none, [], [], false⟩,
     ⟨(some 193), .addOff 2 (.t 25), (some (192, true)), [], [], false⟩,
     ⟨(some 194), .load false 1 (.t 193), (some (192, true)), [], [], false⟩,
     ⟨(some 195), .bin .eql .int (.t 194) (.c (.int .i64 50)), (some (192, true)), [], [], false⟩,
     ⟨(some 196), .pick (.t 192) (.t 195) (.c (.bool false)), none, [], [], false⟩,
     ⟨(some 197), .mv (.t 196), none, [], [], false⟩,
     ⟨(some 198), .mv (.t 26), (some (197, true)), [], [], false⟩,
     ⟨(some 199), .bin .eql .int (.t 198) (.c (.int .i64 2)), (some (197, true)), [], [], false⟩,
     ⟨(some 200), .pick (.t 197) (.t 199) (.c (.bool false)), none, [], [], false⟩,
     ⟨(some 0), .mv (.t 200), none, [], [], false⟩])
  .ret)))))))))))))))))),
  [.tmp 0]⟩

/-- wainscot/wainscotlaw22.stocked -/
def i7 : IFun := ⟨99,
  (.seq
   (.region [
     ⟨(some 8), .mv (.c (.pointer none)), none, [], [], false⟩,
     ⟨(some 9), .new 26 [(.int .i64 0), (.int .i64 0), (.int .i64 0), (.int .i64 0), (.int .i64 0), (.int .u64 0)], none, [], [], false⟩])
  (.seq
   (.region [
     ⟨(some 21), .mv (.t 1), none, [], [], false⟩,
     ⟨(some 22), .mv (.t 2), none, [], [], false⟩,
     ⟨(some 23), .build [(.int .i64 0), (.int .i64 0), (.int .i64 0), (.int .i64 0), (.int .i64 0), (.int .u64 0)] [(0, 1, (.c (.int .i64 1))), (1, 1, (.c (.int .i64 1))), (2, 1, (.t 21)), (5, 1, (.t 22))], none, [], [], false⟩,
     ⟨(some 10), .new 26 [(.int .i64 0), (.int .i64 0), (.int .i64 0), (.int .i64 0), (.int .i64 0), (.int .u64 0)], none, [], [], false⟩,
     ⟨none, .store 6 (.t 10) (.t 23), none, [], [], false⟩])
  (.seq
   (.region [
     ⟨(some 25), .load true 6 (.t 10), none, [], [], false⟩,
     ⟨(some 26), .call (.c (.func (.func 15) #[] #[])) [(.t 25)] true, none, [], [], false⟩,
     ⟨(some 27), .minmax true (.t 26) [(.c (.int .i64 1))], none, [], [], false⟩,
     ⟨(some 28), .call (.c (.func (.func 14) #[] #[])) [(.t 27)] true, none, [], [], false⟩,
     ⟨(some 24), .mv (.t 28), none, [], [], false⟩,
     ⟨(some 29), .extract (.t 24) 0, none, [], [], false⟩,
     ⟨(some 30), .extract (.t 24) 1, none, [], [], false⟩,
     ⟨(some 11), .mv (.t 29), none, [], [], false⟩,
     ⟨(some 12), .mv (.t 30), none, [], [], false⟩])
  (.seq
   (.seq
    (.region [
      ⟨(some 31), .mv (.t 12), none, [], [], false⟩,
      ⟨(some 32), .bin .neq .int (.t 31) (.c (.int .i64 0)), none, [], [], false⟩,
      ⟨(some 33), .mv (.t 32), none, [], [], false⟩,
      ⟨(some 34), .mv (.t 11), (some (33, false)), [], [], false⟩,
      ⟨(some 35), .bin .eql .ptr (.t 34) (.c (.pointer none)), (some (33, false)), [], [], false⟩,
      ⟨(some 36), .pick (.t 33) (.c (.bool true)) (.t 35), none, [], [], false⟩])
   (.cond (.t 36)
    (.seq
     (.region [
       ⟨(some 37), .load true 6 (.t 10), none, [], [], false⟩,
       ⟨(some 8), .mv (.c (.pointer none)), none, [], [], false⟩,
       ⟨none, .store 6 (.t 9) (.t 37), none, [], [], false⟩])
    .ret)
    .skip))
  (.seq
   (.region [
     ⟨(some 39), .mv (.t 0), none, [], [], false⟩,
     ⟨(some 40), .minmax true (.t 39) [(.c (.int .i64 1))], none, [], [], false⟩,
     ⟨(some 41), .load true 6 (.t 10), none, [], [], false⟩,
     ⟨(some 42), .call (.c (.func (.func 17) #[] #[])) [(.t 41), (.c (.int .i64 0))] true, none, [], [], false⟩,
     ⟨(some 43), .call (.c (.func (.func 16) #[] #[])) [(.t 40), (.t 42)] true, none, [], [], false⟩,
     ⟨(some 38), .mv (.t 43), none, [], [], false⟩,
     ⟨(some 44), .extract (.t 38) 0, none, [], [], false⟩,
     ⟨(some 45), .extract (.t 38) 1, none, [], [], false⟩,
     ⟨(some 13), .mv (.t 44), none, [], [], false⟩,
     ⟨(some 14), .mv (.t 45), none, [], [], false⟩])
  (.seq
   (.seq
    (.region [
      ⟨(some 15), .mv (.c (.int .i64 0)), none, [], [], false⟩])
   (.block 0
    (.loop
     (.seq
      (.seq
       (.region [
         ⟨(some 46), .mv (.t 15), none, [], [], false⟩,
         ⟨(some 47), .mv (.t 0), none, [], [], false⟩,
         ⟨(some 48), .bin .lss .int (.t 46) (.t 47), none, [], [], false⟩,
         ⟨(some 49), .mv (.t 48), none, [], [], false⟩,
         ⟨(some 50), .mv (.t 15), (some (49, true)), [], [], false⟩,
         ⟨(some 51), .mv (.t 13), (some (49, true)), [], [], false⟩,
         ⟨(some 52), .lenS (.t 51), (some (49, true)), [], [], false⟩,
         ⟨(some 53), .bin .lss .int (.t 50) (.t 52), (some (49, true)), [], [], false⟩,
         ⟨(some 54), .pick (.t 49) (.t 53) (.c (.bool false)), none, [], [], false⟩])
      (.cond (.t 54)
       .skip
       (.exit 0)))
     (.seq
      (.block 1
       (.region [
         ⟨(some 57), .mv (.t 11), none, [], [], false⟩,
         ⟨(some 58), .load true 6 (.t 10), none, [], [], false⟩,
         ⟨(some 59), .mv (.t 15), none, [], [], false⟩,
         ⟨(some 60), .call (.c (.func (.func 18) #[] #[])) [(.t 58), (.c (.int .i64 0)), (.t 59)] true, none, [], [], false⟩,
         ⟨(some 61), .mv (.t 13), none, [], [], false⟩,
         ⟨(some 62), .mv (.t 15), none, [], [], false⟩,
         ⟨(some 63), .idxS 1 (.t 61) (.t 62), none, [], [], false⟩,
         ⟨(some 64), .load false 1 (.t 63), none, [], [], false⟩,
         ⟨(some 65), .call (.c (.func (.func 12) #[] #[])) [(.t 57), (.t 60), (.t 64)] false, none, [], [], false⟩]))
     (.region [
       ⟨(some 55), .mv (.t 15), none, [], [], false⟩,
       ⟨(some 56), .bin .add .int (.t 55) (.c (.int .i64 1)), none, [], [], false⟩,
       ⟨(some 15), .mv (.t 56), none, [], [], false⟩]))))))
  (.seq
   (.region [
     ⟨(some 16), .mv (.c (.int .i64 0)), none, [], [], false⟩])
  (.seq
   (.seq
    (.region [
      ⟨(some 66), .mv (.t 0), none, [], [], false⟩,
      ⟨(some 67), .bin .eql .int (.t 66) (.c (.int .i64 0)), none, [], [], false⟩])
   (.cond (.t 67)
    (.region [
      ⟨(some 16), .mv (.c (.int .i64 (-1))), none, [], [], false⟩])
    .skip))
  (.seq
   (.region [
     ⟨(some 69), .mv (.t 16), none, [], [], false⟩,
     ⟨(some 70), .call (.c (.func (.func 19) #[] #[])) [(.c (.int .i64 0)), (.t 69)] true, none, [], [], false⟩,
     ⟨(some 68), .mv (.t 70), none, [], [], false⟩,
     ⟨(some 71), .extract (.t 68) 0, none, [], [], false⟩,
     ⟨(some 72), .extract (.t 68) 1, none, [], [], false⟩,
     ⟨(some 17), .mv (.t 71), none, [], [], false⟩,
     ⟨(some 18), .mv (.t 72), none, [], [], false⟩])
  (.seq
   (.region [
     ⟨(some 74), .mv (.t 1), none, [], [], false⟩,
     ⟨(some 75), .mv (.t 1), none, [], [], false⟩,
     ⟨(some 76), .build [(.int .i64 0), (.int .i64 0), (.bool false), (.bool false)] [(0, 1, (.t 74)), (1, 1, (.t 75)), (2, 1, (.c (.bool true))), (3, 1, (.c (.bool true)))], none, [], [], false⟩,
     ⟨(some 77), .call (.c (.func (.func 20) #[] #[])) [(.t 76)] true, none, [], [], false⟩,
     ⟨(some 73), .mv (.t 77), none, [], [], false⟩,
     ⟨(some 78), .extract (.t 73) 0, none, [], [], false⟩,
     ⟨(some 79), .extract (.t 73) 1, none, [], [], false⟩,
     ⟨(some 19), .mv (.t 78), none, [], [], false⟩,
     ⟨(some 20), .mv (.t 79), none, [], [], false⟩])
  (.seq
   (.region [
     ⟨(some 80), .mv (.t 11), none, [], [], false⟩,
     ⟨(some 81), .load true 6 (.t 10), none, [], [], false⟩,
     ⟨(some 82), .call (.c (.func (.func 13) #[] #[])) [(.t 81), (.c (.int .i64 0))] true, none, [], [], false⟩,
     ⟨(some 83), .mv (.t 17), none, [], [], false⟩,
     ⟨(some 84), .call (.c (.func (.func 12) #[] #[])) [(.t 80), (.t 82), (.t 83)] false, none, [], [], false⟩])
  (.seq
   (.region [
     ⟨(some 85), .mv (.t 11), none, [], [], false⟩,
     ⟨(some 86), .load true 6 (.t 10), none, [], [], false⟩,
     ⟨(some 87), .call (.c (.func (.func 13) #[] #[])) [(.t 86), (.c (.int .i64 0))] true, none, [], [], false⟩,
     ⟨(some 88), .bin .add .int (.t 87) (.c (.int .i64 1)), none, [], [], false⟩,
     ⟨(some 89), .mv (.t 3), none, [], [], false⟩,
     ⟨(some 90), .call (.c (.func (.func 12) #[] #[])) [(.t 85), (.t 88), (.t 89)] false, none, [], [], false⟩])
  (.seq
   (.region [
     ⟨(some 91), .mv (.t 11), none, [], [], false⟩,
     ⟨(some 92), .load true 6 (.t 10), none, [], [], false⟩,
     ⟨(some 93), .call (.c (.func (.func 21) #[] #[])) [(.t 92), (.c (.int .i64 0))] true, none, [], [], false⟩,
     ⟨(some 94), .bin .add .int (.t 93) (.c (.int .i64 1)), none, [], [], false⟩,
     ⟨(some 95), .mv (.t 19), none, [], [], false⟩,
     ⟨(some 96), .call (.c (.func (.func 12) #[] #[])) [(.t 91), (.t 94), (.t 95)] false, none, [], [], false⟩])
  (.seq
   (.region [
     ⟨(some 97), .mv (.t 11), none, [], [], false⟩,
     ⟨(some 98), .load true 6 (.t 10), none, [], [], false⟩,
     ⟨(some 8), .mv (.t 97), none, [], [], false⟩,
     ⟨none, .store 6 (.t 9) (.t 98), none, [], [], false⟩])
  .ret)))))))))))))),
  [.tmp 8, .cell 9 true 6]⟩

/-- wainscot/wainscotlaw22.through -/
def i8 : IFun := ⟨38,
  (.seq
   (.region [
     ⟨(some 5), .box 26 6 (.t 1), none, [], [], false⟩,
     ⟨(some 6), .box 30 17 (.t 2), none, [], [], false⟩,
     ⟨(some 8), .new 30 [(.int .i64 0), (.int .i64 0), (.int .i64 0), (.int .i64 0), (.int .i64 0), (.int .i64 0), (.int .i64 0), (.int .u64 0), (.int .u64 0), (.int .u64 0), (.int .u64 0), (.int .u64 0), (.int .i64 0), (.int .i64 0), (.int .i64 0), (.int .i64 0), (.int .i64 0)], none, [], [], false⟩,
     ⟨(some 9), .mv (.c (.int .i64 0)), none, [], [], false⟩])
  (.seq
   (.seq
    (.region [
      ⟨(some 10), .mv (.c (.int .i64 0)), none, [], [], false⟩])
   (.block 0
    (.loop
     (.seq
      (.seq
       (.region [
         ⟨(some 13), .mv (.t 10), none, [], [], false⟩,
         ⟨(some 14), .mv (.t 3), none, [], [], false⟩,
         ⟨(some 15), .bin .lss .int (.t 13) (.t 14), none, [], [], false⟩])
      (.cond (.t 15)
       .skip
       (.exit 0)))
     (.seq
      (.block 1
       (.seq
        (.region [
          ⟨(some 19), .mv (.t 0), none, [], [], false⟩,
          ⟨(some 20), .load true 6 (.t 5), none, [], [], false⟩,
          ⟨(some 21), .load true 17 (.t 6), none, [], [], false⟩,
          ⟨(some 22), .call (.c (.func (.func 11) #[] #[])) [(.t 19), (.t 20), (.t 21)] false, none, [], [], false⟩,
          ⟨(some 18), .mv (.t 22), none, [], [], false⟩,
          ⟨(some 23), .extract (.t 18) 0, none, [], [], false⟩,
          ⟨(some 24), .extract (.t 18) 1, none, [], [], false⟩,
          ⟨(some 11), .new 30 [(.int .i64 0), (.int .i64 0), (.int .i64 0), (.int .i64 0), (.int .i64 0), (.int .i64 0), (.int .i64 0), (.int .u64 0), (.int .u64 0), (.int .u64 0), (.int .u64 0), (.int .u64 0), (.int .i64 0), (.int .i64 0), (.int .i64 0), (.int .i64 0), (.int .i64 0)], none, [], [], false⟩,
          ⟨none, .store 17 (.t 11) (.t 23), none, [], [], false⟩,
          ⟨(some 12), .mv (.t 24), none, [], [], false⟩])
       (.seq
        (.seq
         (.region [
           ⟨(some 25), .mv (.t 12), none, [], [], false⟩,
           ⟨(some 26), .bin .neq .int (.t 25) (.c (.int .i64 0)), none, [], [], false⟩])
        (.cond (.t 26)
         (.seq
          (.region [
            ⟨(some 27), .load true 17 (.t 6), none, [], [], false⟩,
            ⟨(some 28), .mv (.t 10), none, [], [], false⟩,
            ⟨none, .store 17 (.t 8) (.t 27), none, [], [], false⟩,
            ⟨(some 9), .mv (.t 28), none, [], [], false⟩])
         .ret)
         .skip))
       (.seq
        (.region [
          ⟨(some 29), .load true 17 (.t 11), none, [], [], false⟩,
          ⟨none, .store 17 (.t 6) (.t 29), none, [], [], false⟩])
       (.seq
        (.region [
          ⟨(some 30), .addOff 3 (.t 6), none, [], [], false⟩,
          ⟨(some 31), .load false 1 (.t 30), none, [], [], false⟩,
          ⟨(some 32), .bin .neq .int (.t 31) (.c (.int .i64 0)), none, [], [], false⟩])
       (.cond (.t 32)
        (.seq
         (.region [
           ⟨(some 33), .load true 17 (.t 6), none, [], [], false⟩,
           ⟨(some 34), .mv (.t 10), none, [], [], false⟩,
           ⟨(some 35), .bin .add .int (.t 34) (.c (.int .i64 1)), none, [], [], false⟩,
           ⟨none, .store 17 (.t 8) (.t 33), none, [], [], false⟩,
           ⟨(some 9), .mv (.t 35), none, [], [], false⟩])
        .ret)
        .skip))))))
     (.region [
       ⟨(some 16), .mv (.t 10), none, [], [], false⟩,
       ⟨(some 17), .bin .add .int (.t 16) (.c (.int .i64 1)), none, [], [], false⟩,
       ⟨(some 10), .mv (.t 17), none, [], [], false⟩]))))))
  (.seq
   (.region [
     ⟨(some 36), .load true 17 (.t 6), none, [], [], false⟩,
     ⟨(some 37), .mv (.t 3), none, [], [], false⟩,
     ⟨none, .store 17 (.t 8) (.t 36), none, [], [], false⟩,
     ⟨(some 9), .mv (.t 37), none, [], [], false⟩])
  .ret))),
  [.cell 8 true 17, .tmp 9]⟩

/-- wainscot/wainscotlaw22.listed -/
def i9 : IFun := ⟨42,
  (.seq
   (.region [
     ⟨(some 3), .box 26 6 (.t 1), none, [], [], false⟩,
     ⟨(some 4), .mv (.c (.slice none 0 0)), none, [], [], false⟩,
     ⟨(some 5), .mv (.c (.int .u64 0)), none, [], [], false⟩,
     ⟨(some 6), .mv (.c (.bool false)), none, [], [], false⟩])
  (.seq
   (.region [
     ⟨(some 10), .mv (.t 0), none, [], [], false⟩,
     ⟨(some 11), .call (.c (.func (.func 23) #[] #[])) [(.t 10)] true, none, [], [], false⟩,
     ⟨(some 12), .load true 6 (.t 3), none, [], [], false⟩,
     ⟨(some 13), .call (.c (.func (.func 22) #[] #[])) [(.t 11), (.t 12)] true, none, [], [], false⟩,
     ⟨(some 9), .mv (.t 13), none, [], [], false⟩,
     ⟨(some 14), .extract (.t 9) 0, none, [], [], false⟩,
     ⟨(some 15), .extract (.t 9) 1, none, [], [], false⟩,
     ⟨(some 7), .new 66 [(.slice none 0 0), (.slice none 0 0), (.bool false), (.slice none 0 0)], none, [], [], false⟩,
     ⟨none, .store 4 (.t 7) (.t 14), none, [], [], false⟩,
     ⟨(some 8), .mv (.t 15), none, [], [], false⟩])
  (.seq
   (.seq
    (.region [
      ⟨(some 16), .mv (.t 8), none, [], [], false⟩,
      ⟨(some 17), .bin .neq .int (.t 16) (.c (.int .i64 0)), none, [], [], false⟩,
      ⟨(some 18), .mv (.t 17), none, [], [], false⟩,
      ⟨(some 19), .addOff 0 (.t 7), (some (18, false)), [], [], false⟩,
      ⟨(some 20), .load false 1 (.t 19), (some (18, false)), [], [], false⟩,
      ⟨(some 21), .lenS (.t 20), (some (18, false)), [], [], false⟩,
      ⟨(some 22), .bin .neq .int (.t 21) (.c (.int .i64 1)), (some (18, false)), [], [], false⟩,
      ⟨(some 23), .pick (.t 18) (.c (.bool true)) (.t 22), none, [], [], false⟩,
      ⟨(some 24), .mv (.t 23), none, [], [], false⟩,
      ⟨(some 25), .addOff 0 (.t 7), (some (24, false)), [], [], false⟩,
      ⟨(some 26), .load false 1 (.t 25), (some (24, false)), [], [], false⟩,
      ⟨(some 27), .idxS 4 (.t 26) (.c (.int .i64 0)), (some (24, false)), [], [], false⟩,
      ⟨(some 28), .addOff 0 (.t 27), (some (24, false)), [], [], false⟩,
      ⟨(some 29), .load false 1 (.t 28), (some (24, false)), [], [], false⟩,
      ⟨(some 30), .bin .neq .int (.t 29) (.c (.int .i64 0)), (some (24, false)), [], [], false⟩,
      ⟨(some 31), .pick (.t 24) (.c (.bool true)) (.t 30), none, [], [], false⟩])
   (.cond (.t 31)
    (.seq
     (.region [
       ⟨(some 4), .mv (.c (.slice none 0 0)), none, [], [], false⟩,
       ⟨(some 5), .mv (.c (.int .u64 0)), none, [], [], false⟩,
       ⟨(some 6), .mv (.c (.bool false)), none, [], [], false⟩])
    .ret)
    .skip))
  (.seq
   (.region [
     ⟨(some 32), .addOff 0 (.t 7), none, [], [], false⟩,
     ⟨(some 33), .load false 1 (.t 32), none, [], [], false⟩,
     ⟨(some 34), .idxS 4 (.t 33) (.c (.int .i64 0)), none, [], [], false⟩,
     ⟨(some 35), .addOff 1 (.t 34), none, [], [], false⟩,
     ⟨(some 36), .load false 1 (.t 35), none, [], [], false⟩,
     ⟨(some 37), .addOff 0 (.t 7), none, [], [], false⟩,
     ⟨(some 38), .load false 1 (.t 37), none, [], [], false⟩,
     ⟨(some 39), .idxS 4 (.t 38) (.c (.int .i64 0)), none, [], [], false⟩,
     ⟨(some 40), .addOff 2 (.t 39), none, [], [], false⟩,
     ⟨(some 41), .load false 1 (.t 40), none, [], [], false⟩,
     ⟨(some 4), .mv (.t 36), none, [], [], false⟩,
     ⟨(some 5), .mv (.t 41), none, [], [], false⟩,
     ⟨(some 6), .mv (.c (.bool true)), none, [], [], false⟩])
  .ret)))),
  [.tmp 4, .tmp 5, .tmp 6]⟩

/-- wainscot/wainscotlaw22.works -/
def i10 : IFun := ⟨101,
  (.seq
   (.region [
     ⟨(some 0), .mv (.c (.bool false)), none, [], [], false⟩])
  (.seq
   (.region [
     ⟨(some 14), .call (.c (.func (.func 7) #[] #[])) [(.c (.int .i64 3)), (.c (.int .i64 3)), (.c (.int .u64 0)), (.c (.int .u64 5))] false, none, [], [], false⟩,
     ⟨(some 13), .mv (.t 14), none, [], [], false⟩,
     ⟨(some 15), .extract (.t 13) 0, none, [], [], false⟩,
     ⟨(some 16), .extract (.t 13) 1, none, [], [], false⟩,
     ⟨(some 2), .new 26 [(.int .i64 0), (.int .i64 0), (.int .i64 0), (.int .i64 0), (.int .i64 0), (.int .u64 0)], none, [], [], false⟩,
     ⟨(some 1), .mv (.t 15), none, [], [], false⟩,
     ⟨none, .store 6 (.t 2) (.t 16), none, [], [], false⟩])
  (.seq
   (.seq
    (.region [
      ⟨(some 17), .mv (.t 1), none, [], [], false⟩,
      ⟨(some 18), .bin .eql .ptr (.t 17) (.c (.pointer none)), none, [], [], false⟩])
   (.cond (.t 18)
    (.seq
     (.region [
       ⟨(some 0), .mv (.c (.bool false)), none, [], [], false⟩])
    .ret)
    .skip))
  (.seq
   (.region [
     ⟨(some 20), .mv (.t 1), none, [], [], false⟩,
     ⟨(some 21), .load true 6 (.t 2), none, [], [], false⟩,
     ⟨(some 22), .build [(.int .i64 0), (.int .i64 0), (.int .i64 0), (.int .i64 0), (.int .i64 0), (.int .i64 0), (.int .i64 0), (.int .u64 0), (.int .u64 0), (.int .u64 0), (.int .u64 0), (.int .u64 0), (.int .i64 0), (.int .i64 0), (.int .i64 0), (.int .i64 0), (.int .i64 0)] [(0, 1, (.c (.int .i64 1)))], none, [], [], false⟩,
     ⟨(some 23), .call (.c (.func (.func 8) #[] #[])) [(.t 20), (.t 21), (.t 22), (.c (.int .i64 9))] false, none, [], [], false⟩,
     ⟨(some 19), .mv (.t 23), none, [], [], false⟩,
     ⟨(some 24), .extract (.t 19) 0, none, [], [], false⟩,
     ⟨(some 25), .extract (.t 19) 1, none, [], [], false⟩,
     ⟨(some 3), .new 30 [(.int .i64 0), (.int .i64 0), (.int .i64 0), (.int .i64 0), (.int .i64 0), (.int .i64 0), (.int .i64 0), (.int .u64 0), (.int .u64 0), (.int .u64 0), (.int .u64 0), (.int .u64 0), (.int .i64 0), (.int .i64 0), (.int .i64 0), (.int .i64 0), (.int .i64 0)], none, [], [], false⟩,
     ⟨none, .store 17 (.t 3) (.t 24), none, [], [], false⟩,
     ⟨(some 4), .mv (.t 25), none, [], [], false⟩])
  (.seq
   (.region [
     ⟨(some 27), .mv (.t 1), none, [], [], false⟩,
     ⟨(some 28), .load true 6 (.t 2), none, [], [], false⟩,
     ⟨(some 29), .call (.c (.func (.func 9) #[] #[])) [(.t 27), (.t 28)] false, none, [], [], false⟩,
     ⟨(some 26), .mv (.t 29), none, [], [], false⟩,
     ⟨(some 30), .extract (.t 26) 0, none, [], [], false⟩,
     ⟨(some 31), .extract (.t 26) 1, none, [], [], false⟩,
     ⟨(some 32), .extract (.t 26) 2, none, [], [], false⟩,
     ⟨(some 5), .mv (.t 30), none, [], [], false⟩,
     ⟨(some 6), .mv (.t 31), none, [], [], false⟩,
     ⟨(some 7), .mv (.t 32), none, [], [], false⟩])
  (.seq
   (.region [
     ⟨(some 34), .mv (.t 1), none, [], [], false⟩,
     ⟨(some 35), .load true 6 (.t 2), none, [], [], false⟩,
     ⟨(some 36), .addOff 5 (.t 3), none, [], [], false⟩,
     ⟨(some 37), .load false 1 (.t 36), none, [], [], false⟩,
     ⟨(some 38), .addOff 6 (.t 3), none, [], [], false⟩,
     ⟨(some 39), .load false 1 (.t 38), none, [], [], false⟩,
     ⟨(some 40), .build [(.int .i64 0), (.int .i64 0), (.int .i64 0), (.int .i64 0), (.int .i64 0), (.int .i64 0), (.int .i64 0), (.int .u64 0), (.int .u64 0), (.int .u64 0), (.int .u64 0), (.int .u64 0), (.int .i64 0), (.int .i64 0), (.int .i64 0), (.int .i64 0), (.int .i64 0)] [(0, 1, (.c (.int .i64 2))), (2, 1, (.c (.int .i64 10))), (5, 1, (.t 37)), (6, 1, (.t 39))], none, [], [], false⟩,
     ⟨(some 41), .call (.c (.func (.func 8) #[] #[])) [(.t 34), (.t 35), (.t 40), (.c (.int .i64 9))] false, none, [], [], false⟩,
     ⟨(some 33), .mv (.t 41), none, [], [], false⟩,
     ⟨(some 42), .extract (.t 33) 0, none, [], [], false⟩,
     ⟨(some 43), .extract (.t 33) 1, none, [], [], false⟩,
     ⟨(some 8), .new 30 [(.int .i64 0), (.int .i64 0), (.int .i64 0), (.int .i64 0), (.int .i64 0), (.int .i64 0), (.int .i64 0), (.int .u64 0), (.int .u64 0), (.int .u64 0), (.int .u64 0), (.int .u64 0), (.int .i64 0), (.int .i64 0), (.int .i64 0), (.int .i64 0), (.int .i64 0)], none, [], [], false⟩,
     ⟨none, .store 17 (.t 8) (.t 42), none, [], [], false⟩,
     ⟨(some 9), .mv (.t 43), none, [], [], false⟩])
  (.seq
   (.region [
     ⟨(some 45), .mv (.t 1), none, [], [], false⟩,
     ⟨(some 46), .load true 6 (.t 2), none, [], [], false⟩,
     ⟨(some 47), .call (.c (.func (.func 9) #[] #[])) [(.t 45), (.t 46)] false, none, [], [], false⟩,
     ⟨(some 44), .mv (.t 47), none, [], [], false⟩,
     ⟨(some 48), .extract (.t 44) 0, none, [], [], false⟩,
     ⟨(some 49), .extract (.t 44) 1, none, [], [], false⟩,
     ⟨(some 50), .extract (.t 44) 2, none, [], [], false⟩,
     ⟨(some 10), .mv (.t 48), none, [], [], false⟩,
     ⟨(some 11), .mv (.t 49), none, [], [], false⟩,
     ⟨(some 12), .mv (.t 50), none, [], [], false⟩])
  (.seq
   (.region [
     ⟨(some 51), .mv (.t 4), none, [], [], false⟩,
     ⟨(some 52), .bin .eql .int (.t 51) (.c (.int .i64 4)), none, [], [], false⟩,
     ⟨(some 53), .mv (.t 52), none, [], [], false⟩,
     ⟨(some 54), .addOff 3 (.t 3), (some (53, true)), [], [], false⟩,
     ⟨(some 55), .load false 1 (.t 54), (some (53, true)), [], [], false⟩,
     ⟨(some 56), .bin .eql .int (.t 55) (.c (.int .i64 1)), (some (53, true)), [], [], false⟩,
     ⟨(some 57), .pick (.t 53) (.t 56) (.c (.bool false)), none, [], [], false⟩,
     ⟨(some 58), .mv (.t 57), none, [], [], false⟩,
     ⟨(some 59), .addOff 5 (.t 3), (some (58, true)), [], [], false⟩,
     ⟨(some 60), .load false 1 (.t 59), (some (58, true)), [], [], false⟩,
     ⟨(some 61), .bin .eql .int (.t 60) (.c (.int .i64 0)), (some (58, true)), [], [], false⟩,
     ⟨(some 62), .pick (.t 58) (.t 61) (.c (.bool false)), none, [], [], false⟩,
     ⟨(some 63), .mv (.t 62), none, [], [], false⟩,
     ⟨(some 64), .addOff 6 (.t 3), (some (63, true)), [], [], false⟩,
     ⟨(some 65), .load false 1 (.t 64), (some (63, true)), [], [], false⟩,
     ⟨(some 66), .bin .eql .int (.t 65) (.c (.int .i64 0)), (some (63, true)), [], [], false⟩,
     ⟨(some 67), .pick (.t 63) (.t 66) (.c (.bool false)), none, [], [], false⟩,
     ⟨(some 68), .mv (.t 67), none, [], [], false⟩,
     ⟨(some 69), .mv (.t 7), (some (68, true)), [], [], false⟩,
     ⟨(some 70), .pick (.t 68) (.t 69) (.c (.bool false)), none, [], [], false⟩,
     ⟨(some 71), .mv (.t 70), none, [], [], false⟩,
     ⟨(some 72), .mv (.t 5), (some (71, true)), [], [], false⟩,
     ⟨(some 73), .buildSlice 3 [(.int .i64 0), (.int .i64 0)] 2 [(0, 1, (.c (.int .i64 1))), (1, 1, (.c (.int .i64 2)))], (some (71, true)), [], [], false⟩,
     ⟨(some 74), .call (.c (.func (.func 24) #[] #[])) [(.t 72), (.t 73)] true, (some (71, true)), [], [], false⟩,
     ⟨(some 75), .pick (.t 71) (.t 74) (.c (.bool false)), none, [], [], false⟩,
     ⟨(some 76), .mv (.t 75), none, [], [], false⟩,
     ⟨(some 77), .mv (.t 6), (some (76, true)), [], [], false⟩,
     ⟨(some 78), .bin .eql .int (.t 77) (.c (.int .u64 6)), (some (76, true)), [], [], false⟩,
     ⟨(some 79), .pick (.t 76) (.t 78) (.c (.bool false)), none, [], [], false⟩,
     ⟨(some 80), .mv (.t 79), none, [], [], false⟩,
     ⟨(some 81), .mv (.t 9), (some (80, true)), [], [], false⟩,
     ⟨(some 82), .bin .eql .int (.t 81) (.c (.int .i64 4)), (some (80, true)), [], [], false⟩,
     ⟨(some 83), .pick (.t 80) (.t 82) (.c (.bool false)), none, [], [], false⟩,
     ⟨(some 84), .mv (.t 83), none, [], [], false⟩,
     ⟨(some 85), .addOff 3 (.t 8), (some (84, true)), [], [], false⟩,
     ⟨(some 86), .load false 1 (.t 85), (some (84, true)), [], [], false⟩,
     ⟨(some 87), .bin .eql .int (.t 86) (.c (.int .i64 1)), (some (84, true)), [], [], false⟩,
     ⟨(some 88), .pick (.t 84) (.t 87) (.c (.bool false)), none, [], [], false⟩,
     ⟨(some 89), .mv (.t 88), none, [], [], false⟩,
     ⟨(some 90), .mv (.t 12), (some (89, true)), [], [], false⟩,
     ⟨(some 91), .pick (.t 89) (.t 90) (.c (.bool false)), none, [], [], false⟩,
     ⟨(some 92), .mv (.t 91), none, [], [], false⟩,
     ⟨(some 93), .mv (.t 10), (some (92, true)), [], [], false⟩,
     ⟨(some 94), .buildSlice 3 [(.int .i64 0), (.int .i64 0), (.int .i64 0)] 3 [(0, 1, (.c (.int .i64 0))), (1, 1, (.c (.int .i64 1))), (2, 1, (.c (.int .i64 2)))], (some (92, true)), [], [], false⟩,
     ⟨(some 95), .call (.c (.func (.func 24) #[] #[])) [(.t 93), (.t 94)] true, (some (92, true)), [], [], false⟩,
     ⟨(some 96), .pick (.t 92) (.t 95) (.c (.bool false)), none, [], [], false⟩,
     ⟨(some 97), .mv (.t 96), none, [], [], false⟩,
     ⟨(some 98), .mv (.t 11), (some (97, true)), [], [], false⟩,
     ⟨(some 99), .bin .eql .int (.t 98) (.c (.int .u64 7)), (some (97, true)), [], [], false⟩,
     ⟨(some 100), .pick (.t 97) (.t 99) (.c (.bool false)), none, [], [], false⟩,
     ⟨(some 0), .mv (.t 100), none, [], [], false⟩])
  .ret)))))))),
  [.tmp 0]⟩

/-- wainscot/fast.Step -/
def i11 : IFun := ⟨59,
  (.seq
   (.region [
     ⟨(some 4), .box 26 6 (.t 1), none, [], [], false⟩,
     ⟨(some 5), .box 30 17 (.t 2), none, [], [], false⟩,
     ⟨(some 6), .new 30 [(.int .i64 0), (.int .i64 0), (.int .i64 0), (.int .i64 0), (.int .i64 0), (.int .i64 0), (.int .i64 0), (.int .u64 0), (.int .u64 0), (.int .u64 0), (.int .u64 0), (.int .u64 0), (.int .i64 0), (.int .i64 0), (.int .i64 0), (.int .i64 0), (.int .i64 0)], none, [], [], false⟩,
     ⟨(some 7), .mv (.c (.int .i64 0)), none, [], [], false⟩])
  (.seq
   (.block 0
    (.seq
     (.region [
       ⟨(some 12), .mv (.t 0), none, [], [], false⟩,
       ⟨(some 13), .call (.c (.func (.func 25) #[] #[])) [(.t 12)] true, none, [], [], false⟩,
       ⟨(some 14), .bin .eql .int (.t 13) (.c (.int .i64 0)), none, [], [], false⟩,
       ⟨(some 11), .mv (.t 14), none, [], [], false⟩])
    (.cond (.t 11)
     (.seq
      (.region [
        ⟨(some 15), .build [(.int .i64 0), (.int .i64 0), (.int .i64 0), (.int .i64 0), (.int .i64 0), (.int .i64 0), (.int .i64 0), (.int .u64 0), (.int .u64 0), (.int .u64 0), (.int .u64 0), (.int .u64 0), (.int .i64 0), (.int .i64 0), (.int .i64 0), (.int .i64 0), (.int .i64 0)] [], none, [], [], false⟩,
        ⟨none, .store 17 (.t 6) (.t 15), none, [], [], false⟩,
        ⟨(some 7), .mv (.c (.int .i64 1)), none, [], [], false⟩])
     .ret)
     (.seq
      (.region [
        ⟨(some 17), .load true 6 (.t 4), none, [], [], false⟩,
        ⟨(some 18), .call (.c (.func (.func 26) #[] #[])) [(.t 17)] true, none, [], [], false⟩,
        ⟨(some 19), .bin .neq .int (.t 18) (.c (.int .i64 0)), none, [], [], false⟩,
        ⟨(some 16), .mv (.t 19), none, [], [], false⟩])
     (.cond (.t 16)
      (.seq
       (.region [
         ⟨(some 20), .build [(.int .i64 0), (.int .i64 0), (.int .i64 0), (.int .i64 0), (.int .i64 0), (.int .i64 0), (.int .i64 0), (.int .u64 0), (.int .u64 0), (.int .u64 0), (.int .u64 0), (.int .u64 0), (.int .i64 0), (.int .i64 0), (.int .i64 0), (.int .i64 0), (.int .i64 0)] [], none, [], [], false⟩,
         ⟨none, .store 17 (.t 6) (.t 20), none, [], [], false⟩,
         ⟨(some 7), .mv (.c (.int .i64 2)), none, [], [], false⟩])
      .ret)
      .skip)))))
  (.seq
   (.region [
     ⟨(some 22), .call (.c (.func (.func 27) #[] #[])) [] true, none, [], [], false⟩,
     ⟨(some 23), .addOff 2 (.t 5), none, [], [], false⟩,
     ⟨(some 24), .load false 1 (.t 23), none, [], [], false⟩,
     ⟨(some 25), .lookup .nilFunc true (.t 22) (.t 24), none, [], [], false⟩,
     ⟨(some 21), .mv (.t 25), none, [], [], false⟩,
     ⟨(some 26), .extract (.t 21) 0, none, [], [], false⟩,
     ⟨(some 27), .extract (.t 21) 1, none, [], [], false⟩,
     ⟨(some 8), .mv (.t 26), none, [], [], false⟩,
     ⟨(some 9), .mv (.t 27), none, [], [], false⟩])
  (.seq
   (.seq
    (.region [
      ⟨(some 28), .mv (.t 9), none, [], [], false⟩,
      ⟨(some 29), .un .not (.t 28), none, [], [], false⟩,
      ⟨(some 30), .mv (.t 29), none, [], [], false⟩,
      ⟨(some 31), .addOff 3 (.t 5), (some (30, false)), [], [], false⟩,
      ⟨(some 32), .load false 1 (.t 31), (some (30, false)), [], [], false⟩,
      ⟨(some 33), .bin .neq .int (.t 32) (.c (.int .i64 0)), (some (30, false)), [], [], false⟩,
      ⟨(some 34), .pick (.t 30) (.c (.bool true)) (.t 33), none, [], [], false⟩,
      ⟨(some 35), .mv (.t 34), none, [], [], false⟩,
      ⟨(some 36), .addOff 4 (.t 5), (some (35, false)), [], [], false⟩,
      ⟨(some 37), .load false 1 (.t 36), (some (35, false)), [], [], false⟩,
      ⟨(some 38), .bin .neq .int (.t 37) (.c (.int .i64 0)), (some (35, false)), [], [], false⟩,
      ⟨(some 39), .pick (.t 35) (.c (.bool true)) (.t 38), none, [], [], false⟩])
   (.cond (.t 39)
    (.seq
     (.region [
       ⟨(some 40), .build [(.int .i64 0), (.int .i64 0), (.int .i64 0), (.int .i64 0), (.int .i64 0), (.int .i64 0), (.int .i64 0), (.int .u64 0), (.int .u64 0), (.int .u64 0), (.int .u64 0), (.int .u64 0), (.int .i64 0), (.int .i64 0), (.int .i64 0), (.int .i64 0), (.int .i64 0)] [], none, [], [], false⟩,
       ⟨none, .store 17 (.t 6) (.t 40), none, [], [], false⟩,
       ⟨(some 7), .mv (.c (.int .i64 292)), none, [], [], false⟩])
    .ret)
    .skip))
  (.seq
   (.region [
     ⟨(some 41), .mv (.t 0), none, [], [], false⟩,
     ⟨(some 42), .load true 6 (.t 4), none, [], [], false⟩,
     ⟨(some 43), .load true 17 (.t 5), none, [], [], false⟩,
     ⟨(some 44), .build [(.pointer none), (.int .i64 0), (.int .i64 0), (.int .i64 0), (.int .i64 0), (.int .i64 0), (.int .u64 0), (.int .i64 0), (.int .i64 0), (.int .i64 0), (.int .i64 0), (.int .i64 0), (.int .i64 0), (.int .i64 0), (.int .u64 0), (.int .u64 0), (.int .u64 0), (.int .u64 0), (.int .u64 0), (.int .i64 0), (.int .i64 0), (.int .i64 0), (.int .i64 0), (.int .i64 0), (.bool false)] [(0, 1, (.t 41)), (1, 6, (.t 42)), (7, 17, (.t 43))], none, [], [], false⟩,
     ⟨(some 45), .box 81 25 (.t 44), none, [], [], false⟩,
     ⟨(some 10), .mv (.t 45), none, [], [], false⟩])
  (.seq
   (.seq
    (.region [
      ⟨(some 46), .mv (.t 8), none, [], [], false⟩,
      ⟨(some 47), .mv (.t 10), none, [], [], false⟩,
      ⟨(some 48), .call (.t 46) [(.t 47)] false, none, [], [], false⟩])
   (.seq
    (.region [
      ⟨(some 49), .mv (.t 10), none, [], [], false⟩,
      ⟨(some 50), .nilCheck (.t 49), none, [], [], false⟩,
      ⟨(some 51), .addOff 24 (.t 50), none, [], [], false⟩,
      ⟨(some 52), .load false 1 (.t 51), none, [], [], false⟩])
   (.cond (.t 52)
    (.seq
     (.region [
       ⟨(some 53), .addOff 3 (.t 5), none, [], [], false⟩,
       ⟨none, .store 1 (.t 53) (.c (.int .i64 3)), none, [], [], false⟩])
    (.seq
     (.region [
       ⟨(some 54), .load true 17 (.t 5), none, [], [], false⟩,
       ⟨none, .store 17 (.t 6) (.t 54), none, [], [], false⟩,
       ⟨(some 7), .mv (.c (.int .i64 0)), none, [], [], false⟩])
    .ret))
    .skip)))
  (.seq
   (.region [
     ⟨(some 55), .mv (.t 10), none, [], [], false⟩,
     ⟨(some 56), .nilCheck (.t 55), none, [], [], false⟩,
     ⟨(some 57), .addOff 7 (.t 56), none, [], [], false⟩,
     ⟨(some 58), .load true 17 (.t 57), none, [], [], false⟩,
     ⟨none, .store 17 (.t 6) (.t 58), none, [], [], false⟩,
     ⟨(some 7), .mv (.c (.int .i64 0)), none, [], [], false⟩])
  .ret))))))),
  [.cell 6 true 17, .tmp 7]⟩

/-- (*wainscot/mem.Mem).Store -/
def i12 : IFun := ⟨11,
  (.seq
   (.region [
     ⟨(some 5), .box 22 1 (.t 2), none, [], [], false⟩,
     ⟨(some 6), .mv (.c (.int .i64 0)), none, [], [], false⟩])
  (.seq
   (.region [
     ⟨(some 7), .mv (.t 0), none, [], [], false⟩,
     ⟨(some 8), .mv (.t 1), none, [], [], false⟩,
     ⟨(some 9), .mkFunc 29 [] [(.t 5)], none, [], [], false⟩,
     ⟨(some 10), .call (.c (.func (.func 28) #[] #[])) [(.t 7), (.t 8), (.c (.int .i64 1)), (.t 9)] false, none, [], [], false⟩,
     ⟨(some 6), .mv (.t 10), none, [], [], false⟩])
  .ret)),
  [.tmp 6]⟩

/-- wainscot/chart.Head -/
def i13 : IFun := ⟨11,
  (.seq
   (.region [
     ⟨(some 2), .box 26 6 (.t 0), none, [], [], false⟩,
     ⟨(some 3), .box 3 1 (.t 1), none, [], [], false⟩,
     ⟨(some 4), .mv (.c (.int .i64 0)), none, [], [], false⟩])
  (.seq
   (.region [
     ⟨(some 5), .load true 6 (.t 2), none, [], [], false⟩,
     ⟨(some 6), .load false 1 (.t 3), none, [], [], false⟩,
     ⟨(some 7), .addOff 0 (.t 2), none, [], [], false⟩,
     ⟨(some 8), .load false 1 (.t 7), none, [], [], false⟩,
     ⟨(some 9), .mkFunc 31 [] [(.t 3)], none, [], [], false⟩,
     ⟨(some 10), .call (.c (.func (.func 30) #[] #[])) [(.t 5), (.t 6), (.t 8), (.t 9)] true, none, [], [], false⟩,
     ⟨(some 4), .mv (.t 10), none, [], [], false⟩])
  .ret)),
  [.tmp 4]⟩

/-- wainscot/mem.New -/
def i14 : IFun := ⟨14,
  (.seq
   (.region [
     ⟨(some 2), .mv (.c (.pointer none)), none, [], [], false⟩,
     ⟨(some 3), .mv (.c (.int .i64 0)), none, [], [], false⟩])
  (.seq
   (.seq
    (.region [
      ⟨(some 4), .mv (.t 0), none, [], [], false⟩,
      ⟨(some 5), .bin .lss .int (.t 4) (.c (.int .i64 1)), none, [], [], false⟩,
      ⟨(some 6), .mv (.t 5), none, [], [], false⟩,
      ⟨(some 7), .mv (.t 0), (some (6, false)), [], [], false⟩,
      ⟨(some 8), .bin .gtr .int (.t 7) (.c (.int .i64 4096)), (some (6, false)), [], [], false⟩,
      ⟨(some 9), .pick (.t 6) (.c (.bool true)) (.t 8), none, [], [], false⟩])
   (.cond (.t 9)
    (.seq
     (.region [
       ⟨(some 2), .mv (.c (.pointer none)), none, [], [], false⟩,
       ⟨(some 3), .mv (.c (.int .i64 9)), none, [], [], false⟩])
    .ret)
    .skip))
  (.seq
   (.region [
     ⟨(some 10), .mv (.t 0), none, [], [], false⟩,
     ⟨(some 11), .mkSlice 22 (.int .u64 0) 8 (.t 10) (.t 10), none, [], [], false⟩,
     ⟨(some 12), .build [(.slice none 0 0), (.int .i64 0)] [(0, 1, (.t 11))], none, [], [], false⟩,
     ⟨(some 13), .box 47 2 (.t 12), none, [], [], false⟩,
     ⟨(some 2), .mv (.t 13), none, [], [], false⟩,
     ⟨(some 3), .mv (.c (.int .i64 0)), none, [], [], false⟩])
  .ret))),
  [.tmp 2, .tmp 3]⟩

/-- wainscot/chart.Words -/
def i15 : IFun := ⟨14,
  (.seq
   (.region [
     ⟨(some 1), .box 26 6 (.t 0), none, [], [], false⟩,
     ⟨(some 2), .mv (.c (.int .i64 0)), none, [], [], false⟩])
  (.seq
   (.seq
    (.region [
      ⟨(some 3), .load true 6 (.t 1), none, [], [], false⟩,
      ⟨(some 4), .call (.c (.func (.func 26) #[] #[])) [(.t 3)] true, none, [], [], false⟩,
      ⟨(some 5), .bin .neq .int (.t 4) (.c (.int .i64 0)), none, [], [], false⟩])
   (.cond (.t 5)
    (.seq
     (.region [
       ⟨(some 2), .mv (.c (.int .i64 0)), none, [], [], false⟩])
    .ret)
    .skip))
  (.seq
   (.region [
     ⟨(some 6), .load true 6 (.t 1), none, [], [], false⟩,
     ⟨(some 7), .call (.c (.func (.func 32) #[] #[])) [(.t 6)] true, none, [], [], false⟩,
     ⟨(some 8), .addOff 1 (.t 1), none, [], [], false⟩,
     ⟨(some 9), .load false 1 (.t 8), none, [], [], false⟩,
     ⟨(some 10), .addOff 2 (.t 1), none, [], [], false⟩,
     ⟨(some 11), .load false 1 (.t 10), none, [], [], false⟩,
     ⟨(some 12), .bin .mul .int (.t 9) (.t 11), none, [], [], false⟩,
     ⟨(some 13), .bin .add .int (.t 7) (.t 12), none, [], [], false⟩,
     ⟨(some 2), .mv (.t 13), none, [], [], false⟩])
  .ret))),
  [.tmp 2]⟩

/-- wainscot/link.Fresh -/
def i16 : IFun := ⟨41,
  (.seq
   (.region [
     ⟨(some 4), .mv (.c (.slice none 0 0)), none, [], [], false⟩,
     ⟨(some 5), .mv (.c (.int .i64 0)), none, [], [], false⟩])
  (.seq
   (.seq
    (.region [
      ⟨(some 8), .mv (.t 0), none, [], [], false⟩,
      ⟨(some 9), .bin .lss .int (.t 8) (.c (.int .i64 1)), none, [], [], false⟩,
      ⟨(some 10), .mv (.t 9), none, [], [], false⟩,
      ⟨(some 11), .mv (.t 0), (some (10, false)), [], [], false⟩,
      ⟨(some 12), .bin .gtr .int (.t 11) (.c (.int .i64 16)), (some (10, false)), [], [], false⟩,
      ⟨(some 13), .pick (.t 10) (.c (.bool true)) (.t 12), none, [], [], false⟩])
   (.cond (.t 13)
    (.seq
     (.region [
       ⟨(some 4), .mv (.c (.slice none 0 0)), none, [], [], false⟩,
       ⟨(some 5), .mv (.c (.int .i64 2)), none, [], [], false⟩])
    .ret)
    .skip))
  (.seq
   (.region [
     ⟨(some 14), .mv (.t 0), none, [], [], false⟩,
     ⟨(some 15), .mkSlice 22 (.int .u64 0) 8 (.t 14) (.t 14), none, [], [], false⟩,
     ⟨(some 6), .mv (.t 15), none, [], [], false⟩])
  (.seq
   (.seq
    (.region [
      ⟨(some 16), .mv (.t 6), none, [], [], false⟩,
      ⟨(some 17), .lenS (.t 16), none, [], [], false⟩,
      ⟨(some 18), .mv (.c (.int .i64 0)), none, [], [], false⟩])
   (.block 0
    (.loop
     (.seq
      (.region [
        ⟨(some 19), .bin .lss .int (.t 18) (.t 17), none, [], [], false⟩])
     (.seq
      (.cond (.t 19)
       .skip
       (.exit 0))
     (.seq
      (.block 1
       (.seq
        (.region [
          ⟨(some 20), .mv (.t 18), none, [], [], false⟩,
          ⟨(some 7), .mv (.t 20), none, [], [], false⟩])
       (.region [
         ⟨(some 21), .mv (.t 6), none, [], [], false⟩,
         ⟨(some 22), .mv (.t 7), none, [], [], false⟩,
         ⟨(some 23), .mv (.t 7), none, [], [], false⟩,
         ⟨(some 24), .bin .add .int (.t 23) (.c (.int .i64 2)), none, [], [], false⟩,
         ⟨(some 25), .conv .u64 (.t 24), none, [], [], false⟩,
         ⟨(some 26), .mv (.t 1), none, [], [], false⟩,
         ⟨(some 27), .mv (.t 7), none, [], [], false⟩,
         ⟨(some 28), .call (.c (.func (.func 33) #[] #[])) [(.t 26), (.t 27)] true, none, [], [], false⟩,
         ⟨(some 29), .bin .xor .int (.t 25) (.t 28), none, [], [], false⟩,
         ⟨(some 30), .idxS 1 (.t 21) (.t 22), none, [], [], false⟩,
         ⟨none, .store 1 (.t 30) (.t 29), none, [], [], false⟩])))
     (.region [
       ⟨(some 31), .bin .add .int (.t 18) (.c (.int .i64 1)), none, [], [], false⟩,
       ⟨(some 18), .mv (.t 31), none, [], [], false⟩])))))))
  (.seq
   (.region [
     ⟨(some 32), .mv (.t 6), none, [], [], false⟩,
     ⟨(some 33), .mv (.t 0), none, [], [], false⟩,
     ⟨(some 34), .bin .sub .int (.t 33) (.c (.int .i64 1)), none, [], [], false⟩,
     ⟨(some 35), .mv (.t 1), none, [], [], false⟩,
     ⟨(some 36), .mv (.t 0), none, [], [], false⟩,
     ⟨(some 37), .bin .sub .int (.t 36) (.c (.int .i64 1)), none, [], [], false⟩,
     ⟨(some 38), .call (.c (.func (.func 33) #[] #[])) [(.t 35), (.t 37)] true, none, [], [], false⟩,
     ⟨(some 39), .idxS 1 (.t 32) (.t 34), none, [], [], false⟩,
     ⟨none, .store 1 (.t 39) (.t 38), none, [], [], false⟩])
  (.seq
   (.region [
     ⟨(some 40), .mv (.t 6), none, [], [], false⟩,
     ⟨(some 4), .mv (.t 40), none, [], [], false⟩,
     ⟨(some 5), .mv (.c (.int .i64 0)), none, [], [], false⟩])
  .ret)))))),
  [.tmp 4, .tmp 5]⟩

/-- wainscot/chart.Key -/
def i17 : IFun := ⟨11,
  (.seq
   (.region [
     ⟨(some 2), .box 26 6 (.t 0), none, [], [], false⟩,
     ⟨(some 4), .mv (.c (.int .u64 0)), none, [], [], false⟩])
  (.seq
   (.region [
     ⟨(some 5), .addOff 5 (.t 2), none, [], [], false⟩,
     ⟨(some 6), .load false 1 (.t 5), none, [], [], false⟩,
     ⟨(some 7), .mv (.t 1), none, [], [], false⟩,
     ⟨(some 8), .conv .u64 (.t 7), none, [], [], false⟩,
     ⟨(some 9), .bin .mul .int (.t 8) (.c (.int .u64 11400714819323198485)), none, [], [], false⟩,
     ⟨(some 10), .bin .add .int (.t 6) (.t 9), none, [], [], false⟩,
     ⟨(some 4), .mv (.t 10), none, [], [], false⟩])
  .ret)),
  [.tmp 4]⟩

/-- wainscot/chart.Link -/
def i18 : IFun := ⟨21,
  (.seq
   (.region [
     ⟨(some 3), .box 26 6 (.t 0), none, [], [], false⟩,
     ⟨(some 4), .box 3 1 (.t 1), none, [], [], false⟩,
     ⟨(some 5), .box 3 1 (.t 2), none, [], [], false⟩,
     ⟨(some 6), .mv (.c (.int .i64 0)), none, [], [], false⟩])
  (.seq
   (.seq
    (.region [
      ⟨(some 7), .load false 1 (.t 4), none, [], [], false⟩,
      ⟨(some 8), .bin .lss .int (.t 7) (.c (.int .i64 0)), none, [], [], false⟩,
      ⟨(some 9), .mv (.t 8), none, [], [], false⟩,
      ⟨(some 10), .load false 1 (.t 4), (some (9, false)), [], [], false⟩,
      ⟨(some 11), .addOff 1 (.t 3), (some (9, false)), [], [], false⟩,
      ⟨(some 12), .load false 1 (.t 11), (some (9, false)), [], [], false⟩,
      ⟨(some 13), .bin .geq .int (.t 10) (.t 12), (some (9, false)), [], [], false⟩,
      ⟨(some 14), .pick (.t 9) (.c (.bool true)) (.t 13), none, [], [], false⟩])
   (.cond (.t 14)
    (.seq
     (.region [
       ⟨(some 6), .mv (.c (.int .i64 (-1))), none, [], [], false⟩])
    .ret)
    .skip))
  (.seq
   (.region [
     ⟨(some 15), .load true 6 (.t 3), none, [], [], false⟩,
     ⟨(some 16), .load false 1 (.t 5), none, [], [], false⟩,
     ⟨(some 17), .addOff 2 (.t 3), none, [], [], false⟩,
     ⟨(some 18), .load false 1 (.t 17), none, [], [], false⟩,
     ⟨(some 19), .mkFunc 34 [] [(.t 3), (.t 4), (.t 5)], none, [], [], false⟩,
     ⟨(some 20), .call (.c (.func (.func 30) #[] #[])) [(.t 15), (.t 16), (.t 18), (.t 19)] true, none, [], [], false⟩,
     ⟨(some 6), .mv (.t 20), none, [], [], false⟩])
  .ret))),
  [.tmp 6]⟩

/-- wainscot/count.Head -/
def i19 : IFun := ⟨33,
  (.seq
   (.region [
     ⟨(some 4), .mv (.c (.int .u64 0)), none, [], [], false⟩,
     ⟨(some 5), .mv (.c (.int .i64 0)), none, [], [], false⟩])
  (.seq
   (.block 0
    (.seq
     (.region [
       ⟨(some 7), .mv (.t 0), none, [], [], false⟩,
       ⟨(some 8), .bin .eql .int (.t 7) (.c (.int .i64 (-1))), none, [], [], false⟩,
       ⟨(some 9), .mv (.t 8), none, [], [], false⟩,
       ⟨(some 10), .mv (.t 1), (some (9, true)), [], [], false⟩,
       ⟨(some 11), .bin .eql .int (.t 10) (.c (.int .i64 (-1))), (some (9, true)), [], [], false⟩,
       ⟨(some 12), .pick (.t 9) (.t 11) (.c (.bool false)), none, [], [], false⟩,
       ⟨(some 6), .mv (.t 12), none, [], [], false⟩])
    (.cond (.t 6)
     (.seq
      (.region [
        ⟨(some 4), .mv (.c (.int .u64 0)), none, [], [], false⟩,
        ⟨(some 5), .mv (.c (.int .i64 0)), none, [], [], false⟩])
     .ret)
     (.seq
      (.region [
        ⟨(some 14), .mv (.t 0), none, [], [], false⟩,
        ⟨(some 15), .call (.c (.func (.func 35) #[] #[])) [(.t 14)] true, none, [], [], false⟩,
        ⟨(some 16), .un .not (.t 15), none, [], [], false⟩,
        ⟨(some 17), .mv (.t 16), none, [], [], false⟩,
        ⟨(some 18), .mv (.t 1), (some (17, false)), [], [], false⟩,
        ⟨(some 19), .bin .lss .int (.t 18) (.c (.int .i64 (-1))), (some (17, false)), [], [], false⟩,
        ⟨(some 20), .pick (.t 17) (.c (.bool true)) (.t 19), none, [], [], false⟩,
        ⟨(some 21), .mv (.t 20), none, [], [], false⟩,
        ⟨(some 22), .mv (.t 1), (some (21, false)), [], [], false⟩,
        ⟨(some 23), .bin .geq .int (.t 22) (.c (.int .i64 16)), (some (21, false)), [], [], false⟩,
        ⟨(some 24), .pick (.t 21) (.c (.bool true)) (.t 23), none, [], [], false⟩,
        ⟨(some 13), .mv (.t 24), none, [], [], false⟩])
     (.cond (.t 13)
      (.seq
       (.region [
         ⟨(some 4), .mv (.c (.int .u64 0)), none, [], [], false⟩,
         ⟨(some 5), .mv (.c (.int .i64 2)), none, [], [], false⟩])
      .ret)
      .skip)))))
  (.seq
   (.region [
     ⟨(some 25), .mv (.t 0), none, [], [], false⟩,
     ⟨(some 26), .bin .add .int (.t 25) (.c (.int .i64 1)), none, [], [], false⟩,
     ⟨(some 27), .conv .u64 (.t 26), none, [], [], false⟩,
     ⟨(some 28), .bin .shl .int (.t 27) (.c (.int .u64 6)), none, [], [], false⟩,
     ⟨(some 29), .mv (.t 1), none, [], [], false⟩,
     ⟨(some 30), .bin .add .int (.t 29) (.c (.int .i64 1)), none, [], [], false⟩,
     ⟨(some 31), .conv .u64 (.t 30), none, [], [], false⟩,
     ⟨(some 32), .bin .or .int (.t 28) (.t 31), none, [], [], false⟩,
     ⟨(some 4), .mv (.t 32), none, [], [], false⟩,
     ⟨(some 5), .mv (.c (.int .i64 0)), none, [], [], false⟩])
  .ret))),
  [.tmp 4, .tmp 5]⟩

/-- wainscot/count.Pack -/
def i20 : IFun := ⟨23,
  (.seq
   (.region [
     ⟨(some 1), .box 62 4 (.t 0), none, [], [], false⟩,
     ⟨(some 2), .mv (.c (.int .u64 0)), none, [], [], false⟩,
     ⟨(some 3), .mv (.c (.int .i64 0)), none, [], [], false⟩])
  (.seq
   (.seq
    (.region [
      ⟨(some 4), .load true 4 (.t 1), none, [], [], false⟩,
      ⟨(some 5), .call (.c (.func (.func 36) #[] #[])) [(.t 4)] true, none, [], [], false⟩,
      ⟨(some 6), .un .not (.t 5), none, [], [], false⟩])
   (.cond (.t 6)
    (.seq
     (.region [
       ⟨(some 2), .mv (.c (.int .u64 0)), none, [], [], false⟩,
       ⟨(some 3), .mv (.c (.int .i64 2)), none, [], [], false⟩])
    .ret)
    .skip))
  (.seq
   (.region [
     ⟨(some 7), .addOff 0 (.t 1), none, [], [], false⟩,
     ⟨(some 8), .load false 1 (.t 7), none, [], [], false⟩,
     ⟨(some 9), .conv .u64 (.t 8), none, [], [], false⟩,
     ⟨(some 10), .addOff 1 (.t 1), none, [], [], false⟩,
     ⟨(some 11), .load false 1 (.t 10), none, [], [], false⟩,
     ⟨(some 12), .conv .u64 (.t 11), none, [], [], false⟩,
     ⟨(some 13), .bin .shl .int (.t 12) (.c (.int .u64 8)), none, [], [], false⟩,
     ⟨(some 14), .bin .or .int (.t 9) (.t 13), none, [], [], false⟩,
     ⟨(some 15), .addOff 2 (.t 1), none, [], [], false⟩,
     ⟨(some 16), .load false 1 (.t 15), none, [], [], false⟩,
     ⟨(some 17), .call (.c (.func (.func 37) #[] #[])) [(.t 16), (.c (.int .u64 65536))] true, none, [], [], false⟩,
     ⟨(some 18), .bin .or .int (.t 14) (.t 17), none, [], [], false⟩,
     ⟨(some 19), .addOff 3 (.t 1), none, [], [], false⟩,
     ⟨(some 20), .load false 1 (.t 19), none, [], [], false⟩,
     ⟨(some 21), .call (.c (.func (.func 37) #[] #[])) [(.t 20), (.c (.int .u64 131072))] true, none, [], [], false⟩,
     ⟨(some 22), .bin .or .int (.t 18) (.t 21), none, [], [], false⟩,
     ⟨(some 2), .mv (.t 22), none, [], [], false⟩,
     ⟨(some 3), .mv (.c (.int .i64 0)), none, [], [], false⟩])
  .ret))),
  [.tmp 2, .tmp 3]⟩

/-- wainscot/chart.First -/
def i21 : IFun := ⟨11,
  (.seq
   (.region [
     ⟨(some 2), .box 26 6 (.t 0), none, [], [], false⟩,
     ⟨(some 3), .box 3 1 (.t 1), none, [], [], false⟩,
     ⟨(some 4), .mv (.c (.int .i64 0)), none, [], [], false⟩])
  (.seq
   (.region [
     ⟨(some 5), .load true 6 (.t 2), none, [], [], false⟩,
     ⟨(some 6), .load false 1 (.t 3), none, [], [], false⟩,
     ⟨(some 7), .addOff 1 (.t 2), none, [], [], false⟩,
     ⟨(some 8), .load false 1 (.t 7), none, [], [], false⟩,
     ⟨(some 9), .mkFunc 38 [] [(.t 2), (.t 3)], none, [], [], false⟩,
     ⟨(some 10), .call (.c (.func (.func 30) #[] #[])) [(.t 5), (.t 6), (.t 8), (.t 9)] true, none, [], [], false⟩,
     ⟨(some 4), .mv (.t 10), none, [], [], false⟩])
  .ret)),
  [.tmp 4]⟩

/-- wainscot/chart.See -/
def i22 : IFun := ⟨95,
  (.seq
   (.region [
     ⟨(some 3), .box 26 6 (.t 1), none, [], [], false⟩,
     ⟨(some 4), .new 66 [(.slice none 0 0), (.slice none 0 0), (.bool false), (.slice none 0 0)], none, [], [], false⟩,
     ⟨(some 5), .mv (.c (.int .i64 0)), none, [], [], false⟩])
  (.seq
   (.seq
    (.region [
      ⟨(some 16), .load true 6 (.t 3), none, [], [], false⟩,
      ⟨(some 17), .call (.c (.func (.func 26) #[] #[])) [(.t 16)] true, none, [], [], false⟩,
      ⟨(some 18), .bin .neq .int (.t 17) (.c (.int .i64 0)), none, [], [], false⟩,
      ⟨(some 19), .mv (.t 18), none, [], [], false⟩,
      ⟨(some 20), .mv (.t 0), (some (19, false)), [], [], false⟩,
      ⟨(some 21), .lenS (.t 20), (some (19, false)), [], [], false⟩,
      ⟨(some 22), .load true 6 (.t 3), (some (19, false)), [], [], false⟩,
      ⟨(some 23), .call (.c (.func (.func 15) #[] #[])) [(.t 22)] true, (some (19, false)), [], [], false⟩,
      ⟨(some 24), .bin .neq .int (.t 21) (.t 23), (some (19, false)), [], [], false⟩,
      ⟨(some 25), .pick (.t 19) (.c (.bool true)) (.t 24), none, [], [], false⟩])
   (.cond (.t 25)
    (.seq
     (.region [
       ⟨(some 26), .build [(.slice none 0 0), (.slice none 0 0), (.bool false), (.slice none 0 0)] [], none, [], [], false⟩,
       ⟨none, .store 4 (.t 4) (.t 26), none, [], [], false⟩,
       ⟨(some 5), .mv (.c (.int .i64 2)), none, [], [], false⟩])
    .ret)
    .skip))
  (.seq
   (.region [
     ⟨(some 27), .mv (.t 0), none, [], [], false⟩,
     ⟨(some 28), .load true 6 (.t 3), none, [], [], false⟩,
     ⟨(some 29), .build [(.slice none 0 0), (.int .i64 0), (.int .i64 0), (.int .i64 0), (.int .i64 0), (.int .i64 0), (.int .u64 0)] [(0, 1, (.t 27)), (1, 6, (.t 28))], none, [], [], false⟩,
     ⟨(some 6), .new 91 [(.slice none 0 0), (.int .i64 0), (.int .i64 0), (.int .i64 0), (.int .i64 0), (.int .i64 0), (.int .u64 0)], none, [], [], false⟩,
     ⟨none, .store 7 (.t 6) (.t 29), none, [], [], false⟩])
  (.seq
   (.region [
     ⟨(some 30), .mv (.t 0), none, [], [], false⟩,
     ⟨(some 31), .load true 6 (.t 3), none, [], [], false⟩,
     ⟨(some 32), .call (.c (.func (.func 40) #[] #[])) [(.t 31)] true, none, [], [], false⟩,
     ⟨(some 33), .idxS 1 (.t 30) (.t 32), none, [], [], false⟩,
     ⟨(some 34), .load false 1 (.t 33), none, [], [], false⟩,
     ⟨(some 35), .bin .neq .int (.t 34) (.c (.int .u64 0)), none, [], [], false⟩,
     ⟨(some 36), .build [(.slice none 0 0), (.slice none 0 0), (.bool false), (.slice none 0 0)] [(2, 1, (.t 35))], none, [], [], false⟩,
     ⟨(some 7), .new 66 [(.slice none 0 0), (.slice none 0 0), (.bool false), (.slice none 0 0)], none, [], [], false⟩,
     ⟨none, .store 4 (.t 7) (.t 36), none, [], [], false⟩])
  (.seq
   (.seq
    (.region [
      ⟨(some 37), .addOff 0 (.t 3), none, [], [], false⟩,
      ⟨(some 38), .load false 1 (.t 37), none, [], [], false⟩,
      ⟨(some 39), .mv (.c (.int .i64 0)), none, [], [], false⟩])
   (.block 0
    (.loop
     (.seq
      (.region [
        ⟨(some 40), .bin .lss .int (.t 39) (.t 38), none, [], [], false⟩])
     (.seq
      (.cond (.t 40)
       .skip
       (.exit 0))
     (.seq
      (.block 1
       (.seq
        (.region [
          ⟨(some 41), .mv (.t 39), none, [], [], false⟩,
          ⟨(some 8), .mv (.t 41), none, [], [], false⟩])
       (.seq
        (.region [
          ⟨(some 43), .load true 7 (.t 6), none, [], [], false⟩,
          ⟨(some 44), .mv (.t 8), none, [], [], false⟩,
          ⟨(some 45), .call (.c (.func (.func 41) #[] #[])) [(.t 43), (.t 44)] true, none, [], [], false⟩,
          ⟨(some 42), .mv (.t 45), none, [], [], false⟩,
          ⟨(some 46), .extract (.t 42) 0, none, [], [], false⟩,
          ⟨(some 47), .extract (.t 42) 1, none, [], [], false⟩,
          ⟨(some 9), .new 71 [(.int .i64 0), (.slice none 0 0), (.int .u64 0), (.slice none 0 0)], none, [], [], false⟩,
          ⟨none, .store 4 (.t 9) (.t 46), none, [], [], false⟩,
          ⟨(some 10), .mv (.t 47), none, [], [], false⟩])
       (.seq
        (.seq
         (.region [
           ⟨(some 48), .mv (.t 10), none, [], [], false⟩,
           ⟨(some 49), .un .not (.t 48), none, [], [], false⟩])
        (.cond (.t 49)
         (.seq
          (.region [
            ⟨(some 50), .build [(.slice none 0 0), (.slice none 0 0), (.bool false), (.slice none 0 0)] [], none, [], [], false⟩,
            ⟨none, .store 4 (.t 4) (.t 50), none, [], [], false⟩,
            ⟨(some 5), .mv (.c (.int .i64 150)), none, [], [], false⟩])
         .ret)
         .skip))
       (.region [
         ⟨(some 51), .addOff 0 (.t 7), none, [], [], false⟩,
         ⟨(some 52), .load false 1 (.t 51), none, [], [], false⟩,
         ⟨(some 53), .load true 4 (.t 9), none, [], [], false⟩,
         ⟨(some 54), .buildSlice 71 [(.int .i64 0), (.slice none 0 0), (.int .u64 0), (.slice none 0 0)] 1 [(0, 4, (.t 53))], none, [], [], false⟩,
         ⟨(some 55), .append 71 4 64 (.t 52) (.t 54), none, [], [], false⟩,
         ⟨(some 56), .addOff 0 (.t 7), none, [], [], false⟩,
         ⟨none, .store 1 (.t 56) (.t 55), none, [], [], false⟩])))))
     (.region [
       ⟨(some 57), .bin .add .int (.t 39) (.c (.int .i64 1)), none, [], [], false⟩,
       ⟨(some 39), .mv (.t 57), none, [], [], false⟩])))))))
  (.seq
   (.region [
     ⟨(some 59), .load true 7 (.t 6), none, [], [], false⟩,
     ⟨(some 60), .mv (.t 0), none, [], [], false⟩,
     ⟨(some 61), .load true 6 (.t 3), none, [], [], false⟩,
     ⟨(some 62), .call (.c (.func (.func 43) #[] #[])) [(.t 61)] true, none, [], [], false⟩,
     ⟨(some 63), .idxS 1 (.t 60) (.t 62), none, [], [], false⟩,
     ⟨(some 64), .load false 1 (.t 63), none, [], [], false⟩,
     ⟨(some 65), .call (.c (.func (.func 42) #[] #[])) [(.t 59), (.t 64), (.c (.func (.func 44) #[] #[]))] true, none, [], [], false⟩,
     ⟨(some 58), .mv (.t 65), none, [], [], false⟩,
     ⟨(some 66), .extract (.t 58) 0, none, [], [], false⟩,
     ⟨(some 67), .extract (.t 58) 1, none, [], [], false⟩,
     ⟨(some 11), .mv (.t 66), none, [], [], false⟩,
     ⟨(some 12), .mv (.t 67), none, [], [], false⟩])
  (.seq
   (.seq
    (.region [
      ⟨(some 68), .mv (.t 12), none, [], [], false⟩,
      ⟨(some 69), .un .not (.t 68), none, [], [], false⟩])
   (.cond (.t 69)
    (.seq
     (.region [
       ⟨(some 70), .build [(.slice none 0 0), (.slice none 0 0), (.bool false), (.slice none 0 0)] [], none, [], [], false⟩,
       ⟨none, .store 4 (.t 4) (.t 70), none, [], [], false⟩,
       ⟨(some 5), .mv (.c (.int .i64 150)), none, [], [], false⟩])
    .ret)
    .skip))
  (.seq
   (.region [
     ⟨(some 71), .mv (.t 11), none, [], [], false⟩,
     ⟨(some 72), .addOff 1 (.t 7), none, [], [], false⟩,
     ⟨none, .store 1 (.t 72) (.t 71), none, [], [], false⟩])
  (.seq
   (.seq
    (.region [
      ⟨(some 73), .addOff 1 (.t 3), none, [], [], false⟩,
      ⟨(some 74), .load false 1 (.t 73), none, [], [], false⟩,
      ⟨(some 75), .mv (.c (.int .i64 0)), none, [], [], false⟩])
   (.block 2
    (.loop
     (.seq
      (.region [
        ⟨(some 76), .bin .lss .int (.t 75) (.t 74), none, [], [], false⟩])
     (.seq
      (.cond (.t 76)
       .skip
       (.exit 2))
     (.seq
      (.block 3
       (.seq
        (.region [
          ⟨(some 77), .mv (.t 75), none, [], [], false⟩,
          ⟨(some 13), .mv (.t 77), none, [], [], false⟩])
       (.seq
        (.region [
          ⟨(some 79), .load true 7 (.t 6), none, [], [], false⟩,
          ⟨(some 80), .mv (.t 13), none, [], [], false⟩,
          ⟨(some 81), .call (.c (.func (.func 45) #[] #[])) [(.t 79), (.t 80)] true, none, [], [], false⟩,
          ⟨(some 78), .mv (.t 81), none, [], [], false⟩,
          ⟨(some 82), .extract (.t 78) 0, none, [], [], false⟩,
          ⟨(some 83), .extract (.t 78) 1, none, [], [], false⟩,
          ⟨(some 14), .new 98 [(.int .i64 0), (.int .i64 0), (.bool false), (.bool false), (.slice none 0 0)], none, [], [], false⟩,
          ⟨none, .store 5 (.t 14) (.t 82), none, [], [], false⟩,
          ⟨(some 15), .mv (.t 83), none, [], [], false⟩])
       (.seq
        (.seq
         (.region [
           ⟨(some 84), .mv (.t 15), none, [], [], false⟩,
           ⟨(some 85), .un .not (.t 84), none, [], [], false⟩])
        (.cond (.t 85)
         (.seq
          (.region [
            ⟨(some 86), .build [(.slice none 0 0), (.slice none 0 0), (.bool false), (.slice none 0 0)] [], none, [], [], false⟩,
            ⟨none, .store 4 (.t 4) (.t 86), none, [], [], false⟩,
            ⟨(some 5), .mv (.c (.int .i64 150)), none, [], [], false⟩])
         .ret)
         .skip))
       (.region [
         ⟨(some 87), .addOff 3 (.t 7), none, [], [], false⟩,
         ⟨(some 88), .load false 1 (.t 87), none, [], [], false⟩,
         ⟨(some 89), .load true 5 (.t 14), none, [], [], false⟩,
         ⟨(some 90), .buildSlice 98 [(.int .i64 0), (.int .i64 0), (.bool false), (.bool false), (.slice none 0 0)] 1 [(0, 5, (.t 89))], none, [], [], false⟩,
         ⟨(some 91), .append 98 5 48 (.t 88) (.t 90), none, [], [], false⟩,
         ⟨(some 92), .addOff 3 (.t 7), none, [], [], false⟩,
         ⟨none, .store 1 (.t 92) (.t 91), none, [], [], false⟩])))))
     (.region [
       ⟨(some 93), .bin .add .int (.t 75) (.c (.int .i64 1)), none, [], [], false⟩,
       ⟨(some 75), .mv (.t 93), none, [], [], false⟩])))))))
  (.seq
   (.region [
     ⟨(some 94), .load true 4 (.t 7), none, [], [], false⟩,
     ⟨none, .store 4 (.t 4) (.t 94), none, [], [], false⟩,
     ⟨(some 5), .mv (.c (.int .i64 0)), none, [], [], false⟩])
  .ret)))))))))),
  [.cell 4 true 4, .tmp 5]⟩

/-- (*wainscot/mem.Mem).Words -/
def i23 : IFun := ⟨10,
  (.seq
   (.region [
     ⟨(some 2), .mv (.c (.slice none 0 0)), none, [], [], false⟩])
  (.seq
   (.seq
    (.region [
      ⟨(some 3), .mv (.t 0), none, [], [], false⟩,
      ⟨(some 4), .bin .eql .ptr (.t 3) (.c (.pointer none)), none, [], [], false⟩])
   (.cond (.t 4)
    (.seq
     (.region [
       ⟨(some 2), .mv (.c (.slice none 0 0)), none, [], [], false⟩])
    .ret)
    .skip))
  (.seq
   (.region [
     ⟨(some 5), .mv (.t 0), none, [], [], false⟩,
     ⟨(some 6), .nilCheck (.t 5), none, [], [], false⟩,
     ⟨(some 7), .addOff 0 (.t 6), none, [], [], false⟩,
     ⟨(some 8), .load false 1 (.t 7), none, [], [], false⟩,
     ⟨(some 9), .call (.c (.func (.func 46) #[] #[])) [(.t 8)] true, none, [], [], false⟩,
     ⟨(some 2), .mv (.t 9), none, [], [], false⟩])
  .ret))),
  [.tmp 2]⟩

/-- wainscot/wainscotref00.EqInts -/
def i24 : IFun := ⟨26,
  (.seq
   (.region [
     ⟨(some 4), .mv (.c (.bool false)), none, [], [], false⟩])
  (.seq
   (.seq
    (.region [
      ⟨(some 6), .mv (.t 0), none, [], [], false⟩,
      ⟨(some 7), .lenS (.t 6), none, [], [], false⟩,
      ⟨(some 8), .mv (.t 1), none, [], [], false⟩,
      ⟨(some 9), .lenS (.t 8), none, [], [], false⟩,
      ⟨(some 10), .bin .neq .int (.t 7) (.t 9), none, [], [], false⟩])
   (.cond (.t 10)
    (.seq
     (.region [
       ⟨(some 4), .mv (.c (.bool false)), none, [], [], false⟩])
    .ret)
    .skip))
  (.seq
   (.seq
    (.region [
      ⟨(some 5), .mv (.c (.int .i64 0)), none, [], [], false⟩])
   (.block 0
    (.loop
     (.seq
      (.seq
       (.region [
         ⟨(some 11), .mv (.t 5), none, [], [], false⟩,
         ⟨(some 12), .mv (.t 0), none, [], [], false⟩,
         ⟨(some 13), .lenS (.t 12), none, [], [], false⟩,
         ⟨(some 14), .bin .lss .int (.t 11) (.t 13), none, [], [], false⟩])
      (.cond (.t 14)
       .skip
       (.exit 0)))
     (.seq
      (.block 1
       (.seq
        (.region [
          ⟨(some 17), .mv (.t 0), none, [], [], false⟩,
          ⟨(some 18), .mv (.t 5), none, [], [], false⟩,
          ⟨(some 19), .idxS 1 (.t 17) (.t 18), none, [], [], false⟩,
          ⟨(some 20), .load false 1 (.t 19), none, [], [], false⟩,
          ⟨(some 21), .mv (.t 1), none, [], [], false⟩,
          ⟨(some 22), .mv (.t 5), none, [], [], false⟩,
          ⟨(some 23), .idxS 1 (.t 21) (.t 22), none, [], [], false⟩,
          ⟨(some 24), .load false 1 (.t 23), none, [], [], false⟩,
          ⟨(some 25), .bin .neq .int (.t 20) (.t 24), none, [], [], false⟩])
       (.cond (.t 25)
        (.seq
         (.region [
           ⟨(some 4), .mv (.c (.bool false)), none, [], [], false⟩])
        .ret)
        .skip)))
     (.region [
       ⟨(some 15), .mv (.t 5), none, [], [], false⟩,
       ⟨(some 16), .bin .add .int (.t 15) (.c (.int .i64 1)), none, [], [], false⟩,
       ⟨(some 5), .mv (.t 16), none, [], [], false⟩]))))))
  (.seq
   (.region [
     ⟨(some 4), .mv (.c (.bool true)), none, [], [], false⟩])
  .ret)))),
  [.tmp 4]⟩

/-- (*wainscot/mem.Mem).Len -/
def i25 : IFun := ⟨10,
  (.seq
   (.region [
     ⟨(some 2), .mv (.c (.int .i64 0)), none, [], [], false⟩])
  (.seq
   (.seq
    (.region [
      ⟨(some 3), .mv (.t 0), none, [], [], false⟩,
      ⟨(some 4), .bin .eql .ptr (.t 3) (.c (.pointer none)), none, [], [], false⟩])
   (.cond (.t 4)
    (.seq
     (.region [
       ⟨(some 2), .mv (.c (.int .i64 0)), none, [], [], false⟩])
    .ret)
    .skip))
  (.seq
   (.region [
     ⟨(some 5), .mv (.t 0), none, [], [], false⟩,
     ⟨(some 6), .nilCheck (.t 5), none, [], [], false⟩,
     ⟨(some 7), .addOff 0 (.t 6), none, [], [], false⟩,
     ⟨(some 8), .load false 1 (.t 7), none, [], [], false⟩,
     ⟨(some 9), .lenS (.t 8), none, [], [], false⟩,
     ⟨(some 2), .mv (.t 9), none, [], [], false⟩])
  .ret))),
  [.tmp 2]⟩

/-- wainscot/chart.Check -/
def i26 : IFun := ⟨35,
  (.seq
   (.region [
     ⟨(some 1), .box 26 6 (.t 0), none, [], [], false⟩,
     ⟨(some 2), .mv (.c (.int .i64 0)), none, [], [], false⟩])
  (.seq
   (.block 0
    (.seq
     (.seq
      (.region [
        ⟨(some 4), .addOff 0 (.t 1), none, [], [], false⟩,
        ⟨(some 5), .load false 1 (.t 4), none, [], [], false⟩,
        ⟨(some 6), .bin .lss .int (.t 5) (.c (.int .i64 1)), none, [], [], false⟩,
        ⟨(some 3), .mv (.t 6), none, [], [], false⟩])
     (.cond (.t 3)
      .skip
      (.seq
       (.region [
         ⟨(some 7), .addOff 0 (.t 1), none, [], [], false⟩,
         ⟨(some 8), .load false 1 (.t 7), none, [], [], false⟩,
         ⟨(some 9), .bin .gtr .int (.t 8) (.c (.int .i64 8)), none, [], [], false⟩,
         ⟨(some 3), .mv (.t 9), none, [], [], false⟩])
      (.cond (.t 3)
       .skip
       (.seq
        (.region [
          ⟨(some 10), .addOff 1 (.t 1), none, [], [], false⟩,
          ⟨(some 11), .load false 1 (.t 10), none, [], [], false⟩,
          ⟨(some 12), .bin .lss .int (.t 11) (.c (.int .i64 1)), none, [], [], false⟩,
          ⟨(some 3), .mv (.t 12), none, [], [], false⟩])
       (.cond (.t 3)
        .skip
        (.seq
         (.region [
           ⟨(some 13), .addOff 1 (.t 1), none, [], [], false⟩,
           ⟨(some 14), .load false 1 (.t 13), none, [], [], false⟩,
           ⟨(some 15), .bin .gtr .int (.t 14) (.c (.int .i64 32)), none, [], [], false⟩,
           ⟨(some 3), .mv (.t 15), none, [], [], false⟩])
        (.cond (.t 3)
         .skip
         (.seq
          (.region [
            ⟨(some 16), .addOff 2 (.t 1), none, [], [], false⟩,
            ⟨(some 17), .load false 1 (.t 16), none, [], [], false⟩,
            ⟨(some 18), .bin .lss .int (.t 17) (.c (.int .i64 1)), none, [], [], false⟩,
            ⟨(some 3), .mv (.t 18), none, [], [], false⟩])
         (.cond (.t 3)
          .skip
          (.region [
            ⟨(some 19), .addOff 2 (.t 1), none, [], [], false⟩,
            ⟨(some 20), .load false 1 (.t 19), none, [], [], false⟩,
            ⟨(some 21), .bin .gtr .int (.t 20) (.c (.int .i64 16)), none, [], [], false⟩,
            ⟨(some 3), .mv (.t 21), none, [], [], false⟩])))))))))))
    (.cond (.t 3)
     (.seq
      (.region [
        ⟨(some 2), .mv (.c (.int .i64 2)), none, [], [], false⟩])
     .ret)
     (.seq
      (.seq
       (.region [
         ⟨(some 23), .addOff 3 (.t 1), none, [], [], false⟩,
         ⟨(some 24), .load false 1 (.t 23), none, [], [], false⟩,
         ⟨(some 25), .bin .lss .int (.t 24) (.c (.int .i64 0)), none, [], [], false⟩,
         ⟨(some 22), .mv (.t 25), none, [], [], false⟩])
      (.cond (.t 22)
       .skip
       (.seq
        (.region [
          ⟨(some 26), .addOff 3 (.t 1), none, [], [], false⟩,
          ⟨(some 27), .load false 1 (.t 26), none, [], [], false⟩,
          ⟨(some 28), .bin .gtr .int (.t 27) (.c (.int .i64 32)), none, [], [], false⟩,
          ⟨(some 22), .mv (.t 28), none, [], [], false⟩])
       (.cond (.t 22)
        .skip
        (.seq
         (.region [
           ⟨(some 29), .addOff 4 (.t 1), none, [], [], false⟩,
           ⟨(some 30), .load false 1 (.t 29), none, [], [], false⟩,
           ⟨(some 31), .bin .lss .int (.t 30) (.c (.int .i64 0)), none, [], [], false⟩,
           ⟨(some 22), .mv (.t 31), none, [], [], false⟩])
        (.cond (.t 22)
         .skip
         (.region [
           ⟨(some 32), .addOff 4 (.t 1), none, [], [], false⟩,
           ⟨(some 33), .load false 1 (.t 32), none, [], [], false⟩,
           ⟨(some 34), .bin .gtr .int (.t 33) (.c (.int .i64 32)), none, [], [], false⟩,
           ⟨(some 22), .mv (.t 34), none, [], [], false⟩])))))))
     (.cond (.t 22)
      (.seq
       (.region [
         ⟨(some 2), .mv (.c (.int .i64 2)), none, [], [], false⟩])
      .ret)
      .skip)))))
  (.seq
   (.region [
     ⟨(some 2), .mv (.c (.int .i64 0)), none, [], [], false⟩])
  .ret))),
  [.tmp 2]⟩

/-- wainscot/fast.program -/
def i27 : IFun := ⟨3,
  (.seq
   (.region [
     ⟨(some 0), .mv (.c (.map none)), none, [], [], false⟩])
  (.seq
   (.region [
     ⟨(some 1), .mkMap, none, [], [], false⟩,
     ⟨none, .mapSet (.t 1) (.c (.int .i64 0)) (.c (.func (.func 47) #[] #[])), none, [], [], false⟩,
     ⟨none, .mapSet (.t 1) (.c (.int .i64 1)) (.c (.func (.func 48) #[] #[])), none, [], [], false⟩,
     ⟨none, .mapSet (.t 1) (.c (.int .i64 2)) (.c (.func (.func 49) #[] #[])), none, [], [], false⟩,
     ⟨none, .mapSet (.t 1) (.c (.int .i64 3)) (.c (.func (.func 50) #[] #[])), none, [], [], false⟩,
     ⟨none, .mapSet (.t 1) (.c (.int .i64 10)) (.c (.func (.func 47) #[] #[])), none, [], [], false⟩,
     ⟨none, .mapSet (.t 1) (.c (.int .i64 11)) (.c (.func (.func 51) #[] #[])), none, [], [], false⟩,
     ⟨none, .mapSet (.t 1) (.c (.int .i64 12)) (.c (.func (.func 52) #[] #[])), none, [], [], false⟩,
     ⟨none, .mapSet (.t 1) (.c (.int .i64 13)) (.c (.func (.func 53) #[] #[])), none, [], [], false⟩,
     ⟨(some 2), .mv (.t 1), none, [], [], false⟩,
     ⟨(some 0), .mv (.t 2), none, [], [], false⟩])
  .ret)),
  [.tmp 0]⟩

/-- (*wainscot/mem.Mem).access -/
def i28 : IFun := ⟨51,
  (.seq
   (.region [
     ⟨(some 8), .mv (.c (.int .i64 0)), none, [], [], false⟩])
  (.seq
   (.block 0
    (.seq
     (.region [
       ⟨(some 10), .mv (.t 0), none, [], [], false⟩,
       ⟨(some 11), .bin .eql .ptr (.t 10) (.c (.pointer none)), none, [], [], false⟩,
       ⟨(some 12), .mv (.t 11), none, [], [], false⟩,
       ⟨(some 13), .mv (.t 0), (some (12, false)), [], [], false⟩,
       ⟨(some 14), .nilCheck (.t 13), (some (12, false)), [], [], false⟩,
       ⟨(some 15), .addOff 0 (.t 14), (some (12, false)), [], [], false⟩,
       ⟨(some 16), .load false 1 (.t 15), (some (12, false)), [], [], false⟩,
       ⟨(some 17), .bin .eql .slice (.t 16) (.c (.slice none 0 0)), (some (12, false)), [], [], false⟩,
       ⟨(some 18), .pick (.t 12) (.c (.bool true)) (.t 17), none, [], [], false⟩,
       ⟨(some 9), .mv (.t 18), none, [], [], false⟩])
    (.cond (.t 9)
     (.seq
      (.region [
        ⟨(some 8), .mv (.c (.int .i64 1)), none, [], [], false⟩])
     .ret)
     (.seq
      (.region [
        ⟨(some 20), .mv (.t 1), none, [], [], false⟩,
        ⟨(some 21), .bin .lss .int (.t 20) (.c (.int .i64 0)), none, [], [], false⟩,
        ⟨(some 22), .mv (.t 21), none, [], [], false⟩,
        ⟨(some 23), .mv (.t 1), (some (22, false)), [], [], false⟩,
        ⟨(some 24), .mv (.t 0), (some (22, false)), [], [], false⟩,
        ⟨(some 25), .nilCheck (.t 24), (some (22, false)), [], [], false⟩,
        ⟨(some 26), .addOff 0 (.t 25), (some (22, false)), [], [], false⟩,
        ⟨(some 27), .load false 1 (.t 26), (some (22, false)), [], [], false⟩,
        ⟨(some 28), .lenS (.t 27), (some (22, false)), [], [], false⟩,
        ⟨(some 29), .mv (.t 2), (some (22, false)), [], [], false⟩,
        ⟨(some 30), .bin .sub .int (.t 28) (.t 29), (some (22, false)), [], [], false⟩,
        ⟨(some 31), .bin .gtr .int (.t 23) (.t 30), (some (22, false)), [], [], false⟩,
        ⟨(some 32), .pick (.t 22) (.c (.bool true)) (.t 31), none, [], [], false⟩,
        ⟨(some 19), .mv (.t 32), none, [], [], false⟩])
     (.cond (.t 19)
      (.seq
       (.region [
         ⟨(some 8), .mv (.c (.int .i64 9)), none, [], [], false⟩])
      .ret)
      .skip)))))
  (.seq
   (.region [
     ⟨(some 33), .mv (.t 0), none, [], [], false⟩,
     ⟨(some 34), .nilCheck (.t 33), none, [], [], false⟩,
     ⟨(some 35), .addOff 1 (.t 34), none, [], [], false⟩,
     ⟨(some 36), .load false 1 (.t 35), none, [], [], false⟩,
     ⟨(some 37), .bin .add .int (.t 36) (.c (.int .i64 1)), none, [], [], false⟩,
     ⟨(some 38), .nilCheck (.t 33), none, [], [], false⟩,
     ⟨(some 39), .addOff 1 (.t 38), none, [], [], false⟩,
     ⟨none, .store 1 (.t 39) (.t 37), none, [], [], false⟩])
  (.seq
   (.region [
     ⟨(some 40), .mv (.t 3), none, [], [], false⟩,
     ⟨(some 41), .mv (.t 0), none, [], [], false⟩,
     ⟨(some 42), .nilCheck (.t 41), none, [], [], false⟩,
     ⟨(some 43), .addOff 0 (.t 42), none, [], [], false⟩,
     ⟨(some 44), .load false 1 (.t 43), none, [], [], false⟩,
     ⟨(some 45), .mv (.t 1), none, [], [], false⟩,
     ⟨(some 46), .mv (.t 1), none, [], [], false⟩,
     ⟨(some 47), .mv (.t 2), none, [], [], false⟩,
     ⟨(some 48), .bin .add .int (.t 46) (.t 47), none, [], [], false⟩,
     ⟨(some 49), .slice 22 (.t 44) (some (.t 45)) (some (.t 48)) none, none, [], [], false⟩,
     ⟨(some 50), .call (.t 40) [(.t 49)] false, none, [], [], false⟩])
  (.seq
   (.region [
     ⟨(some 8), .mv (.c (.int .i64 0)), none, [], [], false⟩])
  .ret))))),
  [.tmp 8]⟩

/-- (*wainscot/mem.Mem).Store$1 -/
def i29 : IFun := ⟨6,
  (.region [
    ⟨(some 3), .mv (.t 0), none, [], [], false⟩,
    ⟨(some 4), .load false 1 (.t 1), none, [], [], false⟩,
    ⟨(some 5), .idxS 1 (.t 3) (.c (.int .i64 0)), none, [], [], false⟩,
    ⟨none, .store 1 (.t 5) (.t 4), none, [], [], false⟩]),
  []⟩

/-- wainscot/chart.guarded -/
def i30 : IFun := ⟨23,
  (.seq
   (.region [
     ⟨(some 4), .box 26 6 (.t 0), none, [], [], false⟩,
     ⟨(some 8), .mv (.c (.int .i64 0)), none, [], [], false⟩])
  (.seq
   (.seq
    (.region [
      ⟨(some 9), .load true 6 (.t 4), none, [], [], false⟩,
      ⟨(some 10), .call (.c (.func (.func 26) #[] #[])) [(.t 9)] true, none, [], [], false⟩,
      ⟨(some 11), .bin .neq .int (.t 10) (.c (.int .i64 0)), none, [], [], false⟩,
      ⟨(some 12), .mv (.t 11), none, [], [], false⟩,
      ⟨(some 13), .mv (.t 1), (some (12, false)), [], [], false⟩,
      ⟨(some 14), .bin .lss .int (.t 13) (.c (.int .i64 0)), (some (12, false)), [], [], false⟩,
      ⟨(some 15), .pick (.t 12) (.c (.bool true)) (.t 14), none, [], [], false⟩,
      ⟨(some 16), .mv (.t 15), none, [], [], false⟩,
      ⟨(some 17), .mv (.t 1), (some (16, false)), [], [], false⟩,
      ⟨(some 18), .mv (.t 2), (some (16, false)), [], [], false⟩,
      ⟨(some 19), .bin .geq .int (.t 17) (.t 18), (some (16, false)), [], [], false⟩,
      ⟨(some 20), .pick (.t 16) (.c (.bool true)) (.t 19), none, [], [], false⟩])
   (.cond (.t 20)
    (.seq
     (.region [
       ⟨(some 8), .mv (.c (.int .i64 (-1))), none, [], [], false⟩])
    .ret)
    .skip))
  (.seq
   (.region [
     ⟨(some 21), .mv (.t 3), none, [], [], false⟩,
     ⟨(some 22), .call (.t 21) [] false, none, [], [], false⟩,
     ⟨(some 8), .mv (.t 22), none, [], [], false⟩])
  .ret))),
  [.tmp 8]⟩

/-- wainscot/chart.Head$1 -/
def i31 : IFun := ⟨4,
  (.seq
   (.region [
     ⟨(some 1), .mv (.c (.int .i64 0)), none, [], [], false⟩])
  (.seq
   (.region [
     ⟨(some 2), .load false 1 (.t 0), none, [], [], false⟩,
     ⟨(some 3), .bin .mul .int (.c (.int .i64 4)) (.t 2), none, [], [], false⟩,
     ⟨(some 1), .mv (.t 3), none, [], [], false⟩])
  .ret)),
  [.tmp 1]⟩

/-- wainscot/chart.links -/
def i32 : IFun := ⟨9,
  (.seq
   (.region [
     ⟨(some 1), .box 26 6 (.t 0), none, [], [], false⟩,
     ⟨(some 2), .mv (.c (.int .i64 0)), none, [], [], false⟩])
  (.seq
   (.region [
     ⟨(some 3), .load true 6 (.t 1), none, [], [], false⟩,
     ⟨(some 4), .call (.c (.func (.func 39) #[] #[])) [(.t 3)] true, none, [], [], false⟩,
     ⟨(some 5), .addOff 1 (.t 1), none, [], [], false⟩,
     ⟨(some 6), .load false 1 (.t 5), none, [], [], false⟩,
     ⟨(some 7), .bin .mul .int (.c (.int .i64 4)) (.t 6), none, [], [], false⟩,
     ⟨(some 8), .bin .add .int (.t 4) (.t 7), none, [], [], false⟩,
     ⟨(some 2), .mv (.t 8), none, [], [], false⟩])
  .ret)),
  [.tmp 2]⟩

/-- wainscot/link.turned -/
def i33 : IFun := ⟨13,
  (.seq
   (.region [
     ⟨(some 4), .mv (.c (.int .u64 0)), none, [], [], false⟩])
  (.seq
   (.region [
     ⟨(some 5), .mv (.t 0), none, [], [], false⟩,
     ⟨(some 6), .mv (.t 1), none, [], [], false⟩,
     ⟨(some 7), .bin .mul .int (.c (.int .i64 5)) (.t 6), none, [], [], false⟩,
     ⟨(some 8), .call (.c (.func (.func 54) #[] #[])) [(.t 5), (.t 7)] true, none, [], [], false⟩,
     ⟨(some 9), .mv (.t 1), none, [], [], false⟩,
     ⟨(some 10), .conv .u64 (.t 9), none, [], [], false⟩,
     ⟨(some 11), .bin .mul .int (.t 10) (.c (.int .u64 2654435769)), none, [], [], false⟩,
     ⟨(some 12), .bin .add .int (.t 8) (.t 11), none, [], [], false⟩,
     ⟨(some 4), .mv (.t 12), none, [], [], false⟩])
  .ret)),
  [.tmp 4]⟩

/-- wainscot/chart.Link$1 -/
def i34 : IFun := ⟨13,
  (.seq
   (.region [
     ⟨(some 3), .mv (.c (.int .i64 0)), none, [], [], false⟩])
  (.seq
   (.region [
     ⟨(some 4), .load true 6 (.t 0), none, [], [], false⟩,
     ⟨(some 5), .call (.c (.func (.func 32) #[] #[])) [(.t 4)] true, none, [], [], false⟩,
     ⟨(some 6), .load false 1 (.t 1), none, [], [], false⟩,
     ⟨(some 7), .addOff 2 (.t 0), none, [], [], false⟩,
     ⟨(some 8), .load false 1 (.t 7), none, [], [], false⟩,
     ⟨(some 9), .bin .mul .int (.t 6) (.t 8), none, [], [], false⟩,
     ⟨(some 10), .bin .add .int (.t 5) (.t 9), none, [], [], false⟩,
     ⟨(some 11), .load false 1 (.t 2), none, [], [], false⟩,
     ⟨(some 12), .bin .add .int (.t 10) (.t 11), none, [], [], false⟩,
     ⟨(some 3), .mv (.t 12), none, [], [], false⟩])
  .ret)),
  [.tmp 3]⟩

/-- wainscot/count.slabMay -/
def i35 : IFun := ⟨9,
  (.seq
   (.region [
     ⟨(some 2), .mv (.c (.bool false)), none, [], [], false⟩])
  (.seq
   (.region [
     ⟨(some 3), .mv (.t 0), none, [], [], false⟩,
     ⟨(some 4), .bin .leq .int (.c (.int .i64 0)) (.t 3), none, [], [], false⟩,
     ⟨(some 5), .mv (.t 4), none, [], [], false⟩,
     ⟨(some 6), .mv (.t 0), (some (5, true)), [], [], false⟩,
     ⟨(some 7), .bin .lss .int (.t 6) (.c (.int .i64 32)), (some (5, true)), [], [], false⟩,
     ⟨(some 8), .pick (.t 5) (.t 7) (.c (.bool false)), none, [], [], false⟩,
     ⟨(some 2), .mv (.t 8), none, [], [], false⟩])
  .ret)),
  [.tmp 2]⟩

/-- wainscot/count.may -/
def i36 : IFun := ⟨32,
  (.seq
   (.region [
     ⟨(some 1), .box 62 4 (.t 0), none, [], [], false⟩,
     ⟨(some 2), .mv (.c (.bool false)), none, [], [], false⟩])
  (.seq
   (.region [
     ⟨(some 3), .addOff 3 (.t 1), none, [], [], false⟩,
     ⟨(some 4), .load false 1 (.t 3), none, [], [], false⟩,
     ⟨(some 5), .mv (.t 4), none, [], [], false⟩,
     ⟨(some 6), .addOff 1 (.t 1), (some (5, true)), [], [], false⟩,
     ⟨(some 7), .load false 1 (.t 6), (some (5, true)), [], [], false⟩,
     ⟨(some 8), .bin .leq .int (.c (.int .i64 1)) (.t 7), (some (5, true)), [], [], false⟩,
     ⟨(some 9), .pick (.t 5) (.t 8) (.c (.bool false)), none, [], [], false⟩,
     ⟨(some 10), .mv (.t 9), none, [], [], false⟩,
     ⟨(some 11), .addOff 1 (.t 1), (some (10, true)), [], [], false⟩,
     ⟨(some 12), .load false 1 (.t 11), (some (10, true)), [], [], false⟩,
     ⟨(some 13), .bin .leq .int (.t 12) (.c (.int .i64 16)), (some (10, true)), [], [], false⟩,
     ⟨(some 14), .pick (.t 10) (.t 13) (.c (.bool false)), none, [], [], false⟩,
     ⟨(some 15), .mv (.t 14), none, [], [], false⟩,
     ⟨(some 16), .addOff 0 (.t 1), (some (15, true)), [], [], false⟩,
     ⟨(some 17), .load false 1 (.t 16), (some (15, true)), [], [], false⟩,
     ⟨(some 18), .bin .leq .int (.c (.int .i64 0)) (.t 17), (some (15, true)), [], [], false⟩,
     ⟨(some 19), .pick (.t 15) (.t 18) (.c (.bool false)), none, [], [], false⟩,
     ⟨(some 20), .mv (.t 19), none, [], [], false⟩,
     ⟨(some 21), .addOff 0 (.t 1), (some (20, true)), [], [], false⟩,
     ⟨(some 22), .load false 1 (.t 21), (some (20, true)), [], [], false⟩,
     ⟨(some 23), .addOff 1 (.t 1), (some (20, true)), [], [], false⟩,
     ⟨(some 24), .load false 1 (.t 23), (some (20, true)), [], [], false⟩,
     ⟨(some 25), .bin .leq .int (.t 22) (.t 24), (some (20, true)), [], [], false⟩,
     ⟨(some 26), .pick (.t 20) (.t 25) (.c (.bool false)), none, [], [], false⟩,
     ⟨(some 27), .mv (.t 26), none, [], [], false⟩,
     ⟨(some 28), .load true 4 (.t 1), (some (27, false)), [], [], false⟩,
     ⟨(some 29), .build [(.int .i64 0), (.int .i64 0), (.bool false), (.bool false)] [], (some (27, false)), [], [], false⟩,
     ⟨(some 30), .bin .eql (.plain [(some .i64), (some .i64), none, none]) (.t 28) (.t 29), (some (27, false)), [], [], false⟩,
     ⟨(some 31), .pick (.t 27) (.c (.bool true)) (.t 30), none, [], [], false⟩,
     ⟨(some 2), .mv (.t 31), none, [], [], false⟩])
  .ret)),
  [.tmp 2]⟩

/-- wainscot/count.flag -/
def i37 : IFun := ⟨7,
  (.seq
   (.region [
     ⟨(some 4), .mv (.c (.int .u64 0)), none, [], [], false⟩])
  (.seq
   (.seq
    (.region [
      ⟨(some 5), .mv (.t 0), none, [], [], false⟩])
   (.cond (.t 5)
    (.seq
     (.region [
       ⟨(some 6), .mv (.t 1), none, [], [], false⟩,
       ⟨(some 4), .mv (.t 6), none, [], [], false⟩])
    .ret)
    .skip))
  (.seq
   (.region [
     ⟨(some 4), .mv (.c (.int .u64 0)), none, [], [], false⟩])
  .ret))),
  [.tmp 4]⟩

/-- wainscot/chart.First$1 -/
def i38 : IFun := ⟨8,
  (.seq
   (.region [
     ⟨(some 2), .mv (.c (.int .i64 0)), none, [], [], false⟩])
  (.seq
   (.region [
     ⟨(some 3), .load true 6 (.t 0), none, [], [], false⟩,
     ⟨(some 4), .call (.c (.func (.func 39) #[] #[])) [(.t 3)] true, none, [], [], false⟩,
     ⟨(some 5), .load false 1 (.t 1), none, [], [], false⟩,
     ⟨(some 6), .bin .mul .int (.c (.int .i64 4)) (.t 5), none, [], [], false⟩,
     ⟨(some 7), .bin .add .int (.t 4) (.t 6), none, [], [], false⟩,
     ⟨(some 2), .mv (.t 7), none, [], [], false⟩])
  .ret)),
  [.tmp 2]⟩

/-- wainscot/chart.slabs -/
def i39 : IFun := ⟨6,
  (.seq
   (.region [
     ⟨(some 1), .box 26 6 (.t 0), none, [], [], false⟩,
     ⟨(some 2), .mv (.c (.int .i64 0)), none, [], [], false⟩])
  (.seq
   (.region [
     ⟨(some 3), .load true 6 (.t 1), none, [], [], false⟩,
     ⟨(some 4), .call (.c (.func (.func 55) #[] #[])) [(.t 3)] true, none, [], [], false⟩,
     ⟨(some 5), .bin .add .int (.t 4) (.c (.int .i64 4)), none, [], [], false⟩,
     ⟨(some 2), .mv (.t 5), none, [], [], false⟩])
  .ret)),
  [.tmp 2]⟩

/-- wainscot/chart.Lock -/
def i40 : IFun := ⟨6,
  (.seq
   (.region [
     ⟨(some 1), .box 26 6 (.t 0), none, [], [], false⟩,
     ⟨(some 2), .mv (.c (.int .i64 0)), none, [], [], false⟩])
  (.seq
   (.region [
     ⟨(some 3), .load true 6 (.t 1), none, [], [], false⟩,
     ⟨(some 4), .mkFunc 56 [] [(.t 1)], none, [], [], false⟩,
     ⟨(some 5), .call (.c (.func (.func 30) #[] #[])) [(.t 3), (.c (.int .i64 0)), (.c (.int .i64 1)), (.t 4)] true, none, [], [], false⟩,
     ⟨(some 2), .mv (.t 5), none, [], [], false⟩])
  .ret)),
  [.tmp 2]⟩

/-- (wainscot/chart.reader).slot -/
def i41 : IFun := ⟨71,
  (.seq
   (.region [
     ⟨(some 2), .box 91 7 (.t 0), none, [], [], false⟩,
     ⟨(some 4), .new 71 [(.int .i64 0), (.slice none 0 0), (.int .u64 0), (.slice none 0 0)], none, [], [], false⟩,
     ⟨(some 5), .mv (.c (.bool false)), none, [], [], false⟩])
  (.seq
   (.region [
     ⟨(some 10), .addOff 1 (.t 2), none, [], [], false⟩,
     ⟨(some 11), .load true 6 (.t 10), none, [], [], false⟩,
     ⟨(some 12), .mv (.t 1), none, [], [], false⟩,
     ⟨(some 13), .call (.c (.func (.func 13) #[] #[])) [(.t 11), (.t 12)] true, none, [], [], false⟩,
     ⟨(some 6), .mv (.t 13), none, [], [], false⟩])
  (.seq
   (.region [
     ⟨(some 15), .addOff 0 (.t 2), none, [], [], false⟩,
     ⟨(some 16), .load false 1 (.t 15), none, [], [], false⟩,
     ⟨(some 17), .mv (.t 6), none, [], [], false⟩,
     ⟨(some 18), .idxS 1 (.t 16) (.t 17), none, [], [], false⟩,
     ⟨(some 19), .load false 1 (.t 18), none, [], [], false⟩,
     ⟨(some 20), .call (.c (.func (.func 57) #[] #[])) [(.t 19)] true, none, [], [], false⟩,
     ⟨(some 14), .mv (.t 20), none, [], [], false⟩,
     ⟨(some 21), .extract (.t 14) 0, none, [], [], false⟩,
     ⟨(some 22), .extract (.t 14) 1, none, [], [], false⟩,
     ⟨(some 23), .extract (.t 14) 2, none, [], [], false⟩,
     ⟨(some 7), .mv (.t 21), none, [], [], false⟩,
     ⟨(some 8), .mv (.t 22), none, [], [], false⟩,
     ⟨(some 9), .mv (.t 23), none, [], [], false⟩])
  (.seq
   (.seq
    (.region [
      ⟨(some 24), .mv (.t 9), none, [], [], false⟩,
      ⟨(some 25), .un .not (.t 24), none, [], [], false⟩,
      ⟨(some 26), .mv (.t 25), none, [], [], false⟩,
      ⟨(some 27), .mv (.t 7), (some (26, false)), [], [], false⟩,
      ⟨(some 28), .addOff 1 (.t 2), (some (26, false)), [], [], false⟩,
      ⟨(some 29), .addOff 1 (.t 28), (some (26, false)), [], [], false⟩,
      ⟨(some 30), .load false 1 (.t 29), (some (26, false)), [], [], false⟩,
      ⟨(some 31), .bin .geq .int (.t 27) (.t 30), (some (26, false)), [], [], false⟩,
      ⟨(some 32), .pick (.t 26) (.c (.bool true)) (.t 31), none, [], [], false⟩])
   (.cond (.t 32)
    (.seq
     (.region [
       ⟨(some 33), .build [(.int .i64 0), (.slice none 0 0), (.int .u64 0), (.slice none 0 0)] [], none, [], [], false⟩,
       ⟨none, .store 4 (.t 4) (.t 33), none, [], [], false⟩,
       ⟨(some 5), .mv (.c (.bool false)), none, [], [], false⟩])
    .ret)
    .skip))
  (.seq
   (.region [
     ⟨(some 34), .mv (.t 7), none, [], [], false⟩,
     ⟨(some 35), .addOff 0 (.t 2), none, [], [], false⟩,
     ⟨(some 36), .load false 1 (.t 35), none, [], [], false⟩,
     ⟨(some 37), .mv (.t 6), none, [], [], false⟩,
     ⟨(some 38), .bin .add .int (.t 37) (.c (.int .i64 1)), none, [], [], false⟩,
     ⟨(some 39), .idxS 1 (.t 36) (.t 38), none, [], [], false⟩,
     ⟨(some 40), .load false 1 (.t 39), none, [], [], false⟩,
     ⟨(some 41), .build [(.int .i64 0), (.slice none 0 0), (.int .u64 0), (.slice none 0 0)] [(0, 1, (.t 34)), (2, 1, (.t 40))], none, [], [], false⟩,
     ⟨none, .store 4 (.t 4) (.t 41), none, [], [], false⟩])
  (.seq
   (.seq
    (.region [
      ⟨(some 42), .mv (.t 7), none, [], [], false⟩,
      ⟨(some 43), .bin .neq .int (.t 42) (.c (.int .i64 (-1))), none, [], [], false⟩])
   (.cond (.t 43)
    (.seq
     (.region [
       ⟨(some 45), .load true 7 (.t 2), none, [], [], false⟩,
       ⟨(some 46), .mv (.t 7), none, [], [], false⟩,
       ⟨(some 47), .mv (.t 8), none, [], [], false⟩,
       ⟨(some 48), .call (.c (.func (.func 58) #[] #[])) [(.t 45), (.t 46), (.t 47)] true, none, [], [], false⟩,
       ⟨(some 44), .mv (.t 48), none, [], [], false⟩,
       ⟨(some 49), .extract (.t 44) 0, none, [], [], false⟩,
       ⟨(some 50), .extract (.t 44) 1, none, [], [], false⟩,
       ⟨(some 51), .addOff 1 (.t 4), none, [], [], false⟩,
       ⟨none, .store 1 (.t 51) (.t 49), none, [], [], false⟩,
       ⟨(some 5), .mv (.t 50), none, [], [], false⟩])
    (.seq
     (.region [
       ⟨(some 52), .mv (.t 5), none, [], [], false⟩,
       ⟨(some 53), .un .not (.t 52), none, [], [], false⟩])
    (.cond (.t 53)
     (.seq
      (.region [
        ⟨(some 54), .build [(.int .i64 0), (.slice none 0 0), (.int .u64 0), (.slice none 0 0)] [], none, [], [], false⟩,
        ⟨none, .store 4 (.t 4) (.t 54), none, [], [], false⟩,
        ⟨(some 5), .mv (.c (.bool false)), none, [], [], false⟩])
     .ret)
     .skip)))
    .skip))
  (.seq
   (.seq
    (.region [
      ⟨(some 56), .load true 7 (.t 2), none, [], [], false⟩,
      ⟨(some 57), .addOff 0 (.t 2), none, [], [], false⟩,
      ⟨(some 58), .load false 1 (.t 57), none, [], [], false⟩,
      ⟨(some 59), .mv (.t 6), none, [], [], false⟩,
      ⟨(some 60), .bin .add .int (.t 59) (.c (.int .i64 2)), none, [], [], false⟩,
      ⟨(some 61), .idxS 1 (.t 58) (.t 60), none, [], [], false⟩,
      ⟨(some 62), .load false 1 (.t 61), none, [], [], false⟩,
      ⟨(some 63), .call (.c (.func (.func 42) #[] #[])) [(.t 56), (.t 62), (.c (.func (.func 59) #[] #[]))] true, none, [], [], false⟩,
      ⟨(some 55), .mv (.t 63), none, [], [], false⟩,
      ⟨(some 64), .extract (.t 55) 0, none, [], [], false⟩,
      ⟨(some 65), .extract (.t 55) 1, none, [], [], false⟩,
      ⟨(some 66), .addOff 3 (.t 4), none, [], [], false⟩,
      ⟨none, .store 1 (.t 66) (.t 64), none, [], [], false⟩,
      ⟨(some 5), .mv (.t 65), none, [], [], false⟩])
   (.seq
    (.region [
      ⟨(some 67), .mv (.t 5), none, [], [], false⟩,
      ⟨(some 68), .un .not (.t 67), none, [], [], false⟩])
   (.cond (.t 68)
    (.seq
     (.region [
       ⟨(some 69), .build [(.int .i64 0), (.slice none 0 0), (.int .u64 0), (.slice none 0 0)] [], none, [], [], false⟩,
       ⟨none, .store 4 (.t 4) (.t 69), none, [], [], false⟩,
       ⟨(some 5), .mv (.c (.bool false)), none, [], [], false⟩])
    .ret)
    .skip)))
  (.seq
   (.region [
     ⟨(some 70), .load true 4 (.t 4), none, [], [], false⟩,
     ⟨none, .store 4 (.t 4) (.t 70), none, [], [], false⟩,
     ⟨(some 5), .mv (.c (.bool true)), none, [], [], false⟩])
  .ret)))))))),
  [.cell 4 true 4, .tmp 5]⟩

/-- (wainscot/chart.reader).chain -/
def i42 : IFun := ⟨48,
  (.seq
   (.region [
     ⟨(some 3), .box 91 7 (.t 0), none, [], [], false⟩,
     ⟨(some 6), .mv (.c (.slice none 0 0)), none, [], [], false⟩,
     ⟨(some 7), .mv (.c (.bool false)), none, [], [], false⟩])
  (.seq
   (.region [
     ⟨(some 11), .mkMap, none, [], [], false⟩,
     ⟨(some 8), .mv (.t 11), none, [], [], false⟩])
  (.block 0
   (.loop
    (.block 1
     (.seq
      (.region [
        ⟨(some 13), .mv (.t 2), none, [], [], false⟩,
        ⟨(some 14), .mv (.t 1), none, [], [], false⟩,
        ⟨(some 15), .call (.t 13) [(.t 14)] false, none, [], [], false⟩,
        ⟨(some 12), .mv (.t 15), none, [], [], false⟩,
        ⟨(some 16), .extract (.t 12) 0, none, [], [], false⟩,
        ⟨(some 17), .extract (.t 12) 1, none, [], [], false⟩,
        ⟨(some 9), .mv (.t 16), none, [], [], false⟩,
        ⟨(some 10), .mv (.t 17), none, [], [], false⟩])
     (.seq
      (.block 2
       (.seq
        (.seq
         (.region [
           ⟨(some 19), .mv (.t 10), none, [], [], false⟩,
           ⟨(some 20), .un .not (.t 19), none, [], [], false⟩,
           ⟨(some 18), .mv (.t 20), none, [], [], false⟩])
        (.cond (.t 18)
         .skip
         (.seq
          (.region [
            ⟨(some 21), .mv (.t 9), none, [], [], false⟩,
            ⟨(some 22), .addOff 1 (.t 3), none, [], [], false⟩,
            ⟨(some 23), .addOff 1 (.t 22), none, [], [], false⟩,
            ⟨(some 24), .load false 1 (.t 23), none, [], [], false⟩,
            ⟨(some 25), .bin .geq .int (.t 21) (.t 24), none, [], [], false⟩,
            ⟨(some 18), .mv (.t 25), none, [], [], false⟩])
         (.cond (.t 18)
          .skip
          (.region [
            ⟨(some 26), .mv (.t 8), none, [], [], false⟩,
            ⟨(some 27), .mv (.t 9), none, [], [], false⟩,
            ⟨(some 28), .lookup (.int .i64 0) false (.t 26) (.t 27), none, [], [], false⟩,
            ⟨(some 29), .bin .gtr .int (.t 28) (.c (.int .i64 0)), none, [], [], false⟩,
            ⟨(some 18), .mv (.t 29), none, [], [], false⟩])))))
       (.cond (.t 18)
        (.seq
         (.region [
           ⟨(some 6), .mv (.c (.slice none 0 0)), none, [], [], false⟩,
           ⟨(some 7), .mv (.c (.bool false)), none, [], [], false⟩])
        .ret)
        (.seq
         (.region [
           ⟨(some 31), .mv (.t 9), none, [], [], false⟩,
           ⟨(some 32), .bin .eql .int (.t 31) (.c (.int .i64 (-1))), none, [], [], false⟩,
           ⟨(some 30), .mv (.t 32), none, [], [], false⟩])
        (.cond (.t 30)
         (.seq
          (.region [
            ⟨(some 33), .mv (.t 6), none, [], [], false⟩,
            ⟨(some 6), .mv (.t 33), none, [], [], false⟩,
            ⟨(some 7), .mv (.c (.bool true)), none, [], [], false⟩])
         .ret)
         .skip)))))
     (.seq
      (.region [
        ⟨(some 34), .mv (.t 8), none, [], [], false⟩,
        ⟨(some 35), .mv (.t 9), none, [], [], false⟩,
        ⟨none, .mapSet (.t 34) (.t 35) (.c (.int .i64 1)), none, [], [], false⟩])
     (.seq
      (.region [
        ⟨(some 36), .mv (.t 6), none, [], [], false⟩,
        ⟨(some 37), .mv (.t 9), none, [], [], false⟩,
        ⟨(some 38), .buildSlice 3 [(.int .i64 0)] 1 [(0, 1, (.t 37))], none, [], [], false⟩,
        ⟨(some 39), .append 3 1 8 (.t 36) (.t 38), none, [], [], false⟩,
        ⟨(some 6), .mv (.t 39), none, [], [], false⟩])
     (.region [
       ⟨(some 40), .addOff 0 (.t 3), none, [], [], false⟩,
       ⟨(some 41), .load false 1 (.t 40), none, [], [], false⟩,
       ⟨(some 42), .addOff 1 (.t 3), none, [], [], false⟩,
       ⟨(some 43), .load true 6 (.t 42), none, [], [], false⟩,
       ⟨(some 44), .mv (.t 9), none, [], [], false⟩,
       ⟨(some 45), .call (.c (.func (.func 60) #[] #[])) [(.t 43), (.t 44)] true, none, [], [], false⟩,
       ⟨(some 46), .idxS 1 (.t 41) (.t 45), none, [], [], false⟩,
       ⟨(some 47), .load false 1 (.t 46), none, [], [], false⟩,
       ⟨(some 1), .mv (.t 47), none, [], [], false⟩])))))))))),
  [.tmp 6, .tmp 7]⟩

/-- wainscot/chart.Shelf -/
def i43 : IFun := ⟨6,
  (.seq
   (.region [
     ⟨(some 1), .box 26 6 (.t 0), none, [], [], false⟩,
     ⟨(some 2), .mv (.c (.int .i64 0)), none, [], [], false⟩])
  (.seq
   (.region [
     ⟨(some 3), .load true 6 (.t 1), none, [], [], false⟩,
     ⟨(some 4), .mkFunc 61 [] [(.t 1)], none, [], [], false⟩,
     ⟨(some 5), .call (.c (.func (.func 30) #[] #[])) [(.t 3), (.c (.int .i64 0)), (.c (.int .i64 1)), (.t 4)] true, none, [], [], false⟩,
     ⟨(some 2), .mv (.t 5), none, [], [], false⟩])
  .ret)),
  [.tmp 2]⟩

/-- wainscot/chart.shelfOf -/
def i44 : IFun := ⟨9,
  (.seq
   (.region [
     ⟨(some 2), .mv (.c (.int .i64 0)), none, [], [], false⟩,
     ⟨(some 3), .mv (.c (.bool false)), none, [], [], false⟩])
  (.seq
   (.region [
     ⟨(some 4), .mv (.t 0), none, [], [], false⟩,
     ⟨(some 5), .conv .i64 (.t 4), none, [], [], false⟩,
     ⟨(some 6), .bin .sub .int (.t 5) (.c (.int .i64 1)), none, [], [], false⟩,
     ⟨(some 7), .mv (.t 0), none, [], [], false⟩,
     ⟨(some 8), .bin .leq .int (.t 7) (.c (.int .u64 32)), none, [], [], false⟩,
     ⟨(some 2), .mv (.t 6), none, [], [], false⟩,
     ⟨(some 3), .mv (.t 8), none, [], [], false⟩])
  .ret)),
  [.tmp 2, .tmp 3]⟩

/-- (wainscot/chart.reader).slab -/
def i45 : IFun := ⟨53,
  (.seq
   (.region [
     ⟨(some 2), .box 91 7 (.t 0), none, [], [], false⟩,
     ⟨(some 4), .new 98 [(.int .i64 0), (.int .i64 0), (.bool false), (.bool false), (.slice none 0 0)], none, [], [], false⟩,
     ⟨(some 5), .mv (.c (.bool false)), none, [], [], false⟩])
  (.seq
   (.region [
     ⟨(some 8), .addOff 1 (.t 2), none, [], [], false⟩,
     ⟨(some 9), .load true 6 (.t 8), none, [], [], false⟩,
     ⟨(some 10), .mv (.t 1), none, [], [], false⟩,
     ⟨(some 11), .call (.c (.func (.func 21) #[] #[])) [(.t 9), (.t 10)] true, none, [], [], false⟩,
     ⟨(some 6), .mv (.t 11), none, [], [], false⟩])
  (.seq
   (.region [
     ⟨(some 12), .addOff 0 (.t 2), none, [], [], false⟩,
     ⟨(some 13), .load false 1 (.t 12), none, [], [], false⟩,
     ⟨(some 14), .mv (.t 6), none, [], [], false⟩,
     ⟨(some 15), .idxS 1 (.t 13) (.t 14), none, [], [], false⟩,
     ⟨(some 16), .load false 1 (.t 15), none, [], [], false⟩,
     ⟨(some 7), .mv (.t 16), none, [], [], false⟩])
  (.seq
   (.seq
    (.region [
      ⟨(some 18), .addOff 0 (.t 2), none, [], [], false⟩,
      ⟨(some 19), .load false 1 (.t 18), none, [], [], false⟩,
      ⟨(some 20), .mv (.t 6), none, [], [], false⟩,
      ⟨(some 21), .bin .add .int (.t 20) (.c (.int .i64 1)), none, [], [], false⟩,
      ⟨(some 22), .idxS 1 (.t 19) (.t 21), none, [], [], false⟩,
      ⟨(some 23), .load false 1 (.t 22), none, [], [], false⟩,
      ⟨(some 24), .call (.c (.func (.func 62) #[] #[])) [(.t 23)] true, none, [], [], false⟩,
      ⟨(some 17), .mv (.t 24), none, [], [], false⟩,
      ⟨(some 25), .extract (.t 17) 0, none, [], [], false⟩,
      ⟨(some 26), .extract (.t 17) 1, none, [], [], false⟩,
      ⟨(some 27), .addOff 0 (.t 4), none, [], [], false⟩,
      ⟨none, .store 4 (.t 27) (.t 25), none, [], [], false⟩,
      ⟨(some 5), .mv (.t 26), none, [], [], false⟩])
   (.seq
    (.region [
      ⟨(some 28), .mv (.t 5), none, [], [], false⟩,
      ⟨(some 29), .un .not (.t 28), none, [], [], false⟩,
      ⟨(some 30), .mv (.t 29), none, [], [], false⟩,
      ⟨(some 31), .mv (.t 7), (some (30, false)), [], [], false⟩,
      ⟨(some 32), .addOff 1 (.t 2), (some (30, false)), [], [], false⟩,
      ⟨(some 33), .addOff 2 (.t 32), (some (30, false)), [], [], false⟩,
      ⟨(some 34), .load false 1 (.t 33), (some (30, false)), [], [], false⟩,
      ⟨(some 35), .conv .u64 (.t 34), (some (30, false)), [], [], false⟩,
      ⟨(some 36), .bin .gtr .int (.t 31) (.t 35), (some (30, false)), [], [], false⟩,
      ⟨(some 37), .pick (.t 30) (.c (.bool true)) (.t 36), none, [], [], false⟩])
   (.cond (.t 37)
    (.seq
     (.region [
       ⟨(some 38), .build [(.int .i64 0), (.int .i64 0), (.bool false), (.bool false), (.slice none 0 0)] [], none, [], [], false⟩,
       ⟨none, .store 5 (.t 4) (.t 38), none, [], [], false⟩,
       ⟨(some 5), .mv (.c (.bool false)), none, [], [], false⟩])
    .ret)
    .skip)))
  (.seq
   (.seq
    (.region [
      ⟨(some 40), .load true 7 (.t 2), none, [], [], false⟩,
      ⟨(some 41), .mv (.t 1), none, [], [], false⟩,
      ⟨(some 42), .mv (.t 7), none, [], [], false⟩,
      ⟨(some 43), .conv .i64 (.t 42), none, [], [], false⟩,
      ⟨(some 44), .bin .sub .int (.t 43) (.c (.int .i64 1)), none, [], [], false⟩,
      ⟨(some 45), .call (.c (.func (.func 58) #[] #[])) [(.t 40), (.t 41), (.t 44)] true, none, [], [], false⟩,
      ⟨(some 39), .mv (.t 45), none, [], [], false⟩,
      ⟨(some 46), .extract (.t 39) 0, none, [], [], false⟩,
      ⟨(some 47), .extract (.t 39) 1, none, [], [], false⟩,
      ⟨(some 48), .addOff 4 (.t 4), none, [], [], false⟩,
      ⟨none, .store 1 (.t 48) (.t 46), none, [], [], false⟩,
      ⟨(some 5), .mv (.t 47), none, [], [], false⟩])
   (.seq
    (.region [
      ⟨(some 49), .mv (.t 5), none, [], [], false⟩,
      ⟨(some 50), .un .not (.t 49), none, [], [], false⟩])
   (.cond (.t 50)
    (.seq
     (.region [
       ⟨(some 51), .build [(.int .i64 0), (.int .i64 0), (.bool false), (.bool false), (.slice none 0 0)] [], none, [], [], false⟩,
       ⟨none, .store 5 (.t 4) (.t 51), none, [], [], false⟩,
       ⟨(some 5), .mv (.c (.bool false)), none, [], [], false⟩])
    .ret)
    .skip)))
  (.seq
   (.region [
     ⟨(some 52), .load true 5 (.t 4), none, [], [], false⟩,
     ⟨none, .store 5 (.t 4) (.t 52), none, [], [], false⟩,
     ⟨(some 5), .mv (.c (.bool true)), none, [], [], false⟩])
  .ret)))))),
  [.cell 4 true 5, .tmp 5]⟩

/-- slices.Clone[[]uint64,uint64] -/
def i46 : IFun := ⟨8,
  (.seq
   (.region [
     ⟨(some 2), .mv (.c (.slice none 0 0)), none, [], [], false⟩])
  (.seq
   (.seq
    (.region [
      ⟨(some 3), .mv (.t 0), none, [], [], false⟩,
      ⟨(some 4), .bin .eql .slice (.t 3) (.c (.slice none 0 0)), none, [], [], false⟩])
   (.cond (.t 4)
    (.seq
     (.region [
       ⟨(some 2), .mv (.c (.slice none 0 0)), none, [], [], false⟩])
    .ret)
    .skip))
  (.seq
   (.region [
     ⟨(some 5), .buildSlice 22 [] 0 [], none, [], [], false⟩,
     ⟨(some 6), .mv (.t 0), none, [], [], false⟩,
     ⟨(some 7), .append 22 1 8 (.t 5) (.t 6), none, [], [], false⟩,
     ⟨(some 2), .mv (.t 7), none, [], [], false⟩])
  .ret))),
  [.tmp 2]⟩

/-- (*wainscot/fast.step).turn -/
def i47 : IFun := ⟨27,
  (.seq
   (.region [
     ⟨(some 2), .mv (.t 0), none, [], [], false⟩,
     ⟨(some 3), .mv (.t 0), none, [], [], false⟩,
     ⟨(some 4), .mv (.t 0), none, [], [], false⟩,
     ⟨(some 5), .nilCheck (.t 4), none, [], [], false⟩,
     ⟨(some 6), .addOff 1 (.t 5), none, [], [], false⟩,
     ⟨(some 7), .load true 6 (.t 6), none, [], [], false⟩,
     ⟨(some 8), .mv (.t 0), none, [], [], false⟩,
     ⟨(some 9), .nilCheck (.t 8), none, [], [], false⟩,
     ⟨(some 10), .addOff 7 (.t 9), none, [], [], false⟩,
     ⟨(some 11), .addOff 1 (.t 10), none, [], [], false⟩,
     ⟨(some 12), .load false 1 (.t 11), none, [], [], false⟩,
     ⟨(some 13), .call (.c (.func (.func 13) #[] #[])) [(.t 7), (.t 12)] true, none, [], [], false⟩,
     ⟨(some 14), .call (.c (.func (.func 64) #[] #[])) [(.t 13)] true, none, [], [], false⟩,
     ⟨(some 15), .call (.c (.func (.func 63) #[] #[])) [(.t 3), (.t 14)] false, none, [], [], false⟩,
     ⟨(some 16), .nilCheck (.t 2), none, [], [], false⟩,
     ⟨(some 17), .addOff 7 (.t 16), none, [], [], false⟩,
     ⟨(some 18), .addOff 8 (.t 17), none, [], [], false⟩,
     ⟨none, .store 1 (.t 18) (.t 15), none, [], [], false⟩])
  (.region [
    ⟨(some 19), .mv (.t 0), none, [], [], false⟩,
    ⟨(some 20), .mv (.t 0), none, [], [], false⟩,
    ⟨(some 21), .nilCheck (.t 20), none, [], [], false⟩,
    ⟨(some 22), .addOff 7 (.t 21), none, [], [], false⟩,
    ⟨(some 23), .addOff 2 (.t 22), none, [], [], false⟩,
    ⟨(some 24), .load false 1 (.t 23), none, [], [], false⟩,
    ⟨(some 25), .bin .add .int (.t 24) (.c (.int .i64 1)), none, [], [], false⟩,
    ⟨(some 26), .call (.c (.func (.func 65) #[] #[])) [(.t 19), (.t 25)] false, none, [], [], false⟩])),
  []⟩

/-- (*wainscot/fast.step).look -/
def i48 : IFun := ⟨35,
  (.seq
   (.region [
     ⟨(some 3), .mv (.t 0), none, [], [], false⟩,
     ⟨(some 4), .mv (.t 0), none, [], [], false⟩,
     ⟨(some 5), .mv (.t 0), none, [], [], false⟩,
     ⟨(some 6), .call (.c (.func (.func 66) #[] #[])) [(.t 5)] false, none, [], [], false⟩,
     ⟨(some 2), .mv (.t 6), none, [], [], false⟩,
     ⟨(some 7), .extract (.t 2) 0, none, [], [], false⟩,
     ⟨(some 8), .extract (.t 2) 1, none, [], [], false⟩,
     ⟨(some 9), .nilCheck (.t 3), none, [], [], false⟩,
     ⟨(some 10), .addOff 7 (.t 9), none, [], [], false⟩,
     ⟨(some 11), .addOff 5 (.t 10), none, [], [], false⟩,
     ⟨none, .store 1 (.t 11) (.t 7), none, [], [], false⟩,
     ⟨(some 12), .nilCheck (.t 4), none, [], [], false⟩,
     ⟨(some 13), .addOff 7 (.t 12), none, [], [], false⟩,
     ⟨(some 14), .addOff 6 (.t 13), none, [], [], false⟩,
     ⟨none, .store 1 (.t 14) (.t 8), none, [], [], false⟩])
  (.block 0
   (.seq
    (.region [
      ⟨(some 18), .mv (.t 0), none, [], [], false⟩,
      ⟨(some 19), .nilCheck (.t 18), none, [], [], false⟩,
      ⟨(some 20), .addOff 7 (.t 19), none, [], [], false⟩,
      ⟨(some 21), .addOff 5 (.t 20), none, [], [], false⟩,
      ⟨(some 22), .load false 1 (.t 21), none, [], [], false⟩,
      ⟨(some 23), .bin .lss .int (.t 22) (.c (.int .i64 0)), none, [], [], false⟩,
      ⟨(some 17), .mv (.t 23), none, [], [], false⟩])
   (.cond (.t 17)
    (.region [
      ⟨(some 24), .mv (.t 0), none, [], [], false⟩,
      ⟨(some 25), .call (.c (.func (.func 65) #[] #[])) [(.t 24), (.c (.int .i64 30))] false, none, [], [], false⟩])
    (.seq
     (.region [
       ⟨(some 27), .mv (.t 0), none, [], [], false⟩,
       ⟨(some 28), .nilCheck (.t 27), none, [], [], false⟩,
       ⟨(some 29), .addOff 7 (.t 28), none, [], [], false⟩,
       ⟨(some 30), .addOff 6 (.t 29), none, [], [], false⟩,
       ⟨(some 31), .load false 1 (.t 30), none, [], [], false⟩,
       ⟨(some 32), .bin .lss .int (.t 31) (.c (.int .i64 0)), none, [], [], false⟩,
       ⟨(some 26), .mv (.t 32), none, [], [], false⟩])
    (.cond (.t 26)
     (.region [
       ⟨(some 33), .mv (.t 0), none, [], [], false⟩,
       ⟨(some 34), .call (.c (.func (.func 65) #[] #[])) [(.t 33), (.c (.int .i64 20))] false, none, [], [], false⟩])
     (.region [
       ⟨(some 15), .mv (.t 0), none, [], [], false⟩,
       ⟨(some 16), .call (.c (.func (.func 65) #[] #[])) [(.t 15), (.c (.int .i64 2))] false, none, [], [], false⟩]))))))),
  []⟩

/-- (*wainscot/fast.step).next -/
def i49 : IFun := ⟨62,
  (.seq
   (.region [
     ⟨(some 5), .mv (.t 0), none, [], [], false⟩,
     ⟨(some 6), .mv (.t 0), none, [], [], false⟩,
     ⟨(some 7), .nilCheck (.t 6), none, [], [], false⟩,
     ⟨(some 8), .addOff 1 (.t 7), none, [], [], false⟩,
     ⟨(some 9), .load true 6 (.t 8), none, [], [], false⟩,
     ⟨(some 10), .mv (.t 0), none, [], [], false⟩,
     ⟨(some 11), .nilCheck (.t 10), none, [], [], false⟩,
     ⟨(some 12), .addOff 7 (.t 11), none, [], [], false⟩,
     ⟨(some 13), .addOff 5 (.t 12), none, [], [], false⟩,
     ⟨(some 14), .load false 1 (.t 13), none, [], [], false⟩,
     ⟨(some 15), .mv (.t 0), none, [], [], false⟩,
     ⟨(some 16), .nilCheck (.t 15), none, [], [], false⟩,
     ⟨(some 17), .addOff 7 (.t 16), none, [], [], false⟩,
     ⟨(some 18), .addOff 6 (.t 17), none, [], [], false⟩,
     ⟨(some 19), .load false 1 (.t 18), none, [], [], false⟩,
     ⟨(some 20), .call (.c (.func (.func 18) #[] #[])) [(.t 9), (.t 14), (.t 19)] true, none, [], [], false⟩,
     ⟨(some 21), .call (.c (.func (.func 63) #[] #[])) [(.t 5), (.t 20)] false, none, [], [], false⟩,
     ⟨(some 2), .mv (.t 21), none, [], [], false⟩])
  (.seq
   (.region [
     ⟨(some 23), .mv (.t 2), none, [], [], false⟩,
     ⟨(some 24), .mv (.t 0), none, [], [], false⟩,
     ⟨(some 25), .nilCheck (.t 24), none, [], [], false⟩,
     ⟨(some 26), .addOff 1 (.t 25), none, [], [], false⟩,
     ⟨(some 27), .load true 6 (.t 26), none, [], [], false⟩,
     ⟨(some 28), .mv (.t 0), none, [], [], false⟩,
     ⟨(some 29), .nilCheck (.t 28), none, [], [], false⟩,
     ⟨(some 30), .addOff 7 (.t 29), none, [], [], false⟩,
     ⟨(some 31), .addOff 5 (.t 30), none, [], [], false⟩,
     ⟨(some 32), .load false 1 (.t 31), none, [], [], false⟩,
     ⟨(some 33), .call (.c (.func (.func 17) #[] #[])) [(.t 27), (.t 32)] true, none, [], [], false⟩,
     ⟨(some 34), .mv (.t 0), none, [], [], false⟩,
     ⟨(some 35), .nilCheck (.t 34), none, [], [], false⟩,
     ⟨(some 36), .addOff 7 (.t 35), none, [], [], false⟩,
     ⟨(some 37), .addOff 6 (.t 36), none, [], [], false⟩,
     ⟨(some 38), .load false 1 (.t 37), none, [], [], false⟩,
     ⟨(some 39), .call (.c (.func (.func 67) #[] #[])) [(.t 23), (.t 33), (.t 38)] true, none, [], [], false⟩,
     ⟨(some 22), .mv (.t 39), none, [], [], false⟩,
     ⟨(some 40), .extract (.t 22) 0, none, [], [], false⟩,
     ⟨(some 41), .extract (.t 22) 1, none, [], [], false⟩,
     ⟨(some 3), .mv (.t 40), none, [], [], false⟩,
     ⟨(some 4), .mv (.t 41), none, [], [], false⟩])
  (.seq
   (.seq
    (.region [
      ⟨(some 42), .mv (.t 4), none, [], [], false⟩,
      ⟨(some 43), .un .not (.t 42), none, [], [], false⟩,
      ⟨(some 44), .mv (.t 43), none, [], [], false⟩,
      ⟨(some 45), .mv (.t 3), (some (44, false)), [], [], false⟩,
      ⟨(some 46), .mv (.t 0), (some (44, false)), [], [], false⟩,
      ⟨(some 47), .nilCheck (.t 46), (some (44, false)), [], [], false⟩,
      ⟨(some 48), .addOff 1 (.t 47), (some (44, false)), [], [], false⟩,
      ⟨(some 49), .addOff 2 (.t 48), (some (44, false)), [], [], false⟩,
      ⟨(some 50), .load false 1 (.t 49), (some (44, false)), [], [], false⟩,
      ⟨(some 51), .bin .geq .int (.t 45) (.t 50), (some (44, false)), [], [], false⟩,
      ⟨(some 52), .pick (.t 44) (.c (.bool true)) (.t 51), none, [], [], false⟩])
   (.cond (.t 52)
    (.seq
     (.region [
       ⟨(some 53), .mv (.t 0), none, [], [], false⟩,
       ⟨(some 54), .call (.c (.func (.func 65) #[] #[])) [(.t 53), (.c (.int .i64 0))] false, none, [], [], false⟩])
    .ret)
    .skip))
  (.seq
   (.region [
     ⟨(some 55), .mv (.t 0), none, [], [], false⟩,
     ⟨(some 56), .mv (.t 3), none, [], [], false⟩,
     ⟨(some 57), .nilCheck (.t 55), none, [], [], false⟩,
     ⟨(some 58), .addOff 7 (.t 57), none, [], [], false⟩,
     ⟨(some 59), .addOff 12 (.t 58), none, [], [], false⟩,
     ⟨none, .store 1 (.t 59) (.t 56), none, [], [], false⟩])
  (.region [
    ⟨(some 60), .mv (.t 0), none, [], [], false⟩,
    ⟨(some 61), .call (.c (.func (.func 65) #[] #[])) [(.t 60), (.c (.int .i64 3))] false, none, [], [], false⟩]))))),
  []⟩

/-- (*wainscot/fast.step).take -/
def i50 : IFun := ⟨9,
  (.region [
    ⟨(some 2), .mv (.t 0), none, [], [], false⟩,
    ⟨(some 3), .mv (.t 0), none, [], [], false⟩,
    ⟨(some 4), .nilCheck (.t 3), none, [], [], false⟩,
    ⟨(some 5), .addOff 7 (.t 4), none, [], [], false⟩,
    ⟨(some 6), .addOff 12 (.t 5), none, [], [], false⟩,
    ⟨(some 7), .load false 1 (.t 6), none, [], [], false⟩,
    ⟨(some 8), .call (.c (.func (.func 68) #[] #[])) [(.t 2), (.t 7), (.c (.int .i64 0))] false, none, [], [], false⟩]),
  []⟩

/-- (*wainscot/fast.step).mine -/
def i51 : IFun := ⟨25,
  (.seq
   (.region [
     ⟨(some 5), .mv (.t 0), none, [], [], false⟩,
     ⟨(some 6), .call (.c (.func (.func 66) #[] #[])) [(.t 5)] false, none, [], [], false⟩,
     ⟨(some 4), .mv (.t 6), none, [], [], false⟩,
     ⟨(some 7), .extract (.t 4) 0, none, [], [], false⟩,
     ⟨(some 8), .extract (.t 4) 1, none, [], [], false⟩,
     ⟨(some 2), .mv (.t 7), none, [], [], false⟩,
     ⟨(some 3), .mv (.t 8), none, [], [], false⟩])
  (.seq
   (.seq
    (.region [
      ⟨(some 9), .mv (.t 2), none, [], [], false⟩,
      ⟨(some 10), .mv (.t 0), none, [], [], false⟩,
      ⟨(some 11), .nilCheck (.t 10), none, [], [], false⟩,
      ⟨(some 12), .addOff 7 (.t 11), none, [], [], false⟩,
      ⟨(some 13), .addOff 5 (.t 12), none, [], [], false⟩,
      ⟨(some 14), .load false 1 (.t 13), none, [], [], false⟩,
      ⟨(some 15), .bin .neq .int (.t 9) (.t 14), none, [], [], false⟩])
   (.cond (.t 15)
    (.seq
     (.region [
       ⟨(some 16), .mv (.t 0), none, [], [], false⟩,
       ⟨(some 17), .call (.c (.func (.func 65) #[] #[])) [(.t 16), (.c (.int .i64 50))] false, none, [], [], false⟩])
    .ret)
    .skip))
  (.seq
   (.region [
     ⟨(some 18), .mv (.t 0), none, [], [], false⟩,
     ⟨(some 19), .mv (.t 3), none, [], [], false⟩,
     ⟨(some 20), .nilCheck (.t 18), none, [], [], false⟩,
     ⟨(some 21), .addOff 7 (.t 20), none, [], [], false⟩,
     ⟨(some 22), .addOff 12 (.t 21), none, [], [], false⟩,
     ⟨none, .store 1 (.t 22) (.t 19), none, [], [], false⟩])
  (.region [
    ⟨(some 23), .mv (.t 0), none, [], [], false⟩,
    ⟨(some 24), .call (.c (.func (.func 65) #[] #[])) [(.t 23), (.c (.int .i64 12))] false, none, [], [], false⟩])))),
  []⟩

/-- (*wainscot/fast.step).tie -/
def i52 : IFun := ⟨57,
  (.seq
   (.region [
     ⟨(some 5), .mv (.t 0), none, [], [], false⟩,
     ⟨(some 6), .nilCheck (.t 5), none, [], [], false⟩,
     ⟨(some 7), .addOff 7 (.t 6), none, [], [], false⟩,
     ⟨(some 8), .addOff 12 (.t 7), none, [], [], false⟩,
     ⟨(some 9), .load false 1 (.t 8), none, [], [], false⟩,
     ⟨(some 10), .mv (.t 0), none, [], [], false⟩,
     ⟨(some 11), .nilCheck (.t 10), none, [], [], false⟩,
     ⟨(some 12), .addOff 1 (.t 11), none, [], [], false⟩,
     ⟨(some 13), .load true 6 (.t 12), none, [], [], false⟩,
     ⟨(some 14), .mv (.t 0), none, [], [], false⟩,
     ⟨(some 15), .nilCheck (.t 14), none, [], [], false⟩,
     ⟨(some 16), .addOff 7 (.t 15), none, [], [], false⟩,
     ⟨(some 17), .addOff 5 (.t 16), none, [], [], false⟩,
     ⟨(some 18), .load false 1 (.t 17), none, [], [], false⟩,
     ⟨(some 19), .call (.c (.func (.func 17) #[] #[])) [(.t 13), (.t 18)] true, none, [], [], false⟩,
     ⟨(some 20), .mv (.t 0), none, [], [], false⟩,
     ⟨(some 21), .nilCheck (.t 20), none, [], [], false⟩,
     ⟨(some 22), .addOff 7 (.t 21), none, [], [], false⟩,
     ⟨(some 23), .addOff 6 (.t 22), none, [], [], false⟩,
     ⟨(some 24), .load false 1 (.t 23), none, [], [], false⟩,
     ⟨(some 25), .call (.c (.func (.func 69) #[] #[])) [(.t 9), (.t 19), (.t 24)] true, none, [], [], false⟩,
     ⟨(some 4), .mv (.t 25), none, [], [], false⟩,
     ⟨(some 26), .extract (.t 4) 0, none, [], [], false⟩,
     ⟨(some 27), .extract (.t 4) 1, none, [], [], false⟩,
     ⟨(some 2), .mv (.t 26), none, [], [], false⟩,
     ⟨(some 3), .mv (.t 27), none, [], [], false⟩])
  (.seq
   (.region [
     ⟨(some 28), .mv (.t 0), none, [], [], false⟩,
     ⟨(some 29), .mv (.t 3), none, [], [], false⟩,
     ⟨(some 30), .bin .eql .int (.t 29) (.c (.int .i64 0)), none, [], [], false⟩,
     ⟨(some 31), .call (.c (.func (.func 70) #[] #[])) [(.t 28), (.t 30)] false, none, [], [], false⟩])
  (.seq
   (.seq
    (.region [
      ⟨(some 32), .mv (.t 0), none, [], [], false⟩,
      ⟨(some 33), .nilCheck (.t 32), none, [], [], false⟩,
      ⟨(some 34), .addOff 24 (.t 33), none, [], [], false⟩,
      ⟨(some 35), .load false 1 (.t 34), none, [], [], false⟩,
      ⟨(some 36), .un .not (.t 35), none, [], [], false⟩])
   (.cond (.t 36)
    (.region [
      ⟨(some 37), .mv (.t 0), none, [], [], false⟩,
      ⟨(some 38), .mv (.t 0), none, [], [], false⟩,
      ⟨(some 39), .nilCheck (.t 38), none, [], [], false⟩,
      ⟨(some 40), .addOff 1 (.t 39), none, [], [], false⟩,
      ⟨(some 41), .load true 6 (.t 40), none, [], [], false⟩,
      ⟨(some 42), .mv (.t 0), none, [], [], false⟩,
      ⟨(some 43), .nilCheck (.t 42), none, [], [], false⟩,
      ⟨(some 44), .addOff 7 (.t 43), none, [], [], false⟩,
      ⟨(some 45), .addOff 5 (.t 44), none, [], [], false⟩,
      ⟨(some 46), .load false 1 (.t 45), none, [], [], false⟩,
      ⟨(some 47), .mv (.t 0), none, [], [], false⟩,
      ⟨(some 48), .nilCheck (.t 47), none, [], [], false⟩,
      ⟨(some 49), .addOff 7 (.t 48), none, [], [], false⟩,
      ⟨(some 50), .addOff 6 (.t 49), none, [], [], false⟩,
      ⟨(some 51), .load false 1 (.t 50), none, [], [], false⟩,
      ⟨(some 52), .call (.c (.func (.func 18) #[] #[])) [(.t 41), (.t 46), (.t 51)] true, none, [], [], false⟩,
      ⟨(some 53), .mv (.t 2), none, [], [], false⟩,
      ⟨(some 54), .call (.c (.func (.func 71) #[] #[])) [(.t 37), (.t 52), (.t 53)] false, none, [], [], false⟩])
    .skip))
  (.region [
    ⟨(some 55), .mv (.t 0), none, [], [], false⟩,
    ⟨(some 56), .call (.c (.func (.func 65) #[] #[])) [(.t 55), (.c (.int .i64 13))] false, none, [], [], false⟩])))),
  []⟩

/-- (*wainscot/fast.step).give -/
def i53 : IFun := ⟨9,
  (.region [
    ⟨(some 2), .mv (.t 0), none, [], [], false⟩,
    ⟨(some 3), .mv (.t 0), none, [], [], false⟩,
    ⟨(some 4), .nilCheck (.t 3), none, [], [], false⟩,
    ⟨(some 5), .addOff 7 (.t 4), none, [], [], false⟩,
    ⟨(some 6), .addOff 6 (.t 5), none, [], [], false⟩,
    ⟨(some 7), .load false 1 (.t 6), none, [], [], false⟩,
    ⟨(some 8), .call (.c (.func (.func 68) #[] #[])) [(.t 2), (.t 7), (.c (.int .i64 10))] false, none, [], [], false⟩]),
  []⟩

/-- math/bits.RotateLeft64 -/
def i54 : IFun := ⟨17,
  (.seq
   (.region [
     ⟨(some 4), .mv (.c (.int .u64 0)), none, [], [], false⟩])
  (.seq
   (.region [
     ⟨(some 6), .mv (.t 1), none, [], [], false⟩,
     ⟨(some 7), .conv .u64 (.t 6), none, [], [], false⟩,
     ⟨(some 8), .bin .and .int (.t 7) (.c (.int .u64 63)), none, [], [], false⟩,
     ⟨(some 5), .mv (.t 8), none, [], [], false⟩])
  (.seq
   (.region [
     ⟨(some 9), .mv (.t 0), none, [], [], false⟩,
     ⟨(some 10), .mv (.t 5), none, [], [], false⟩,
     ⟨(some 11), .bin .shl .int (.t 9) (.t 10), none, [], [], false⟩,
     ⟨(some 12), .mv (.t 0), none, [], [], false⟩,
     ⟨(some 13), .mv (.t 5), none, [], [], false⟩,
     ⟨(some 14), .bin .sub .int (.c (.int .u64 64)) (.t 13), none, [], [], false⟩,
     ⟨(some 15), .bin .shr .int (.t 12) (.t 14), none, [], [], false⟩,
     ⟨(some 16), .bin .or .int (.t 11) (.t 15), none, [], [], false⟩,
     ⟨(some 4), .mv (.t 16), none, [], [], false⟩])
  .ret))),
  [.tmp 4]⟩

/-- wainscot/chart.base -/
def i55 : IFun := ⟨6,
  (.seq
   (.region [
     ⟨(some 1), .box 26 6 (.t 0), none, [], [], false⟩,
     ⟨(some 2), .mv (.c (.int .i64 0)), none, [], [], false⟩])
  (.seq
   (.region [
     ⟨(some 3), .addOff 0 (.t 1), none, [], [], false⟩,
     ⟨(some 4), .load false 1 (.t 3), none, [], [], false⟩,
     ⟨(some 5), .bin .mul .int (.c (.int .i64 4)) (.t 4), none, [], [], false⟩,
     ⟨(some 2), .mv (.t 5), none, [], [], false⟩])
  .ret)),
  [.tmp 2]⟩

/-- wainscot/chart.Lock$1 -/
def i56 : IFun := ⟨4,
  (.seq
   (.region [
     ⟨(some 1), .mv (.c (.int .i64 0)), none, [], [], false⟩])
  (.seq
   (.region [
     ⟨(some 2), .load true 6 (.t 0), none, [], [], false⟩,
     ⟨(some 3), .call (.c (.func (.func 55) #[] #[])) [(.t 2)] true, none, [], [], false⟩,
     ⟨(some 1), .mv (.t 3), none, [], [], false⟩])
  .ret)),
  [.tmp 1]⟩

/-- wainscot/count.HeadOf -/
def i57 : IFun := ⟨15,
  (.seq
   (.region [
     ⟨(some 2), .mv (.c (.int .i64 0)), none, [], [], false⟩,
     ⟨(some 3), .mv (.c (.int .i64 0)), none, [], [], false⟩,
     ⟨(some 4), .mv (.c (.bool false)), none, [], [], false⟩])
  (.seq
   (.region [
     ⟨(some 6), .mv (.t 0), none, [], [], false⟩,
     ⟨(some 7), .call (.c (.func (.func 72) #[] #[])) [(.t 6), (.c (.int .i64 1)), (.c (.int .i64 1)), (.c (.func (.func 73) #[] #[]))] true, none, [], [], false⟩,
     ⟨(some 5), .mv (.t 7), none, [], [], false⟩,
     ⟨(some 8), .extract (.t 5) 0, none, [], [], false⟩,
     ⟨(some 9), .extract (.t 5) 1, none, [], [], false⟩,
     ⟨(some 10), .extract (.t 5) 2, none, [], [], false⟩,
     ⟨(some 2), .mv (.t 8), none, [], [], false⟩,
     ⟨(some 3), .mv (.t 9), none, [], [], false⟩,
     ⟨(some 4), .mv (.t 10), none, [], [], false⟩])
  (.seq
   (.seq
    (.region [
      ⟨(some 11), .mv (.t 4), none, [], [], false⟩,
      ⟨(some 12), .un .not (.t 11), none, [], [], false⟩])
   (.cond (.t 12)
    (.seq
     (.region [
       ⟨(some 2), .mv (.c (.int .i64 (-1))), none, [], [], false⟩,
       ⟨(some 3), .mv (.c (.int .i64 (-1))), none, [], [], false⟩,
       ⟨(some 4), .mv (.c (.bool false)), none, [], [], false⟩])
    .ret)
    .skip))
  (.seq
   (.region [
     ⟨(some 13), .mv (.t 2), none, [], [], false⟩,
     ⟨(some 14), .mv (.t 3), none, [], [], false⟩,
     ⟨(some 2), .mv (.t 13), none, [], [], false⟩,
     ⟨(some 3), .mv (.t 14), none, [], [], false⟩,
     ⟨(some 4), .mv (.c (.bool true)), none, [], [], false⟩])
  .ret)))),
  [.tmp 2, .tmp 3, .tmp 4]⟩

/-- (wainscot/chart.reader).list -/
def i58 : IFun := ⟨41,
  (.seq
   (.region [
     ⟨(some 3), .box 91 7 (.t 0), none, [], [], false⟩,
     ⟨(some 6), .mv (.c (.slice none 0 0)), none, [], [], false⟩,
     ⟨(some 7), .mv (.c (.bool false)), none, [], [], false⟩])
  (.seq
   (.seq
    (.region [
      ⟨(some 11), .mv (.t 2), none, [], [], false⟩,
      ⟨(some 12), .addOff 1 (.t 3), none, [], [], false⟩,
      ⟨(some 13), .addOff 2 (.t 12), none, [], [], false⟩,
      ⟨(some 14), .load false 1 (.t 13), none, [], [], false⟩,
      ⟨(some 15), .bin .geq .int (.t 11) (.t 14), none, [], [], false⟩])
   (.cond (.t 15)
    (.seq
     (.region [
       ⟨(some 6), .mv (.c (.slice none 0 0)), none, [], [], false⟩,
       ⟨(some 7), .mv (.c (.bool false)), none, [], [], false⟩])
    .ret)
    .skip))
  (.seq
   (.region [
     ⟨(some 16), .addOff 1 (.t 3), none, [], [], false⟩,
     ⟨(some 17), .load true 6 (.t 16), none, [], [], false⟩,
     ⟨(some 18), .mv (.t 1), none, [], [], false⟩,
     ⟨(some 19), .call (.c (.func (.func 18) #[] #[])) [(.t 17), (.t 18), (.c (.int .i64 0))] true, none, [], [], false⟩,
     ⟨(some 8), .mv (.t 19), none, [], [], false⟩])
  (.seq
   (.region [
     ⟨(some 21), .addOff 0 (.t 3), none, [], [], false⟩,
     ⟨(some 22), .load false 1 (.t 21), none, [], [], false⟩,
     ⟨(some 23), .mv (.t 8), none, [], [], false⟩,
     ⟨(some 24), .mv (.t 8), none, [], [], false⟩,
     ⟨(some 25), .addOff 1 (.t 3), none, [], [], false⟩,
     ⟨(some 26), .addOff 2 (.t 25), none, [], [], false⟩,
     ⟨(some 27), .load false 1 (.t 26), none, [], [], false⟩,
     ⟨(some 28), .bin .add .int (.t 24) (.t 27), none, [], [], false⟩,
     ⟨(some 29), .slice 22 (.t 22) (some (.t 23)) (some (.t 28)) none, none, [], [], false⟩,
     ⟨(some 30), .addOff 1 (.t 3), none, [], [], false⟩,
     ⟨(some 31), .load true 6 (.t 30), none, [], [], false⟩,
     ⟨(some 32), .mv (.t 1), none, [], [], false⟩,
     ⟨(some 33), .call (.c (.func (.func 17) #[] #[])) [(.t 31), (.t 32)] true, none, [], [], false⟩,
     ⟨(some 34), .mv (.t 2), none, [], [], false⟩,
     ⟨(some 35), .call (.c (.func (.func 74) #[] #[])) [(.t 29), (.t 33), (.t 34)] true, none, [], [], false⟩,
     ⟨(some 20), .mv (.t 35), none, [], [], false⟩,
     ⟨(some 36), .extract (.t 20) 0, none, [], [], false⟩,
     ⟨(some 37), .extract (.t 20) 1, none, [], [], false⟩,
     ⟨(some 9), .mv (.t 36), none, [], [], false⟩,
     ⟨(some 10), .mv (.t 37), none, [], [], false⟩])
  (.seq
   (.region [
     ⟨(some 38), .mv (.t 9), none, [], [], false⟩,
     ⟨(some 39), .mv (.t 10), none, [], [], false⟩,
     ⟨(some 40), .bin .eql .int (.t 39) (.c (.int .i64 0)), none, [], [], false⟩,
     ⟨(some 6), .mv (.t 38), none, [], [], false⟩,
     ⟨(some 7), .mv (.t 40), none, [], [], false⟩])
  .ret))))),
  [.tmp 6, .tmp 7]⟩

/-- wainscot/chart.partOf -/
def i59 : IFun := ⟨15,
  (.seq
   (.region [
     ⟨(some 2), .mv (.c (.int .i64 0)), none, [], [], false⟩,
     ⟨(some 3), .mv (.c (.bool false)), none, [], [], false⟩])
  (.seq
   (.region [
     ⟨(some 8), .mv (.t 0), none, [], [], false⟩,
     ⟨(some 9), .call (.c (.func (.func 75) #[] #[])) [(.t 8)] true, none, [], [], false⟩,
     ⟨(some 7), .mv (.t 9), none, [], [], false⟩,
     ⟨(some 10), .extract (.t 7) 0, none, [], [], false⟩,
     ⟨(some 11), .extract (.t 7) 1, none, [], [], false⟩,
     ⟨(some 12), .extract (.t 7) 2, none, [], [], false⟩,
     ⟨(some 4), .mv (.t 10), none, [], [], false⟩,
     ⟨(some 5), .mv (.t 11), none, [], [], false⟩,
     ⟨(some 6), .mv (.t 12), none, [], [], false⟩])
  (.seq
   (.region [
     ⟨(some 13), .mv (.t 4), none, [], [], false⟩,
     ⟨(some 14), .mv (.t 6), none, [], [], false⟩,
     ⟨(some 2), .mv (.t 13), none, [], [], false⟩,
     ⟨(some 3), .mv (.t 14), none, [], [], false⟩])
  .ret))),
  [.tmp 2, .tmp 3]⟩

/-- wainscot/chart.Next -/
def i60 : IFun := ⟨11,
  (.seq
   (.region [
     ⟨(some 2), .box 26 6 (.t 0), none, [], [], false⟩,
     ⟨(some 3), .box 3 1 (.t 1), none, [], [], false⟩,
     ⟨(some 4), .mv (.c (.int .i64 0)), none, [], [], false⟩])
  (.seq
   (.region [
     ⟨(some 5), .load true 6 (.t 2), none, [], [], false⟩,
     ⟨(some 6), .load false 1 (.t 3), none, [], [], false⟩,
     ⟨(some 7), .addOff 1 (.t 2), none, [], [], false⟩,
     ⟨(some 8), .load false 1 (.t 7), none, [], [], false⟩,
     ⟨(some 9), .mkFunc 76 [] [(.t 2), (.t 3)], none, [], [], false⟩,
     ⟨(some 10), .call (.c (.func (.func 30) #[] #[])) [(.t 5), (.t 6), (.t 8), (.t 9)] true, none, [], [], false⟩,
     ⟨(some 4), .mv (.t 10), none, [], [], false⟩])
  .ret)),
  [.tmp 4]⟩

/-- wainscot/chart.Shelf$1 -/
def i61 : IFun := ⟨5,
  (.seq
   (.region [
     ⟨(some 1), .mv (.c (.int .i64 0)), none, [], [], false⟩])
  (.seq
   (.region [
     ⟨(some 2), .load true 6 (.t 0), none, [], [], false⟩,
     ⟨(some 3), .call (.c (.func (.func 55) #[] #[])) [(.t 2)] true, none, [], [], false⟩,
     ⟨(some 4), .bin .add .int (.t 3) (.c (.int .i64 1)), none, [], [], false⟩,
     ⟨(some 1), .mv (.t 4), none, [], [], false⟩])
  .ret)),
  [.tmp 1]⟩

/-- wainscot/count.Counts -/
def i62 : IFun := ⟨28,
  (.seq
   (.region [
     ⟨(some 2), .new 62 [(.int .i64 0), (.int .i64 0), (.bool false), (.bool false)], none, [], [], false⟩,
     ⟨(some 3), .mv (.c (.bool false)), none, [], [], false⟩])
  (.seq
   (.region [
     ⟨(some 5), .mv (.t 0), none, [], [], false⟩,
     ⟨(some 6), .bin .and .int (.t 5) (.c (.int .u64 255)), none, [], [], false⟩,
     ⟨(some 7), .conv .i64 (.t 6), none, [], [], false⟩,
     ⟨(some 8), .mv (.t 0), none, [], [], false⟩,
     ⟨(some 9), .bin .shr .int (.t 8) (.c (.int .u64 8)), none, [], [], false⟩,
     ⟨(some 10), .bin .and .int (.t 9) (.c (.int .u64 255)), none, [], [], false⟩,
     ⟨(some 11), .conv .i64 (.t 10), none, [], [], false⟩,
     ⟨(some 12), .mv (.t 0), none, [], [], false⟩,
     ⟨(some 13), .bin .and .int (.t 12) (.c (.int .u64 65536)), none, [], [], false⟩,
     ⟨(some 14), .bin .neq .int (.t 13) (.c (.int .u64 0)), none, [], [], false⟩,
     ⟨(some 15), .mv (.t 0), none, [], [], false⟩,
     ⟨(some 16), .bin .and .int (.t 15) (.c (.int .u64 131072)), none, [], [], false⟩,
     ⟨(some 17), .bin .neq .int (.t 16) (.c (.int .u64 0)), none, [], [], false⟩,
     ⟨(some 18), .build [(.int .i64 0), (.int .i64 0), (.bool false), (.bool false)] [(0, 1, (.t 7)), (1, 1, (.t 11)), (2, 1, (.t 14)), (3, 1, (.t 17))], none, [], [], false⟩,
     ⟨(some 4), .new 62 [(.int .i64 0), (.int .i64 0), (.bool false), (.bool false)], none, [], [], false⟩,
     ⟨none, .store 4 (.t 4) (.t 18), none, [], [], false⟩])
  (.seq
   (.seq
    (.region [
      ⟨(some 19), .mv (.t 0), none, [], [], false⟩,
      ⟨(some 20), .bin .geq .int (.t 19) (.c (.int .u64 262144)), none, [], [], false⟩,
      ⟨(some 21), .mv (.t 20), none, [], [], false⟩,
      ⟨(some 22), .load true 4 (.t 4), (some (21, false)), [], [], false⟩,
      ⟨(some 23), .call (.c (.func (.func 36) #[] #[])) [(.t 22)] true, (some (21, false)), [], [], false⟩,
      ⟨(some 24), .un .not (.t 23), (some (21, false)), [], [], false⟩,
      ⟨(some 25), .pick (.t 21) (.c (.bool true)) (.t 24), none, [], [], false⟩])
   (.cond (.t 25)
    (.seq
     (.region [
       ⟨(some 26), .build [(.int .i64 0), (.int .i64 0), (.bool false), (.bool false)] [], none, [], [], false⟩,
       ⟨none, .store 4 (.t 2) (.t 26), none, [], [], false⟩,
       ⟨(some 3), .mv (.c (.bool false)), none, [], [], false⟩])
    .ret)
    .skip))
  (.seq
   (.region [
     ⟨(some 27), .load true 4 (.t 4), none, [], [], false⟩,
     ⟨none, .store 4 (.t 2) (.t 27), none, [], [], false⟩,
     ⟨(some 3), .mv (.c (.bool true)), none, [], [], false⟩])
  .ret)))),
  [.cell 2 true 4, .tmp 3]⟩

/-- (*wainscot/fast.step).load -/
def i63 : IFun := ⟨21,
  (.seq
   (.region [
     ⟨(some 4), .mv (.c (.int .u64 0)), none, [], [], false⟩])
  (.seq
   (.region [
     ⟨(some 8), .mv (.t 0), none, [], [], false⟩,
     ⟨(some 9), .nilCheck (.t 8), none, [], [], false⟩,
     ⟨(some 10), .addOff 0 (.t 9), none, [], [], false⟩,
     ⟨(some 11), .load false 1 (.t 10), none, [], [], false⟩,
     ⟨(some 12), .mv (.t 1), none, [], [], false⟩,
     ⟨(some 13), .call (.c (.func (.func 77) #[] #[])) [(.t 11), (.t 12)] false, none, [], [], false⟩,
     ⟨(some 7), .mv (.t 13), none, [], [], false⟩,
     ⟨(some 14), .extract (.t 7) 0, none, [], [], false⟩,
     ⟨(some 15), .extract (.t 7) 1, none, [], [], false⟩,
     ⟨(some 5), .mv (.t 14), none, [], [], false⟩,
     ⟨(some 6), .mv (.t 15), none, [], [], false⟩])
  (.seq
   (.region [
     ⟨(some 16), .mv (.t 0), none, [], [], false⟩,
     ⟨(some 17), .mv (.t 6), none, [], [], false⟩,
     ⟨(some 18), .bin .eql .int (.t 17) (.c (.int .i64 0)), none, [], [], false⟩,
     ⟨(some 19), .call (.c (.func (.func 70) #[] #[])) [(.t 16), (.t 18)] false, none, [], [], false⟩])
  (.seq
   (.region [
     ⟨(some 20), .mv (.t 5), none, [], [], false⟩,
     ⟨(some 4), .mv (.t 20), none, [], [], false⟩])
  .ret)))),
  [.tmp 4]⟩

/-- wainscot/fast.behind -/
def i64 : IFun := ⟨8,
  (.seq
   (.region [
     ⟨(some 2), .mv (.c (.int .i64 0)), none, [], [], false⟩])
  (.seq
   (.seq
    (.region [
      ⟨(some 3), .mv (.t 0), none, [], [], false⟩,
      ⟨(some 4), .bin .lss .int (.t 3) (.c (.int .i64 0)), none, [], [], false⟩])
   (.cond (.t 4)
    (.seq
     (.region [
       ⟨(some 5), .mv (.t 0), none, [], [], false⟩,
       ⟨(some 2), .mv (.t 5), none, [], [], false⟩])
    .ret)
    .skip))
  (.seq
   (.region [
     ⟨(some 6), .mv (.t 0), none, [], [], false⟩,
     ⟨(some 7), .bin .add .int (.t 6) (.c (.int .i64 1)), none, [], [], false⟩,
     ⟨(some 2), .mv (.t 7), none, [], [], false⟩])
  .ret))),
  [.tmp 2]⟩

/-- (*wainscot/fast.step).to -/
def i65 : IFun := ⟨9,
  (.region [
    ⟨(some 4), .mv (.t 0), none, [], [], false⟩,
    ⟨(some 5), .mv (.t 1), none, [], [], false⟩,
    ⟨(some 6), .nilCheck (.t 4), none, [], [], false⟩,
    ⟨(some 7), .addOff 7 (.t 6), none, [], [], false⟩,
    ⟨(some 8), .addOff 2 (.t 7), none, [], [], false⟩,
    ⟨none, .store 1 (.t 8) (.t 5), none, [], [], false⟩]),
  []⟩

/-- (*wainscot/fast.step).head -/
def i66 : IFun := ⟨54,
  (.seq
   (.region [
     ⟨(some 2), .mv (.c (.int .i64 0)), none, [], [], false⟩,
     ⟨(some 3), .mv (.c (.int .i64 0)), none, [], [], false⟩])
  (.seq
   (.region [
     ⟨(some 5), .mv (.t 0), none, [], [], false⟩,
     ⟨(some 6), .mv (.t 0), none, [], [], false⟩,
     ⟨(some 7), .mv (.t 0), none, [], [], false⟩,
     ⟨(some 8), .nilCheck (.t 7), none, [], [], false⟩,
     ⟨(some 9), .addOff 1 (.t 8), none, [], [], false⟩,
     ⟨(some 10), .load true 6 (.t 9), none, [], [], false⟩,
     ⟨(some 11), .mv (.t 0), none, [], [], false⟩,
     ⟨(some 12), .nilCheck (.t 11), none, [], [], false⟩,
     ⟨(some 13), .addOff 7 (.t 12), none, [], [], false⟩,
     ⟨(some 14), .addOff 1 (.t 13), none, [], [], false⟩,
     ⟨(some 15), .load false 1 (.t 14), none, [], [], false⟩,
     ⟨(some 16), .call (.c (.func (.func 13) #[] #[])) [(.t 10), (.t 15)] true, none, [], [], false⟩,
     ⟨(some 17), .call (.c (.func (.func 63) #[] #[])) [(.t 6), (.t 16)] false, none, [], [], false⟩,
     ⟨(some 18), .nilCheck (.t 5), none, [], [], false⟩,
     ⟨(some 19), .addOff 7 (.t 18), none, [], [], false⟩,
     ⟨(some 20), .addOff 7 (.t 19), none, [], [], false⟩,
     ⟨none, .store 1 (.t 20) (.t 17), none, [], [], false⟩])
  (.seq
   (.region [
     ⟨(some 22), .mv (.t 0), none, [], [], false⟩,
     ⟨(some 23), .nilCheck (.t 22), none, [], [], false⟩,
     ⟨(some 24), .addOff 7 (.t 23), none, [], [], false⟩,
     ⟨(some 25), .addOff 7 (.t 24), none, [], [], false⟩,
     ⟨(some 26), .load false 1 (.t 25), none, [], [], false⟩,
     ⟨(some 27), .call (.c (.func (.func 57) #[] #[])) [(.t 26)] true, none, [], [], false⟩,
     ⟨(some 21), .mv (.t 27), none, [], [], false⟩,
     ⟨(some 28), .extract (.t 21) 0, none, [], [], false⟩,
     ⟨(some 29), .extract (.t 21) 1, none, [], [], false⟩,
     ⟨(some 30), .extract (.t 21) 2, none, [], [], false⟩,
     ⟨(some 2), .mv (.t 28), none, [], [], false⟩,
     ⟨(some 3), .mv (.t 29), none, [], [], false⟩,
     ⟨(some 4), .mv (.t 30), none, [], [], false⟩])
  (.seq
   (.region [
     ⟨(some 31), .mv (.t 0), none, [], [], false⟩,
     ⟨(some 32), .mv (.t 4), none, [], [], false⟩,
     ⟨(some 33), .mv (.t 32), none, [], [], false⟩,
     ⟨(some 34), .mv (.t 2), (some (33, true)), [], [], false⟩,
     ⟨(some 35), .mv (.t 0), (some (33, true)), [], [], false⟩,
     ⟨(some 36), .nilCheck (.t 35), (some (33, true)), [], [], false⟩,
     ⟨(some 37), .addOff 1 (.t 36), (some (33, true)), [], [], false⟩,
     ⟨(some 38), .addOff 1 (.t 37), (some (33, true)), [], [], false⟩,
     ⟨(some 39), .load false 1 (.t 38), (some (33, true)), [], [], false⟩,
     ⟨(some 40), .bin .lss .int (.t 34) (.t 39), (some (33, true)), [], [], false⟩,
     ⟨(some 41), .pick (.t 33) (.t 40) (.c (.bool false)), none, [], [], false⟩,
     ⟨(some 42), .mv (.t 41), none, [], [], false⟩,
     ⟨(some 43), .mv (.t 3), (some (42, true)), [], [], false⟩,
     ⟨(some 44), .mv (.t 0), (some (42, true)), [], [], false⟩,
     ⟨(some 45), .nilCheck (.t 44), (some (42, true)), [], [], false⟩,
     ⟨(some 46), .addOff 1 (.t 45), (some (42, true)), [], [], false⟩,
     ⟨(some 47), .addOff 2 (.t 46), (some (42, true)), [], [], false⟩,
     ⟨(some 48), .load false 1 (.t 47), (some (42, true)), [], [], false⟩,
     ⟨(some 49), .bin .lss .int (.t 43) (.t 48), (some (42, true)), [], [], false⟩,
     ⟨(some 50), .pick (.t 42) (.t 49) (.c (.bool false)), none, [], [], false⟩,
     ⟨(some 51), .call (.c (.func (.func 70) #[] #[])) [(.t 31), (.t 50)] false, none, [], [], false⟩])
  (.seq
   (.region [
     ⟨(some 52), .mv (.t 2), none, [], [], false⟩,
     ⟨(some 53), .mv (.t 3), none, [], [], false⟩,
     ⟨(some 2), .mv (.t 52), none, [], [], false⟩,
     ⟨(some 3), .mv (.t 53), none, [], [], false⟩])
  .ret))))),
  [.tmp 2, .tmp 3]⟩

/-- wainscot/link.Show -/
def i67 : IFun := ⟨21,
  (.seq
   (.region [
     ⟨(some 6), .mv (.c (.int .i64 0)), none, [], [], false⟩,
     ⟨(some 7), .mv (.c (.bool false)), none, [], [], false⟩])
  (.seq
   (.seq
    (.region [
      ⟨(some 8), .mv (.t 2), none, [], [], false⟩,
      ⟨(some 9), .call (.c (.func (.func 78) #[] #[])) [(.t 8)] true, none, [], [], false⟩,
      ⟨(some 10), .un .not (.t 9), none, [], [], false⟩])
   (.cond (.t 10)
    (.seq
     (.region [
       ⟨(some 6), .mv (.c (.int .i64 0)), none, [], [], false⟩,
       ⟨(some 7), .mv (.c (.bool false)), none, [], [], false⟩])
    .ret)
    .skip))
  (.seq
   (.seq
    (.region [
      ⟨(some 11), .mv (.t 0), none, [], [], false⟩,
      ⟨(some 12), .mv (.t 1), none, [], [], false⟩,
      ⟨(some 13), .mv (.t 2), none, [], [], false⟩,
      ⟨(some 14), .call (.c (.func (.func 33) #[] #[])) [(.t 12), (.t 13)] true, none, [], [], false⟩,
      ⟨(some 15), .bin .xor .int (.t 11) (.t 14), none, [], [], false⟩,
      ⟨(some 0), .mv (.t 15), none, [], [], false⟩])
   (.seq
    (.region [
      ⟨(some 16), .mv (.t 0), none, [], [], false⟩,
      ⟨(some 17), .bin .gtr .int (.t 16) (.c (.int .u64 16)), none, [], [], false⟩])
   (.cond (.t 17)
    (.seq
     (.region [
       ⟨(some 6), .mv (.c (.int .i64 0)), none, [], [], false⟩,
       ⟨(some 7), .mv (.c (.bool false)), none, [], [], false⟩])
    .ret)
    .skip)))
  (.seq
   (.region [
     ⟨(some 18), .mv (.t 0), none, [], [], false⟩,
     ⟨(some 19), .conv .i64 (.t 18), none, [], [], false⟩,
     ⟨(some 20), .bin .sub .int (.t 19) (.c (.int .i64 1)), none, [], [], false⟩,
     ⟨(some 6), .mv (.t 20), none, [], [], false⟩,
     ⟨(some 7), .mv (.c (.bool true)), none, [], [], false⟩])
  .ret)))),
  [.tmp 6, .tmp 7]⟩

/-- (*wainscot/fast.step).swap -/
def i68 : IFun := ⟨62,
  (.seq
   (.region [
     ⟨(some 9), .mv (.t 0), none, [], [], false⟩,
     ⟨(some 10), .nilCheck (.t 9), none, [], [], false⟩,
     ⟨(some 11), .addOff 7 (.t 10), none, [], [], false⟩,
     ⟨(some 12), .addOff 5 (.t 11), none, [], [], false⟩,
     ⟨(some 13), .load false 1 (.t 12), none, [], [], false⟩,
     ⟨(some 14), .mv (.t 1), none, [], [], false⟩,
     ⟨(some 15), .call (.c (.func (.func 19) #[] #[])) [(.t 13), (.t 14)] true, none, [], [], false⟩,
     ⟨(some 8), .mv (.t 15), none, [], [], false⟩,
     ⟨(some 16), .extract (.t 8) 0, none, [], [], false⟩,
     ⟨(some 17), .extract (.t 8) 1, none, [], [], false⟩,
     ⟨(some 6), .mv (.t 16), none, [], [], false⟩,
     ⟨(some 7), .mv (.t 17), none, [], [], false⟩])
  (.seq
   (.region [
     ⟨(some 18), .mv (.t 0), none, [], [], false⟩,
     ⟨(some 19), .mv (.t 7), none, [], [], false⟩,
     ⟨(some 20), .bin .eql .int (.t 19) (.c (.int .i64 0)), none, [], [], false⟩,
     ⟨(some 21), .call (.c (.func (.func 70) #[] #[])) [(.t 18), (.t 20)] false, none, [], [], false⟩])
  (.seq
   (.seq
    (.region [
      ⟨(some 22), .mv (.t 0), none, [], [], false⟩,
      ⟨(some 23), .nilCheck (.t 22), none, [], [], false⟩,
      ⟨(some 24), .addOff 24 (.t 23), none, [], [], false⟩,
      ⟨(some 25), .load false 1 (.t 24), none, [], [], false⟩])
   (.cond (.t 25)
    .ret
    .skip))
  (.seq
   (.seq
    (.region [
      ⟨(some 26), .mv (.t 0), none, [], [], false⟩,
      ⟨(some 27), .mv (.t 0), none, [], [], false⟩,
      ⟨(some 28), .nilCheck (.t 27), none, [], [], false⟩,
      ⟨(some 29), .addOff 1 (.t 28), none, [], [], false⟩,
      ⟨(some 30), .load true 6 (.t 29), none, [], [], false⟩,
      ⟨(some 31), .mv (.t 0), none, [], [], false⟩,
      ⟨(some 32), .nilCheck (.t 31), none, [], [], false⟩,
      ⟨(some 33), .addOff 7 (.t 32), none, [], [], false⟩,
      ⟨(some 34), .addOff 1 (.t 33), none, [], [], false⟩,
      ⟨(some 35), .load false 1 (.t 34), none, [], [], false⟩,
      ⟨(some 36), .call (.c (.func (.func 13) #[] #[])) [(.t 30), (.t 35)] true, none, [], [], false⟩,
      ⟨(some 37), .mv (.t 0), none, [], [], false⟩,
      ⟨(some 38), .nilCheck (.t 37), none, [], [], false⟩,
      ⟨(some 39), .addOff 7 (.t 38), none, [], [], false⟩,
      ⟨(some 40), .addOff 7 (.t 39), none, [], [], false⟩,
      ⟨(some 41), .load false 1 (.t 40), none, [], [], false⟩,
      ⟨(some 42), .mv (.t 0), none, [], [], false⟩,
      ⟨(some 43), .nilCheck (.t 42), none, [], [], false⟩,
      ⟨(some 44), .addOff 7 (.t 43), none, [], [], false⟩,
      ⟨(some 45), .addOff 8 (.t 44), none, [], [], false⟩,
      ⟨(some 46), .load false 1 (.t 45), none, [], [], false⟩,
      ⟨(some 47), .mv (.t 6), none, [], [], false⟩,
      ⟨(some 48), .mv (.t 0), none, [], [], false⟩,
      ⟨(some 49), .nilCheck (.t 48), none, [], [], false⟩,
      ⟨(some 50), .addOff 7 (.t 49), none, [], [], false⟩,
      ⟨(some 51), .addOff 8 (.t 50), none, [], [], false⟩,
      ⟨(some 52), .load false 1 (.t 51), none, [], [], false⟩,
      ⟨(some 53), .bin .add .int (.t 52) (.c (.int .u64 1)), none, [], [], false⟩,
      ⟨(some 54), .call (.c (.func (.func 79) #[] #[])) [(.t 26), (.t 36), (.t 41), (.t 46), (.t 47), (.t 53)] false, none, [], [], false⟩])
   (.cond (.t 54)
    (.seq
     (.region [
       ⟨(some 55), .mv (.t 0), none, [], [], false⟩,
       ⟨(some 56), .nilCheck (.t 55), none, [], [], false⟩,
       ⟨(some 57), .addOff 7 (.t 56), none, [], [], false⟩,
       ⟨(some 58), .addOff 3 (.t 57), none, [], [], false⟩,
       ⟨none, .store 1 (.t 58) (.c (.int .i64 1)), none, [], [], false⟩])
    .ret)
    .skip))
  (.region [
    ⟨(some 59), .mv (.t 0), none, [], [], false⟩,
    ⟨(some 60), .mv (.t 2), none, [], [], false⟩,
    ⟨(some 61), .call (.c (.func (.func 65) #[] #[])) [(.t 59), (.t 60)] false, none, [], [], false⟩]))))),
  []⟩

/-- wainscot/link.Hide -/
def i69 : IFun := ⟨27,
  (.seq
   (.region [
     ⟨(some 6), .mv (.c (.int .u64 0)), none, [], [], false⟩,
     ⟨(some 7), .mv (.c (.int .i64 0)), none, [], [], false⟩])
  (.seq
   (.seq
    (.region [
      ⟨(some 8), .mv (.t 0), none, [], [], false⟩,
      ⟨(some 9), .bin .neq .int (.t 8) (.c (.int .i64 (-1))), none, [], [], false⟩,
      ⟨(some 10), .mv (.t 9), none, [], [], false⟩,
      ⟨(some 11), .mv (.t 0), (some (10, true)), [], [], false⟩,
      ⟨(some 12), .call (.c (.func (.func 78) #[] #[])) [(.t 11)] true, (some (10, true)), [], [], false⟩,
      ⟨(some 13), .un .not (.t 12), (some (10, true)), [], [], false⟩,
      ⟨(some 14), .pick (.t 10) (.t 13) (.c (.bool false)), none, [], [], false⟩,
      ⟨(some 15), .mv (.t 14), none, [], [], false⟩,
      ⟨(some 16), .mv (.t 2), (some (15, false)), [], [], false⟩,
      ⟨(some 17), .call (.c (.func (.func 78) #[] #[])) [(.t 16)] true, (some (15, false)), [], [], false⟩,
      ⟨(some 18), .un .not (.t 17), (some (15, false)), [], [], false⟩,
      ⟨(some 19), .pick (.t 15) (.c (.bool true)) (.t 18), none, [], [], false⟩])
   (.cond (.t 19)
    (.seq
     (.region [
       ⟨(some 6), .mv (.c (.int .u64 0)), none, [], [], false⟩,
       ⟨(some 7), .mv (.c (.int .i64 2)), none, [], [], false⟩])
    .ret)
    .skip))
  (.seq
   (.region [
     ⟨(some 20), .mv (.t 0), none, [], [], false⟩,
     ⟨(some 21), .bin .add .int (.t 20) (.c (.int .i64 1)), none, [], [], false⟩,
     ⟨(some 22), .conv .u64 (.t 21), none, [], [], false⟩,
     ⟨(some 23), .mv (.t 1), none, [], [], false⟩,
     ⟨(some 24), .mv (.t 2), none, [], [], false⟩,
     ⟨(some 25), .call (.c (.func (.func 33) #[] #[])) [(.t 23), (.t 24)] true, none, [], [], false⟩,
     ⟨(some 26), .bin .xor .int (.t 22) (.t 25), none, [], [], false⟩,
     ⟨(some 6), .mv (.t 26), none, [], [], false⟩,
     ⟨(some 7), .mv (.c (.int .i64 0)), none, [], [], false⟩])
  .ret))),
  [.tmp 6, .tmp 7]⟩

/-- (*wainscot/fast.step).must -/
def i70 : IFun := ⟨15,
  (.region [
    ⟨(some 4), .mv (.t 0), none, [], [], false⟩,
    ⟨(some 5), .mv (.t 0), none, [], [], false⟩,
    ⟨(some 6), .nilCheck (.t 5), none, [], [], false⟩,
    ⟨(some 7), .addOff 24 (.t 6), none, [], [], false⟩,
    ⟨(some 8), .load false 1 (.t 7), none, [], [], false⟩,
    ⟨(some 9), .mv (.t 8), none, [], [], false⟩,
    ⟨(some 10), .mv (.t 1), (some (9, false)), [], [], false⟩,
    ⟨(some 11), .un .not (.t 10), (some (9, false)), [], [], false⟩,
    ⟨(some 12), .pick (.t 9) (.c (.bool true)) (.t 11), none, [], [], false⟩,
    ⟨(some 13), .nilCheck (.t 4), none, [], [], false⟩,
    ⟨(some 14), .addOff 24 (.t 13), none, [], [], false⟩,
    ⟨none, .store 1 (.t 14) (.t 12), none, [], [], false⟩]),
  []⟩

/-- (*wainscot/fast.step).store -/
def i71 : IFun := ⟨16,
  (.region [
    ⟨(some 6), .mv (.t 0), none, [], [], false⟩,
    ⟨(some 7), .mv (.t 0), none, [], [], false⟩,
    ⟨(some 8), .nilCheck (.t 7), none, [], [], false⟩,
    ⟨(some 9), .addOff 0 (.t 8), none, [], [], false⟩,
    ⟨(some 10), .load false 1 (.t 9), none, [], [], false⟩,
    ⟨(some 11), .mv (.t 1), none, [], [], false⟩,
    ⟨(some 12), .mv (.t 2), none, [], [], false⟩,
    ⟨(some 13), .call (.c (.func (.func 12) #[] #[])) [(.t 10), (.t 11), (.t 12)] false, none, [], [], false⟩,
    ⟨(some 14), .bin .eql .int (.t 13) (.c (.int .i64 0)), none, [], [], false⟩,
    ⟨(some 15), .call (.c (.func (.func 70) #[] #[])) [(.t 6), (.t 14)] false, none, [], [], false⟩]),
  []⟩

/-- wainscot/count.told[int] -/
def i72 : IFun := ⟨34,
  (.seq
   (.region [
     ⟨(some 8), .mv (.c (.int .i64 0)), none, [], [], false⟩,
     ⟨(some 9), .mv (.c (.int .i64 0)), none, [], [], false⟩,
     ⟨(some 10), .mv (.c (.bool false)), none, [], [], false⟩])
  (.seq
   (.region [
     ⟨(some 13), .mv (.t 0), none, [], [], false⟩,
     ⟨(some 14), .bin .shr .int (.t 13) (.c (.int .u64 6)), none, [], [], false⟩,
     ⟨(some 15), .conv .i64 (.t 14), none, [], [], false⟩,
     ⟨(some 16), .mv (.t 1), none, [], [], false⟩,
     ⟨(some 17), .bin .sub .int (.t 15) (.t 16), none, [], [], false⟩,
     ⟨(some 18), .mv (.t 0), none, [], [], false⟩,
     ⟨(some 19), .bin .and .int (.t 18) (.c (.int .u64 63)), none, [], [], false⟩,
     ⟨(some 20), .conv .i64 (.t 19), none, [], [], false⟩,
     ⟨(some 21), .mv (.t 2), none, [], [], false⟩,
     ⟨(some 22), .bin .sub .int (.t 20) (.t 21), none, [], [], false⟩,
     ⟨(some 11), .mv (.t 17), none, [], [], false⟩,
     ⟨(some 12), .mv (.t 22), none, [], [], false⟩])
  (.seq
   (.seq
    (.region [
      ⟨(some 23), .mv (.t 0), none, [], [], false⟩,
      ⟨(some 24), .bin .gtr .int (.t 23) (.c (.int .u64 4095)), none, [], [], false⟩,
      ⟨(some 25), .mv (.t 24), none, [], [], false⟩,
      ⟨(some 26), .mv (.t 3), (some (25, false)), [], [], false⟩,
      ⟨(some 27), .mv (.t 11), (some (25, false)), [], [], false⟩,
      ⟨(some 28), .mv (.t 12), (some (25, false)), [], [], false⟩,
      ⟨(some 29), .call (.t 26) [(.t 27), (.t 28)] false, (some (25, false)), [], [], false⟩,
      ⟨(some 30), .un .not (.t 29), (some (25, false)), [], [], false⟩,
      ⟨(some 31), .pick (.t 25) (.c (.bool true)) (.t 30), none, [], [], false⟩])
   (.cond (.t 31)
    (.seq
     (.region [
       ⟨(some 8), .mv (.c (.int .i64 0)), none, [], [], false⟩,
       ⟨(some 9), .mv (.c (.int .i64 0)), none, [], [], false⟩,
       ⟨(some 10), .mv (.c (.bool false)), none, [], [], false⟩])
    .ret)
    .skip))
  (.seq
   (.region [
     ⟨(some 32), .mv (.t 11), none, [], [], false⟩,
     ⟨(some 33), .mv (.t 12), none, [], [], false⟩,
     ⟨(some 8), .mv (.t 32), none, [], [], false⟩,
     ⟨(some 9), .mv (.t 33), none, [], [], false⟩,
     ⟨(some 10), .mv (.c (.bool true)), none, [], [], false⟩])
  .ret)))),
  [.tmp 8, .tmp 9, .tmp 10]⟩

/-- wainscot/count.HeadOf$1 -/
def i73 : IFun := ⟨15,
  (.seq
   (.region [
     ⟨(some 4), .mv (.c (.bool false)), none, [], [], false⟩])
  (.seq
   (.region [
     ⟨(some 8), .mv (.t 0), none, [], [], false⟩,
     ⟨(some 9), .mv (.t 1), none, [], [], false⟩,
     ⟨(some 10), .call (.c (.func (.func 19) #[] #[])) [(.t 8), (.t 9)] true, none, [], [], false⟩,
     ⟨(some 7), .mv (.t 10), none, [], [], false⟩,
     ⟨(some 11), .extract (.t 7) 0, none, [], [], false⟩,
     ⟨(some 12), .extract (.t 7) 1, none, [], [], false⟩,
     ⟨(some 5), .mv (.t 11), none, [], [], false⟩,
     ⟨(some 6), .mv (.t 12), none, [], [], false⟩])
  (.seq
   (.region [
     ⟨(some 13), .mv (.t 6), none, [], [], false⟩,
     ⟨(some 14), .bin .eql .int (.t 13) (.c (.int .i64 0)), none, [], [], false⟩,
     ⟨(some 4), .mv (.t 14), none, [], [], false⟩])
  .ret))),
  [.tmp 4]⟩

/-- wainscot/link.List -/
def i74 : IFun := ⟨58,
  (.seq
   (.region [
     ⟨(some 6), .mv (.c (.slice none 0 0)), none, [], [], false⟩,
     ⟨(some 7), .mv (.c (.int .i64 0)), none, [], [], false⟩])
  (.seq
   (.seq
    (.region [
      ⟨(some 12), .mv (.t 0), none, [], [], false⟩,
      ⟨(some 13), .lenS (.t 12), none, [], [], false⟩,
      ⟨(some 14), .bin .gtr .int (.t 13) (.c (.int .i64 16)), none, [], [], false⟩,
      ⟨(some 15), .mv (.t 14), none, [], [], false⟩,
      ⟨(some 16), .mv (.t 2), (some (15, false)), [], [], false⟩,
      ⟨(some 17), .bin .lss .int (.t 16) (.c (.int .i64 (-1))), (some (15, false)), [], [], false⟩,
      ⟨(some 18), .pick (.t 15) (.c (.bool true)) (.t 17), none, [], [], false⟩,
      ⟨(some 19), .mv (.t 18), none, [], [], false⟩,
      ⟨(some 20), .mv (.t 2), (some (19, false)), [], [], false⟩,
      ⟨(some 21), .mv (.t 0), (some (19, false)), [], [], false⟩,
      ⟨(some 22), .lenS (.t 21), (some (19, false)), [], [], false⟩,
      ⟨(some 23), .bin .geq .int (.t 20) (.t 22), (some (19, false)), [], [], false⟩,
      ⟨(some 24), .pick (.t 19) (.c (.bool true)) (.t 23), none, [], [], false⟩])
   (.cond (.t 24)
    (.seq
     (.region [
       ⟨(some 6), .mv (.c (.slice none 0 0)), none, [], [], false⟩,
       ⟨(some 7), .mv (.c (.int .i64 2)), none, [], [], false⟩])
    .ret)
    .skip))
  (.seq
   (.region [
     ⟨(some 8), .new 125 [(.bool false), (.bool false), (.bool false), (.bool false), (.bool false), (.bool false), (.bool false), (.bool false), (.bool false), (.bool false), (.bool false), (.bool false), (.bool false), (.bool false), (.bool false), (.bool false)], none, [], [], false⟩])
  (.seq
   (.region [
     ⟨(some 9), .mv (.c (.slice none 0 0)), none, [], [], false⟩])
  (.seq
   .skip
  (.seq
   (.block 0
    (.loop
     (.block 1
      (.seq
       (.block 2
        (.seq
         (.region [
           ⟨(some 26), .mv (.t 2), none, [], [], false⟩,
           ⟨(some 27), .bin .eql .int (.t 26) (.c (.int .i64 (-1))), none, [], [], false⟩,
           ⟨(some 25), .mv (.t 27), none, [], [], false⟩])
        (.cond (.t 25)
         (.exit 0)
         (.seq
          (.region [
            ⟨(some 29), .mv (.t 2), none, [], [], false⟩,
            ⟨(some 30), .idxA 16 1 (.t 8) (.t 29), none, [], [], false⟩,
            ⟨(some 31), .load false 1 (.t 30), none, [], [], false⟩,
            ⟨(some 28), .mv (.t 31), none, [], [], false⟩])
         (.cond (.t 28)
          (.seq
           (.region [
             ⟨(some 6), .mv (.c (.slice none 0 0)), none, [], [], false⟩,
             ⟨(some 7), .mv (.c (.int .i64 150)), none, [], [], false⟩])
          .ret)
          .skip)))))
      (.seq
       (.region [
         ⟨(some 32), .mv (.t 2), none, [], [], false⟩,
         ⟨(some 33), .idxA 16 1 (.t 8) (.t 32), none, [], [], false⟩,
         ⟨none, .store 1 (.t 33) (.c (.bool true)), none, [], [], false⟩])
      (.seq
       (.region [
         ⟨(some 34), .mv (.t 9), none, [], [], false⟩,
         ⟨(some 35), .mv (.t 2), none, [], [], false⟩,
         ⟨(some 36), .buildSlice 3 [(.int .i64 0)] 1 [(0, 1, (.t 35))], none, [], [], false⟩,
         ⟨(some 37), .append 3 1 8 (.t 34) (.t 36), none, [], [], false⟩,
         ⟨(some 9), .mv (.t 37), none, [], [], false⟩])
      (.seq
       (.region [
         ⟨(some 39), .mv (.t 0), none, [], [], false⟩,
         ⟨(some 40), .mv (.t 2), none, [], [], false⟩,
         ⟨(some 41), .idxS 1 (.t 39) (.t 40), none, [], [], false⟩,
         ⟨(some 42), .load false 1 (.t 41), none, [], [], false⟩,
         ⟨(some 43), .mv (.t 1), none, [], [], false⟩,
         ⟨(some 44), .mv (.t 2), none, [], [], false⟩,
         ⟨(some 45), .call (.c (.func (.func 67) #[] #[])) [(.t 42), (.t 43), (.t 44)] true, none, [], [], false⟩,
         ⟨(some 38), .mv (.t 45), none, [], [], false⟩,
         ⟨(some 46), .extract (.t 38) 0, none, [], [], false⟩,
         ⟨(some 47), .extract (.t 38) 1, none, [], [], false⟩,
         ⟨(some 10), .mv (.t 46), none, [], [], false⟩,
         ⟨(some 11), .mv (.t 47), none, [], [], false⟩])
      (.seq
       (.seq
        (.region [
          ⟨(some 48), .mv (.t 11), none, [], [], false⟩,
          ⟨(some 49), .un .not (.t 48), none, [], [], false⟩,
          ⟨(some 50), .mv (.t 49), none, [], [], false⟩,
          ⟨(some 51), .mv (.t 10), (some (50, false)), [], [], false⟩,
          ⟨(some 52), .mv (.t 0), (some (50, false)), [], [], false⟩,
          ⟨(some 53), .lenS (.t 52), (some (50, false)), [], [], false⟩,
          ⟨(some 54), .bin .geq .int (.t 51) (.t 53), (some (50, false)), [], [], false⟩,
          ⟨(some 55), .pick (.t 50) (.c (.bool true)) (.t 54), none, [], [], false⟩])
       (.cond (.t 55)
        (.seq
         (.region [
           ⟨(some 6), .mv (.c (.slice none 0 0)), none, [], [], false⟩,
           ⟨(some 7), .mv (.c (.int .i64 150)), none, [], [], false⟩])
        .ret)
        .skip))
      (.region [
        ⟨(some 56), .mv (.t 10), none, [], [], false⟩,
        ⟨(some 2), .mv (.t 56), none, [], [], false⟩])))))))))
  (.seq
   (.region [
     ⟨(some 57), .mv (.t 9), none, [], [], false⟩,
     ⟨(some 6), .mv (.t 57), none, [], [], false⟩,
     ⟨(some 7), .mv (.c (.int .i64 0)), none, [], [], false⟩])
  .ret))))))),
  [.tmp 6, .tmp 7]⟩

/-- wainscot/count.PartOf -/
def i75 : IFun := ⟨15,
  (.seq
   (.region [
     ⟨(some 2), .mv (.c (.int .i64 0)), none, [], [], false⟩,
     ⟨(some 3), .mv (.c (.int .i64 0)), none, [], [], false⟩,
     ⟨(some 4), .mv (.c (.bool false)), none, [], [], false⟩])
  (.seq
   (.region [
     ⟨(some 6), .mv (.t 0), none, [], [], false⟩,
     ⟨(some 7), .call (.c (.func (.func 72) #[] #[])) [(.t 6), (.c (.int .i64 0)), (.c (.int .i64 1)), (.c (.func (.func 80) #[] #[]))] true, none, [], [], false⟩,
     ⟨(some 5), .mv (.t 7), none, [], [], false⟩,
     ⟨(some 8), .extract (.t 5) 0, none, [], [], false⟩,
     ⟨(some 9), .extract (.t 5) 1, none, [], [], false⟩,
     ⟨(some 10), .extract (.t 5) 2, none, [], [], false⟩,
     ⟨(some 3), .mv (.t 8), none, [], [], false⟩,
     ⟨(some 2), .mv (.t 9), none, [], [], false⟩,
     ⟨(some 4), .mv (.t 10), none, [], [], false⟩])
  (.seq
   (.seq
    (.region [
      ⟨(some 11), .mv (.t 4), none, [], [], false⟩,
      ⟨(some 12), .un .not (.t 11), none, [], [], false⟩])
   (.cond (.t 12)
    (.seq
     (.region [
       ⟨(some 2), .mv (.c (.int .i64 (-1))), none, [], [], false⟩,
       ⟨(some 3), .mv (.c (.int .i64 0)), none, [], [], false⟩,
       ⟨(some 4), .mv (.c (.bool false)), none, [], [], false⟩])
    .ret)
    .skip))
  (.seq
   (.region [
     ⟨(some 13), .mv (.t 2), none, [], [], false⟩,
     ⟨(some 14), .mv (.t 3), none, [], [], false⟩,
     ⟨(some 2), .mv (.t 13), none, [], [], false⟩,
     ⟨(some 3), .mv (.t 14), none, [], [], false⟩,
     ⟨(some 4), .mv (.c (.bool true)), none, [], [], false⟩])
  .ret)))),
  [.tmp 2, .tmp 3, .tmp 4]⟩

/-- wainscot/chart.Next$1 -/
def i76 : IFun := ⟨9,
  (.seq
   (.region [
     ⟨(some 2), .mv (.c (.int .i64 0)), none, [], [], false⟩])
  (.seq
   (.region [
     ⟨(some 3), .load true 6 (.t 0), none, [], [], false⟩,
     ⟨(some 4), .call (.c (.func (.func 39) #[] #[])) [(.t 3)] true, none, [], [], false⟩,
     ⟨(some 5), .load false 1 (.t 1), none, [], [], false⟩,
     ⟨(some 6), .bin .mul .int (.c (.int .i64 4)) (.t 5), none, [], [], false⟩,
     ⟨(some 7), .bin .add .int (.t 4) (.t 6), none, [], [], false⟩,
     ⟨(some 8), .bin .add .int (.t 7) (.c (.int .i64 2)), none, [], [], false⟩,
     ⟨(some 2), .mv (.t 8), none, [], [], false⟩])
  .ret)),
  [.tmp 2]⟩

/-- (*wainscot/mem.Mem).Load -/
def i77 : IFun := ⟨12,
  (.seq
   (.region [
     ⟨(some 4), .new 22 [(.int .u64 0)], none, [], [], false⟩,
     ⟨(some 5), .mv (.c (.int .i64 0)), none, [], [], false⟩])
  (.seq
   (.region [
     ⟨(some 6), .mv (.t 0), none, [], [], false⟩,
     ⟨(some 7), .mv (.t 1), none, [], [], false⟩,
     ⟨(some 8), .mkFunc 82 [] [(.t 4)], none, [], [], false⟩,
     ⟨(some 9), .call (.c (.func (.func 28) #[] #[])) [(.t 6), (.t 7), (.c (.int .i64 1)), (.t 8)] false, none, [], [], false⟩,
     ⟨(some 5), .mv (.t 9), none, [], [], false⟩])
  (.seq
   (.region [
     ⟨(some 10), .load false 1 (.t 4), none, [], [], false⟩,
     ⟨(some 11), .mv (.t 5), none, [], [], false⟩,
     ⟨none, .store 1 (.t 4) (.t 10), none, [], [], false⟩,
     ⟨(some 5), .mv (.t 11), none, [], [], false⟩])
  .ret))),
  [.cell 4 false 1, .tmp 5]⟩

/-- wainscot/link.object -/
def i78 : IFun := ⟨9,
  (.seq
   (.region [
     ⟨(some 2), .mv (.c (.bool false)), none, [], [], false⟩])
  (.seq
   (.region [
     ⟨(some 3), .mv (.t 0), none, [], [], false⟩,
     ⟨(some 4), .bin .leq .int (.c (.int .i64 0)) (.t 3), none, [], [], false⟩,
     ⟨(some 5), .mv (.t 4), none, [], [], false⟩,
     ⟨(some 6), .mv (.t 0), (some (5, true)), [], [], false⟩,
     ⟨(some 7), .bin .lss .int (.t 6) (.c (.int .i64 16)), (some (5, true)), [], [], false⟩,
     ⟨(some 8), .pick (.t 5) (.t 7) (.c (.bool false)), none, [], [], false⟩,
     ⟨(some 2), .mv (.t 8), none, [], [], false⟩])
  .ret)),
  [.tmp 2]⟩

/-- (*wainscot/fast.step).cas2 -/
def i79 : IFun := ⟨33,
  (.seq
   (.region [
     ⟨(some 12), .mv (.c (.bool false)), none, [], [], false⟩])
  (.seq
   (.region [
     ⟨(some 16), .mv (.t 0), none, [], [], false⟩,
     ⟨(some 17), .nilCheck (.t 16), none, [], [], false⟩,
     ⟨(some 18), .addOff 0 (.t 17), none, [], [], false⟩,
     ⟨(some 19), .load false 1 (.t 18), none, [], [], false⟩,
     ⟨(some 20), .mv (.t 1), none, [], [], false⟩,
     ⟨(some 21), .mv (.t 2), none, [], [], false⟩,
     ⟨(some 22), .mv (.t 3), none, [], [], false⟩,
     ⟨(some 23), .mv (.t 4), none, [], [], false⟩,
     ⟨(some 24), .mv (.t 5), none, [], [], false⟩,
     ⟨(some 25), .call (.c (.func (.func 83) #[] #[])) [(.t 19), (.t 20), (.t 21), (.t 22), (.t 23), (.t 24)] false, none, [], [], false⟩,
     ⟨(some 15), .mv (.t 25), none, [], [], false⟩,
     ⟨(some 26), .extract (.t 15) 0, none, [], [], false⟩,
     ⟨(some 27), .extract (.t 15) 1, none, [], [], false⟩,
     ⟨(some 13), .mv (.t 26), none, [], [], false⟩,
     ⟨(some 14), .mv (.t 27), none, [], [], false⟩])
  (.seq
   (.region [
     ⟨(some 28), .mv (.t 0), none, [], [], false⟩,
     ⟨(some 29), .mv (.t 14), none, [], [], false⟩,
     ⟨(some 30), .bin .eql .int (.t 29) (.c (.int .i64 0)), none, [], [], false⟩,
     ⟨(some 31), .call (.c (.func (.func 70) #[] #[])) [(.t 28), (.t 30)] false, none, [], [], false⟩])
  (.seq
   (.region [
     ⟨(some 32), .mv (.t 13), none, [], [], false⟩,
     ⟨(some 12), .mv (.t 32), none, [], [], false⟩])
  .ret)))),
  [.tmp 12]⟩

/-- wainscot/count.PartOf$1 -/
def i80 : IFun := ⟨15,
  (.seq
   (.region [
     ⟨(some 4), .mv (.c (.bool false)), none, [], [], false⟩])
  (.seq
   (.region [
     ⟨(some 8), .mv (.t 1), none, [], [], false⟩,
     ⟨(some 9), .mv (.t 0), none, [], [], false⟩,
     ⟨(some 10), .call (.c (.func (.func 81) #[] #[])) [(.t 8), (.t 9)] true, none, [], [], false⟩,
     ⟨(some 7), .mv (.t 10), none, [], [], false⟩,
     ⟨(some 11), .extract (.t 7) 0, none, [], [], false⟩,
     ⟨(some 12), .extract (.t 7) 1, none, [], [], false⟩,
     ⟨(some 5), .mv (.t 11), none, [], [], false⟩,
     ⟨(some 6), .mv (.t 12), none, [], [], false⟩])
  (.seq
   (.region [
     ⟨(some 13), .mv (.t 6), none, [], [], false⟩,
     ⟨(some 14), .bin .eql .int (.t 13) (.c (.int .i64 0)), none, [], [], false⟩,
     ⟨(some 4), .mv (.t 14), none, [], [], false⟩])
  .ret))),
  [.tmp 4]⟩

/-- wainscot/count.Part -/
def i81 : IFun := ⟨32,
  (.seq
   (.region [
     ⟨(some 4), .mv (.c (.int .u64 0)), none, [], [], false⟩,
     ⟨(some 5), .mv (.c (.int .i64 0)), none, [], [], false⟩])
  (.seq
   (.block 0
    (.seq
     (.region [
       ⟨(some 7), .mv (.t 0), none, [], [], false⟩,
       ⟨(some 8), .bin .eql .int (.t 7) (.c (.int .i64 (-1))), none, [], [], false⟩,
       ⟨(some 9), .mv (.t 8), none, [], [], false⟩,
       ⟨(some 10), .mv (.t 1), (some (9, true)), [], [], false⟩,
       ⟨(some 11), .bin .eql .int (.t 10) (.c (.int .i64 0)), (some (9, true)), [], [], false⟩,
       ⟨(some 12), .pick (.t 9) (.t 11) (.c (.bool false)), none, [], [], false⟩,
       ⟨(some 6), .mv (.t 12), none, [], [], false⟩])
    (.cond (.t 6)
     (.seq
      (.region [
        ⟨(some 4), .mv (.c (.int .u64 0)), none, [], [], false⟩,
        ⟨(some 5), .mv (.c (.int .i64 0)), none, [], [], false⟩])
     .ret)
     (.seq
      (.region [
        ⟨(some 14), .mv (.t 0), none, [], [], false⟩,
        ⟨(some 15), .call (.c (.func (.func 35) #[] #[])) [(.t 14)] true, none, [], [], false⟩,
        ⟨(some 16), .un .not (.t 15), none, [], [], false⟩,
        ⟨(some 17), .mv (.t 16), none, [], [], false⟩,
        ⟨(some 18), .mv (.t 1), (some (17, false)), [], [], false⟩,
        ⟨(some 19), .bin .lss .int (.t 18) (.c (.int .i64 1)), (some (17, false)), [], [], false⟩,
        ⟨(some 20), .pick (.t 17) (.c (.bool true)) (.t 19), none, [], [], false⟩,
        ⟨(some 21), .mv (.t 20), none, [], [], false⟩,
        ⟨(some 22), .mv (.t 1), (some (21, false)), [], [], false⟩,
        ⟨(some 23), .bin .gtr .int (.t 22) (.c (.int .i64 63)), (some (21, false)), [], [], false⟩,
        ⟨(some 24), .pick (.t 21) (.c (.bool true)) (.t 23), none, [], [], false⟩,
        ⟨(some 13), .mv (.t 24), none, [], [], false⟩])
     (.cond (.t 13)
      (.seq
       (.region [
         ⟨(some 4), .mv (.c (.int .u64 0)), none, [], [], false⟩,
         ⟨(some 5), .mv (.c (.int .i64 2)), none, [], [], false⟩])
      .ret)
      .skip)))))
  (.seq
   (.region [
     ⟨(some 25), .mv (.t 1), none, [], [], false⟩,
     ⟨(some 26), .conv .u64 (.t 25), none, [], [], false⟩,
     ⟨(some 27), .bin .shl .int (.t 26) (.c (.int .u64 6)), none, [], [], false⟩,
     ⟨(some 28), .mv (.t 0), none, [], [], false⟩,
     ⟨(some 29), .bin .add .int (.t 28) (.c (.int .i64 1)), none, [], [], false⟩,
     ⟨(some 30), .conv .u64 (.t 29), none, [], [], false⟩,
     ⟨(some 31), .bin .or .int (.t 27) (.t 30), none, [], [], false⟩,
     ⟨(some 4), .mv (.t 31), none, [], [], false⟩,
     ⟨(some 5), .mv (.c (.int .i64 0)), none, [], [], false⟩])
  .ret))),
  [.tmp 4, .tmp 5]⟩

/-- (*wainscot/mem.Mem).Load$1 -/
def i82 : IFun := ⟨6,
  (.region [
    ⟨(some 3), .mv (.t 0), none, [], [], false⟩,
    ⟨(some 4), .idxS 1 (.t 3) (.c (.int .i64 0)), none, [], [], false⟩,
    ⟨(some 5), .load false 1 (.t 4), none, [], [], false⟩,
    ⟨none, .store 1 (.t 1) (.t 5), none, [], [], false⟩]),
  []⟩

/-- (*wainscot/mem.Mem).Cas2 -/
def i83 : IFun := ⟨20,
  (.seq
   (.region [
     ⟨(some 8), .box 22 1 (.t 2), none, [], [], false⟩,
     ⟨(some 9), .box 22 1 (.t 3), none, [], [], false⟩,
     ⟨(some 10), .box 22 1 (.t 4), none, [], [], false⟩,
     ⟨(some 11), .box 22 1 (.t 5), none, [], [], false⟩,
     ⟨(some 12), .new 4 [(.bool false)], none, [], [], false⟩,
     ⟨(some 13), .mv (.c (.int .i64 0)), none, [], [], false⟩])
  (.seq
   (.region [
     ⟨(some 14), .mv (.t 0), none, [], [], false⟩,
     ⟨(some 15), .mv (.t 1), none, [], [], false⟩,
     ⟨(some 16), .mkFunc 84 [] [(.t 8), (.t 9), (.t 12), (.t 10), (.t 11)], none, [], [], false⟩,
     ⟨(some 17), .call (.c (.func (.func 28) #[] #[])) [(.t 14), (.t 15), (.c (.int .i64 2)), (.t 16)] false, none, [], [], false⟩,
     ⟨(some 13), .mv (.t 17), none, [], [], false⟩])
  (.seq
   (.region [
     ⟨(some 18), .load false 1 (.t 12), none, [], [], false⟩,
     ⟨(some 19), .mv (.t 13), none, [], [], false⟩,
     ⟨none, .store 1 (.t 12) (.t 18), none, [], [], false⟩,
     ⟨(some 13), .mv (.t 19), none, [], [], false⟩])
  .ret))),
  [.cell 12 false 1, .tmp 13]⟩

/-- (*wainscot/mem.Mem).Cas2$1 -/
def i84 : IFun := ⟨25,
  (.seq
   (.region [
     ⟨(some 7), .mv (.t 0), none, [], [], false⟩,
     ⟨(some 8), .idxS 1 (.t 7) (.c (.int .i64 0)), none, [], [], false⟩,
     ⟨(some 9), .load false 1 (.t 8), none, [], [], false⟩,
     ⟨(some 10), .mv (.t 0), none, [], [], false⟩,
     ⟨(some 11), .idxS 1 (.t 10) (.c (.int .i64 1)), none, [], [], false⟩,
     ⟨(some 12), .load false 1 (.t 11), none, [], [], false⟩,
     ⟨(some 13), .build [(.int .u64 0), (.int .u64 0)] [(0, 1, (.t 9)), (1, 1, (.t 12))], none, [], [], false⟩,
     ⟨(some 14), .load false 1 (.t 1), none, [], [], false⟩,
     ⟨(some 15), .load false 1 (.t 2), none, [], [], false⟩,
     ⟨(some 16), .build [(.int .u64 0), (.int .u64 0)] [(0, 1, (.t 14)), (1, 1, (.t 15))], none, [], [], false⟩,
     ⟨(some 17), .bin .eql (.plain [(some .u64), (some .u64)]) (.t 13) (.t 16), none, [], [], false⟩,
     ⟨none, .store 1 (.t 3) (.t 17), none, [], [], false⟩])
  (.seq
   (.region [
     ⟨(some 18), .load false 1 (.t 3), none, [], [], false⟩])
  (.cond (.t 18)
   (.region [
     ⟨(some 19), .mv (.t 0), none, [], [], false⟩,
     ⟨(some 20), .mv (.t 0), none, [], [], false⟩,
     ⟨(some 21), .load false 1 (.t 4), none, [], [], false⟩,
     ⟨(some 22), .load false 1 (.t 5), none, [], [], false⟩,
     ⟨(some 23), .idxS 1 (.t 19) (.c (.int .i64 0)), none, [], [], false⟩,
     ⟨none, .store 1 (.t 23) (.t 21), none, [], [3], false⟩,
     ⟨(some 24), .idxS 1 (.t 20) (.c (.int .i64 1)), none, [], [], false⟩,
     ⟨none, .store 1 (.t 24) (.t 22), none, [], [], false⟩])
   .skip))),
  []⟩

theorem c5 : cFun Try.prog 0 quiet Try.f5 = some i5 := by kernel_rfl
theorem g5 : Try.prog.funcs[5]? = some Try.f5 := by kernel_rfl
theorem c7 : cFun Try.prog 0 quiet Try.f7 = some i7 := by kernel_rfl
theorem g7 : Try.prog.funcs[7]? = some Try.f7 := by kernel_rfl
theorem c8 : cFun Try.prog 0 quiet Try.f8 = some i8 := by kernel_rfl
theorem g8 : Try.prog.funcs[8]? = some Try.f8 := by kernel_rfl
theorem c9 : cFun Try.prog 0 quiet Try.f9 = some i9 := by kernel_rfl
theorem g9 : Try.prog.funcs[9]? = some Try.f9 := by kernel_rfl
theorem c10 : cFun Try.prog 0 quiet Try.f10 = some i10 := by kernel_rfl
theorem g10 : Try.prog.funcs[10]? = some Try.f10 := by kernel_rfl
theorem c11 : cFun Try.prog 0 quiet Try.f11 = some i11 := by kernel_rfl
theorem g11 : Try.prog.funcs[11]? = some Try.f11 := by kernel_rfl
theorem c12 : cFun Try.prog 0 quiet Try.f12 = some i12 := by kernel_rfl
theorem g12 : Try.prog.funcs[12]? = some Try.f12 := by kernel_rfl
theorem c13 : cFun Try.prog 0 quiet Try.f13 = some i13 := by kernel_rfl
theorem g13 : Try.prog.funcs[13]? = some Try.f13 := by kernel_rfl
theorem c14 : cFun Try.prog 0 quiet Try.f14 = some i14 := by kernel_rfl
theorem g14 : Try.prog.funcs[14]? = some Try.f14 := by kernel_rfl
theorem c15 : cFun Try.prog 0 quiet Try.f15 = some i15 := by kernel_rfl
theorem g15 : Try.prog.funcs[15]? = some Try.f15 := by kernel_rfl
theorem c16 : cFun Try.prog 0 quiet Try.f16 = some i16 := by kernel_rfl
theorem g16 : Try.prog.funcs[16]? = some Try.f16 := by kernel_rfl
theorem c17 : cFun Try.prog 0 quiet Try.f17 = some i17 := by kernel_rfl
theorem g17 : Try.prog.funcs[17]? = some Try.f17 := by kernel_rfl
theorem c18 : cFun Try.prog 0 quiet Try.f18 = some i18 := by kernel_rfl
theorem g18 : Try.prog.funcs[18]? = some Try.f18 := by kernel_rfl
theorem c19 : cFun Try.prog 0 quiet Try.f19 = some i19 := by kernel_rfl
theorem g19 : Try.prog.funcs[19]? = some Try.f19 := by kernel_rfl
theorem c20 : cFun Try.prog 0 quiet Try.f20 = some i20 := by kernel_rfl
theorem g20 : Try.prog.funcs[20]? = some Try.f20 := by kernel_rfl
theorem c21 : cFun Try.prog 0 quiet Try.f21 = some i21 := by kernel_rfl
theorem g21 : Try.prog.funcs[21]? = some Try.f21 := by kernel_rfl
theorem c22 : cFun Try.prog 0 quiet Try.f22 = some i22 := by kernel_rfl
theorem g22 : Try.prog.funcs[22]? = some Try.f22 := by kernel_rfl
theorem c23 : cFun Try.prog 0 quiet Try.f23 = some i23 := by kernel_rfl
theorem g23 : Try.prog.funcs[23]? = some Try.f23 := by kernel_rfl
theorem c24 : cFun Try.prog 0 quiet Try.f24 = some i24 := by kernel_rfl
theorem g24 : Try.prog.funcs[24]? = some Try.f24 := by kernel_rfl
theorem c25 : cFun Try.prog 0 quiet Try.f25 = some i25 := by kernel_rfl
theorem g25 : Try.prog.funcs[25]? = some Try.f25 := by kernel_rfl
theorem c26 : cFun Try.prog 0 quiet Try.f26 = some i26 := by kernel_rfl
theorem g26 : Try.prog.funcs[26]? = some Try.f26 := by kernel_rfl
theorem c27 : cFun Try.prog 0 quiet Try.f27 = some i27 := by kernel_rfl
theorem g27 : Try.prog.funcs[27]? = some Try.f27 := by kernel_rfl
theorem c28 : cFun Try.prog 0 quiet Try.f28 = some i28 := by kernel_rfl
theorem g28 : Try.prog.funcs[28]? = some Try.f28 := by kernel_rfl
theorem c29 : cFun Try.prog 0 quiet Try.f29 = some i29 := by kernel_rfl
theorem g29 : Try.prog.funcs[29]? = some Try.f29 := by kernel_rfl
theorem c30 : cFun Try.prog 0 quiet Try.f30 = some i30 := by kernel_rfl
theorem g30 : Try.prog.funcs[30]? = some Try.f30 := by kernel_rfl
theorem c31 : cFun Try.prog 0 quiet Try.f31 = some i31 := by kernel_rfl
theorem g31 : Try.prog.funcs[31]? = some Try.f31 := by kernel_rfl
theorem c32 : cFun Try.prog 0 quiet Try.f32 = some i32 := by kernel_rfl
theorem g32 : Try.prog.funcs[32]? = some Try.f32 := by kernel_rfl
theorem c33 : cFun Try.prog 0 quiet Try.f33 = some i33 := by kernel_rfl
theorem g33 : Try.prog.funcs[33]? = some Try.f33 := by kernel_rfl
theorem c34 : cFun Try.prog 0 quiet Try.f34 = some i34 := by kernel_rfl
theorem g34 : Try.prog.funcs[34]? = some Try.f34 := by kernel_rfl
theorem c35 : cFun Try.prog 0 quiet Try.f35 = some i35 := by kernel_rfl
theorem g35 : Try.prog.funcs[35]? = some Try.f35 := by kernel_rfl
theorem c36 : cFun Try.prog 0 quiet Try.f36 = some i36 := by kernel_rfl
theorem g36 : Try.prog.funcs[36]? = some Try.f36 := by kernel_rfl
theorem c37 : cFun Try.prog 0 quiet Try.f37 = some i37 := by kernel_rfl
theorem g37 : Try.prog.funcs[37]? = some Try.f37 := by kernel_rfl
theorem c38 : cFun Try.prog 0 quiet Try.f38 = some i38 := by kernel_rfl
theorem g38 : Try.prog.funcs[38]? = some Try.f38 := by kernel_rfl
theorem c39 : cFun Try.prog 0 quiet Try.f39 = some i39 := by kernel_rfl
theorem g39 : Try.prog.funcs[39]? = some Try.f39 := by kernel_rfl
theorem c40 : cFun Try.prog 0 quiet Try.f40 = some i40 := by kernel_rfl
theorem g40 : Try.prog.funcs[40]? = some Try.f40 := by kernel_rfl
theorem c41 : cFun Try.prog 0 quiet Try.f41 = some i41 := by kernel_rfl
theorem g41 : Try.prog.funcs[41]? = some Try.f41 := by kernel_rfl
theorem c42 : cFun Try.prog 0 quiet Try.f42 = some i42 := by kernel_rfl
theorem g42 : Try.prog.funcs[42]? = some Try.f42 := by kernel_rfl
theorem c43 : cFun Try.prog 0 quiet Try.f43 = some i43 := by kernel_rfl
theorem g43 : Try.prog.funcs[43]? = some Try.f43 := by kernel_rfl
theorem c44 : cFun Try.prog 0 quiet Try.f44 = some i44 := by kernel_rfl
theorem g44 : Try.prog.funcs[44]? = some Try.f44 := by kernel_rfl
theorem c45 : cFun Try.prog 0 quiet Try.f45 = some i45 := by kernel_rfl
theorem g45 : Try.prog.funcs[45]? = some Try.f45 := by kernel_rfl
theorem c46 : cFun Try.prog 0 quiet Try.f46 = some i46 := by kernel_rfl
theorem g46 : Try.prog.funcs[46]? = some Try.f46 := by kernel_rfl
theorem c47 : cFun Try.prog 0 quiet Try.f47 = some i47 := by kernel_rfl
theorem g47 : Try.prog.funcs[47]? = some Try.f47 := by kernel_rfl
theorem c48 : cFun Try.prog 0 quiet Try.f48 = some i48 := by kernel_rfl
theorem g48 : Try.prog.funcs[48]? = some Try.f48 := by kernel_rfl
theorem c49 : cFun Try.prog 0 quiet Try.f49 = some i49 := by kernel_rfl
theorem g49 : Try.prog.funcs[49]? = some Try.f49 := by kernel_rfl
theorem c50 : cFun Try.prog 0 quiet Try.f50 = some i50 := by kernel_rfl
theorem g50 : Try.prog.funcs[50]? = some Try.f50 := by kernel_rfl
theorem c51 : cFun Try.prog 0 quiet Try.f51 = some i51 := by kernel_rfl
theorem g51 : Try.prog.funcs[51]? = some Try.f51 := by kernel_rfl
theorem c52 : cFun Try.prog 0 quiet Try.f52 = some i52 := by kernel_rfl
theorem g52 : Try.prog.funcs[52]? = some Try.f52 := by kernel_rfl
theorem c53 : cFun Try.prog 0 quiet Try.f53 = some i53 := by kernel_rfl
theorem g53 : Try.prog.funcs[53]? = some Try.f53 := by kernel_rfl
theorem c54 : cFun Try.prog 0 quiet Try.f54 = some i54 := by kernel_rfl
theorem g54 : Try.prog.funcs[54]? = some Try.f54 := by kernel_rfl
theorem c55 : cFun Try.prog 0 quiet Try.f55 = some i55 := by kernel_rfl
theorem g55 : Try.prog.funcs[55]? = some Try.f55 := by kernel_rfl
theorem c56 : cFun Try.prog 0 quiet Try.f56 = some i56 := by kernel_rfl
theorem g56 : Try.prog.funcs[56]? = some Try.f56 := by kernel_rfl
theorem c57 : cFun Try.prog 0 quiet Try.f57 = some i57 := by kernel_rfl
theorem g57 : Try.prog.funcs[57]? = some Try.f57 := by kernel_rfl
theorem c58 : cFun Try.prog 0 quiet Try.f58 = some i58 := by kernel_rfl
theorem g58 : Try.prog.funcs[58]? = some Try.f58 := by kernel_rfl
theorem c59 : cFun Try.prog 0 quiet Try.f59 = some i59 := by kernel_rfl
theorem g59 : Try.prog.funcs[59]? = some Try.f59 := by kernel_rfl
theorem c60 : cFun Try.prog 0 quiet Try.f60 = some i60 := by kernel_rfl
theorem g60 : Try.prog.funcs[60]? = some Try.f60 := by kernel_rfl
theorem c61 : cFun Try.prog 0 quiet Try.f61 = some i61 := by kernel_rfl
theorem g61 : Try.prog.funcs[61]? = some Try.f61 := by kernel_rfl
theorem c62 : cFun Try.prog 0 quiet Try.f62 = some i62 := by kernel_rfl
theorem g62 : Try.prog.funcs[62]? = some Try.f62 := by kernel_rfl
theorem c63 : cFun Try.prog 0 quiet Try.f63 = some i63 := by kernel_rfl
theorem g63 : Try.prog.funcs[63]? = some Try.f63 := by kernel_rfl
theorem c64 : cFun Try.prog 0 quiet Try.f64 = some i64 := by kernel_rfl
theorem g64 : Try.prog.funcs[64]? = some Try.f64 := by kernel_rfl
theorem c65 : cFun Try.prog 0 quiet Try.f65 = some i65 := by kernel_rfl
theorem g65 : Try.prog.funcs[65]? = some Try.f65 := by kernel_rfl
theorem c66 : cFun Try.prog 0 quiet Try.f66 = some i66 := by kernel_rfl
theorem g66 : Try.prog.funcs[66]? = some Try.f66 := by kernel_rfl
theorem c67 : cFun Try.prog 0 quiet Try.f67 = some i67 := by kernel_rfl
theorem g67 : Try.prog.funcs[67]? = some Try.f67 := by kernel_rfl
theorem c68 : cFun Try.prog 0 quiet Try.f68 = some i68 := by kernel_rfl
theorem g68 : Try.prog.funcs[68]? = some Try.f68 := by kernel_rfl
theorem c69 : cFun Try.prog 0 quiet Try.f69 = some i69 := by kernel_rfl
theorem g69 : Try.prog.funcs[69]? = some Try.f69 := by kernel_rfl
theorem c70 : cFun Try.prog 0 quiet Try.f70 = some i70 := by kernel_rfl
theorem g70 : Try.prog.funcs[70]? = some Try.f70 := by kernel_rfl
theorem c71 : cFun Try.prog 0 quiet Try.f71 = some i71 := by kernel_rfl
theorem g71 : Try.prog.funcs[71]? = some Try.f71 := by kernel_rfl
theorem c72 : cFun Try.prog 0 quiet Try.f72 = some i72 := by kernel_rfl
theorem g72 : Try.prog.funcs[72]? = some Try.f72 := by kernel_rfl
theorem c73 : cFun Try.prog 0 quiet Try.f73 = some i73 := by kernel_rfl
theorem g73 : Try.prog.funcs[73]? = some Try.f73 := by kernel_rfl
theorem c74 : cFun Try.prog 0 quiet Try.f74 = some i74 := by kernel_rfl
theorem g74 : Try.prog.funcs[74]? = some Try.f74 := by kernel_rfl
theorem c75 : cFun Try.prog 0 quiet Try.f75 = some i75 := by kernel_rfl
theorem g75 : Try.prog.funcs[75]? = some Try.f75 := by kernel_rfl
theorem c76 : cFun Try.prog 0 quiet Try.f76 = some i76 := by kernel_rfl
theorem g76 : Try.prog.funcs[76]? = some Try.f76 := by kernel_rfl
theorem c77 : cFun Try.prog 0 quiet Try.f77 = some i77 := by kernel_rfl
theorem g77 : Try.prog.funcs[77]? = some Try.f77 := by kernel_rfl
theorem c78 : cFun Try.prog 0 quiet Try.f78 = some i78 := by kernel_rfl
theorem g78 : Try.prog.funcs[78]? = some Try.f78 := by kernel_rfl
theorem c79 : cFun Try.prog 0 quiet Try.f79 = some i79 := by kernel_rfl
theorem g79 : Try.prog.funcs[79]? = some Try.f79 := by kernel_rfl
theorem c80 : cFun Try.prog 0 quiet Try.f80 = some i80 := by kernel_rfl
theorem g80 : Try.prog.funcs[80]? = some Try.f80 := by kernel_rfl
theorem c81 : cFun Try.prog 0 quiet Try.f81 = some i81 := by kernel_rfl
theorem g81 : Try.prog.funcs[81]? = some Try.f81 := by kernel_rfl
theorem c82 : cFun Try.prog 0 quiet Try.f82 = some i82 := by kernel_rfl
theorem g82 : Try.prog.funcs[82]? = some Try.f82 := by kernel_rfl
theorem c83 : cFun Try.prog 0 quiet Try.f83 = some i83 := by kernel_rfl
theorem g83 : Try.prog.funcs[83]? = some Try.f83 := by kernel_rfl
theorem c84 : cFun Try.prog 0 quiet Try.f84 = some i84 := by kernel_rfl
theorem g84 : Try.prog.funcs[84]? = some Try.f84 := by kernel_rfl

def table : Tree := (.node 45 i45 (.node 25 i25 (.node 15 i15 (.node 10 i10 (.node 8 i8 (.node 7 i7 (.node 5 i5 .leaf .leaf) .leaf) (.node 9 i9 .leaf .leaf)) (.node 13 i13 (.node 12 i12 (.node 11 i11 .leaf .leaf) .leaf) (.node 14 i14 .leaf .leaf))) (.node 20 i20 (.node 18 i18 (.node 17 i17 (.node 16 i16 .leaf .leaf) .leaf) (.node 19 i19 .leaf .leaf)) (.node 23 i23 (.node 22 i22 (.node 21 i21 .leaf .leaf) .leaf) (.node 24 i24 .leaf .leaf)))) (.node 35 i35 (.node 30 i30 (.node 28 i28 (.node 27 i27 (.node 26 i26 .leaf .leaf) .leaf) (.node 29 i29 .leaf .leaf)) (.node 33 i33 (.node 32 i32 (.node 31 i31 .leaf .leaf) .leaf) (.node 34 i34 .leaf .leaf))) (.node 40 i40 (.node 38 i38 (.node 37 i37 (.node 36 i36 .leaf .leaf) .leaf) (.node 39 i39 .leaf .leaf)) (.node 43 i43 (.node 42 i42 (.node 41 i41 .leaf .leaf) .leaf) (.node 44 i44 .leaf .leaf))))) (.node 65 i65 (.node 55 i55 (.node 50 i50 (.node 48 i48 (.node 47 i47 (.node 46 i46 .leaf .leaf) .leaf) (.node 49 i49 .leaf .leaf)) (.node 53 i53 (.node 52 i52 (.node 51 i51 .leaf .leaf) .leaf) (.node 54 i54 .leaf .leaf))) (.node 60 i60 (.node 58 i58 (.node 57 i57 (.node 56 i56 .leaf .leaf) .leaf) (.node 59 i59 .leaf .leaf)) (.node 63 i63 (.node 62 i62 (.node 61 i61 .leaf .leaf) .leaf) (.node 64 i64 .leaf .leaf)))) (.node 75 i75 (.node 70 i70 (.node 68 i68 (.node 67 i67 (.node 66 i66 .leaf .leaf) .leaf) (.node 69 i69 .leaf .leaf)) (.node 73 i73 (.node 72 i72 (.node 71 i71 .leaf .leaf) .leaf) (.node 74 i74 .leaf .leaf))) (.node 80 i80 (.node 78 i78 (.node 77 i77 (.node 76 i76 .leaf .leaf) .leaf) (.node 79 i79 .leaf .leaf)) (.node 83 i83 (.node 82 i82 (.node 81 i81 .leaf .leaf) .leaf) (.node 84 i84 .leaf .leaf))))))

theorem fits : table.All (Fits Try.prog 0 quiet) := ⟨⟨_, g45, c45⟩, ⟨⟨_, g25, c25⟩, ⟨⟨_, g15, c15⟩, ⟨⟨_, g10, c10⟩, ⟨⟨_, g8, c8⟩, ⟨⟨_, g7, c7⟩, ⟨⟨_, g5, c5⟩, trivial, trivial⟩, trivial⟩, ⟨⟨_, g9, c9⟩, trivial, trivial⟩⟩, ⟨⟨_, g13, c13⟩, ⟨⟨_, g12, c12⟩, ⟨⟨_, g11, c11⟩, trivial, trivial⟩, trivial⟩, ⟨⟨_, g14, c14⟩, trivial, trivial⟩⟩⟩, ⟨⟨_, g20, c20⟩, ⟨⟨_, g18, c18⟩, ⟨⟨_, g17, c17⟩, ⟨⟨_, g16, c16⟩, trivial, trivial⟩, trivial⟩, ⟨⟨_, g19, c19⟩, trivial, trivial⟩⟩, ⟨⟨_, g23, c23⟩, ⟨⟨_, g22, c22⟩, ⟨⟨_, g21, c21⟩, trivial, trivial⟩, trivial⟩, ⟨⟨_, g24, c24⟩, trivial, trivial⟩⟩⟩⟩, ⟨⟨_, g35, c35⟩, ⟨⟨_, g30, c30⟩, ⟨⟨_, g28, c28⟩, ⟨⟨_, g27, c27⟩, ⟨⟨_, g26, c26⟩, trivial, trivial⟩, trivial⟩, ⟨⟨_, g29, c29⟩, trivial, trivial⟩⟩, ⟨⟨_, g33, c33⟩, ⟨⟨_, g32, c32⟩, ⟨⟨_, g31, c31⟩, trivial, trivial⟩, trivial⟩, ⟨⟨_, g34, c34⟩, trivial, trivial⟩⟩⟩, ⟨⟨_, g40, c40⟩, ⟨⟨_, g38, c38⟩, ⟨⟨_, g37, c37⟩, ⟨⟨_, g36, c36⟩, trivial, trivial⟩, trivial⟩, ⟨⟨_, g39, c39⟩, trivial, trivial⟩⟩, ⟨⟨_, g43, c43⟩, ⟨⟨_, g42, c42⟩, ⟨⟨_, g41, c41⟩, trivial, trivial⟩, trivial⟩, ⟨⟨_, g44, c44⟩, trivial, trivial⟩⟩⟩⟩⟩, ⟨⟨_, g65, c65⟩, ⟨⟨_, g55, c55⟩, ⟨⟨_, g50, c50⟩, ⟨⟨_, g48, c48⟩, ⟨⟨_, g47, c47⟩, ⟨⟨_, g46, c46⟩, trivial, trivial⟩, trivial⟩, ⟨⟨_, g49, c49⟩, trivial, trivial⟩⟩, ⟨⟨_, g53, c53⟩, ⟨⟨_, g52, c52⟩, ⟨⟨_, g51, c51⟩, trivial, trivial⟩, trivial⟩, ⟨⟨_, g54, c54⟩, trivial, trivial⟩⟩⟩, ⟨⟨_, g60, c60⟩, ⟨⟨_, g58, c58⟩, ⟨⟨_, g57, c57⟩, ⟨⟨_, g56, c56⟩, trivial, trivial⟩, trivial⟩, ⟨⟨_, g59, c59⟩, trivial, trivial⟩⟩, ⟨⟨_, g63, c63⟩, ⟨⟨_, g62, c62⟩, ⟨⟨_, g61, c61⟩, trivial, trivial⟩, trivial⟩, ⟨⟨_, g64, c64⟩, trivial, trivial⟩⟩⟩⟩, ⟨⟨_, g75, c75⟩, ⟨⟨_, g70, c70⟩, ⟨⟨_, g68, c68⟩, ⟨⟨_, g67, c67⟩, ⟨⟨_, g66, c66⟩, trivial, trivial⟩, trivial⟩, ⟨⟨_, g69, c69⟩, trivial, trivial⟩⟩, ⟨⟨_, g73, c73⟩, ⟨⟨_, g72, c72⟩, ⟨⟨_, g71, c71⟩, trivial, trivial⟩, trivial⟩, ⟨⟨_, g74, c74⟩, trivial, trivial⟩⟩⟩, ⟨⟨_, g80, c80⟩, ⟨⟨_, g78, c78⟩, ⟨⟨_, g77, c77⟩, ⟨⟨_, g76, c76⟩, trivial, trivial⟩, trivial⟩, ⟨⟨_, g79, c79⟩, trivial, trivial⟩⟩, ⟨⟨_, g83, c83⟩, ⟨⟨_, g82, c82⟩, ⟨⟨_, g81, c81⟩, trivial, trivial⟩, trivial⟩, ⟨⟨_, g84, c84⟩, trivial, trivial⟩⟩⟩⟩⟩⟩

theorem mixed : Try.prog.follows .mixedOrders = true := by kernel_rfl

theorem allOk (n : Nat) : CallOK Try.prog 0 (fCalls table.look n) := fCalls_ok (stands_look fits) mixed n

end Go.Proofs.Ytepddcemoofmlaa.FastNames
