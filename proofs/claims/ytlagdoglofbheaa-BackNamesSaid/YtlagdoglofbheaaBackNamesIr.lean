/- The compact form of the functions that are reached (written by program), and that it is theirs. -/
import Derived.Test.YtlagdoglofbheaaAe26
import Derived.Test.YtlagdoglofbheaaProg
import Derived.KernelRfl
namespace Go.Proofs.Ytlagdoglofbheaa.BackNames
open Go Go.Proofs.Ytlagdoglofbheaa.AE
set_option maxRecDepth 100000
set_option linter.unusedVariables false

def quiet : FuncId → Bool := fun f => [9, 10, 11, 15, 16, 17, 19, 20, 21, 22, 23, 24, 25, 26, 27, 28, 29, 30, 31, 32, 33, 37, 39, 41, 45, 46, 47, 48, 51, 52, 53, 54, 55, 61, 63, 65, 66, 67, 71, 73, 80, 81, 84, 85, 87].contains f

/-- wainscot/wainscotlaw23.BackNames -/
def i5 : IFun := ⟨195,
  (.seq
   (.region [
     ⟨(some 0), .mv (.c (.bool false)), none, [], [], false⟩])
  (.seq
   (.region [
     ⟨(some 26), .build [(.bool false), (.bool false), (.int .i64 0), (.int .i64 0)] [(1, 1, (.c (.bool true)))], none, [], [], false⟩,
     ⟨(some 27), .call (.c (.func (.func 7) #[] #[])) [(.c (.int .i64 3)), (.c (.int .i64 1)), (.c (.int .u64 1)), (.t 26)] false, none, [], [], false⟩,
     ⟨(some 25), .mv (.t 27), none, [], [], false⟩,
     ⟨(some 28), .extract (.t 25) 0, none, [], [], false⟩,
     ⟨(some 29), .extract (.t 25) 1, none, [], [], false⟩,
     ⟨(some 2), .new 28 [(.int .i64 0), (.int .i64 0), (.int .i64 0), (.int .i64 0), (.int .i64 0), (.int .u64 0)], none, [], [], false⟩,
     ⟨(some 1), .mv (.t 28), none, [], [], false⟩,
     ⟨none, .store 6 (.t 2) (.t 29), none, [], [], false⟩])
  (.seq
   (.seq
    (.region [
      ⟨(some 30), .mv (.t 1), none, [], [], false⟩,
      ⟨(some 31), .bin .eql .ptr (.t 30) (.c (.pointer none)), none, [], [], false⟩])
   (.cond (.t 31)
    (.seq
     (.region [
       ⟨(some 0), .mv (.c (.bool false)), none, [], [], false⟩])
    .ret)
    .skip))
  (.seq
   (.region [
     ⟨(some 33), .load true 6 (.t 2), none, [], [], false⟩,
     ⟨(some 34), .build [(.int .i64 0), (.int .i64 0), (.int .i64 0), (.int .i64 0), (.int .i64 0), (.int .i64 0), (.int .i64 0), (.int .u64 0), (.int .u64 0), (.int .u64 0), (.int .u64 0), (.int .u64 0), (.int .i64 0), (.int .i64 0), (.int .i64 0), (.int .i64 0), (.int .i64 0)] [(2, 1, (.c (.int .i64 50)))], none, [], [], false⟩,
     ⟨(some 35), .call (.c (.func (.func 13) #[] #[])) [(.c (.pointer none)), (.t 33), (.t 34)] false, none, [], [], false⟩,
     ⟨(some 32), .mv (.t 35), none, [], [], false⟩,
     ⟨(some 36), .extract (.t 32) 0, none, [], [], false⟩,
     ⟨(some 37), .extract (.t 32) 1, none, [], [], false⟩,
     ⟨(some 3), .new 32 [(.int .i64 0), (.int .i64 0), (.int .i64 0), (.int .i64 0), (.int .i64 0), (.int .i64 0), (.int .i64 0), (.int .u64 0), (.int .u64 0), (.int .u64 0), (.int .u64 0), (.int .u64 0), (.int .i64 0), (.int .i64 0), (.int .i64 0), (.int .i64 0), (.int .i64 0)], none, [], [], false⟩,
     ⟨none, .store 17 (.t 3) (.t 36), none, [], [], false⟩,
     ⟨(some 4), .mv (.t 37), none, [], [], false⟩])
  (.seq
   (.region [
     ⟨(some 39), .mv (.t 1), none, [], [], false⟩,
     ⟨(some 40), .build [(.int .i64 0), (.int .i64 0), (.int .i64 0), (.int .i64 0), (.int .i64 0), (.int .u64 0)] [], none, [], [], false⟩,
     ⟨(some 41), .build [(.int .i64 0), (.int .i64 0), (.int .i64 0), (.int .i64 0), (.int .i64 0), (.int .i64 0), (.int .i64 0), (.int .u64 0), (.int .u64 0), (.int .u64 0), (.int .u64 0), (.int .u64 0), (.int .i64 0), (.int .i64 0), (.int .i64 0), (.int .i64 0), (.int .i64 0)] [(2, 1, (.c (.int .i64 50)))], none, [], [], false⟩,
     ⟨(some 42), .call (.c (.func (.func 13) #[] #[])) [(.t 39), (.t 40), (.t 41)] false, none, [], [], false⟩,
     ⟨(some 38), .mv (.t 42), none, [], [], false⟩,
     ⟨(some 43), .extract (.t 38) 0, none, [], [], false⟩,
     ⟨(some 44), .extract (.t 38) 1, none, [], [], false⟩,
     ⟨(some 5), .new 32 [(.int .i64 0), (.int .i64 0), (.int .i64 0), (.int .i64 0), (.int .i64 0), (.int .i64 0), (.int .i64 0), (.int .u64 0), (.int .u64 0), (.int .u64 0), (.int .u64 0), (.int .u64 0), (.int .i64 0), (.int .i64 0), (.int .i64 0), (.int .i64 0), (.int .i64 0)], none, [], [], false⟩,
     ⟨none, .store 17 (.t 5) (.t 43), none, [], [], false⟩,
     ⟨(some 6), .mv (.t 44), none, [], [], false⟩])
  (.seq
   (.region [
     ⟨(some 45), .mv (.t 4), none, [], [], false⟩,
     ⟨(some 46), .bin .eql .int (.t 45) (.c (.int .i64 1)), none, [], [], false⟩,
     ⟨(some 47), .mv (.t 46), none, [], [], false⟩,
     ⟨(some 48), .mv (.t 6), (some (47, true)), [], [], false⟩,
     ⟨(some 49), .bin .eql .int (.t 48) (.c (.int .i64 2)), (some (47, true)), [], [], false⟩,
     ⟨(some 50), .pick (.t 47) (.t 49) (.c (.bool false)), none, [], [], false⟩,
     ⟨(some 7), .mv (.t 50), none, [], [], false⟩])
  (.seq
   (.region [
     ⟨(some 51), .build [(.int .i64 0), (.int .i64 0), (.int .i64 0), (.int .i64 0), (.int .i64 0), (.int .i64 0), (.int .i64 0), (.int .u64 0), (.int .u64 0), (.int .u64 0), (.int .u64 0), (.int .u64 0), (.int .i64 0), (.int .i64 0), (.int .i64 0), (.int .i64 0), (.int .i64 0)] [(2, 1, (.c (.int .i64 50))), (3, 1, (.c (.int .i64 1)))], none, [], [], false⟩,
     ⟨(some 52), .build [(.int .i64 0), (.int .i64 0), (.int .i64 0), (.int .i64 0), (.int .i64 0), (.int .i64 0), (.int .i64 0), (.int .u64 0), (.int .u64 0), (.int .u64 0), (.int .u64 0), (.int .u64 0), (.int .i64 0), (.int .i64 0), (.int .i64 0), (.int .i64 0), (.int .i64 0)] [(2, 1, (.c (.int .i64 50))), (4, 1, (.c (.int .i64 2)))], none, [], [], false⟩,
     ⟨(some 53), .build [(.int .i64 0), (.int .i64 0), (.int .i64 0), (.int .i64 0), (.int .i64 0), (.int .i64 0), (.int .i64 0), (.int .u64 0), (.int .u64 0), (.int .u64 0), (.int .u64 0), (.int .u64 0), (.int .i64 0), (.int .i64 0), (.int .i64 0), (.int .i64 0), (.int .i64 0)] [(2, 1, (.c (.int .i64 49)))], none, [], [], false⟩,
     ⟨(some 54), .build [(.int .i64 0), (.int .i64 0), (.int .i64 0), (.int .i64 0), (.int .i64 0), (.int .i64 0), (.int .i64 0), (.int .u64 0), (.int .u64 0), (.int .u64 0), (.int .u64 0), (.int .u64 0), (.int .i64 0), (.int .i64 0), (.int .i64 0), (.int .i64 0), (.int .i64 0)] [(2, 1, (.c (.int .i64 69)))], none, [], [], false⟩,
     ⟨(some 55), .build [(.int .i64 0), (.int .i64 0), (.int .i64 0), (.int .i64 0), (.int .i64 0), (.int .i64 0), (.int .i64 0), (.int .u64 0), (.int .u64 0), (.int .u64 0), (.int .u64 0), (.int .u64 0), (.int .i64 0), (.int .i64 0), (.int .i64 0), (.int .i64 0), (.int .i64 0)] [], none, [], [], false⟩,
     ⟨(some 56), .buildSlice 32 [(.int .i64 0), (.int .i64 0), (.int .i64 0), (.int .i64 0), (.int .i64 0), (.int .i64 0), (.int .i64 0), (.int .u64 0), (.int .u64 0), (.int .u64 0), (.int .u64 0), (.int .u64 0), (.int .i64 0), (.int .i64 0), (.int .i64 0), (.int .i64 0), (.int .i64 0), (.int .i64 0), (.int .i64 0), (.int .i64 0), (.int .i64 0), (.int .i64 0), (.int .i64 0), (.int .i64 0), (.int .u64 0), (.int .u64 0), (.int .u64 0), (.int .u64 0), (.int .u64 0), (.int .i64 0), (.int .i64 0), (.int .i64 0), (.int .i64 0), (.int .i64 0), (.int .i64 0), (.int .i64 0), (.int .i64 0), (.int .i64 0), (.int .i64 0), (.int .i64 0), (.int .i64 0), (.int .u64 0), (.int .u64 0), (.int .u64 0), (.int .u64 0), (.int .u64 0), (.int .i64 0), (.int .i64 0), (.int .i64 0), (.int .i64 0), (.int .i64 0), (.int .i64 0), (.int .i64 0), (.int .i64 0), (.int .i64 0), (.int .i64 0), (.int .i64 0), (.int .i64 0), (.int .u64 0), (.int .u64 0), (.int .u64 0), (.int .u64 0), (.int .u64 0), (.int .i64 0), (.int .i64 0), (.int .i64 0), (.int .i64 0), (.int .i64 0), (.int .i64 0), (.int .i64 0), (.int .i64 0), (.int .i64 0), (.int .i64 0), (.int .i64 0), (.int .i64 0), (.int .u64 0), (.int .u64 0), (.int .u64 0), (.int .u64 0), (.int .u64 0), (.int .i64 0), (.int .i64 0), (.int .i64 0), (.int .i64 0), (.int .i64 0)] 5 [(0, 17, (.t 51)), (17, 17, (.t 52)), (34, 17, (.t 53)), (51, 17, (.t 54)), (68, 17, (.t 55))], none, [], [], false⟩,
     ⟨(some 8), .mv (.t 56), none, [], [], false⟩])
  (.seq
   (.seq
    (.region [
      ⟨(some 9), .mv (.c (.int .i64 0)), none, [], [], false⟩])
   (.block 0
    (.loop
     (.seq
      (.seq
       (.region [
         ⟨(some 57), .mv (.t 9), none, [], [], false⟩,
         ⟨(some 58), .mv (.t 8), none, [], [], false⟩,
         ⟨(some 59), .lenS (.t 58), none, [], [], false⟩,
         ⟨(some 60), .bin .lss .int (.t 57) (.t 59), none, [], [], false⟩])
      (.cond (.t 60)
       .skip
       (.exit 0)))
     (.seq
      (.block 1
       (.seq
        (.region [
          ⟨(some 64), .mv (.t 1), none, [], [], false⟩,
          ⟨(some 65), .load true 6 (.t 2), none, [], [], false⟩,
          ⟨(some 66), .mv (.t 8), none, [], [], false⟩,
          ⟨(some 67), .mv (.t 9), none, [], [], false⟩,
          ⟨(some 68), .idxS 17 (.t 66) (.t 67), none, [], [], false⟩,
          ⟨(some 69), .load true 17 (.t 68), none, [], [], false⟩,
          ⟨(some 70), .call (.c (.func (.func 13) #[] #[])) [(.t 64), (.t 65), (.t 69)] false, none, [], [], false⟩,
          ⟨(some 63), .mv (.t 70), none, [], [], false⟩,
          ⟨(some 71), .extract (.t 63) 0, none, [], [], false⟩,
          ⟨(some 72), .extract (.t 63) 1, none, [], [], false⟩,
          ⟨(some 10), .new 32 [(.int .i64 0), (.int .i64 0), (.int .i64 0), (.int .i64 0), (.int .i64 0), (.int .i64 0), (.int .i64 0), (.int .u64 0), (.int .u64 0), (.int .u64 0), (.int .u64 0), (.int .u64 0), (.int .i64 0), (.int .i64 0), (.int .i64 0), (.int .i64 0), (.int .i64 0)], none, [], [], false⟩,
          ⟨none, .store 17 (.t 10) (.t 71), none, [], [], false⟩,
          ⟨(some 11), .mv (.t 72), none, [], [], false⟩])
       (.region [
         ⟨(some 73), .mv (.t 7), none, [], [], false⟩,
         ⟨(some 74), .mv (.t 73), none, [], [], false⟩,
         ⟨(some 75), .mv (.t 11), (some (74, true)), [], [], false⟩,
         ⟨(some 76), .bin .eql .int (.t 75) (.c (.int .i64 292)), (some (74, true)), [], [], false⟩,
         ⟨(some 77), .pick (.t 74) (.t 76) (.c (.bool false)), none, [], [], false⟩,
         ⟨(some 7), .mv (.t 77), none, [], [], false⟩])))
     (.region [
       ⟨(some 61), .mv (.t 9), none, [], [], false⟩,
       ⟨(some 62), .bin .add .int (.t 61) (.c (.int .i64 1)), none, [], [], false⟩,
       ⟨(some 9), .mv (.t 62), none, [], [], false⟩]))))))
  (.seq
   (.region [
     ⟨(some 78), .build [(.int .i64 0), (.int .i64 0), (.int .i64 0), (.int .i64 0), (.int .i64 0), (.int .i64 0), (.int .i64 0), (.int .u64 0), (.int .u64 0), (.int .u64 0), (.int .u64 0), (.int .u64 0), (.int .i64 0), (.int .i64 0), (.int .i64 0), (.int .i64 0), (.int .i64 0)] [(2, 1, (.c (.int .i64 50))), (5, 1, (.c (.int .i64 2)))], none, [], [], false⟩,
     ⟨(some 79), .build [(.int .i64 0), (.int .i64 0), (.int .i64 0), (.int .i64 0), (.int .i64 0), (.int .i64 0), (.int .i64 0), (.int .u64 0), (.int .u64 0), (.int .u64 0), (.int .u64 0), (.int .u64 0), (.int .i64 0), (.int .i64 0), (.int .i64 0), (.int .i64 0), (.int .i64 0)] [(2, 1, (.c (.int .i64 51)))], none, [], [], false⟩,
     ⟨(some 80), .build [(.int .i64 0), (.int .i64 0), (.int .i64 0), (.int .i64 0), (.int .i64 0), (.int .i64 0), (.int .i64 0), (.int .u64 0), (.int .u64 0), (.int .u64 0), (.int .u64 0), (.int .u64 0), (.int .i64 0), (.int .i64 0), (.int .i64 0), (.int .i64 0), (.int .i64 0)] [(2, 1, (.c (.int .i64 52)))], none, [], [], false⟩,
     ⟨(some 81), .build [(.int .i64 0), (.int .i64 0), (.int .i64 0), (.int .i64 0), (.int .i64 0), (.int .i64 0), (.int .i64 0), (.int .u64 0), (.int .u64 0), (.int .u64 0), (.int .u64 0), (.int .u64 0), (.int .i64 0), (.int .i64 0), (.int .i64 0), (.int .i64 0), (.int .i64 0)] [(2, 1, (.c (.int .i64 53))), (5, 1, (.c (.int .i64 1))), (10, 1, (.c (.int .u64 131072)))], none, [], [], false⟩,
     ⟨(some 82), .build [(.int .i64 0), (.int .i64 0), (.int .i64 0), (.int .i64 0), (.int .i64 0), (.int .i64 0), (.int .i64 0), (.int .u64 0), (.int .u64 0), (.int .u64 0), (.int .u64 0), (.int .u64 0), (.int .i64 0), (.int .i64 0), (.int .i64 0), (.int .i64 0), (.int .i64 0)] [(2, 1, (.c (.int .i64 60))), (1, 1, (.c (.int .i64 1)))], none, [], [], false⟩,
     ⟨(some 83), .build [(.int .i64 0), (.int .i64 0), (.int .i64 0), (.int .i64 0), (.int .i64 0), (.int .i64 0), (.int .i64 0), (.int .u64 0), (.int .u64 0), (.int .u64 0), (.int .u64 0), (.int .u64 0), (.int .i64 0), (.int .i64 0), (.int .i64 0), (.int .i64 0), (.int .i64 0)] [(2, 1, (.c (.int .i64 65))), (14, 1, (.c (.int .i64 (-1))))], none, [], [], false⟩,
     ⟨(some 84), .build [(.int .i64 0), (.int .i64 0), (.int .i64 0), (.int .i64 0), (.int .i64 0), (.int .i64 0), (.int .i64 0), (.int .u64 0), (.int .u64 0), (.int .u64 0), (.int .u64 0), (.int .u64 0), (.int .i64 0), (.int .i64 0), (.int .i64 0), (.int .i64 0), (.int .i64 0)] [(2, 1, (.c (.int .i64 65))), (14, 1, (.c (.int .i64 1)))], none, [], [], false⟩,
     ⟨(some 85), .build [(.int .i64 0), (.int .i64 0), (.int .i64 0), (.int .i64 0), (.int .i64 0), (.int .i64 0), (.int .i64 0), (.int .u64 0), (.int .u64 0), (.int .u64 0), (.int .u64 0), (.int .u64 0), (.int .i64 0), (.int .i64 0), (.int .i64 0), (.int .i64 0), (.int .i64 0)] [(2, 1, (.c (.int .i64 67))), (14, 1, (.c (.int .i64 2)))], none, [], [], false⟩,
     ⟨(some 86), .build [(.int .i64 0), (.int .i64 0), (.int .i64 0), (.int .i64 0), (.int .i64 0), (.int .i64 0), (.int .i64 0), (.int .u64 0), (.int .u64 0), (.int .u64 0), (.int .u64 0), (.int .u64 0), (.int .i64 0), (.int .i64 0), (.int .i64 0), (.int .i64 0), (.int .i64 0)] [(2, 1, (.c (.int .i64 62))), (5, 1, (.c (.int .i64 5)))], none, [], [], false⟩,
     ⟨(some 87), .buildSlice 32 [(.int .i64 0), (.int .i64 0), (.int .i64 0), (.int .i64 0), (.int .i64 0), (.int .i64 0), (.int .i64 0), (.int .u64 0), (.int .u64 0), (.int .u64 0), (.int .u64 0), (.int .u64 0), (.int .i64 0), (.int .i64 0), (.int .i64 0), (.int .i64 0), (.int .i64 0), (.int .i64 0), (.int .i64 0), (.int .i64 0), (.int .i64 0), (.int .i64 0), (.int .i64 0), (.int .i64 0), (.int .u64 0), (.int .u64 0), (.int .u64 0), (.int .u64 0), (.int .u64 0), (.int .i64 0), (.int .i64 0), (.int .i64 0), (.int .i64 0), (.int .i64 0), (.int .i64 0), (.int .i64 0), (.int .i64 0), (.int .i64 0), (.int .i64 0), (.int .i64 0), (.int .i64 0), (.int .u64 0), (.int .u64 0), (.int .u64 0), (.int .u64 0), (.int .u64 0), (.int .i64 0), (.int .i64 0), (.int .i64 0), (.int .i64 0), (.int .i64 0), (.int .i64 0), (.int .i64 0), (.int .i64 0), (.int .i64 0), (.int .i64 0), (.int .i64 0), (.int .i64 0), (.int .u64 0), (.int .u64 0), (.int .u64 0), (.int .u64 0), (.int .u64 0), (.int .i64 0), (.int .i64 0), (.int .i64 0), (.int .i64 0), (.int .i64 0), (.int .i64 0), (.int .i64 0), (.int .i64 0), (.int .i64 0), (.int .i64 0), (.int .i64 0), (.int .i64 0), (.int .u64 0), (.int .u64 0), (.int .u64 0), (.int .u64 0), (.int .u64 0), (.int .i64 0), (.int .i64 0), (.int .i64 0), (.int .i64 0), (.int .i64 0), (.int .i64 0), (.int .i64 0), (.int .i64 0), (.int .i64 0), (.int .i64 0), (.int .i64 0), (.int .i64 0), (.int .u64 0), (.int .u64 0), (.int .u64 0), (.int .u64 0), (.int .u64 0), (.int .i64 0), (.int .i64 0), (.int .i64 0), (.int .i64 0), (.int .i64 0), (.int .i64 0), (.int .i64 0), (.int .i64 0), (.int .i64 0), (.int .i64 0), (.int .i64 0), (.int .i64 0), (.int .u64 0), (.int .u64 0), (.int .u64 0), (.int .u64 0), (.int .u64 0), (.int .i64 0), (.int .i64 0), (.int .i64 0), (.int .i64 0), (.int .i64 0), (.int .i64 0), (.int .i64 0), (.int .i64 0), (.int .i64 0), (.int .i64 0), (.int .i64 0), (.int .i64 0), (.int .u64 0), (.int .u64 0), (.int .u64 0), (.int .u64 0), (.int .u64 0), (.int .i64 0), (.int .i64 0), (.int .i64 0), (.int .i64 0), (.int .i64 0), (.int .i64 0), (.int .i64 0), (.int .i64 0), (.int .i64 0), (.int .i64 0), (.int .i64 0), (.int .i64 0), (.int .u64 0), (.int .u64 0), (.int .u64 0), (.int .u64 0), (.int .u64 0), (.int .i64 0), (.int .i64 0), (.int .i64 0), (.int .i64 0), (.int .i64 0)] 9 [(0, 17, (.t 78)), (17, 17, (.t 79)), (34, 17, (.t 80)), (51, 17, (.t 81)), (68, 17, (.t 82)), (85, 17, (.t 83)), (102, 17, (.t 84)), (119, 17, (.t 85)), (136, 17, (.t 86))], none, [], [], false⟩,
     ⟨(some 12), .mv (.t 87), none, [], [], false⟩])
  (.seq
   (.seq
    (.region [
      ⟨(some 13), .mv (.c (.int .i64 0)), none, [], [], false⟩])
   (.block 2
    (.loop
     (.seq
      (.seq
       (.region [
         ⟨(some 88), .mv (.t 13), none, [], [], false⟩,
         ⟨(some 89), .mv (.t 12), none, [], [], false⟩,
         ⟨(some 90), .lenS (.t 89), none, [], [], false⟩,
         ⟨(some 91), .bin .lss .int (.t 88) (.t 90), none, [], [], false⟩])
      (.cond (.t 91)
       .skip
       (.exit 2)))
     (.seq
      (.block 3
       (.seq
        (.region [
          ⟨(some 95), .mv (.t 1), none, [], [], false⟩,
          ⟨(some 96), .load true 6 (.t 2), none, [], [], false⟩,
          ⟨(some 97), .mv (.t 12), none, [], [], false⟩,
          ⟨(some 98), .mv (.t 13), none, [], [], false⟩,
          ⟨(some 99), .idxS 17 (.t 97) (.t 98), none, [], [], false⟩,
          ⟨(some 100), .load true 17 (.t 99), none, [], [], false⟩,
          ⟨(some 101), .call (.c (.func (.func 13) #[] #[])) [(.t 95), (.t 96), (.t 100)] false, none, [], [], false⟩,
          ⟨(some 94), .mv (.t 101), none, [], [], false⟩,
          ⟨(some 102), .extract (.t 94) 0, none, [], [], false⟩,
          ⟨(some 103), .extract (.t 94) 1, none, [], [], false⟩,
          ⟨(some 14), .new 32 [(.int .i64 0), (.int .i64 0), (.int .i64 0), (.int .i64 0), (.int .i64 0), (.int .i64 0), (.int .i64 0), (.int .u64 0), (.int .u64 0), (.int .u64 0), (.int .u64 0), (.int .u64 0), (.int .i64 0), (.int .i64 0), (.int .i64 0), (.int .i64 0), (.int .i64 0)], none, [], [], false⟩,
          ⟨none, .store 17 (.t 14) (.t 102), none, [], [], false⟩,
          ⟨(some 15), .mv (.t 103), none, [], [], false⟩])
       (.seq
        (.region [
          ⟨(some 104), .mv (.t 12), none, [], [], false⟩,
          ⟨(some 105), .mv (.t 13), none, [], [], false⟩,
          ⟨(some 106), .idxS 17 (.t 104) (.t 105), none, [], [], false⟩,
          ⟨(some 107), .load true 17 (.t 106), none, [], [], false⟩,
          ⟨(some 16), .new 32 [(.int .i64 0), (.int .i64 0), (.int .i64 0), (.int .i64 0), (.int .i64 0), (.int .i64 0), (.int .i64 0), (.int .u64 0), (.int .u64 0), (.int .u64 0), (.int .u64 0), (.int .u64 0), (.int .i64 0), (.int .i64 0), (.int .i64 0), (.int .i64 0), (.int .i64 0)], none, [], [], false⟩,
          ⟨none, .store 17 (.t 16) (.t 107), none, [], [], false⟩])
       (.seq
        (.region [
          ⟨(some 108), .addOff 3 (.t 16), none, [], [], false⟩,
          ⟨none, .store 1 (.t 108) (.c (.int .i64 3)), none, [], [], false⟩])
       (.region [
         ⟨(some 109), .mv (.t 7), none, [], [], false⟩,
         ⟨(some 110), .mv (.t 109), none, [], [], false⟩,
         ⟨(some 111), .mv (.t 15), (some (110, true)), [], [], false⟩,
         ⟨(some 112), .bin .eql .int (.t 111) (.c (.int .i64 0)), (some (110, true)), [], [], false⟩,
         ⟨(some 113), .pick (.t 110) (.t 112) (.c (.bool false)), none, [], [], false⟩,
         ⟨(some 114), .mv (.t 113), none, [], [], false⟩,
         ⟨(some 115), .load true 17 (.t 14), (some (114, true)), [], [], false⟩,
         ⟨(some 116), .load true 17 (.t 16), (some (114, true)), [], [], false⟩,
         ⟨(some 117), .bin .eql (.plain [(some .i64), (some .i64), (some .i64), (some .i64), (some .i64), (some .i64), (some .i64), (some .u64), (some .u64), (some .u64), (some .u64), (some .u64), (some .i64), (some .i64), (some .i64), (some .i64), (some .i64)]) (.t 115) (.t 116), (some (114, true)), [], [], false⟩,
         ⟨(some 118), .pick (.t 114) (.t 117) (.c (.bool false)), none, [], [], false⟩,
         ⟨(some 7), .mv (.t 118), none, [], [], false⟩])))))
     (.region [
       ⟨(some 92), .mv (.t 13), none, [], [], false⟩,
       ⟨(some 93), .bin .add .int (.t 92) (.c (.int .i64 1)), none, [], [], false⟩,
       ⟨(some 13), .mv (.t 93), none, [], [], false⟩]))))))
  (.seq
   (.region [
     ⟨(some 119), .mv (.t 1), none, [], [], false⟩,
     ⟨(some 120), .load true 6 (.t 2), none, [], [], false⟩,
     ⟨(some 121), .call (.c (.func (.func 15) #[] #[])) [(.t 120)] true, none, [], [], false⟩,
     ⟨(some 122), .call (.c (.func (.func 14) #[] #[])) [(.t 119), (.t 121), (.c (.int .u64 1))] false, none, [], [], false⟩])
  (.seq
   (.region [
     ⟨(some 123), .mv (.t 1), none, [], [], false⟩,
     ⟨(some 124), .load true 6 (.t 2), none, [], [], false⟩,
     ⟨(some 125), .call (.c (.func (.func 16) #[] #[])) [(.t 124), (.c (.int .i64 0))] true, none, [], [], false⟩,
     ⟨(some 126), .call (.c (.func (.func 14) #[] #[])) [(.t 123), (.t 125), (.c (.int .u64 2))] false, none, [], [], false⟩])
  (.seq
   (.region [
     ⟨(some 127), .mv (.t 1), none, [], [], false⟩,
     ⟨(some 128), .load true 6 (.t 2), none, [], [], false⟩,
     ⟨(some 129), .call (.c (.func (.func 17) #[] #[])) [(.t 128)] true, none, [], [], false⟩,
     ⟨(some 130), .call (.c (.func (.func 14) #[] #[])) [(.t 127), (.t 129), (.c (.int .u64 2))] false, none, [], [], false⟩])
  (.seq
   (.region [
     ⟨(some 132), .mv (.t 1), none, [], [], false⟩,
     ⟨(some 133), .load true 6 (.t 2), none, [], [], false⟩,
     ⟨(some 134), .build [(.int .i64 0), (.int .i64 0), (.int .i64 0), (.int .i64 0), (.int .i64 0), (.int .i64 0), (.int .i64 0), (.int .u64 0), (.int .u64 0), (.int .u64 0), (.int .u64 0), (.int .u64 0), (.int .i64 0), (.int .i64 0), (.int .i64 0), (.int .i64 0), (.int .i64 0)] [(0, 1, (.c (.int .i64 2))), (2, 1, (.c (.int .i64 64))), (5, 1, (.c (.int .i64 1)))], none, [], [], false⟩,
     ⟨(some 135), .call (.c (.func (.func 8) #[] #[])) [(.t 132), (.t 133), (.t 134)] false, none, [], [], false⟩,
     ⟨(some 131), .mv (.t 135), none, [], [], false⟩,
     ⟨(some 136), .extract (.t 131) 0, none, [], [], false⟩,
     ⟨(some 137), .extract (.t 131) 1, none, [], [], false⟩,
     ⟨(some 17), .new 32 [(.int .i64 0), (.int .i64 0), (.int .i64 0), (.int .i64 0), (.int .i64 0), (.int .i64 0), (.int .i64 0), (.int .u64 0), (.int .u64 0), (.int .u64 0), (.int .u64 0), (.int .u64 0), (.int .i64 0), (.int .i64 0), (.int .i64 0), (.int .i64 0), (.int .i64 0)], none, [], [], false⟩,
     ⟨none, .store 17 (.t 17) (.t 136), none, [], [], false⟩,
     ⟨(some 18), .mv (.t 137), none, [], [], false⟩])
  (.seq
   (.region [
     ⟨(some 139), .mv (.t 1), none, [], [], false⟩,
     ⟨(some 140), .load true 6 (.t 2), none, [], [], false⟩,
     ⟨(some 141), .call (.c (.func (.func 16) #[] #[])) [(.t 140), (.c (.int .i64 0))] true, none, [], [], false⟩,
     ⟨(some 142), .call (.c (.func (.func 18) #[] #[])) [(.t 139), (.t 141)] false, none, [], [], false⟩,
     ⟨(some 138), .mv (.t 142), none, [], [], false⟩,
     ⟨(some 143), .extract (.t 138) 0, none, [], [], false⟩,
     ⟨(some 144), .extract (.t 138) 1, none, [], [], false⟩,
     ⟨(some 19), .mv (.t 143), none, [], [], false⟩,
     ⟨(some 20), .mv (.t 144), none, [], [], false⟩])
  (.seq
   (.region [
     ⟨(some 146), .mv (.t 1), none, [], [], false⟩,
     ⟨(some 147), .load true 6 (.t 2), none, [], [], false⟩,
     ⟨(some 148), .call (.c (.func (.func 17) #[] #[])) [(.t 147)] true, none, [], [], false⟩,
     ⟨(some 149), .call (.c (.func (.func 18) #[] #[])) [(.t 146), (.t 148)] false, none, [], [], false⟩,
     ⟨(some 145), .mv (.t 149), none, [], [], false⟩,
     ⟨(some 150), .extract (.t 145) 0, none, [], [], false⟩,
     ⟨(some 151), .extract (.t 145) 1, none, [], [], false⟩,
     ⟨(some 21), .mv (.t 150), none, [], [], false⟩,
     ⟨(some 22), .mv (.t 151), none, [], [], false⟩])
  (.seq
   (.region [
     ⟨(some 152), .mv (.t 1), none, [], [], false⟩,
     ⟨(some 153), .load true 6 (.t 2), none, [], [], false⟩,
     ⟨(some 154), .call (.c (.func (.func 19) #[] #[])) [(.t 153)] true, none, [], [], false⟩,
     ⟨(some 155), .call (.c (.func (.func 14) #[] #[])) [(.t 152), (.t 154), (.c (.int .u64 1))] false, none, [], [], false⟩])
  (.seq
   (.region [
     ⟨(some 157), .mv (.t 1), none, [], [], false⟩,
     ⟨(some 158), .load true 6 (.t 2), none, [], [], false⟩,
     ⟨(some 159), .build [(.int .i64 0), (.int .i64 0), (.int .i64 0), (.int .i64 0), (.int .i64 0), (.int .i64 0), (.int .i64 0), (.int .u64 0), (.int .u64 0), (.int .u64 0), (.int .u64 0), (.int .u64 0), (.int .i64 0), (.int .i64 0), (.int .i64 0), (.int .i64 0), (.int .i64 0)] [(2, 1, (.c (.int .i64 55))), (5, 1, (.c (.int .i64 1)))], none, [], [], false⟩,
     ⟨(some 160), .call (.c (.func (.func 13) #[] #[])) [(.t 157), (.t 158), (.t 159)] false, none, [], [], false⟩,
     ⟨(some 156), .mv (.t 160), none, [], [], false⟩,
     ⟨(some 161), .extract (.t 156) 0, none, [], [], false⟩,
     ⟨(some 162), .extract (.t 156) 1, none, [], [], false⟩,
     ⟨(some 23), .new 32 [(.int .i64 0), (.int .i64 0), (.int .i64 0), (.int .i64 0), (.int .i64 0), (.int .i64 0), (.int .i64 0), (.int .u64 0), (.int .u64 0), (.int .u64 0), (.int .u64 0), (.int .u64 0), (.int .i64 0), (.int .i64 0), (.int .i64 0), (.int .i64 0), (.int .i64 0)], none, [], [], false⟩,
     ⟨none, .store 17 (.t 23) (.t 161), none, [], [], false⟩,
     ⟨(some 24), .mv (.t 162), none, [], [], false⟩])
  (.seq
   (.region [
     ⟨(some 163), .mv (.c (.bool true)), none, [], [], false⟩,
     ⟨(some 164), .call (.c (.func (.func 12) #[] #[])) [] false, (some (163, true)), [], [], false⟩,
     ⟨(some 165), .pick (.t 163) (.t 164) (.c (.bool false)), none, [], [], false⟩,
     ⟨(some 166), .mv (.t 165), none, [], [], false⟩,
     ⟨(some 167), .mv (.t 7), (some (166, true)), [], [], false⟩,
     ⟨(some 168), .pick (.t 166) (.t 167) (.c (.bool false)), none, [], [], false⟩,
     ⟨(some 169), .mv (.t 168), none, [], [], false⟩,
     ⟨(some 170), .addOff 2 (.t 17), (some (169, true)), [], [], false⟩,
     ⟨(some 171), .load false 1 (.t 170), (some (169, true)), [], [], false⟩,
     ⟨(some 172), .bin .eql .int (.t 171) (.c (.int .i64 76)), (some (169, true)), [], [], false⟩,
     ⟨(some 173), .pick (.t 169) (.t 172) (.c (.bool false)), none, [], [], false⟩,
     ⟨(some 174), .mv (.t 173), none, [], [], false⟩,
     ⟨(some 175), .mv (.t 18), (some (174, true)), [], [], false⟩,
     ⟨(some 176), .bin .eql .int (.t 175) (.c (.int .i64 5)), (some (174, true)), [], [], false⟩,
     ⟨(some 177), .pick (.t 174) (.t 176) (.c (.bool false)), none, [], [], false⟩,
     ⟨(some 178), .mv (.t 177), none, [], [], false⟩,
     ⟨(some 179), .mv (.t 19), (some (178, true)), [], [], false⟩,
     ⟨(some 180), .bin .eql .int (.t 179) (.c (.int .u64 0)), (some (178, true)), [], [], false⟩,
     ⟨(some 181), .pick (.t 178) (.t 180) (.c (.bool false)), none, [], [], false⟩,
     ⟨(some 182), .mv (.t 181), none, [], [], false⟩,
     ⟨(some 183), .mv (.t 21), (some (182, true)), [], [], false⟩,
     ⟨(some 184), .bin .eql .int (.t 183) (.c (.int .u64 1)), (some (182, true)), [], [], false⟩,
     ⟨(some 185), .pick (.t 182) (.t 184) (.c (.bool false)), none, [], [], false⟩,
     ⟨(some 186), .mv (.t 185), none, [], [], false⟩,
     ⟨(some 187), .load true 17 (.t 23), (some (186, true)), [], [], false⟩,
     ⟨(some 188), .build [(.int .i64 0), (.int .i64 0), (.int .i64 0), (.int .i64 0), (.int .i64 0), (.int .i64 0), (.int .i64 0), (.int .u64 0), (.int .u64 0), (.int .u64 0), (.int .u64 0), (.int .u64 0), (.int .i64 0), (.int .i64 0), (.int .i64 0), (.int .i64 0), (.int .i64 0)] [(2, 1, (.c (.int .i64 55))), (5, 1, (.c (.int .i64 1)))], (some (186, true)), [], [], false⟩,
     ⟨(some 189), .bin .eql (.plain [(some .i64), (some .i64), (some .i64), (some .i64), (some .i64), (some .i64), (some .i64), (some .u64), (some .u64), (some .u64), (some .u64), (some .u64), (some .i64), (some .i64), (some .i64), (some .i64), (some .i64)]) (.t 187) (.t 188), (some (186, true)), [], [], false⟩,
     ⟨(some 190), .pick (.t 186) (.t 189) (.c (.bool false)), none, [], [], false⟩,
     ⟨(some 191), .mv (.t 190), none, [], [], false⟩,
     ⟨(some 192), .mv (.t 24), (some (191, true)), [], [], false⟩,
     ⟨(some 193), .bin .eql .int (.t 192) (.c (.int .i64 0)), (some (191, true)), [], [], false⟩,
     ⟨(some 194), .pick (.t 191) (.t 193) (.c (.bool false)), none, [], [], false⟩,
     ⟨(some 0), .mv (.t 194), none, [], [], false⟩])
  .ret))))))))))))))))))),
  [.tmp 0]⟩

/-- wainscot/wainscotlaw23.slabbed -/
def i7 : IFun := ⟨110,
  (.seq
   (.region [
     ⟨(some 7), .box 23 4 (.t 3), none, [], [], false⟩,
     ⟨(some 8), .mv (.c (.pointer none)), none, [], [], false⟩,
     ⟨(some 9), .new 28 [(.int .i64 0), (.int .i64 0), (.int .i64 0), (.int .i64 0), (.int .i64 0), (.int .u64 0)], none, [], [], false⟩])
  (.seq
   (.region [
     ⟨(some 18), .mv (.t 0), none, [], [], false⟩,
     ⟨(some 19), .addOff 2 (.t 7), none, [], [], false⟩,
     ⟨(some 20), .load false 1 (.t 19), none, [], [], false⟩,
     ⟨(some 21), .addOff 3 (.t 7), none, [], [], false⟩,
     ⟨(some 22), .load false 1 (.t 21), none, [], [], false⟩,
     ⟨(some 23), .mv (.t 2), none, [], [], false⟩,
     ⟨(some 24), .build [(.int .i64 0), (.int .i64 0), (.int .i64 0), (.int .i64 0), (.int .i64 0), (.int .u64 0)] [(0, 1, (.c (.int .i64 1))), (1, 1, (.c (.int .i64 2))), (2, 1, (.t 18)), (3, 1, (.t 20)), (4, 1, (.t 22)), (5, 1, (.t 23))], none, [], [], false⟩,
     ⟨(some 10), .new 28 [(.int .i64 0), (.int .i64 0), (.int .i64 0), (.int .i64 0), (.int .i64 0), (.int .u64 0)], none, [], [], false⟩,
     ⟨none, .store 6 (.t 10) (.t 24), none, [], [], false⟩])
  (.seq
   (.region [
     ⟨(some 26), .load true 6 (.t 10), none, [], [], false⟩,
     ⟨(some 27), .call (.c (.func (.func 21) #[] #[])) [(.t 26)] true, none, [], [], false⟩,
     ⟨(some 28), .minmax true (.t 27) [(.c (.int .i64 1))], none, [], [], false⟩,
     ⟨(some 29), .call (.c (.func (.func 20) #[] #[])) [(.t 28)] true, none, [], [], false⟩,
     ⟨(some 25), .mv (.t 29), none, [], [], false⟩,
     ⟨(some 30), .extract (.t 25) 0, none, [], [], false⟩,
     ⟨(some 31), .extract (.t 25) 1, none, [], [], false⟩,
     ⟨(some 11), .mv (.t 30), none, [], [], false⟩,
     ⟨(some 12), .mv (.t 31), none, [], [], false⟩])
  (.seq
   (.region [
     ⟨(some 33), .mv (.t 1), none, [], [], false⟩,
     ⟨(some 34), .minmax true (.t 33) [(.c (.int .i64 1))], none, [], [], false⟩,
     ⟨(some 35), .load true 6 (.t 10), none, [], [], false⟩,
     ⟨(some 36), .call (.c (.func (.func 23) #[] #[])) [(.t 35), (.c (.int .i64 1))] true, none, [], [], false⟩,
     ⟨(some 37), .call (.c (.func (.func 22) #[] #[])) [(.t 34), (.t 36)] true, none, [], [], false⟩,
     ⟨(some 32), .mv (.t 37), none, [], [], false⟩,
     ⟨(some 38), .extract (.t 32) 0, none, [], [], false⟩,
     ⟨(some 39), .extract (.t 32) 1, none, [], [], false⟩,
     ⟨(some 13), .mv (.t 38), none, [], [], false⟩,
     ⟨(some 14), .mv (.t 39), none, [], [], false⟩])
  (.seq
   (.region [
     ⟨(some 41), .mv (.t 0), none, [], [], false⟩,
     ⟨(some 42), .mv (.t 1), none, [], [], false⟩,
     ⟨(some 43), .bin .sub .int (.t 41) (.t 42), none, [], [], false⟩,
     ⟨(some 44), .mv (.t 0), none, [], [], false⟩,
     ⟨(some 45), .addOff 0 (.t 7), none, [], [], false⟩,
     ⟨(some 46), .load false 1 (.t 45), none, [], [], false⟩,
     ⟨(some 47), .build [(.int .i64 0), (.int .i64 0), (.bool false), (.bool false)] [(0, 1, (.t 43)), (1, 1, (.t 44)), (2, 1, (.t 46)), (3, 1, (.c (.bool true)))], none, [], [], false⟩,
     ⟨(some 48), .call (.c (.func (.func 24) #[] #[])) [(.t 47)] true, none, [], [], false⟩,
     ⟨(some 40), .mv (.t 48), none, [], [], false⟩,
     ⟨(some 49), .extract (.t 40) 0, none, [], [], false⟩,
     ⟨(some 50), .extract (.t 40) 1, none, [], [], false⟩,
     ⟨(some 15), .mv (.t 49), none, [], [], false⟩,
     ⟨(some 16), .mv (.t 50), none, [], [], false⟩])
  (.seq
   (.seq
    (.region [
      ⟨(some 51), .mv (.t 12), none, [], [], false⟩,
      ⟨(some 52), .bin .neq .int (.t 51) (.c (.int .i64 0)), none, [], [], false⟩,
      ⟨(some 53), .mv (.t 52), none, [], [], false⟩,
      ⟨(some 54), .mv (.t 14), (some (53, false)), [], [], false⟩,
      ⟨(some 55), .bin .neq .int (.t 54) (.c (.int .i64 0)), (some (53, false)), [], [], false⟩,
      ⟨(some 56), .pick (.t 53) (.c (.bool true)) (.t 55), none, [], [], false⟩,
      ⟨(some 57), .mv (.t 56), none, [], [], false⟩,
      ⟨(some 58), .mv (.t 16), (some (57, false)), [], [], false⟩,
      ⟨(some 59), .bin .neq .int (.t 58) (.c (.int .i64 0)), (some (57, false)), [], [], false⟩,
      ⟨(some 60), .pick (.t 57) (.c (.bool true)) (.t 59), none, [], [], false⟩,
      ⟨(some 61), .mv (.t 60), none, [], [], false⟩,
      ⟨(some 62), .mv (.t 11), (some (61, false)), [], [], false⟩,
      ⟨(some 63), .bin .eql .ptr (.t 62) (.c (.pointer none)), (some (61, false)), [], [], false⟩,
      ⟨(some 64), .pick (.t 61) (.c (.bool true)) (.t 63), none, [], [], false⟩])
   (.cond (.t 64)
    (.seq
     (.region [
       ⟨(some 65), .load true 6 (.t 10), none, [], [], false⟩,
       ⟨(some 8), .mv (.c (.pointer none)), none, [], [], false⟩,
       ⟨none, .store 6 (.t 9) (.t 65), none, [], [], false⟩])
    .ret)
    .skip))
  (.seq
   (.seq
    (.region [
      ⟨(some 17), .mv (.c (.int .i64 0)), none, [], [], false⟩])
   (.block 0
    (.loop
     (.seq
      (.seq
       (.region [
         ⟨(some 66), .mv (.t 17), none, [], [], false⟩,
         ⟨(some 67), .mv (.t 1), none, [], [], false⟩,
         ⟨(some 68), .bin .lss .int (.t 66) (.t 67), none, [], [], false⟩,
         ⟨(some 69), .mv (.t 68), none, [], [], false⟩,
         ⟨(some 70), .mv (.t 17), (some (69, true)), [], [], false⟩,
         ⟨(some 71), .mv (.t 13), (some (69, true)), [], [], false⟩,
         ⟨(some 72), .lenS (.t 71), (some (69, true)), [], [], false⟩,
         ⟨(some 73), .bin .lss .int (.t 70) (.t 72), (some (69, true)), [], [], false⟩,
         ⟨(some 74), .pick (.t 69) (.t 73) (.c (.bool false)), none, [], [], false⟩])
      (.cond (.t 74)
       .skip
       (.exit 0)))
     (.seq
      (.block 1
       (.region [
         ⟨(some 77), .mv (.t 11), none, [], [], false⟩,
         ⟨(some 78), .load true 6 (.t 10), none, [], [], false⟩,
         ⟨(some 79), .mv (.t 17), none, [], [], false⟩,
         ⟨(some 80), .call (.c (.func (.func 25) #[] #[])) [(.t 78), (.c (.int .i64 1)), (.t 79)] true, none, [], [], false⟩,
         ⟨(some 81), .mv (.t 13), none, [], [], false⟩,
         ⟨(some 82), .mv (.t 17), none, [], [], false⟩,
         ⟨(some 83), .idxS 1 (.t 81) (.t 82), none, [], [], false⟩,
         ⟨(some 84), .load false 1 (.t 83), none, [], [], false⟩,
         ⟨(some 85), .call (.c (.func (.func 14) #[] #[])) [(.t 77), (.t 80), (.t 84)] false, none, [], [], false⟩]))
     (.region [
       ⟨(some 75), .mv (.t 17), none, [], [], false⟩,
       ⟨(some 76), .bin .add .int (.t 75) (.c (.int .i64 1)), none, [], [], false⟩,
       ⟨(some 17), .mv (.t 76), none, [], [], false⟩]))))))
  (.seq
   (.seq
    (.region [
      ⟨(some 86), .mv (.t 1), none, [], [], false⟩,
      ⟨(some 87), .bin .gtr .int (.t 86) (.c (.int .i64 0)), none, [], [], false⟩])
   (.cond (.t 87)
    (.region [
      ⟨(some 88), .mv (.t 11), none, [], [], false⟩,
      ⟨(some 89), .load true 6 (.t 10), none, [], [], false⟩,
      ⟨(some 90), .call (.c (.func (.func 26) #[] #[])) [(.t 89), (.c (.int .i64 1))] true, none, [], [], false⟩,
      ⟨(some 91), .call (.c (.func (.func 14) #[] #[])) [(.t 88), (.t 90), (.c (.int .u64 1))] false, none, [], [], false⟩])
    .skip))
  (.seq
   (.region [
     ⟨(some 92), .mv (.t 11), none, [], [], false⟩,
     ⟨(some 93), .load true 6 (.t 10), none, [], [], false⟩,
     ⟨(some 94), .call (.c (.func (.func 26) #[] #[])) [(.t 93), (.c (.int .i64 1))] true, none, [], [], false⟩,
     ⟨(some 95), .bin .add .int (.t 94) (.c (.int .i64 1)), none, [], [], false⟩,
     ⟨(some 96), .mv (.t 15), none, [], [], false⟩,
     ⟨(some 97), .call (.c (.func (.func 14) #[] #[])) [(.t 92), (.t 95), (.t 96)] false, none, [], [], false⟩])
  (.seq
   (.seq
    (.region [
      ⟨(some 98), .addOff 1 (.t 7), none, [], [], false⟩,
      ⟨(some 99), .load false 1 (.t 98), none, [], [], false⟩])
   (.cond (.t 99)
    (.seq
     (.region [
       ⟨(some 100), .mv (.t 11), none, [], [], false⟩,
       ⟨(some 101), .load true 6 (.t 10), none, [], [], false⟩,
       ⟨(some 102), .call (.c (.func (.func 15) #[] #[])) [(.t 101)] true, none, [], [], false⟩,
       ⟨(some 103), .call (.c (.func (.func 14) #[] #[])) [(.t 100), (.t 102), (.c (.int .u64 2))] false, none, [], [], false⟩])
    (.region [
      ⟨(some 104), .mv (.t 11), none, [], [], false⟩,
      ⟨(some 105), .load true 6 (.t 10), none, [], [], false⟩,
      ⟨(some 106), .call (.c (.func (.func 17) #[] #[])) [(.t 105)] true, none, [], [], false⟩,
      ⟨(some 107), .call (.c (.func (.func 14) #[] #[])) [(.t 104), (.t 106), (.c (.int .u64 1))] false, none, [], [], false⟩]))
    .skip))
  (.seq
   (.region [
     ⟨(some 108), .mv (.t 11), none, [], [], false⟩,
     ⟨(some 109), .load true 6 (.t 10), none, [], [], false⟩,
     ⟨(some 8), .mv (.t 108), none, [], [], false⟩,
     ⟨none, .store 6 (.t 9) (.t 109), none, [], [], false⟩])
  .ret))))))))))),
  [.tmp 8, .cell 9 true 6]⟩

/-- wainscot/wainscotlaw23.through -/
def i8 : IFun := ⟨28,
  (.seq
   (.region [
     ⟨(some 4), .box 28 6 (.t 1), none, [], [], false⟩,
     ⟨(some 5), .box 32 17 (.t 2), none, [], [], false⟩,
     ⟨(some 6), .new 32 [(.int .i64 0), (.int .i64 0), (.int .i64 0), (.int .i64 0), (.int .i64 0), (.int .i64 0), (.int .i64 0), (.int .u64 0), (.int .u64 0), (.int .u64 0), (.int .u64 0), (.int .u64 0), (.int .i64 0), (.int .i64 0), (.int .i64 0), (.int .i64 0), (.int .i64 0)], none, [], [], false⟩,
     ⟨(some 7), .mv (.c (.int .i64 0)), none, [], [], false⟩])
  (.seq
   (.seq
    (.region [
      ⟨(some 8), .mv (.c (.int .i64 0)), none, [], [], false⟩])
   (.block 0
    (.loop
     (.seq
      (.seq
       (.region [
         ⟨(some 11), .mv (.t 8), none, [], [], false⟩,
         ⟨(some 12), .bin .lss .int (.t 11) (.c (.int .i64 60)), none, [], [], false⟩])
      (.cond (.t 12)
       .skip
       (.exit 0)))
     (.seq
      (.block 1
       (.seq
        (.region [
          ⟨(some 16), .mv (.t 0), none, [], [], false⟩,
          ⟨(some 17), .load true 6 (.t 4), none, [], [], false⟩,
          ⟨(some 18), .load true 17 (.t 5), none, [], [], false⟩,
          ⟨(some 19), .call (.c (.func (.func 13) #[] #[])) [(.t 16), (.t 17), (.t 18)] false, none, [], [], false⟩,
          ⟨(some 15), .mv (.t 19), none, [], [], false⟩,
          ⟨(some 20), .extract (.t 15) 0, none, [], [], false⟩,
          ⟨(some 21), .extract (.t 15) 1, none, [], [], false⟩,
          ⟨(some 9), .new 32 [(.int .i64 0), (.int .i64 0), (.int .i64 0), (.int .i64 0), (.int .i64 0), (.int .i64 0), (.int .i64 0), (.int .u64 0), (.int .u64 0), (.int .u64 0), (.int .u64 0), (.int .u64 0), (.int .i64 0), (.int .i64 0), (.int .i64 0), (.int .i64 0), (.int .i64 0)], none, [], [], false⟩,
          ⟨none, .store 17 (.t 9) (.t 20), none, [], [], false⟩,
          ⟨(some 10), .mv (.t 21), none, [], [], false⟩])
       (.seq
        (.seq
         (.region [
           ⟨(some 22), .mv (.t 10), none, [], [], false⟩,
           ⟨(some 23), .bin .neq .int (.t 22) (.c (.int .i64 0)), none, [], [], false⟩])
        (.cond (.t 23)
         (.seq
          (.region [
            ⟨(some 24), .load true 17 (.t 5), none, [], [], false⟩,
            ⟨(some 25), .mv (.t 8), none, [], [], false⟩,
            ⟨none, .store 17 (.t 6) (.t 24), none, [], [], false⟩,
            ⟨(some 7), .mv (.t 25), none, [], [], false⟩])
         .ret)
         .skip))
       (.region [
         ⟨(some 26), .load true 17 (.t 9), none, [], [], false⟩,
         ⟨none, .store 17 (.t 5) (.t 26), none, [], [], false⟩]))))
     (.region [
       ⟨(some 13), .mv (.t 8), none, [], [], false⟩,
       ⟨(some 14), .bin .add .int (.t 13) (.c (.int .i64 1)), none, [], [], false⟩,
       ⟨(some 8), .mv (.t 14), none, [], [], false⟩]))))))
  (.seq
   (.region [
     ⟨(some 27), .load true 17 (.t 5), none, [], [], false⟩,
     ⟨none, .store 17 (.t 6) (.t 27), none, [], [], false⟩,
     ⟨(some 7), .mv (.c (.int .i64 60)), none, [], [], false⟩])
  .ret))),
  [.cell 6 true 17, .tmp 7]⟩

/-- wainscot/chart.See -/
def i9 : IFun := ⟨95,
  (.seq
   (.region [
     ⟨(some 3), .box 28 6 (.t 1), none, [], [], false⟩,
     ⟨(some 4), .new 39 [(.slice none 0 0), (.slice none 0 0), (.bool false), (.slice none 0 0)], none, [], [], false⟩,
     ⟨(some 5), .mv (.c (.int .i64 0)), none, [], [], false⟩])
  (.seq
   (.seq
    (.region [
      ⟨(some 16), .load true 6 (.t 3), none, [], [], false⟩,
      ⟨(some 17), .call (.c (.func (.func 27) #[] #[])) [(.t 16)] true, none, [], [], false⟩,
      ⟨(some 18), .bin .neq .int (.t 17) (.c (.int .i64 0)), none, [], [], false⟩,
      ⟨(some 19), .mv (.t 18), none, [], [], false⟩,
      ⟨(some 20), .mv (.t 0), (some (19, false)), [], [], false⟩,
      ⟨(some 21), .lenS (.t 20), (some (19, false)), [], [], false⟩,
      ⟨(some 22), .load true 6 (.t 3), (some (19, false)), [], [], false⟩,
      ⟨(some 23), .call (.c (.func (.func 21) #[] #[])) [(.t 22)] true, (some (19, false)), [], [], false⟩,
      ⟨(some 24), .bin .neq .int (.t 21) (.t 23), (some (19, false)), [], [], false⟩,
      ⟨(some 25), .pick (.t 19) (.c (.bool true)) (.t 24), none, [], [], false⟩])
   (.cond (.t 25)
    (.seq
     (.region [
       ⟨(some 26), .build [(.slice none 0 0), (.slice none 0 0), (.bool false), (.slice none 0 0)] [], none, [], [], false⟩,
       ⟨none, .store 4 (.t 4) (.t 26), none, [], [], false⟩,
       ⟨(some 5), .mv (.c (.int .i64 2)), none, [], [], false⟩])
    .ret)
    .skip))
  (.seq
   (.region [
     ⟨(some 27), .mv (.t 0), none, [], [], false⟩,
     ⟨(some 28), .load true 6 (.t 3), none, [], [], false⟩,
     ⟨(some 29), .build [(.slice none 0 0), (.int .i64 0), (.int .i64 0), (.int .i64 0), (.int .i64 0), (.int .i64 0), (.int .u64 0)] [(0, 1, (.t 27)), (1, 6, (.t 28))], none, [], [], false⟩,
     ⟨(some 6), .new 72 [(.slice none 0 0), (.int .i64 0), (.int .i64 0), (.int .i64 0), (.int .i64 0), (.int .i64 0), (.int .u64 0)], none, [], [], false⟩,
     ⟨none, .store 7 (.t 6) (.t 29), none, [], [], false⟩])
  (.seq
   (.region [
     ⟨(some 30), .mv (.t 0), none, [], [], false⟩,
     ⟨(some 31), .load true 6 (.t 3), none, [], [], false⟩,
     ⟨(some 32), .call (.c (.func (.func 19) #[] #[])) [(.t 31)] true, none, [], [], false⟩,
     ⟨(some 33), .idxS 1 (.t 30) (.t 32), none, [], [], false⟩,
     ⟨(some 34), .load false 1 (.t 33), none, [], [], false⟩,
     ⟨(some 35), .bin .neq .int (.t 34) (.c (.int .u64 0)), none, [], [], false⟩,
     ⟨(some 36), .build [(.slice none 0 0), (.slice none 0 0), (.bool false), (.slice none 0 0)] [(2, 1, (.t 35))], none, [], [], false⟩,
     ⟨(some 7), .new 39 [(.slice none 0 0), (.slice none 0 0), (.bool false), (.slice none 0 0)], none, [], [], false⟩,
     ⟨none, .store 4 (.t 7) (.t 36), none, [], [], false⟩])
  (.seq
   (.seq
    (.region [
      ⟨(some 37), .addOff 0 (.t 3), none, [], [], false⟩,
      ⟨(some 38), .load false 1 (.t 37), none, [], [], false⟩,
      ⟨(some 39), .mv (.c (.int .i64 0)), none, [], [], false⟩])
   (.block 0
    (.loop
     (.seq
      (.region [
        ⟨(some 40), .bin .lss .int (.t 39) (.t 38), none, [], [], false⟩])
     (.seq
      (.cond (.t 40)
       .skip
       (.exit 0))
     (.seq
      (.block 1
       (.seq
        (.region [
          ⟨(some 41), .mv (.t 39), none, [], [], false⟩,
          ⟨(some 8), .mv (.t 41), none, [], [], false⟩])
       (.seq
        (.region [
          ⟨(some 43), .load true 7 (.t 6), none, [], [], false⟩,
          ⟨(some 44), .mv (.t 8), none, [], [], false⟩,
          ⟨(some 45), .call (.c (.func (.func 28) #[] #[])) [(.t 43), (.t 44)] true, none, [], [], false⟩,
          ⟨(some 42), .mv (.t 45), none, [], [], false⟩,
          ⟨(some 46), .extract (.t 42) 0, none, [], [], false⟩,
          ⟨(some 47), .extract (.t 42) 1, none, [], [], false⟩,
          ⟨(some 9), .new 52 [(.int .i64 0), (.slice none 0 0), (.int .u64 0), (.slice none 0 0)], none, [], [], false⟩,
          ⟨none, .store 4 (.t 9) (.t 46), none, [], [], false⟩,
          ⟨(some 10), .mv (.t 47), none, [], [], false⟩])
       (.seq
        (.seq
         (.region [
           ⟨(some 48), .mv (.t 10), none, [], [], false⟩,
           ⟨(some 49), .un .not (.t 48), none, [], [], false⟩])
        (.cond (.t 49)
         (.seq
          (.region [
            ⟨(some 50), .build [(.slice none 0 0), (.slice none 0 0), (.bool false), (.slice none 0 0)] [], none, [], [], false⟩,
            ⟨none, .store 4 (.t 4) (.t 50), none, [], [], false⟩,
            ⟨(some 5), .mv (.c (.int .i64 150)), none, [], [], false⟩])
         .ret)
         .skip))
       (.region [
         ⟨(some 51), .addOff 0 (.t 7), none, [], [], false⟩,
         ⟨(some 52), .load false 1 (.t 51), none, [], [], false⟩,
         ⟨(some 53), .load true 4 (.t 9), none, [], [], false⟩,
         ⟨(some 54), .buildSlice 52 [(.int .i64 0), (.slice none 0 0), (.int .u64 0), (.slice none 0 0)] 1 [(0, 4, (.t 53))], none, [], [], false⟩,
         ⟨(some 55), .append 52 4 64 (.t 52) (.t 54), none, [], [], false⟩,
         ⟨(some 56), .addOff 0 (.t 7), none, [], [], false⟩,
         ⟨none, .store 1 (.t 56) (.t 55), none, [], [], false⟩])))))
     (.region [
       ⟨(some 57), .bin .add .int (.t 39) (.c (.int .i64 1)), none, [], [], false⟩,
       ⟨(some 39), .mv (.t 57), none, [], [], false⟩])))))))
  (.seq
   (.region [
     ⟨(some 59), .load true 7 (.t 6), none, [], [], false⟩,
     ⟨(some 60), .mv (.t 0), none, [], [], false⟩,
     ⟨(some 61), .load true 6 (.t 3), none, [], [], false⟩,
     ⟨(some 62), .call (.c (.func (.func 15) #[] #[])) [(.t 61)] true, none, [], [], false⟩,
     ⟨(some 63), .idxS 1 (.t 60) (.t 62), none, [], [], false⟩,
     ⟨(some 64), .load false 1 (.t 63), none, [], [], false⟩,
     ⟨(some 65), .call (.c (.func (.func 29) #[] #[])) [(.t 59), (.t 64), (.c (.func (.func 30) #[] #[]))] true, none, [], [], false⟩,
     ⟨(some 58), .mv (.t 65), none, [], [], false⟩,
     ⟨(some 66), .extract (.t 58) 0, none, [], [], false⟩,
     ⟨(some 67), .extract (.t 58) 1, none, [], [], false⟩,
     ⟨(some 11), .mv (.t 66), none, [], [], false⟩,
     ⟨(some 12), .mv (.t 67), none, [], [], false⟩])
  (.seq
   (.seq
    (.region [
      ⟨(some 68), .mv (.t 12), none, [], [], false⟩,
      ⟨(some 69), .un .not (.t 68), none, [], [], false⟩])
   (.cond (.t 69)
    (.seq
     (.region [
       ⟨(some 70), .build [(.slice none 0 0), (.slice none 0 0), (.bool false), (.slice none 0 0)] [], none, [], [], false⟩,
       ⟨none, .store 4 (.t 4) (.t 70), none, [], [], false⟩,
       ⟨(some 5), .mv (.c (.int .i64 150)), none, [], [], false⟩])
    .ret)
    .skip))
  (.seq
   (.region [
     ⟨(some 71), .mv (.t 11), none, [], [], false⟩,
     ⟨(some 72), .addOff 1 (.t 7), none, [], [], false⟩,
     ⟨none, .store 1 (.t 72) (.t 71), none, [], [], false⟩])
  (.seq
   (.seq
    (.region [
      ⟨(some 73), .addOff 1 (.t 3), none, [], [], false⟩,
      ⟨(some 74), .load false 1 (.t 73), none, [], [], false⟩,
      ⟨(some 75), .mv (.c (.int .i64 0)), none, [], [], false⟩])
   (.block 2
    (.loop
     (.seq
      (.region [
        ⟨(some 76), .bin .lss .int (.t 75) (.t 74), none, [], [], false⟩])
     (.seq
      (.cond (.t 76)
       .skip
       (.exit 2))
     (.seq
      (.block 3
       (.seq
        (.region [
          ⟨(some 77), .mv (.t 75), none, [], [], false⟩,
          ⟨(some 13), .mv (.t 77), none, [], [], false⟩])
       (.seq
        (.region [
          ⟨(some 79), .load true 7 (.t 6), none, [], [], false⟩,
          ⟨(some 80), .mv (.t 13), none, [], [], false⟩,
          ⟨(some 81), .call (.c (.func (.func 31) #[] #[])) [(.t 79), (.t 80)] true, none, [], [], false⟩,
          ⟨(some 78), .mv (.t 81), none, [], [], false⟩,
          ⟨(some 82), .extract (.t 78) 0, none, [], [], false⟩,
          ⟨(some 83), .extract (.t 78) 1, none, [], [], false⟩,
          ⟨(some 14), .new 48 [(.int .i64 0), (.int .i64 0), (.bool false), (.bool false), (.slice none 0 0)], none, [], [], false⟩,
          ⟨none, .store 5 (.t 14) (.t 82), none, [], [], false⟩,
          ⟨(some 15), .mv (.t 83), none, [], [], false⟩])
       (.seq
        (.seq
         (.region [
           ⟨(some 84), .mv (.t 15), none, [], [], false⟩,
           ⟨(some 85), .un .not (.t 84), none, [], [], false⟩])
        (.cond (.t 85)
         (.seq
          (.region [
            ⟨(some 86), .build [(.slice none 0 0), (.slice none 0 0), (.bool false), (.slice none 0 0)] [], none, [], [], false⟩,
            ⟨none, .store 4 (.t 4) (.t 86), none, [], [], false⟩,
            ⟨(some 5), .mv (.c (.int .i64 150)), none, [], [], false⟩])
         .ret)
         .skip))
       (.region [
         ⟨(some 87), .addOff 3 (.t 7), none, [], [], false⟩,
         ⟨(some 88), .load false 1 (.t 87), none, [], [], false⟩,
         ⟨(some 89), .load true 5 (.t 14), none, [], [], false⟩,
         ⟨(some 90), .buildSlice 48 [(.int .i64 0), (.int .i64 0), (.bool false), (.bool false), (.slice none 0 0)] 1 [(0, 5, (.t 89))], none, [], [], false⟩,
         ⟨(some 91), .append 48 5 48 (.t 88) (.t 90), none, [], [], false⟩,
         ⟨(some 92), .addOff 3 (.t 7), none, [], [], false⟩,
         ⟨none, .store 1 (.t 92) (.t 91), none, [], [], false⟩])))))
     (.region [
       ⟨(some 93), .bin .add .int (.t 75) (.c (.int .i64 1)), none, [], [], false⟩,
       ⟨(some 75), .mv (.t 93), none, [], [], false⟩])))))))
  (.seq
   (.region [
     ⟨(some 94), .load true 4 (.t 7), none, [], [], false⟩,
     ⟨none, .store 4 (.t 4) (.t 94), none, [], [], false⟩,
     ⟨(some 5), .mv (.c (.int .i64 0)), none, [], [], false⟩])
  .ret)))))))))),
  [.cell 4 true 4, .tmp 5]⟩

/-- (*wainscot/mem.Mem).Words -/
def i10 : IFun := ⟨10,
  (.seq
   (.region [
     ⟨(some 2), .mv (.c (.slice none 0 0)), none, [], [], false⟩])
  (.seq
   (.seq
    (.region [
      ⟨(some 3), .mv (.t 0), none, [], [], false⟩,
      ⟨(some 4), .bin .eql .ptr (.t 3) (.c (.pointer none)), none, [], [], false⟩])
   (.cond (.t 4)
    (.seq
     (.region [
       ⟨(some 2), .mv (.c (.slice none 0 0)), none, [], [], false⟩])
    .ret)
    .skip))
  (.seq
   (.region [
     ⟨(some 5), .mv (.t 0), none, [], [], false⟩,
     ⟨(some 6), .nilCheck (.t 5), none, [], [], false⟩,
     ⟨(some 7), .addOff 0 (.t 6), none, [], [], false⟩,
     ⟨(some 8), .load false 1 (.t 7), none, [], [], false⟩,
     ⟨(some 9), .call (.c (.func (.func 32) #[] #[])) [(.t 8)] true, none, [], [], false⟩,
     ⟨(some 2), .mv (.t 9), none, [], [], false⟩])
  .ret))),
  [.tmp 2]⟩

/-- wainscot/wainscotref00.EqInts -/
def i11 : IFun := ⟨26,
  (.seq
   (.region [
     ⟨(some 4), .mv (.c (.bool false)), none, [], [], false⟩])
  (.seq
   (.seq
    (.region [
      ⟨(some 6), .mv (.t 0), none, [], [], false⟩,
      ⟨(some 7), .lenS (.t 6), none, [], [], false⟩,
      ⟨(some 8), .mv (.t 1), none, [], [], false⟩,
      ⟨(some 9), .lenS (.t 8), none, [], [], false⟩,
      ⟨(some 10), .bin .neq .int (.t 7) (.t 9), none, [], [], false⟩])
   (.cond (.t 10)
    (.seq
     (.region [
       ⟨(some 4), .mv (.c (.bool false)), none, [], [], false⟩])
    .ret)
    .skip))
  (.seq
   (.seq
    (.region [
      ⟨(some 5), .mv (.c (.int .i64 0)), none, [], [], false⟩])
   (.block 0
    (.loop
     (.seq
      (.seq
       (.region [
         ⟨(some 11), .mv (.t 5), none, [], [], false⟩,
         ⟨(some 12), .mv (.t 0), none, [], [], false⟩,
         ⟨(some 13), .lenS (.t 12), none, [], [], false⟩,
         ⟨(some 14), .bin .lss .int (.t 11) (.t 13), none, [], [], false⟩])
      (.cond (.t 14)
       .skip
       (.exit 0)))
     (.seq
      (.block 1
       (.seq
        (.region [
          ⟨(some 17), .mv (.t 0), none, [], [], false⟩,
          ⟨(some 18), .mv (.t 5), none, [], [], false⟩,
          ⟨(some 19), .idxS 1 (.t 17) (.t 18), none, [], [], false⟩,
          ⟨(some 20), .load false 1 (.t 19), none, [], [], false⟩,
          ⟨(some 21), .mv (.t 1), none, [], [], false⟩,
          ⟨(some 22), .mv (.t 5), none, [], [], false⟩,
          ⟨(some 23), .idxS 1 (.t 21) (.t 22), none, [], [], false⟩,
          ⟨(some 24), .load false 1 (.t 23), none, [], [], false⟩,
          ⟨(some 25), .bin .neq .int (.t 20) (.t 24), none, [], [], false⟩])
       (.cond (.t 25)
        (.seq
         (.region [
           ⟨(some 4), .mv (.c (.bool false)), none, [], [], false⟩])
        .ret)
        .skip)))
     (.region [
       ⟨(some 15), .mv (.t 5), none, [], [], false⟩,
       ⟨(some 16), .bin .add .int (.t 15) (.c (.int .i64 1)), none, [], [], false⟩,
       ⟨(some 5), .mv (.t 16), none, [], [], false⟩]))))))
  (.seq
   (.region [
     ⟨(some 4), .mv (.c (.bool true)), none, [], [], false⟩])
  .ret)))),
  [.tmp 4]⟩

/-- wainscot/wainscotlaw23.works -/
def i12 : IFun := ⟨133,
  (.seq
   (.region [
     ⟨(some 0), .mv (.c (.bool false)), none, [], [], false⟩])
  (.seq
   (.region [
     ⟨(some 13), .build [(.bool false), (.bool false), (.int .i64 0), (.int .i64 0)] [(3, 1, (.c (.int .i64 1)))], none, [], [], false⟩,
     ⟨(some 14), .call (.c (.func (.func 7) #[] #[])) [(.c (.int .i64 3)), (.c (.int .i64 0)), (.c (.int .u64 0)), (.t 13)] false, none, [], [], false⟩,
     ⟨(some 12), .mv (.t 14), none, [], [], false⟩,
     ⟨(some 15), .extract (.t 12) 0, none, [], [], false⟩,
     ⟨(some 16), .extract (.t 12) 1, none, [], [], false⟩,
     ⟨(some 2), .new 28 [(.int .i64 0), (.int .i64 0), (.int .i64 0), (.int .i64 0), (.int .i64 0), (.int .u64 0)], none, [], [], false⟩,
     ⟨(some 1), .mv (.t 15), none, [], [], false⟩,
     ⟨none, .store 6 (.t 2) (.t 16), none, [], [], false⟩])
  (.seq
   (.seq
    (.region [
      ⟨(some 17), .mv (.t 1), none, [], [], false⟩,
      ⟨(some 18), .bin .eql .ptr (.t 17) (.c (.pointer none)), none, [], [], false⟩])
   (.cond (.t 18)
    (.seq
     (.region [
       ⟨(some 0), .mv (.c (.bool false)), none, [], [], false⟩])
    .ret)
    .skip))
  (.seq
   (.region [
     ⟨(some 20), .mv (.t 1), none, [], [], false⟩,
     ⟨(some 21), .load true 6 (.t 2), none, [], [], false⟩,
     ⟨(some 22), .build [(.int .i64 0), (.int .i64 0), (.int .i64 0), (.int .i64 0), (.int .i64 0), (.int .i64 0), (.int .i64 0), (.int .u64 0), (.int .u64 0), (.int .u64 0), (.int .u64 0), (.int .u64 0), (.int .i64 0), (.int .i64 0), (.int .i64 0), (.int .i64 0), (.int .i64 0)] [(0, 1, (.c (.int .i64 2))), (2, 1, (.c (.int .i64 50))), (5, 1, (.c (.int .i64 1))), (6, 1, (.c (.int .i64 2)))], none, [], [], false⟩,
     ⟨(some 23), .call (.c (.func (.func 8) #[] #[])) [(.t 20), (.t 21), (.t 22)] false, none, [], [], false⟩,
     ⟨(some 19), .mv (.t 23), none, [], [], false⟩,
     ⟨(some 24), .extract (.t 19) 0, none, [], [], false⟩,
     ⟨(some 25), .extract (.t 19) 1, none, [], [], false⟩,
     ⟨(some 3), .new 32 [(.int .i64 0), (.int .i64 0), (.int .i64 0), (.int .i64 0), (.int .i64 0), (.int .i64 0), (.int .i64 0), (.int .u64 0), (.int .u64 0), (.int .u64 0), (.int .u64 0), (.int .u64 0), (.int .i64 0), (.int .i64 0), (.int .i64 0), (.int .i64 0), (.int .i64 0)], none, [], [], false⟩,
     ⟨none, .store 17 (.t 3) (.t 24), none, [], [], false⟩,
     ⟨(some 4), .mv (.t 25), none, [], [], false⟩])
  (.seq
   (.region [
     ⟨(some 27), .mv (.t 1), none, [], [], false⟩,
     ⟨(some 28), .call (.c (.func (.func 10) #[] #[])) [(.t 27)] true, none, [], [], false⟩,
     ⟨(some 29), .load true 6 (.t 2), none, [], [], false⟩,
     ⟨(some 30), .call (.c (.func (.func 9) #[] #[])) [(.t 28), (.t 29)] true, none, [], [], false⟩,
     ⟨(some 26), .mv (.t 30), none, [], [], false⟩,
     ⟨(some 31), .extract (.t 26) 0, none, [], [], false⟩,
     ⟨(some 32), .extract (.t 26) 1, none, [], [], false⟩,
     ⟨(some 5), .new 39 [(.slice none 0 0), (.slice none 0 0), (.bool false), (.slice none 0 0)], none, [], [], false⟩,
     ⟨none, .store 4 (.t 5) (.t 31), none, [], [], false⟩,
     ⟨(some 6), .mv (.t 32), none, [], [], false⟩])
  (.seq
   (.region [
     ⟨(some 34), .mv (.t 1), none, [], [], false⟩,
     ⟨(some 35), .load true 6 (.t 2), none, [], [], false⟩,
     ⟨(some 36), .build [(.int .i64 0), (.int .i64 0), (.int .i64 0), (.int .i64 0), (.int .i64 0), (.int .i64 0), (.int .i64 0), (.int .u64 0), (.int .u64 0), (.int .u64 0), (.int .u64 0), (.int .u64 0), (.int .i64 0), (.int .i64 0), (.int .i64 0), (.int .i64 0), (.int .i64 0)] [(0, 1, (.c (.int .i64 2))), (2, 1, (.c (.int .i64 50))), (5, 1, (.c (.int .i64 1)))], none, [], [], false⟩,
     ⟨(some 37), .call (.c (.func (.func 8) #[] #[])) [(.t 34), (.t 35), (.t 36)] false, none, [], [], false⟩,
     ⟨(some 33), .mv (.t 37), none, [], [], false⟩,
     ⟨(some 38), .extract (.t 33) 0, none, [], [], false⟩,
     ⟨(some 39), .extract (.t 33) 1, none, [], [], false⟩,
     ⟨(some 7), .new 32 [(.int .i64 0), (.int .i64 0), (.int .i64 0), (.int .i64 0), (.int .i64 0), (.int .i64 0), (.int .i64 0), (.int .u64 0), (.int .u64 0), (.int .u64 0), (.int .u64 0), (.int .u64 0), (.int .i64 0), (.int .i64 0), (.int .i64 0), (.int .i64 0), (.int .i64 0)], none, [], [], false⟩,
     ⟨none, .store 17 (.t 7) (.t 38), none, [], [], false⟩,
     ⟨(some 8), .mv (.t 39), none, [], [], false⟩])
  (.seq
   (.region [
     ⟨(some 41), .mv (.t 1), none, [], [], false⟩,
     ⟨(some 42), .call (.c (.func (.func 10) #[] #[])) [(.t 41)] true, none, [], [], false⟩,
     ⟨(some 43), .load true 6 (.t 2), none, [], [], false⟩,
     ⟨(some 44), .call (.c (.func (.func 9) #[] #[])) [(.t 42), (.t 43)] true, none, [], [], false⟩,
     ⟨(some 40), .mv (.t 44), none, [], [], false⟩,
     ⟨(some 45), .extract (.t 40) 0, none, [], [], false⟩,
     ⟨(some 46), .extract (.t 40) 1, none, [], [], false⟩,
     ⟨(some 9), .new 39 [(.slice none 0 0), (.slice none 0 0), (.bool false), (.slice none 0 0)], none, [], [], false⟩,
     ⟨none, .store 4 (.t 9) (.t 45), none, [], [], false⟩,
     ⟨(some 10), .mv (.t 46), none, [], [], false⟩])
  (.seq
   (.seq
    (.region [
      ⟨(some 47), .mv (.t 6), none, [], [], false⟩,
      ⟨(some 48), .bin .neq .int (.t 47) (.c (.int .i64 0)), none, [], [], false⟩,
      ⟨(some 49), .mv (.t 48), none, [], [], false⟩,
      ⟨(some 50), .mv (.t 10), (some (49, false)), [], [], false⟩,
      ⟨(some 51), .bin .neq .int (.t 50) (.c (.int .i64 0)), (some (49, false)), [], [], false⟩,
      ⟨(some 52), .pick (.t 49) (.c (.bool true)) (.t 51), none, [], [], false⟩,
      ⟨(some 53), .mv (.t 52), none, [], [], false⟩,
      ⟨(some 54), .addOff 0 (.t 5), (some (53, false)), [], [], false⟩,
      ⟨(some 55), .load false 1 (.t 54), (some (53, false)), [], [], false⟩,
      ⟨(some 56), .lenS (.t 55), (some (53, false)), [], [], false⟩,
      ⟨(some 57), .bin .neq .int (.t 56) (.c (.int .i64 1)), (some (53, false)), [], [], false⟩,
      ⟨(some 58), .pick (.t 53) (.c (.bool true)) (.t 57), none, [], [], false⟩,
      ⟨(some 59), .mv (.t 58), none, [], [], false⟩,
      ⟨(some 60), .addOff 3 (.t 5), (some (59, false)), [], [], false⟩,
      ⟨(some 61), .load false 1 (.t 60), (some (59, false)), [], [], false⟩,
      ⟨(some 62), .lenS (.t 61), (some (59, false)), [], [], false⟩,
      ⟨(some 63), .bin .neq .int (.t 62) (.c (.int .i64 2)), (some (59, false)), [], [], false⟩,
      ⟨(some 64), .pick (.t 59) (.c (.bool true)) (.t 63), none, [], [], false⟩,
      ⟨(some 65), .mv (.t 64), none, [], [], false⟩,
      ⟨(some 66), .addOff 3 (.t 9), (some (65, false)), [], [], false⟩,
      ⟨(some 67), .load false 1 (.t 66), (some (65, false)), [], [], false⟩,
      ⟨(some 68), .lenS (.t 67), (some (65, false)), [], [], false⟩,
      ⟨(some 69), .bin .neq .int (.t 68) (.c (.int .i64 2)), (some (65, false)), [], [], false⟩,
      ⟨(some 70), .pick (.t 65) (.c (.bool true)) (.t 69), none, [], [], false⟩])
   (.cond (.t 70)
    (.seq
     (.region [
       ⟨(some 0), .mv (.c (.bool false)), none, [], [], false⟩])
    .ret)
    .skip))
  (.seq
   (.region [
     ⟨(some 71), .addOff 3 (.t 3), none, [], [], false⟩,
     ⟨(some 72), .load false 1 (.t 71), none, [], [], false⟩,
     ⟨(some 73), .bin .eql .int (.t 72) (.c (.int .i64 1)), none, [], [], false⟩,
     ⟨(some 74), .mv (.t 73), none, [], [], false⟩,
     ⟨(some 75), .mv (.t 4), (some (74, true)), [], [], false⟩,
     ⟨(some 76), .bin .eql .int (.t 75) (.c (.int .i64 8)), (some (74, true)), [], [], false⟩,
     ⟨(some 77), .pick (.t 74) (.t 76) (.c (.bool false)), none, [], [], false⟩,
     ⟨(some 78), .mv (.t 77), none, [], [], false⟩,
     ⟨(some 79), .addOff 0 (.t 5), (some (78, true)), [], [], false⟩,
     ⟨(some 80), .load false 1 (.t 79), (some (78, true)), [], [], false⟩,
     ⟨(some 81), .idxS 4 (.t 80) (.c (.int .i64 0)), (some (78, true)), [], [], false⟩,
     ⟨(some 82), .addOff 3 (.t 81), (some (78, true)), [], [], false⟩,
     ⟨(some 83), .load false 1 (.t 82), (some (78, true)), [], [], false⟩,
     ⟨(some 84), .buildSlice 3 [(.int .i64 0)] 1 [(0, 1, (.c (.int .i64 1)))], (some (78, true)), [], [], false⟩,
     ⟨(some 85), .call (.c (.func (.func 11) #[] #[])) [(.t 83), (.t 84)] true, (some (78, true)), [], [], false⟩,
     ⟨(some 86), .pick (.t 78) (.t 85) (.c (.bool false)), none, [], [], false⟩,
     ⟨(some 87), .mv (.t 86), none, [], [], false⟩,
     ⟨(some 88), .addOff 3 (.t 5), (some (87, true)), [], [], false⟩,
     ⟨(some 89), .load false 1 (.t 88), (some (87, true)), [], [], false⟩,
     ⟨(some 90), .idxS 5 (.t 89) (.c (.int .i64 1)), (some (87, true)), [], [], false⟩,
     ⟨(some 91), .addOff 4 (.t 90), (some (87, true)), [], [], false⟩,
     ⟨(some 92), .load false 1 (.t 91), (some (87, true)), [], [], false⟩,
     ⟨(some 93), .buildSlice 3 [(.int .i64 0)] 1 [(0, 1, (.c (.int .i64 2)))], (some (87, true)), [], [], false⟩,
     ⟨(some 94), .call (.c (.func (.func 11) #[] #[])) [(.t 92), (.t 93)] true, (some (87, true)), [], [], false⟩,
     ⟨(some 95), .pick (.t 87) (.t 94) (.c (.bool false)), none, [], [], false⟩,
     ⟨(some 96), .mv (.t 95), none, [], [], false⟩,
     ⟨(some 97), .addOff 3 (.t 5), (some (96, true)), [], [], false⟩,
     ⟨(some 98), .load false 1 (.t 97), (some (96, true)), [], [], false⟩,
     ⟨(some 99), .idxS 5 (.t 98) (.c (.int .i64 1)), (some (96, true)), [], [], false⟩,
     ⟨(some 100), .addOff 0 (.t 99), (some (96, true)), [], [], false⟩,
     ⟨(some 101), .load true 4 (.t 100), (some (96, true)), [], [], false⟩,
     ⟨(some 102), .build [(.int .i64 0), (.int .i64 0), (.bool false), (.bool false)] [(0, 1, (.c (.int .i64 2))), (1, 1, (.c (.int .i64 3))), (2, 1, (.c (.bool true))), (3, 1, (.c (.bool true)))], (some (96, true)), [], [], false⟩,
     ⟨(some 103), .bin .eql (.plain [(some .i64), (some .i64), none, none]) (.t 101) (.t 102), (some (96, true)), [], [], false⟩,
     ⟨(some 104), .pick (.t 96) (.t 103) (.c (.bool false)), none, [], [], false⟩,
     ⟨(some 11), .mv (.t 104), none, [], [], false⟩])
  (.seq
   (.region [
     ⟨(some 105), .mv (.t 11), none, [], [], false⟩,
     ⟨(some 106), .mv (.t 105), none, [], [], false⟩,
     ⟨(some 107), .addOff 3 (.t 7), (some (106, true)), [], [], false⟩,
     ⟨(some 108), .load false 1 (.t 107), (some (106, true)), [], [], false⟩,
     ⟨(some 109), .bin .eql .int (.t 108) (.c (.int .i64 1)), (some (106, true)), [], [], false⟩,
     ⟨(some 110), .pick (.t 106) (.t 109) (.c (.bool false)), none, [], [], false⟩,
     ⟨(some 111), .mv (.t 110), none, [], [], false⟩,
     ⟨(some 112), .mv (.t 8), (some (111, true)), [], [], false⟩,
     ⟨(some 113), .bin .eql .int (.t 112) (.c (.int .i64 4)), (some (111, true)), [], [], false⟩,
     ⟨(some 114), .pick (.t 111) (.t 113) (.c (.bool false)), none, [], [], false⟩,
     ⟨(some 115), .mv (.t 114), none, [], [], false⟩,
     ⟨(some 116), .addOff 3 (.t 9), (some (115, true)), [], [], false⟩,
     ⟨(some 117), .load false 1 (.t 116), (some (115, true)), [], [], false⟩,
     ⟨(some 118), .idxS 5 (.t 117) (.c (.int .i64 1)), (some (115, true)), [], [], false⟩,
     ⟨(some 119), .addOff 4 (.t 118), (some (115, true)), [], [], false⟩,
     ⟨(some 120), .load false 1 (.t 119), (some (115, true)), [], [], false⟩,
     ⟨(some 121), .buildSlice 3 [(.int .i64 0), (.int .i64 0)] 2 [(0, 1, (.c (.int .i64 0))), (1, 1, (.c (.int .i64 2)))], (some (115, true)), [], [], false⟩,
     ⟨(some 122), .call (.c (.func (.func 11) #[] #[])) [(.t 120), (.t 121)] true, (some (115, true)), [], [], false⟩,
     ⟨(some 123), .pick (.t 115) (.t 122) (.c (.bool false)), none, [], [], false⟩,
     ⟨(some 124), .mv (.t 123), none, [], [], false⟩,
     ⟨(some 125), .addOff 3 (.t 9), (some (124, true)), [], [], false⟩,
     ⟨(some 126), .load false 1 (.t 125), (some (124, true)), [], [], false⟩,
     ⟨(some 127), .idxS 5 (.t 126) (.c (.int .i64 1)), (some (124, true)), [], [], false⟩,
     ⟨(some 128), .addOff 0 (.t 127), (some (124, true)), [], [], false⟩,
     ⟨(some 129), .addOff 0 (.t 128), (some (124, true)), [], [], false⟩,
     ⟨(some 130), .load false 1 (.t 129), (some (124, true)), [], [], false⟩,
     ⟨(some 131), .bin .eql .int (.t 130) (.c (.int .i64 1)), (some (124, true)), [], [], false⟩,
     ⟨(some 132), .pick (.t 124) (.t 131) (.c (.bool false)), none, [], [], false⟩,
     ⟨(some 0), .mv (.t 132), none, [], [], false⟩])
  .ret)))))))))),
  [.tmp 0]⟩

/-- wainscot/back.Step -/
def i13 : IFun := ⟨50,
  (.seq
   (.region [
     ⟨(some 4), .box 28 6 (.t 1), none, [], [], false⟩,
     ⟨(some 5), .box 32 17 (.t 2), none, [], [], false⟩,
     ⟨(some 6), .new 32 [(.int .i64 0), (.int .i64 0), (.int .i64 0), (.int .i64 0), (.int .i64 0), (.int .i64 0), (.int .i64 0), (.int .u64 0), (.int .u64 0), (.int .u64 0), (.int .u64 0), (.int .u64 0), (.int .i64 0), (.int .i64 0), (.int .i64 0), (.int .i64 0), (.int .i64 0)], none, [], [], false⟩,
     ⟨(some 7), .mv (.c (.int .i64 0)), none, [], [], false⟩])
  (.seq
   (.block 0
    (.seq
     (.region [
       ⟨(some 10), .mv (.t 0), none, [], [], false⟩,
       ⟨(some 11), .call (.c (.func (.func 33) #[] #[])) [(.t 10)] true, none, [], [], false⟩,
       ⟨(some 12), .bin .eql .int (.t 11) (.c (.int .i64 0)), none, [], [], false⟩,
       ⟨(some 9), .mv (.t 12), none, [], [], false⟩])
    (.cond (.t 9)
     (.seq
      (.region [
        ⟨(some 13), .build [(.int .i64 0), (.int .i64 0), (.int .i64 0), (.int .i64 0), (.int .i64 0), (.int .i64 0), (.int .i64 0), (.int .u64 0), (.int .u64 0), (.int .u64 0), (.int .u64 0), (.int .u64 0), (.int .i64 0), (.int .i64 0), (.int .i64 0), (.int .i64 0), (.int .i64 0)] [], none, [], [], false⟩,
        ⟨none, .store 17 (.t 6) (.t 13), none, [], [], false⟩,
        ⟨(some 7), .mv (.c (.int .i64 1)), none, [], [], false⟩])
     .ret)
     (.seq
      (.region [
        ⟨(some 15), .load true 6 (.t 4), none, [], [], false⟩,
        ⟨(some 16), .call (.c (.func (.func 27) #[] #[])) [(.t 15)] true, none, [], [], false⟩,
        ⟨(some 17), .bin .neq .int (.t 16) (.c (.int .i64 0)), none, [], [], false⟩,
        ⟨(some 14), .mv (.t 17), none, [], [], false⟩])
     (.cond (.t 14)
      (.seq
       (.region [
         ⟨(some 18), .build [(.int .i64 0), (.int .i64 0), (.int .i64 0), (.int .i64 0), (.int .i64 0), (.int .i64 0), (.int .i64 0), (.int .u64 0), (.int .u64 0), (.int .u64 0), (.int .u64 0), (.int .u64 0), (.int .i64 0), (.int .i64 0), (.int .i64 0), (.int .i64 0), (.int .i64 0)] [], none, [], [], false⟩,
         ⟨none, .store 17 (.t 6) (.t 18), none, [], [], false⟩,
         ⟨(some 7), .mv (.c (.int .i64 2)), none, [], [], false⟩])
      .ret)
      (.seq
       (.seq
        (.region [
          ⟨(some 20), .addOff 3 (.t 5), none, [], [], false⟩,
          ⟨(some 21), .load false 1 (.t 20), none, [], [], false⟩,
          ⟨(some 22), .bin .neq .int (.t 21) (.c (.int .i64 0)), none, [], [], false⟩,
          ⟨(some 19), .mv (.t 22), none, [], [], false⟩])
       (.cond (.t 19)
        .skip
        (.seq
         (.region [
           ⟨(some 23), .addOff 4 (.t 5), none, [], [], false⟩,
           ⟨(some 24), .load false 1 (.t 23), none, [], [], false⟩,
           ⟨(some 25), .bin .neq .int (.t 24) (.c (.int .i64 0)), none, [], [], false⟩,
           ⟨(some 19), .mv (.t 25), none, [], [], false⟩])
        (.cond (.t 19)
         .skip
         (.seq
          (.region [
            ⟨(some 26), .addOff 2 (.t 5), none, [], [], false⟩,
            ⟨(some 27), .load false 1 (.t 26), none, [], [], false⟩,
            ⟨(some 28), .bin .lss .int (.t 27) (.c (.int .i64 50)), none, [], [], false⟩,
            ⟨(some 19), .mv (.t 28), none, [], [], false⟩])
         (.cond (.t 19)
          .skip
          (.region [
            ⟨(some 29), .addOff 2 (.t 5), none, [], [], false⟩,
            ⟨(some 30), .load false 1 (.t 29), none, [], [], false⟩,
            ⟨(some 31), .bin .gtr .int (.t 30) (.c (.int .i64 68)), none, [], [], false⟩,
            ⟨(some 19), .mv (.t 31), none, [], [], false⟩])))))))
      (.cond (.t 19)
       (.seq
        (.region [
          ⟨(some 32), .build [(.int .i64 0), (.int .i64 0), (.int .i64 0), (.int .i64 0), (.int .i64 0), (.int .i64 0), (.int .i64 0), (.int .u64 0), (.int .u64 0), (.int .u64 0), (.int .u64 0), (.int .u64 0), (.int .i64 0), (.int .i64 0), (.int .i64 0), (.int .i64 0), (.int .i64 0)] [], none, [], [], false⟩,
          ⟨none, .store 17 (.t 6) (.t 32), none, [], [], false⟩,
          ⟨(some 7), .mv (.c (.int .i64 292)), none, [], [], false⟩])
       .ret)
       .skip)))))))
  (.seq
   (.region [
     ⟨(some 33), .mv (.t 0), none, [], [], false⟩,
     ⟨(some 34), .load true 6 (.t 4), none, [], [], false⟩,
     ⟨(some 35), .load true 17 (.t 5), none, [], [], false⟩,
     ⟨(some 36), .build [(.pointer none), (.int .i64 0), (.int .i64 0), (.int .i64 0), (.int .i64 0), (.int .i64 0), (.int .u64 0), (.int .i64 0), (.int .i64 0), (.int .i64 0), (.int .i64 0), (.int .i64 0), (.int .i64 0), (.int .i64 0), (.int .u64 0), (.int .u64 0), (.int .u64 0), (.int .u64 0), (.int .u64 0), (.int .i64 0), (.int .i64 0), (.int .i64 0), (.int .i64 0), (.int .i64 0), (.bool false)] [(0, 1, (.t 33)), (1, 6, (.t 34)), (7, 17, (.t 35))], none, [], [], false⟩,
     ⟨(some 37), .box 86 25 (.t 36), none, [], [], false⟩,
     ⟨(some 8), .mv (.t 37), none, [], [], false⟩])
  (.seq
   (.seq
    (.region [
      ⟨(some 38), .mv (.t 8), none, [], [], false⟩,
      ⟨(some 39), .call (.c (.func (.func 34) #[] #[])) [(.t 38)] false, none, [], [], false⟩])
   (.seq
    (.region [
      ⟨(some 40), .mv (.t 8), none, [], [], false⟩,
      ⟨(some 41), .nilCheck (.t 40), none, [], [], false⟩,
      ⟨(some 42), .addOff 24 (.t 41), none, [], [], false⟩,
      ⟨(some 43), .load false 1 (.t 42), none, [], [], false⟩])
   (.cond (.t 43)
    (.seq
     (.region [
       ⟨(some 44), .addOff 3 (.t 5), none, [], [], false⟩,
       ⟨none, .store 1 (.t 44) (.c (.int .i64 3)), none, [], [], false⟩])
    (.seq
     (.region [
       ⟨(some 45), .load true 17 (.t 5), none, [], [], false⟩,
       ⟨none, .store 17 (.t 6) (.t 45), none, [], [], false⟩,
       ⟨(some 7), .mv (.c (.int .i64 0)), none, [], [], false⟩])
    .ret))
    .skip)))
  (.seq
   (.region [
     ⟨(some 46), .mv (.t 8), none, [], [], false⟩,
     ⟨(some 47), .nilCheck (.t 46), none, [], [], false⟩,
     ⟨(some 48), .addOff 7 (.t 47), none, [], [], false⟩,
     ⟨(some 49), .load true 17 (.t 48), none, [], [], false⟩,
     ⟨none, .store 17 (.t 6) (.t 49), none, [], [], false⟩,
     ⟨(some 7), .mv (.c (.int .i64 0)), none, [], [], false⟩])
  .ret))))),
  [.cell 6 true 17, .tmp 7]⟩

/-- (*wainscot/mem.Mem).Store -/
def i14 : IFun := ⟨11,
  (.seq
   (.region [
     ⟨(some 5), .box 26 1 (.t 2), none, [], [], false⟩,
     ⟨(some 6), .mv (.c (.int .i64 0)), none, [], [], false⟩])
  (.seq
   (.region [
     ⟨(some 7), .mv (.t 0), none, [], [], false⟩,
     ⟨(some 8), .mv (.t 1), none, [], [], false⟩,
     ⟨(some 9), .mkFunc 36 [] [(.t 5)], none, [], [], false⟩,
     ⟨(some 10), .call (.c (.func (.func 35) #[] #[])) [(.t 7), (.t 8), (.c (.int .i64 1)), (.t 9)] false, none, [], [], false⟩,
     ⟨(some 6), .mv (.t 10), none, [], [], false⟩])
  .ret)),
  [.tmp 6]⟩

/-- wainscot/chart.Shelf -/
def i15 : IFun := ⟨6,
  (.seq
   (.region [
     ⟨(some 1), .box 28 6 (.t 0), none, [], [], false⟩,
     ⟨(some 2), .mv (.c (.int .i64 0)), none, [], [], false⟩])
  (.seq
   (.region [
     ⟨(some 3), .load true 6 (.t 1), none, [], [], false⟩,
     ⟨(some 4), .mkFunc 38 [] [(.t 1)], none, [], [], false⟩,
     ⟨(some 5), .call (.c (.func (.func 37) #[] #[])) [(.t 3), (.c (.int .i64 0)), (.c (.int .i64 1)), (.t 4)] true, none, [], [], false⟩,
     ⟨(some 2), .mv (.t 5), none, [], [], false⟩])
  .ret)),
  [.tmp 2]⟩

/-- wainscot/chart.Next -/
def i16 : IFun := ⟨11,
  (.seq
   (.region [
     ⟨(some 2), .box 28 6 (.t 0), none, [], [], false⟩,
     ⟨(some 3), .box 3 1 (.t 1), none, [], [], false⟩,
     ⟨(some 4), .mv (.c (.int .i64 0)), none, [], [], false⟩])
  (.seq
   (.region [
     ⟨(some 5), .load true 6 (.t 2), none, [], [], false⟩,
     ⟨(some 6), .load false 1 (.t 3), none, [], [], false⟩,
     ⟨(some 7), .addOff 1 (.t 2), none, [], [], false⟩,
     ⟨(some 8), .load false 1 (.t 7), none, [], [], false⟩,
     ⟨(some 9), .mkFunc 40 [] [(.t 2), (.t 3)], none, [], [], false⟩,
     ⟨(some 10), .call (.c (.func (.func 37) #[] #[])) [(.t 5), (.t 6), (.t 8), (.t 9)] true, none, [], [], false⟩,
     ⟨(some 4), .mv (.t 10), none, [], [], false⟩])
  .ret)),
  [.tmp 4]⟩

/-- wainscot/chart.Held -/
def i17 : IFun := ⟨6,
  (.seq
   (.region [
     ⟨(some 1), .box 28 6 (.t 0), none, [], [], false⟩,
     ⟨(some 2), .mv (.c (.int .i64 0)), none, [], [], false⟩])
  (.seq
   (.region [
     ⟨(some 3), .load true 6 (.t 1), none, [], [], false⟩,
     ⟨(some 4), .mkFunc 42 [] [(.t 1)], none, [], [], false⟩,
     ⟨(some 5), .call (.c (.func (.func 37) #[] #[])) [(.t 3), (.c (.int .i64 0)), (.c (.int .i64 1)), (.t 4)] true, none, [], [], false⟩,
     ⟨(some 2), .mv (.t 5), none, [], [], false⟩])
  .ret)),
  [.tmp 2]⟩

/-- (*wainscot/mem.Mem).Load -/
def i18 : IFun := ⟨12,
  (.seq
   (.region [
     ⟨(some 4), .new 26 [(.int .u64 0)], none, [], [], false⟩,
     ⟨(some 5), .mv (.c (.int .i64 0)), none, [], [], false⟩])
  (.seq
   (.region [
     ⟨(some 6), .mv (.t 0), none, [], [], false⟩,
     ⟨(some 7), .mv (.t 1), none, [], [], false⟩,
     ⟨(some 8), .mkFunc 43 [] [(.t 4)], none, [], [], false⟩,
     ⟨(some 9), .call (.c (.func (.func 35) #[] #[])) [(.t 6), (.t 7), (.c (.int .i64 1)), (.t 8)] false, none, [], [], false⟩,
     ⟨(some 5), .mv (.t 9), none, [], [], false⟩])
  (.seq
   (.region [
     ⟨(some 10), .load false 1 (.t 4), none, [], [], false⟩,
     ⟨(some 11), .mv (.t 5), none, [], [], false⟩,
     ⟨none, .store 1 (.t 4) (.t 10), none, [], [], false⟩,
     ⟨(some 5), .mv (.t 11), none, [], [], false⟩])
  .ret))),
  [.cell 4 false 1, .tmp 5]⟩

/-- wainscot/chart.Lock -/
def i19 : IFun := ⟨6,
  (.seq
   (.region [
     ⟨(some 1), .box 28 6 (.t 0), none, [], [], false⟩,
     ⟨(some 2), .mv (.c (.int .i64 0)), none, [], [], false⟩])
  (.seq
   (.region [
     ⟨(some 3), .load true 6 (.t 1), none, [], [], false⟩,
     ⟨(some 4), .mkFunc 44 [] [(.t 1)], none, [], [], false⟩,
     ⟨(some 5), .call (.c (.func (.func 37) #[] #[])) [(.t 3), (.c (.int .i64 0)), (.c (.int .i64 1)), (.t 4)] true, none, [], [], false⟩,
     ⟨(some 2), .mv (.t 5), none, [], [], false⟩])
  .ret)),
  [.tmp 2]⟩

/-- wainscot/mem.New -/
def i20 : IFun := ⟨14,
  (.seq
   (.region [
     ⟨(some 2), .mv (.c (.pointer none)), none, [], [], false⟩,
     ⟨(some 3), .mv (.c (.int .i64 0)), none, [], [], false⟩])
  (.seq
   (.seq
    (.region [
      ⟨(some 4), .mv (.t 0), none, [], [], false⟩,
      ⟨(some 5), .bin .lss .int (.t 4) (.c (.int .i64 1)), none, [], [], false⟩,
      ⟨(some 6), .mv (.t 5), none, [], [], false⟩,
      ⟨(some 7), .mv (.t 0), (some (6, false)), [], [], false⟩,
      ⟨(some 8), .bin .gtr .int (.t 7) (.c (.int .i64 4096)), (some (6, false)), [], [], false⟩,
      ⟨(some 9), .pick (.t 6) (.c (.bool true)) (.t 8), none, [], [], false⟩])
   (.cond (.t 9)
    (.seq
     (.region [
       ⟨(some 2), .mv (.c (.pointer none)), none, [], [], false⟩,
       ⟨(some 3), .mv (.c (.int .i64 9)), none, [], [], false⟩])
    .ret)
    .skip))
  (.seq
   (.region [
     ⟨(some 10), .mv (.t 0), none, [], [], false⟩,
     ⟨(some 11), .mkSlice 26 (.int .u64 0) 8 (.t 10) (.t 10), none, [], [], false⟩,
     ⟨(some 12), .build [(.slice none 0 0), (.int .i64 0)] [(0, 1, (.t 11))], none, [], [], false⟩,
     ⟨(some 13), .box 82 2 (.t 12), none, [], [], false⟩,
     ⟨(some 2), .mv (.t 13), none, [], [], false⟩,
     ⟨(some 3), .mv (.c (.int .i64 0)), none, [], [], false⟩])
  .ret))),
  [.tmp 2, .tmp 3]⟩

/-- wainscot/chart.Words -/
def i21 : IFun := ⟨14,
  (.seq
   (.region [
     ⟨(some 1), .box 28 6 (.t 0), none, [], [], false⟩,
     ⟨(some 2), .mv (.c (.int .i64 0)), none, [], [], false⟩])
  (.seq
   (.seq
    (.region [
      ⟨(some 3), .load true 6 (.t 1), none, [], [], false⟩,
      ⟨(some 4), .call (.c (.func (.func 27) #[] #[])) [(.t 3)] true, none, [], [], false⟩,
      ⟨(some 5), .bin .neq .int (.t 4) (.c (.int .i64 0)), none, [], [], false⟩])
   (.cond (.t 5)
    (.seq
     (.region [
       ⟨(some 2), .mv (.c (.int .i64 0)), none, [], [], false⟩])
    .ret)
    .skip))
  (.seq
   (.region [
     ⟨(some 6), .load true 6 (.t 1), none, [], [], false⟩,
     ⟨(some 7), .call (.c (.func (.func 45) #[] #[])) [(.t 6)] true, none, [], [], false⟩,
     ⟨(some 8), .addOff 1 (.t 1), none, [], [], false⟩,
     ⟨(some 9), .load false 1 (.t 8), none, [], [], false⟩,
     ⟨(some 10), .addOff 2 (.t 1), none, [], [], false⟩,
     ⟨(some 11), .load false 1 (.t 10), none, [], [], false⟩,
     ⟨(some 12), .bin .mul .int (.t 9) (.t 11), none, [], [], false⟩,
     ⟨(some 13), .bin .add .int (.t 7) (.t 12), none, [], [], false⟩,
     ⟨(some 2), .mv (.t 13), none, [], [], false⟩])
  .ret))),
  [.tmp 2]⟩

/-- wainscot/link.Fresh -/
def i22 : IFun := ⟨41,
  (.seq
   (.region [
     ⟨(some 4), .mv (.c (.slice none 0 0)), none, [], [], false⟩,
     ⟨(some 5), .mv (.c (.int .i64 0)), none, [], [], false⟩])
  (.seq
   (.seq
    (.region [
      ⟨(some 8), .mv (.t 0), none, [], [], false⟩,
      ⟨(some 9), .bin .lss .int (.t 8) (.c (.int .i64 1)), none, [], [], false⟩,
      ⟨(some 10), .mv (.t 9), none, [], [], false⟩,
      ⟨(some 11), .mv (.t 0), (some (10, false)), [], [], false⟩,
      ⟨(some 12), .bin .gtr .int (.t 11) (.c (.int .i64 16)), (some (10, false)), [], [], false⟩,
      ⟨(some 13), .pick (.t 10) (.c (.bool true)) (.t 12), none, [], [], false⟩])
   (.cond (.t 13)
    (.seq
     (.region [
       ⟨(some 4), .mv (.c (.slice none 0 0)), none, [], [], false⟩,
       ⟨(some 5), .mv (.c (.int .i64 2)), none, [], [], false⟩])
    .ret)
    .skip))
  (.seq
   (.region [
     ⟨(some 14), .mv (.t 0), none, [], [], false⟩,
     ⟨(some 15), .mkSlice 26 (.int .u64 0) 8 (.t 14) (.t 14), none, [], [], false⟩,
     ⟨(some 6), .mv (.t 15), none, [], [], false⟩])
  (.seq
   (.seq
    (.region [
      ⟨(some 16), .mv (.t 6), none, [], [], false⟩,
      ⟨(some 17), .lenS (.t 16), none, [], [], false⟩,
      ⟨(some 18), .mv (.c (.int .i64 0)), none, [], [], false⟩])
   (.block 0
    (.loop
     (.seq
      (.region [
        ⟨(some 19), .bin .lss .int (.t 18) (.t 17), none, [], [], false⟩])
     (.seq
      (.cond (.t 19)
       .skip
       (.exit 0))
     (.seq
      (.block 1
       (.seq
        (.region [
          ⟨(some 20), .mv (.t 18), none, [], [], false⟩,
          ⟨(some 7), .mv (.t 20), none, [], [], false⟩])
       (.region [
         ⟨(some 21), .mv (.t 6), none, [], [], false⟩,
         ⟨(some 22), .mv (.t 7), none, [], [], false⟩,
         ⟨(some 23), .mv (.t 7), none, [], [], false⟩,
         ⟨(some 24), .bin .add .int (.t 23) (.c (.int .i64 2)), none, [], [], false⟩,
         ⟨(some 25), .conv .u64 (.t 24), none, [], [], false⟩,
         ⟨(some 26), .mv (.t 1), none, [], [], false⟩,
         ⟨(some 27), .mv (.t 7), none, [], [], false⟩,
         ⟨(some 28), .call (.c (.func (.func 46) #[] #[])) [(.t 26), (.t 27)] true, none, [], [], false⟩,
         ⟨(some 29), .bin .xor .int (.t 25) (.t 28), none, [], [], false⟩,
         ⟨(some 30), .idxS 1 (.t 21) (.t 22), none, [], [], false⟩,
         ⟨none, .store 1 (.t 30) (.t 29), none, [], [], false⟩])))
     (.region [
       ⟨(some 31), .bin .add .int (.t 18) (.c (.int .i64 1)), none, [], [], false⟩,
       ⟨(some 18), .mv (.t 31), none, [], [], false⟩])))))))
  (.seq
   (.region [
     ⟨(some 32), .mv (.t 6), none, [], [], false⟩,
     ⟨(some 33), .mv (.t 0), none, [], [], false⟩,
     ⟨(some 34), .bin .sub .int (.t 33) (.c (.int .i64 1)), none, [], [], false⟩,
     ⟨(some 35), .mv (.t 1), none, [], [], false⟩,
     ⟨(some 36), .mv (.t 0), none, [], [], false⟩,
     ⟨(some 37), .bin .sub .int (.t 36) (.c (.int .i64 1)), none, [], [], false⟩,
     ⟨(some 38), .call (.c (.func (.func 46) #[] #[])) [(.t 35), (.t 37)] true, none, [], [], false⟩,
     ⟨(some 39), .idxS 1 (.t 32) (.t 34), none, [], [], false⟩,
     ⟨none, .store 1 (.t 39) (.t 38), none, [], [], false⟩])
  (.seq
   (.region [
     ⟨(some 40), .mv (.t 6), none, [], [], false⟩,
     ⟨(some 4), .mv (.t 40), none, [], [], false⟩,
     ⟨(some 5), .mv (.c (.int .i64 0)), none, [], [], false⟩])
  .ret)))))),
  [.tmp 4, .tmp 5]⟩

/-- wainscot/chart.Key -/
def i23 : IFun := ⟨11,
  (.seq
   (.region [
     ⟨(some 2), .box 28 6 (.t 0), none, [], [], false⟩,
     ⟨(some 4), .mv (.c (.int .u64 0)), none, [], [], false⟩])
  (.seq
   (.region [
     ⟨(some 5), .addOff 5 (.t 2), none, [], [], false⟩,
     ⟨(some 6), .load false 1 (.t 5), none, [], [], false⟩,
     ⟨(some 7), .mv (.t 1), none, [], [], false⟩,
     ⟨(some 8), .conv .u64 (.t 7), none, [], [], false⟩,
     ⟨(some 9), .bin .mul .int (.t 8) (.c (.int .u64 11400714819323198485)), none, [], [], false⟩,
     ⟨(some 10), .bin .add .int (.t 6) (.t 9), none, [], [], false⟩,
     ⟨(some 4), .mv (.t 10), none, [], [], false⟩])
  .ret)),
  [.tmp 4]⟩

/-- wainscot/count.Pack -/
def i24 : IFun := ⟨23,
  (.seq
   (.region [
     ⟨(some 1), .box 46 4 (.t 0), none, [], [], false⟩,
     ⟨(some 2), .mv (.c (.int .u64 0)), none, [], [], false⟩,
     ⟨(some 3), .mv (.c (.int .i64 0)), none, [], [], false⟩])
  (.seq
   (.seq
    (.region [
      ⟨(some 4), .load true 4 (.t 1), none, [], [], false⟩,
      ⟨(some 5), .call (.c (.func (.func 47) #[] #[])) [(.t 4)] true, none, [], [], false⟩,
      ⟨(some 6), .un .not (.t 5), none, [], [], false⟩])
   (.cond (.t 6)
    (.seq
     (.region [
       ⟨(some 2), .mv (.c (.int .u64 0)), none, [], [], false⟩,
       ⟨(some 3), .mv (.c (.int .i64 2)), none, [], [], false⟩])
    .ret)
    .skip))
  (.seq
   (.region [
     ⟨(some 7), .addOff 0 (.t 1), none, [], [], false⟩,
     ⟨(some 8), .load false 1 (.t 7), none, [], [], false⟩,
     ⟨(some 9), .conv .u64 (.t 8), none, [], [], false⟩,
     ⟨(some 10), .addOff 1 (.t 1), none, [], [], false⟩,
     ⟨(some 11), .load false 1 (.t 10), none, [], [], false⟩,
     ⟨(some 12), .conv .u64 (.t 11), none, [], [], false⟩,
     ⟨(some 13), .bin .shl .int (.t 12) (.c (.int .u64 8)), none, [], [], false⟩,
     ⟨(some 14), .bin .or .int (.t 9) (.t 13), none, [], [], false⟩,
     ⟨(some 15), .addOff 2 (.t 1), none, [], [], false⟩,
     ⟨(some 16), .load false 1 (.t 15), none, [], [], false⟩,
     ⟨(some 17), .call (.c (.func (.func 48) #[] #[])) [(.t 16), (.c (.int .u64 65536))] true, none, [], [], false⟩,
     ⟨(some 18), .bin .or .int (.t 14) (.t 17), none, [], [], false⟩,
     ⟨(some 19), .addOff 3 (.t 1), none, [], [], false⟩,
     ⟨(some 20), .load false 1 (.t 19), none, [], [], false⟩,
     ⟨(some 21), .call (.c (.func (.func 48) #[] #[])) [(.t 20), (.c (.int .u64 131072))] true, none, [], [], false⟩,
     ⟨(some 22), .bin .or .int (.t 18) (.t 21), none, [], [], false⟩,
     ⟨(some 2), .mv (.t 22), none, [], [], false⟩,
     ⟨(some 3), .mv (.c (.int .i64 0)), none, [], [], false⟩])
  .ret))),
  [.tmp 2, .tmp 3]⟩

/-- wainscot/chart.Link -/
def i25 : IFun := ⟨21,
  (.seq
   (.region [
     ⟨(some 3), .box 28 6 (.t 0), none, [], [], false⟩,
     ⟨(some 4), .box 3 1 (.t 1), none, [], [], false⟩,
     ⟨(some 5), .box 3 1 (.t 2), none, [], [], false⟩,
     ⟨(some 6), .mv (.c (.int .i64 0)), none, [], [], false⟩])
  (.seq
   (.seq
    (.region [
      ⟨(some 7), .load false 1 (.t 4), none, [], [], false⟩,
      ⟨(some 8), .bin .lss .int (.t 7) (.c (.int .i64 0)), none, [], [], false⟩,
      ⟨(some 9), .mv (.t 8), none, [], [], false⟩,
      ⟨(some 10), .load false 1 (.t 4), (some (9, false)), [], [], false⟩,
      ⟨(some 11), .addOff 1 (.t 3), (some (9, false)), [], [], false⟩,
      ⟨(some 12), .load false 1 (.t 11), (some (9, false)), [], [], false⟩,
      ⟨(some 13), .bin .geq .int (.t 10) (.t 12), (some (9, false)), [], [], false⟩,
      ⟨(some 14), .pick (.t 9) (.c (.bool true)) (.t 13), none, [], [], false⟩])
   (.cond (.t 14)
    (.seq
     (.region [
       ⟨(some 6), .mv (.c (.int .i64 (-1))), none, [], [], false⟩])
    .ret)
    .skip))
  (.seq
   (.region [
     ⟨(some 15), .load true 6 (.t 3), none, [], [], false⟩,
     ⟨(some 16), .load false 1 (.t 5), none, [], [], false⟩,
     ⟨(some 17), .addOff 2 (.t 3), none, [], [], false⟩,
     ⟨(some 18), .load false 1 (.t 17), none, [], [], false⟩,
     ⟨(some 19), .mkFunc 49 [] [(.t 3), (.t 4), (.t 5)], none, [], [], false⟩,
     ⟨(some 20), .call (.c (.func (.func 37) #[] #[])) [(.t 15), (.t 16), (.t 18), (.t 19)] true, none, [], [], false⟩,
     ⟨(some 6), .mv (.t 20), none, [], [], false⟩])
  .ret))),
  [.tmp 6]⟩

/-- wainscot/chart.First -/
def i26 : IFun := ⟨11,
  (.seq
   (.region [
     ⟨(some 2), .box 28 6 (.t 0), none, [], [], false⟩,
     ⟨(some 3), .box 3 1 (.t 1), none, [], [], false⟩,
     ⟨(some 4), .mv (.c (.int .i64 0)), none, [], [], false⟩])
  (.seq
   (.region [
     ⟨(some 5), .load true 6 (.t 2), none, [], [], false⟩,
     ⟨(some 6), .load false 1 (.t 3), none, [], [], false⟩,
     ⟨(some 7), .addOff 1 (.t 2), none, [], [], false⟩,
     ⟨(some 8), .load false 1 (.t 7), none, [], [], false⟩,
     ⟨(some 9), .mkFunc 50 [] [(.t 2), (.t 3)], none, [], [], false⟩,
     ⟨(some 10), .call (.c (.func (.func 37) #[] #[])) [(.t 5), (.t 6), (.t 8), (.t 9)] true, none, [], [], false⟩,
     ⟨(some 4), .mv (.t 10), none, [], [], false⟩])
  .ret)),
  [.tmp 4]⟩

/-- wainscot/chart.Check -/
def i27 : IFun := ⟨35,
  (.seq
   (.region [
     ⟨(some 1), .box 28 6 (.t 0), none, [], [], false⟩,
     ⟨(some 2), .mv (.c (.int .i64 0)), none, [], [], false⟩])
  (.seq
   (.block 0
    (.seq
     (.seq
      (.region [
        ⟨(some 4), .addOff 0 (.t 1), none, [], [], false⟩,
        ⟨(some 5), .load false 1 (.t 4), none, [], [], false⟩,
        ⟨(some 6), .bin .lss .int (.t 5) (.c (.int .i64 1)), none, [], [], false⟩,
        ⟨(some 3), .mv (.t 6), none, [], [], false⟩])
     (.cond (.t 3)
      .skip
      (.seq
       (.region [
         ⟨(some 7), .addOff 0 (.t 1), none, [], [], false⟩,
         ⟨(some 8), .load false 1 (.t 7), none, [], [], false⟩,
         ⟨(some 9), .bin .gtr .int (.t 8) (.c (.int .i64 8)), none, [], [], false⟩,
         ⟨(some 3), .mv (.t 9), none, [], [], false⟩])
      (.cond (.t 3)
       .skip
       (.seq
        (.region [
          ⟨(some 10), .addOff 1 (.t 1), none, [], [], false⟩,
          ⟨(some 11), .load false 1 (.t 10), none, [], [], false⟩,
          ⟨(some 12), .bin .lss .int (.t 11) (.c (.int .i64 1)), none, [], [], false⟩,
          ⟨(some 3), .mv (.t 12), none, [], [], false⟩])
       (.cond (.t 3)
        .skip
        (.seq
         (.region [
           ⟨(some 13), .addOff 1 (.t 1), none, [], [], false⟩,
           ⟨(some 14), .load false 1 (.t 13), none, [], [], false⟩,
           ⟨(some 15), .bin .gtr .int (.t 14) (.c (.int .i64 32)), none, [], [], false⟩,
           ⟨(some 3), .mv (.t 15), none, [], [], false⟩])
        (.cond (.t 3)
         .skip
         (.seq
          (.region [
            ⟨(some 16), .addOff 2 (.t 1), none, [], [], false⟩,
            ⟨(some 17), .load false 1 (.t 16), none, [], [], false⟩,
            ⟨(some 18), .bin .lss .int (.t 17) (.c (.int .i64 1)), none, [], [], false⟩,
            ⟨(some 3), .mv (.t 18), none, [], [], false⟩])
         (.cond (.t 3)
          .skip
          (.region [
            ⟨(some 19), .addOff 2 (.t 1), none, [], [], false⟩,
            ⟨(some 20), .load false 1 (.t 19), none, [], [], false⟩,
            ⟨(some 21), .bin .gtr .int (.t 20) (.c (.int .i64 16)), none, [], [], false⟩,
            ⟨(some 3), .mv (.t 21), none, [], [], false⟩])))))))))))
    (.cond (.t 3)
     (.seq
      (.region [
        ⟨(some 2), .mv (.c (.int .i64 2)), none, [], [], false⟩])
     .ret)
     (.seq
      (.seq
       (.region [
         ⟨(some 23), .addOff 3 (.t 1), none, [], [], false⟩,
         ⟨(some 24), .load false 1 (.t 23), none, [], [], false⟩,
         ⟨(some 25), .bin .lss .int (.t 24) (.c (.int .i64 0)), none, [], [], false⟩,
         ⟨(some 22), .mv (.t 25), none, [], [], false⟩])
      (.cond (.t 22)
       .skip
       (.seq
        (.region [
          ⟨(some 26), .addOff 3 (.t 1), none, [], [], false⟩,
          ⟨(some 27), .load false 1 (.t 26), none, [], [], false⟩,
          ⟨(some 28), .bin .gtr .int (.t 27) (.c (.int .i64 32)), none, [], [], false⟩,
          ⟨(some 22), .mv (.t 28), none, [], [], false⟩])
       (.cond (.t 22)
        .skip
        (.seq
         (.region [
           ⟨(some 29), .addOff 4 (.t 1), none, [], [], false⟩,
           ⟨(some 30), .load false 1 (.t 29), none, [], [], false⟩,
           ⟨(some 31), .bin .lss .int (.t 30) (.c (.int .i64 0)), none, [], [], false⟩,
           ⟨(some 22), .mv (.t 31), none, [], [], false⟩])
        (.cond (.t 22)
         .skip
         (.region [
           ⟨(some 32), .addOff 4 (.t 1), none, [], [], false⟩,
           ⟨(some 33), .load false 1 (.t 32), none, [], [], false⟩,
           ⟨(some 34), .bin .gtr .int (.t 33) (.c (.int .i64 32)), none, [], [], false⟩,
           ⟨(some 22), .mv (.t 34), none, [], [], false⟩])))))))
     (.cond (.t 22)
      (.seq
       (.region [
         ⟨(some 2), .mv (.c (.int .i64 2)), none, [], [], false⟩])
      .ret)
      .skip)))))
  (.seq
   (.region [
     ⟨(some 2), .mv (.c (.int .i64 0)), none, [], [], false⟩])
  .ret))),
  [.tmp 2]⟩

/-- (wainscot/chart.reader).slot -/
def i28 : IFun := ⟨71,
  (.seq
   (.region [
     ⟨(some 2), .box 72 7 (.t 0), none, [], [], false⟩,
     ⟨(some 4), .new 52 [(.int .i64 0), (.slice none 0 0), (.int .u64 0), (.slice none 0 0)], none, [], [], false⟩,
     ⟨(some 5), .mv (.c (.bool false)), none, [], [], false⟩])
  (.seq
   (.region [
     ⟨(some 10), .addOff 1 (.t 2), none, [], [], false⟩,
     ⟨(some 11), .load true 6 (.t 10), none, [], [], false⟩,
     ⟨(some 12), .mv (.t 1), none, [], [], false⟩,
     ⟨(some 13), .call (.c (.func (.func 51) #[] #[])) [(.t 11), (.t 12)] true, none, [], [], false⟩,
     ⟨(some 6), .mv (.t 13), none, [], [], false⟩])
  (.seq
   (.region [
     ⟨(some 15), .addOff 0 (.t 2), none, [], [], false⟩,
     ⟨(some 16), .load false 1 (.t 15), none, [], [], false⟩,
     ⟨(some 17), .mv (.t 6), none, [], [], false⟩,
     ⟨(some 18), .idxS 1 (.t 16) (.t 17), none, [], [], false⟩,
     ⟨(some 19), .load false 1 (.t 18), none, [], [], false⟩,
     ⟨(some 20), .call (.c (.func (.func 52) #[] #[])) [(.t 19)] true, none, [], [], false⟩,
     ⟨(some 14), .mv (.t 20), none, [], [], false⟩,
     ⟨(some 21), .extract (.t 14) 0, none, [], [], false⟩,
     ⟨(some 22), .extract (.t 14) 1, none, [], [], false⟩,
     ⟨(some 23), .extract (.t 14) 2, none, [], [], false⟩,
     ⟨(some 7), .mv (.t 21), none, [], [], false⟩,
     ⟨(some 8), .mv (.t 22), none, [], [], false⟩,
     ⟨(some 9), .mv (.t 23), none, [], [], false⟩])
  (.seq
   (.seq
    (.region [
      ⟨(some 24), .mv (.t 9), none, [], [], false⟩,
      ⟨(some 25), .un .not (.t 24), none, [], [], false⟩,
      ⟨(some 26), .mv (.t 25), none, [], [], false⟩,
      ⟨(some 27), .mv (.t 7), (some (26, false)), [], [], false⟩,
      ⟨(some 28), .addOff 1 (.t 2), (some (26, false)), [], [], false⟩,
      ⟨(some 29), .addOff 1 (.t 28), (some (26, false)), [], [], false⟩,
      ⟨(some 30), .load false 1 (.t 29), (some (26, false)), [], [], false⟩,
      ⟨(some 31), .bin .geq .int (.t 27) (.t 30), (some (26, false)), [], [], false⟩,
      ⟨(some 32), .pick (.t 26) (.c (.bool true)) (.t 31), none, [], [], false⟩])
   (.cond (.t 32)
    (.seq
     (.region [
       ⟨(some 33), .build [(.int .i64 0), (.slice none 0 0), (.int .u64 0), (.slice none 0 0)] [], none, [], [], false⟩,
       ⟨none, .store 4 (.t 4) (.t 33), none, [], [], false⟩,
       ⟨(some 5), .mv (.c (.bool false)), none, [], [], false⟩])
    .ret)
    .skip))
  (.seq
   (.region [
     ⟨(some 34), .mv (.t 7), none, [], [], false⟩,
     ⟨(some 35), .addOff 0 (.t 2), none, [], [], false⟩,
     ⟨(some 36), .load false 1 (.t 35), none, [], [], false⟩,
     ⟨(some 37), .mv (.t 6), none, [], [], false⟩,
     ⟨(some 38), .bin .add .int (.t 37) (.c (.int .i64 1)), none, [], [], false⟩,
     ⟨(some 39), .idxS 1 (.t 36) (.t 38), none, [], [], false⟩,
     ⟨(some 40), .load false 1 (.t 39), none, [], [], false⟩,
     ⟨(some 41), .build [(.int .i64 0), (.slice none 0 0), (.int .u64 0), (.slice none 0 0)] [(0, 1, (.t 34)), (2, 1, (.t 40))], none, [], [], false⟩,
     ⟨none, .store 4 (.t 4) (.t 41), none, [], [], false⟩])
  (.seq
   (.seq
    (.region [
      ⟨(some 42), .mv (.t 7), none, [], [], false⟩,
      ⟨(some 43), .bin .neq .int (.t 42) (.c (.int .i64 (-1))), none, [], [], false⟩])
   (.cond (.t 43)
    (.seq
     (.region [
       ⟨(some 45), .load true 7 (.t 2), none, [], [], false⟩,
       ⟨(some 46), .mv (.t 7), none, [], [], false⟩,
       ⟨(some 47), .mv (.t 8), none, [], [], false⟩,
       ⟨(some 48), .call (.c (.func (.func 53) #[] #[])) [(.t 45), (.t 46), (.t 47)] true, none, [], [], false⟩,
       ⟨(some 44), .mv (.t 48), none, [], [], false⟩,
       ⟨(some 49), .extract (.t 44) 0, none, [], [], false⟩,
       ⟨(some 50), .extract (.t 44) 1, none, [], [], false⟩,
       ⟨(some 51), .addOff 1 (.t 4), none, [], [], false⟩,
       ⟨none, .store 1 (.t 51) (.t 49), none, [], [], false⟩,
       ⟨(some 5), .mv (.t 50), none, [], [], false⟩])
    (.seq
     (.region [
       ⟨(some 52), .mv (.t 5), none, [], [], false⟩,
       ⟨(some 53), .un .not (.t 52), none, [], [], false⟩])
    (.cond (.t 53)
     (.seq
      (.region [
        ⟨(some 54), .build [(.int .i64 0), (.slice none 0 0), (.int .u64 0), (.slice none 0 0)] [], none, [], [], false⟩,
        ⟨none, .store 4 (.t 4) (.t 54), none, [], [], false⟩,
        ⟨(some 5), .mv (.c (.bool false)), none, [], [], false⟩])
     .ret)
     .skip)))
    .skip))
  (.seq
   (.seq
    (.region [
      ⟨(some 56), .load true 7 (.t 2), none, [], [], false⟩,
      ⟨(some 57), .addOff 0 (.t 2), none, [], [], false⟩,
      ⟨(some 58), .load false 1 (.t 57), none, [], [], false⟩,
      ⟨(some 59), .mv (.t 6), none, [], [], false⟩,
      ⟨(some 60), .bin .add .int (.t 59) (.c (.int .i64 2)), none, [], [], false⟩,
      ⟨(some 61), .idxS 1 (.t 58) (.t 60), none, [], [], false⟩,
      ⟨(some 62), .load false 1 (.t 61), none, [], [], false⟩,
      ⟨(some 63), .call (.c (.func (.func 29) #[] #[])) [(.t 56), (.t 62), (.c (.func (.func 54) #[] #[]))] true, none, [], [], false⟩,
      ⟨(some 55), .mv (.t 63), none, [], [], false⟩,
      ⟨(some 64), .extract (.t 55) 0, none, [], [], false⟩,
      ⟨(some 65), .extract (.t 55) 1, none, [], [], false⟩,
      ⟨(some 66), .addOff 3 (.t 4), none, [], [], false⟩,
      ⟨none, .store 1 (.t 66) (.t 64), none, [], [], false⟩,
      ⟨(some 5), .mv (.t 65), none, [], [], false⟩])
   (.seq
    (.region [
      ⟨(some 67), .mv (.t 5), none, [], [], false⟩,
      ⟨(some 68), .un .not (.t 67), none, [], [], false⟩])
   (.cond (.t 68)
    (.seq
     (.region [
       ⟨(some 69), .build [(.int .i64 0), (.slice none 0 0), (.int .u64 0), (.slice none 0 0)] [], none, [], [], false⟩,
       ⟨none, .store 4 (.t 4) (.t 69), none, [], [], false⟩,
       ⟨(some 5), .mv (.c (.bool false)), none, [], [], false⟩])
    .ret)
    .skip)))
  (.seq
   (.region [
     ⟨(some 70), .load true 4 (.t 4), none, [], [], false⟩,
     ⟨none, .store 4 (.t 4) (.t 70), none, [], [], false⟩,
     ⟨(some 5), .mv (.c (.bool true)), none, [], [], false⟩])
  .ret)))))))),
  [.cell 4 true 4, .tmp 5]⟩

/-- (wainscot/chart.reader).chain -/
def i29 : IFun := ⟨48,
  (.seq
   (.region [
     ⟨(some 3), .box 72 7 (.t 0), none, [], [], false⟩,
     ⟨(some 6), .mv (.c (.slice none 0 0)), none, [], [], false⟩,
     ⟨(some 7), .mv (.c (.bool false)), none, [], [], false⟩])
  (.seq
   (.region [
     ⟨(some 11), .mkMap, none, [], [], false⟩,
     ⟨(some 8), .mv (.t 11), none, [], [], false⟩])
  (.block 0
   (.loop
    (.block 1
     (.seq
      (.region [
        ⟨(some 13), .mv (.t 2), none, [], [], false⟩,
        ⟨(some 14), .mv (.t 1), none, [], [], false⟩,
        ⟨(some 15), .call (.t 13) [(.t 14)] false, none, [], [], false⟩,
        ⟨(some 12), .mv (.t 15), none, [], [], false⟩,
        ⟨(some 16), .extract (.t 12) 0, none, [], [], false⟩,
        ⟨(some 17), .extract (.t 12) 1, none, [], [], false⟩,
        ⟨(some 9), .mv (.t 16), none, [], [], false⟩,
        ⟨(some 10), .mv (.t 17), none, [], [], false⟩])
     (.seq
      (.block 2
       (.seq
        (.seq
         (.region [
           ⟨(some 19), .mv (.t 10), none, [], [], false⟩,
           ⟨(some 20), .un .not (.t 19), none, [], [], false⟩,
           ⟨(some 18), .mv (.t 20), none, [], [], false⟩])
        (.cond (.t 18)
         .skip
         (.seq
          (.region [
            ⟨(some 21), .mv (.t 9), none, [], [], false⟩,
            ⟨(some 22), .addOff 1 (.t 3), none, [], [], false⟩,
            ⟨(some 23), .addOff 1 (.t 22), none, [], [], false⟩,
            ⟨(some 24), .load false 1 (.t 23), none, [], [], false⟩,
            ⟨(some 25), .bin .geq .int (.t 21) (.t 24), none, [], [], false⟩,
            ⟨(some 18), .mv (.t 25), none, [], [], false⟩])
         (.cond (.t 18)
          .skip
          (.region [
            ⟨(some 26), .mv (.t 8), none, [], [], false⟩,
            ⟨(some 27), .mv (.t 9), none, [], [], false⟩,
            ⟨(some 28), .lookup (.int .i64 0) false (.t 26) (.t 27), none, [], [], false⟩,
            ⟨(some 29), .bin .gtr .int (.t 28) (.c (.int .i64 0)), none, [], [], false⟩,
            ⟨(some 18), .mv (.t 29), none, [], [], false⟩])))))
       (.cond (.t 18)
        (.seq
         (.region [
           ⟨(some 6), .mv (.c (.slice none 0 0)), none, [], [], false⟩,
           ⟨(some 7), .mv (.c (.bool false)), none, [], [], false⟩])
        .ret)
        (.seq
         (.region [
           ⟨(some 31), .mv (.t 9), none, [], [], false⟩,
           ⟨(some 32), .bin .eql .int (.t 31) (.c (.int .i64 (-1))), none, [], [], false⟩,
           ⟨(some 30), .mv (.t 32), none, [], [], false⟩])
        (.cond (.t 30)
         (.seq
          (.region [
            ⟨(some 33), .mv (.t 6), none, [], [], false⟩,
            ⟨(some 6), .mv (.t 33), none, [], [], false⟩,
            ⟨(some 7), .mv (.c (.bool true)), none, [], [], false⟩])
         .ret)
         .skip)))))
     (.seq
      (.region [
        ⟨(some 34), .mv (.t 8), none, [], [], false⟩,
        ⟨(some 35), .mv (.t 9), none, [], [], false⟩,
        ⟨none, .mapSet (.t 34) (.t 35) (.c (.int .i64 1)), none, [], [], false⟩])
     (.seq
      (.region [
        ⟨(some 36), .mv (.t 6), none, [], [], false⟩,
        ⟨(some 37), .mv (.t 9), none, [], [], false⟩,
        ⟨(some 38), .buildSlice 3 [(.int .i64 0)] 1 [(0, 1, (.t 37))], none, [], [], false⟩,
        ⟨(some 39), .append 3 1 8 (.t 36) (.t 38), none, [], [], false⟩,
        ⟨(some 6), .mv (.t 39), none, [], [], false⟩])
     (.region [
       ⟨(some 40), .addOff 0 (.t 3), none, [], [], false⟩,
       ⟨(some 41), .load false 1 (.t 40), none, [], [], false⟩,
       ⟨(some 42), .addOff 1 (.t 3), none, [], [], false⟩,
       ⟨(some 43), .load true 6 (.t 42), none, [], [], false⟩,
       ⟨(some 44), .mv (.t 9), none, [], [], false⟩,
       ⟨(some 45), .call (.c (.func (.func 16) #[] #[])) [(.t 43), (.t 44)] true, none, [], [], false⟩,
       ⟨(some 46), .idxS 1 (.t 41) (.t 45), none, [], [], false⟩,
       ⟨(some 47), .load false 1 (.t 46), none, [], [], false⟩,
       ⟨(some 1), .mv (.t 47), none, [], [], false⟩])))))))))),
  [.tmp 6, .tmp 7]⟩

/-- wainscot/chart.shelfOf -/
def i30 : IFun := ⟨9,
  (.seq
   (.region [
     ⟨(some 2), .mv (.c (.int .i64 0)), none, [], [], false⟩,
     ⟨(some 3), .mv (.c (.bool false)), none, [], [], false⟩])
  (.seq
   (.region [
     ⟨(some 4), .mv (.t 0), none, [], [], false⟩,
     ⟨(some 5), .conv .i64 (.t 4), none, [], [], false⟩,
     ⟨(some 6), .bin .sub .int (.t 5) (.c (.int .i64 1)), none, [], [], false⟩,
     ⟨(some 7), .mv (.t 0), none, [], [], false⟩,
     ⟨(some 8), .bin .leq .int (.t 7) (.c (.int .u64 32)), none, [], [], false⟩,
     ⟨(some 2), .mv (.t 6), none, [], [], false⟩,
     ⟨(some 3), .mv (.t 8), none, [], [], false⟩])
  .ret)),
  [.tmp 2, .tmp 3]⟩

/-- (wainscot/chart.reader).slab -/
def i31 : IFun := ⟨53,
  (.seq
   (.region [
     ⟨(some 2), .box 72 7 (.t 0), none, [], [], false⟩,
     ⟨(some 4), .new 48 [(.int .i64 0), (.int .i64 0), (.bool false), (.bool false), (.slice none 0 0)], none, [], [], false⟩,
     ⟨(some 5), .mv (.c (.bool false)), none, [], [], false⟩])
  (.seq
   (.region [
     ⟨(some 8), .addOff 1 (.t 2), none, [], [], false⟩,
     ⟨(some 9), .load true 6 (.t 8), none, [], [], false⟩,
     ⟨(some 10), .mv (.t 1), none, [], [], false⟩,
     ⟨(some 11), .call (.c (.func (.func 26) #[] #[])) [(.t 9), (.t 10)] true, none, [], [], false⟩,
     ⟨(some 6), .mv (.t 11), none, [], [], false⟩])
  (.seq
   (.region [
     ⟨(some 12), .addOff 0 (.t 2), none, [], [], false⟩,
     ⟨(some 13), .load false 1 (.t 12), none, [], [], false⟩,
     ⟨(some 14), .mv (.t 6), none, [], [], false⟩,
     ⟨(some 15), .idxS 1 (.t 13) (.t 14), none, [], [], false⟩,
     ⟨(some 16), .load false 1 (.t 15), none, [], [], false⟩,
     ⟨(some 7), .mv (.t 16), none, [], [], false⟩])
  (.seq
   (.seq
    (.region [
      ⟨(some 18), .addOff 0 (.t 2), none, [], [], false⟩,
      ⟨(some 19), .load false 1 (.t 18), none, [], [], false⟩,
      ⟨(some 20), .mv (.t 6), none, [], [], false⟩,
      ⟨(some 21), .bin .add .int (.t 20) (.c (.int .i64 1)), none, [], [], false⟩,
      ⟨(some 22), .idxS 1 (.t 19) (.t 21), none, [], [], false⟩,
      ⟨(some 23), .load false 1 (.t 22), none, [], [], false⟩,
      ⟨(some 24), .call (.c (.func (.func 55) #[] #[])) [(.t 23)] true, none, [], [], false⟩,
      ⟨(some 17), .mv (.t 24), none, [], [], false⟩,
      ⟨(some 25), .extract (.t 17) 0, none, [], [], false⟩,
      ⟨(some 26), .extract (.t 17) 1, none, [], [], false⟩,
      ⟨(some 27), .addOff 0 (.t 4), none, [], [], false⟩,
      ⟨none, .store 4 (.t 27) (.t 25), none, [], [], false⟩,
      ⟨(some 5), .mv (.t 26), none, [], [], false⟩])
   (.seq
    (.region [
      ⟨(some 28), .mv (.t 5), none, [], [], false⟩,
      ⟨(some 29), .un .not (.t 28), none, [], [], false⟩,
      ⟨(some 30), .mv (.t 29), none, [], [], false⟩,
      ⟨(some 31), .mv (.t 7), (some (30, false)), [], [], false⟩,
      ⟨(some 32), .addOff 1 (.t 2), (some (30, false)), [], [], false⟩,
      ⟨(some 33), .addOff 2 (.t 32), (some (30, false)), [], [], false⟩,
      ⟨(some 34), .load false 1 (.t 33), (some (30, false)), [], [], false⟩,
      ⟨(some 35), .conv .u64 (.t 34), (some (30, false)), [], [], false⟩,
      ⟨(some 36), .bin .gtr .int (.t 31) (.t 35), (some (30, false)), [], [], false⟩,
      ⟨(some 37), .pick (.t 30) (.c (.bool true)) (.t 36), none, [], [], false⟩])
   (.cond (.t 37)
    (.seq
     (.region [
       ⟨(some 38), .build [(.int .i64 0), (.int .i64 0), (.bool false), (.bool false), (.slice none 0 0)] [], none, [], [], false⟩,
       ⟨none, .store 5 (.t 4) (.t 38), none, [], [], false⟩,
       ⟨(some 5), .mv (.c (.bool false)), none, [], [], false⟩])
    .ret)
    .skip)))
  (.seq
   (.seq
    (.region [
      ⟨(some 40), .load true 7 (.t 2), none, [], [], false⟩,
      ⟨(some 41), .mv (.t 1), none, [], [], false⟩,
      ⟨(some 42), .mv (.t 7), none, [], [], false⟩,
      ⟨(some 43), .conv .i64 (.t 42), none, [], [], false⟩,
      ⟨(some 44), .bin .sub .int (.t 43) (.c (.int .i64 1)), none, [], [], false⟩,
      ⟨(some 45), .call (.c (.func (.func 53) #[] #[])) [(.t 40), (.t 41), (.t 44)] true, none, [], [], false⟩,
      ⟨(some 39), .mv (.t 45), none, [], [], false⟩,
      ⟨(some 46), .extract (.t 39) 0, none, [], [], false⟩,
      ⟨(some 47), .extract (.t 39) 1, none, [], [], false⟩,
      ⟨(some 48), .addOff 4 (.t 4), none, [], [], false⟩,
      ⟨none, .store 1 (.t 48) (.t 46), none, [], [], false⟩,
      ⟨(some 5), .mv (.t 47), none, [], [], false⟩])
   (.seq
    (.region [
      ⟨(some 49), .mv (.t 5), none, [], [], false⟩,
      ⟨(some 50), .un .not (.t 49), none, [], [], false⟩])
   (.cond (.t 50)
    (.seq
     (.region [
       ⟨(some 51), .build [(.int .i64 0), (.int .i64 0), (.bool false), (.bool false), (.slice none 0 0)] [], none, [], [], false⟩,
       ⟨none, .store 5 (.t 4) (.t 51), none, [], [], false⟩,
       ⟨(some 5), .mv (.c (.bool false)), none, [], [], false⟩])
    .ret)
    .skip)))
  (.seq
   (.region [
     ⟨(some 52), .load true 5 (.t 4), none, [], [], false⟩,
     ⟨none, .store 5 (.t 4) (.t 52), none, [], [], false⟩,
     ⟨(some 5), .mv (.c (.bool true)), none, [], [], false⟩])
  .ret)))))),
  [.cell 4 true 5, .tmp 5]⟩

/-- slices.Clone[[]uint64,uint64] -/
def i32 : IFun := ⟨8,
  (.seq
   (.region [
     ⟨(some 2), .mv (.c (.slice none 0 0)), none, [], [], false⟩])
  (.seq
   (.seq
    (.region [
      ⟨(some 3), .mv (.t 0), none, [], [], false⟩,
      ⟨(some 4), .bin .eql .slice (.t 3) (.c (.slice none 0 0)), none, [], [], false⟩])
   (.cond (.t 4)
    (.seq
     (.region [
       ⟨(some 2), .mv (.c (.slice none 0 0)), none, [], [], false⟩])
    .ret)
    .skip))
  (.seq
   (.region [
     ⟨(some 5), .buildSlice 26 [] 0 [], none, [], [], false⟩,
     ⟨(some 6), .mv (.t 0), none, [], [], false⟩,
     ⟨(some 7), .append 26 1 8 (.t 5) (.t 6), none, [], [], false⟩,
     ⟨(some 2), .mv (.t 7), none, [], [], false⟩])
  .ret))),
  [.tmp 2]⟩

/-- (*wainscot/mem.Mem).Len -/
def i33 : IFun := ⟨10,
  (.seq
   (.region [
     ⟨(some 2), .mv (.c (.int .i64 0)), none, [], [], false⟩])
  (.seq
   (.seq
    (.region [
      ⟨(some 3), .mv (.t 0), none, [], [], false⟩,
      ⟨(some 4), .bin .eql .ptr (.t 3) (.c (.pointer none)), none, [], [], false⟩])
   (.cond (.t 4)
    (.seq
     (.region [
       ⟨(some 2), .mv (.c (.int .i64 0)), none, [], [], false⟩])
    .ret)
    .skip))
  (.seq
   (.region [
     ⟨(some 5), .mv (.t 0), none, [], [], false⟩,
     ⟨(some 6), .nilCheck (.t 5), none, [], [], false⟩,
     ⟨(some 7), .addOff 0 (.t 6), none, [], [], false⟩,
     ⟨(some 8), .load false 1 (.t 7), none, [], [], false⟩,
     ⟨(some 9), .lenS (.t 8), none, [], [], false⟩,
     ⟨(some 2), .mv (.t 9), none, [], [], false⟩])
  .ret))),
  [.tmp 2]⟩

/-- (*wainscot/back.step).do -/
def i34 : IFun := ⟨35,
  (.seq
   (.region [
     ⟨(some 2), .mv (.t 0), none, [], [], false⟩,
     ⟨(some 3), .nilCheck (.t 2), none, [], [], false⟩,
     ⟨(some 4), .addOff 7 (.t 3), none, [], [], false⟩,
     ⟨(some 5), .addOff 2 (.t 4), none, [], [], false⟩,
     ⟨(some 6), .load false 1 (.t 5), none, [], [], false⟩])
  (.block 0
   (.seq
    (.seq
     (.region [
       ⟨(some 10), .bin .eql .int (.t 6) (.c (.int .i64 50)), none, [], [], false⟩,
       ⟨(some 9), .mv (.t 10), none, [], [], false⟩])
    (.cond (.t 9)
     .skip
     (.seq
      (.region [
        ⟨(some 11), .bin .eql .int (.t 6) (.c (.int .i64 51)), none, [], [], false⟩,
        ⟨(some 9), .mv (.t 11), none, [], [], false⟩])
     (.cond (.t 9)
      .skip
      (.region [
        ⟨(some 12), .bin .eql .int (.t 6) (.c (.int .i64 52)), none, [], [], false⟩,
        ⟨(some 9), .mv (.t 12), none, [], [], false⟩])))))
   (.cond (.t 9)
    (.region [
      ⟨(some 13), .mv (.t 0), none, [], [], false⟩,
      ⟨(some 14), .call (.c (.func (.func 56) #[] #[])) [(.t 13)] false, none, [], [], false⟩])
    (.seq
     (.seq
      (.region [
        ⟨(some 16), .bin .eql .int (.t 6) (.c (.int .i64 53)), none, [], [], false⟩,
        ⟨(some 15), .mv (.t 16), none, [], [], false⟩])
     (.cond (.t 15)
      .skip
      (.seq
       (.region [
         ⟨(some 17), .bin .eql .int (.t 6) (.c (.int .i64 54)), none, [], [], false⟩,
         ⟨(some 15), .mv (.t 17), none, [], [], false⟩])
      (.cond (.t 15)
       .skip
       (.region [
         ⟨(some 18), .bin .eql .int (.t 6) (.c (.int .i64 56)), none, [], [], false⟩,
         ⟨(some 15), .mv (.t 18), none, [], [], false⟩])))))
    (.cond (.t 15)
     (.region [
       ⟨(some 19), .mv (.t 0), none, [], [], false⟩,
       ⟨(some 20), .call (.c (.func (.func 57) #[] #[])) [(.t 19)] false, none, [], [], false⟩])
     (.seq
      (.seq
       (.region [
         ⟨(some 22), .bin .eql .int (.t 6) (.c (.int .i64 55)), none, [], [], false⟩,
         ⟨(some 21), .mv (.t 22), none, [], [], false⟩])
      (.cond (.t 21)
       .skip
       (.seq
        (.region [
          ⟨(some 23), .bin .eql .int (.t 6) (.c (.int .i64 57)), none, [], [], false⟩,
          ⟨(some 21), .mv (.t 23), none, [], [], false⟩])
       (.cond (.t 21)
        .skip
        (.seq
         (.region [
           ⟨(some 24), .bin .eql .int (.t 6) (.c (.int .i64 58)), none, [], [], false⟩,
           ⟨(some 21), .mv (.t 24), none, [], [], false⟩])
        (.cond (.t 21)
         .skip
         (.region [
           ⟨(some 25), .bin .eql .int (.t 6) (.c (.int .i64 59)), none, [], [], false⟩,
           ⟨(some 21), .mv (.t 25), none, [], [], false⟩])))))))
     (.cond (.t 21)
      (.region [
        ⟨(some 26), .mv (.t 0), none, [], [], false⟩,
        ⟨(some 27), .call (.c (.func (.func 58) #[] #[])) [(.t 26)] false, none, [], [], false⟩])
      (.seq
       (.seq
        (.region [
          ⟨(some 29), .bin .eql .int (.t 6) (.c (.int .i64 60)), none, [], [], false⟩,
          ⟨(some 28), .mv (.t 29), none, [], [], false⟩])
       (.cond (.t 28)
        .skip
        (.seq
         (.region [
           ⟨(some 30), .bin .eql .int (.t 6) (.c (.int .i64 61)), none, [], [], false⟩,
           ⟨(some 28), .mv (.t 30), none, [], [], false⟩])
        (.cond (.t 28)
         .skip
         (.seq
          (.region [
            ⟨(some 31), .bin .eql .int (.t 6) (.c (.int .i64 62)), none, [], [], false⟩,
            ⟨(some 28), .mv (.t 31), none, [], [], false⟩])
         (.cond (.t 28)
          .skip
          (.region [
            ⟨(some 32), .bin .eql .int (.t 6) (.c (.int .i64 63)), none, [], [], false⟩,
            ⟨(some 28), .mv (.t 32), none, [], [], false⟩])))))))
      (.cond (.t 28)
       (.region [
         ⟨(some 33), .mv (.t 0), none, [], [], false⟩,
         ⟨(some 34), .call (.c (.func (.func 59) #[] #[])) [(.t 33)] false, none, [], [], false⟩])
       (.region [
         ⟨(some 7), .mv (.t 0), none, [], [], false⟩,
         ⟨(some 8), .call (.c (.func (.func 60) #[] #[])) [(.t 7)] false, none, [], [], false⟩]))))))))))),
  []⟩

/-- (*wainscot/mem.Mem).access -/
def i35 : IFun := ⟨51,
  (.seq
   (.region [
     ⟨(some 8), .mv (.c (.int .i64 0)), none, [], [], false⟩])
  (.seq
   (.block 0
    (.seq
     (.region [
       ⟨(some 10), .mv (.t 0), none, [], [], false⟩,
       ⟨(some 11), .bin .eql .ptr (.t 10) (.c (.pointer none)), none, [], [], false⟩,
       ⟨(some 12), .mv (.t 11), none, [], [], false⟩,
       ⟨(some 13), .mv (.t 0), (some (12, false)), [], [], false⟩,
       ⟨(some 14), .nilCheck (.t 13), (some (12, false)), [], [], false⟩,
       ⟨(some 15), .addOff 0 (.t 14), (some (12, false)), [], [], false⟩,
       ⟨(some 16), .load false 1 (.t 15), (some (12, false)), [], [], false⟩,
       ⟨(some 17), .bin .eql .slice (.t 16) (.c (.slice none 0 0)), (some (12, false)), [], [], false⟩,
       ⟨(some 18), .pick (.t 12) (.c (.bool true)) (.t 17), none, [], [], false⟩,
       ⟨(some 9), .mv (.t 18), none, [], [], false⟩])
    (.cond (.t 9)
     (.seq
      (.region [
        ⟨(some 8), .mv (.c (.int .i64 1)), none, [], [], false⟩])
     .ret)
     (.seq
      (.region [
        ⟨(some 20), .mv (.t 1), none, [], [], false⟩,
        ⟨(some 21), .bin .lss .int (.t 20) (.c (.int .i64 0)), none, [], [], false⟩,
        ⟨(some 22), .mv (.t 21), none, [], [], false⟩,
        ⟨(some 23), .mv (.t 1), (some (22, false)), [], [], false⟩,
        ⟨(some 24), .mv (.t 0), (some (22, false)), [], [], false⟩,
        ⟨(some 25), .nilCheck (.t 24), (some (22, false)), [], [], false⟩,
        ⟨(some 26), .addOff 0 (.t 25), (some (22, false)), [], [], false⟩,
        ⟨(some 27), .load false 1 (.t 26), (some (22, false)), [], [], false⟩,
        ⟨(some 28), .lenS (.t 27), (some (22, false)), [], [], false⟩,
        ⟨(some 29), .mv (.t 2), (some (22, false)), [], [], false⟩,
        ⟨(some 30), .bin .sub .int (.t 28) (.t 29), (some (22, false)), [], [], false⟩,
        ⟨(some 31), .bin .gtr .int (.t 23) (.t 30), (some (22, false)), [], [], false⟩,
        ⟨(some 32), .pick (.t 22) (.c (.bool true)) (.t 31), none, [], [], false⟩,
        ⟨(some 19), .mv (.t 32), none, [], [], false⟩])
     (.cond (.t 19)
      (.seq
       (.region [
         ⟨(some 8), .mv (.c (.int .i64 9)), none, [], [], false⟩])
      .ret)
      .skip)))))
  (.seq
   (.region [
     ⟨(some 33), .mv (.t 0), none, [], [], false⟩,
     ⟨(some 34), .nilCheck (.t 33), none, [], [], false⟩,
     ⟨(some 35), .addOff 1 (.t 34), none, [], [], false⟩,
     ⟨(some 36), .load false 1 (.t 35), none, [], [], false⟩,
     ⟨(some 37), .bin .add .int (.t 36) (.c (.int .i64 1)), none, [], [], false⟩,
     ⟨(some 38), .nilCheck (.t 33), none, [], [], false⟩,
     ⟨(some 39), .addOff 1 (.t 38), none, [], [], false⟩,
     ⟨none, .store 1 (.t 39) (.t 37), none, [], [], false⟩])
  (.seq
   (.region [
     ⟨(some 40), .mv (.t 3), none, [], [], false⟩,
     ⟨(some 41), .mv (.t 0), none, [], [], false⟩,
     ⟨(some 42), .nilCheck (.t 41), none, [], [], false⟩,
     ⟨(some 43), .addOff 0 (.t 42), none, [], [], false⟩,
     ⟨(some 44), .load false 1 (.t 43), none, [], [], false⟩,
     ⟨(some 45), .mv (.t 1), none, [], [], false⟩,
     ⟨(some 46), .mv (.t 1), none, [], [], false⟩,
     ⟨(some 47), .mv (.t 2), none, [], [], false⟩,
     ⟨(some 48), .bin .add .int (.t 46) (.t 47), none, [], [], false⟩,
     ⟨(some 49), .slice 26 (.t 44) (some (.t 45)) (some (.t 48)) none, none, [], [], false⟩,
     ⟨(some 50), .call (.t 40) [(.t 49)] false, none, [], [], false⟩])
  (.seq
   (.region [
     ⟨(some 8), .mv (.c (.int .i64 0)), none, [], [], false⟩])
  .ret))))),
  [.tmp 8]⟩

/-- (*wainscot/mem.Mem).Store$1 -/
def i36 : IFun := ⟨6,
  (.region [
    ⟨(some 3), .mv (.t 0), none, [], [], false⟩,
    ⟨(some 4), .load false 1 (.t 1), none, [], [], false⟩,
    ⟨(some 5), .idxS 1 (.t 3) (.c (.int .i64 0)), none, [], [], false⟩,
    ⟨none, .store 1 (.t 5) (.t 4), none, [], [], false⟩]),
  []⟩

/-- wainscot/chart.guarded -/
def i37 : IFun := ⟨23,
  (.seq
   (.region [
     ⟨(some 4), .box 28 6 (.t 0), none, [], [], false⟩,
     ⟨(some 8), .mv (.c (.int .i64 0)), none, [], [], false⟩])
  (.seq
   (.seq
    (.region [
      ⟨(some 9), .load true 6 (.t 4), none, [], [], false⟩,
      ⟨(some 10), .call (.c (.func (.func 27) #[] #[])) [(.t 9)] true, none, [], [], false⟩,
      ⟨(some 11), .bin .neq .int (.t 10) (.c (.int .i64 0)), none, [], [], false⟩,
      ⟨(some 12), .mv (.t 11), none, [], [], false⟩,
      ⟨(some 13), .mv (.t 1), (some (12, false)), [], [], false⟩,
      ⟨(some 14), .bin .lss .int (.t 13) (.c (.int .i64 0)), (some (12, false)), [], [], false⟩,
      ⟨(some 15), .pick (.t 12) (.c (.bool true)) (.t 14), none, [], [], false⟩,
      ⟨(some 16), .mv (.t 15), none, [], [], false⟩,
      ⟨(some 17), .mv (.t 1), (some (16, false)), [], [], false⟩,
      ⟨(some 18), .mv (.t 2), (some (16, false)), [], [], false⟩,
      ⟨(some 19), .bin .geq .int (.t 17) (.t 18), (some (16, false)), [], [], false⟩,
      ⟨(some 20), .pick (.t 16) (.c (.bool true)) (.t 19), none, [], [], false⟩])
   (.cond (.t 20)
    (.seq
     (.region [
       ⟨(some 8), .mv (.c (.int .i64 (-1))), none, [], [], false⟩])
    .ret)
    .skip))
  (.seq
   (.region [
     ⟨(some 21), .mv (.t 3), none, [], [], false⟩,
     ⟨(some 22), .call (.t 21) [] false, none, [], [], false⟩,
     ⟨(some 8), .mv (.t 22), none, [], [], false⟩])
  .ret))),
  [.tmp 8]⟩

/-- wainscot/chart.Shelf$1 -/
def i38 : IFun := ⟨5,
  (.seq
   (.region [
     ⟨(some 1), .mv (.c (.int .i64 0)), none, [], [], false⟩])
  (.seq
   (.region [
     ⟨(some 2), .load true 6 (.t 0), none, [], [], false⟩,
     ⟨(some 3), .call (.c (.func (.func 39) #[] #[])) [(.t 2)] true, none, [], [], false⟩,
     ⟨(some 4), .bin .add .int (.t 3) (.c (.int .i64 1)), none, [], [], false⟩,
     ⟨(some 1), .mv (.t 4), none, [], [], false⟩])
  .ret)),
  [.tmp 1]⟩

/-- wainscot/chart.base -/
def i39 : IFun := ⟨6,
  (.seq
   (.region [
     ⟨(some 1), .box 28 6 (.t 0), none, [], [], false⟩,
     ⟨(some 2), .mv (.c (.int .i64 0)), none, [], [], false⟩])
  (.seq
   (.region [
     ⟨(some 3), .addOff 0 (.t 1), none, [], [], false⟩,
     ⟨(some 4), .load false 1 (.t 3), none, [], [], false⟩,
     ⟨(some 5), .bin .mul .int (.c (.int .i64 4)) (.t 4), none, [], [], false⟩,
     ⟨(some 2), .mv (.t 5), none, [], [], false⟩])
  .ret)),
  [.tmp 2]⟩

/-- wainscot/chart.Next$1 -/
def i40 : IFun := ⟨9,
  (.seq
   (.region [
     ⟨(some 2), .mv (.c (.int .i64 0)), none, [], [], false⟩])
  (.seq
   (.region [
     ⟨(some 3), .load true 6 (.t 0), none, [], [], false⟩,
     ⟨(some 4), .call (.c (.func (.func 41) #[] #[])) [(.t 3)] true, none, [], [], false⟩,
     ⟨(some 5), .load false 1 (.t 1), none, [], [], false⟩,
     ⟨(some 6), .bin .mul .int (.c (.int .i64 4)) (.t 5), none, [], [], false⟩,
     ⟨(some 7), .bin .add .int (.t 4) (.t 6), none, [], [], false⟩,
     ⟨(some 8), .bin .add .int (.t 7) (.c (.int .i64 2)), none, [], [], false⟩,
     ⟨(some 2), .mv (.t 8), none, [], [], false⟩])
  .ret)),
  [.tmp 2]⟩

/-- wainscot/chart.slabs -/
def i41 : IFun := ⟨6,
  (.seq
   (.region [
     ⟨(some 1), .box 28 6 (.t 0), none, [], [], false⟩,
     ⟨(some 2), .mv (.c (.int .i64 0)), none, [], [], false⟩])
  (.seq
   (.region [
     ⟨(some 3), .load true 6 (.t 1), none, [], [], false⟩,
     ⟨(some 4), .call (.c (.func (.func 39) #[] #[])) [(.t 3)] true, none, [], [], false⟩,
     ⟨(some 5), .bin .add .int (.t 4) (.c (.int .i64 4)), none, [], [], false⟩,
     ⟨(some 2), .mv (.t 5), none, [], [], false⟩])
  .ret)),
  [.tmp 2]⟩

/-- wainscot/chart.Held$1 -/
def i42 : IFun := ⟨5,
  (.seq
   (.region [
     ⟨(some 1), .mv (.c (.int .i64 0)), none, [], [], false⟩])
  (.seq
   (.region [
     ⟨(some 2), .load true 6 (.t 0), none, [], [], false⟩,
     ⟨(some 3), .call (.c (.func (.func 39) #[] #[])) [(.t 2)] true, none, [], [], false⟩,
     ⟨(some 4), .bin .add .int (.t 3) (.c (.int .i64 2)), none, [], [], false⟩,
     ⟨(some 1), .mv (.t 4), none, [], [], false⟩])
  .ret)),
  [.tmp 1]⟩

/-- (*wainscot/mem.Mem).Load$1 -/
def i43 : IFun := ⟨6,
  (.region [
    ⟨(some 3), .mv (.t 0), none, [], [], false⟩,
    ⟨(some 4), .idxS 1 (.t 3) (.c (.int .i64 0)), none, [], [], false⟩,
    ⟨(some 5), .load false 1 (.t 4), none, [], [], false⟩,
    ⟨none, .store 1 (.t 1) (.t 5), none, [], [], false⟩]),
  []⟩

/-- wainscot/chart.Lock$1 -/
def i44 : IFun := ⟨4,
  (.seq
   (.region [
     ⟨(some 1), .mv (.c (.int .i64 0)), none, [], [], false⟩])
  (.seq
   (.region [
     ⟨(some 2), .load true 6 (.t 0), none, [], [], false⟩,
     ⟨(some 3), .call (.c (.func (.func 39) #[] #[])) [(.t 2)] true, none, [], [], false⟩,
     ⟨(some 1), .mv (.t 3), none, [], [], false⟩])
  .ret)),
  [.tmp 1]⟩

/-- wainscot/chart.links -/
def i45 : IFun := ⟨9,
  (.seq
   (.region [
     ⟨(some 1), .box 28 6 (.t 0), none, [], [], false⟩,
     ⟨(some 2), .mv (.c (.int .i64 0)), none, [], [], false⟩])
  (.seq
   (.region [
     ⟨(some 3), .load true 6 (.t 1), none, [], [], false⟩,
     ⟨(some 4), .call (.c (.func (.func 41) #[] #[])) [(.t 3)] true, none, [], [], false⟩,
     ⟨(some 5), .addOff 1 (.t 1), none, [], [], false⟩,
     ⟨(some 6), .load false 1 (.t 5), none, [], [], false⟩,
     ⟨(some 7), .bin .mul .int (.c (.int .i64 4)) (.t 6), none, [], [], false⟩,
     ⟨(some 8), .bin .add .int (.t 4) (.t 7), none, [], [], false⟩,
     ⟨(some 2), .mv (.t 8), none, [], [], false⟩])
  .ret)),
  [.tmp 2]⟩

/-- wainscot/link.turned -/
def i46 : IFun := ⟨13,
  (.seq
   (.region [
     ⟨(some 4), .mv (.c (.int .u64 0)), none, [], [], false⟩])
  (.seq
   (.region [
     ⟨(some 5), .mv (.t 0), none, [], [], false⟩,
     ⟨(some 6), .mv (.t 1), none, [], [], false⟩,
     ⟨(some 7), .bin .mul .int (.c (.int .i64 5)) (.t 6), none, [], [], false⟩,
     ⟨(some 8), .call (.c (.func (.func 61) #[] #[])) [(.t 5), (.t 7)] true, none, [], [], false⟩,
     ⟨(some 9), .mv (.t 1), none, [], [], false⟩,
     ⟨(some 10), .conv .u64 (.t 9), none, [], [], false⟩,
     ⟨(some 11), .bin .mul .int (.t 10) (.c (.int .u64 2654435769)), none, [], [], false⟩,
     ⟨(some 12), .bin .add .int (.t 8) (.t 11), none, [], [], false⟩,
     ⟨(some 4), .mv (.t 12), none, [], [], false⟩])
  .ret)),
  [.tmp 4]⟩

/-- wainscot/count.may -/
def i47 : IFun := ⟨32,
  (.seq
   (.region [
     ⟨(some 1), .box 46 4 (.t 0), none, [], [], false⟩,
     ⟨(some 2), .mv (.c (.bool false)), none, [], [], false⟩])
  (.seq
   (.region [
     ⟨(some 3), .addOff 3 (.t 1), none, [], [], false⟩,
     ⟨(some 4), .load false 1 (.t 3), none, [], [], false⟩,
     ⟨(some 5), .mv (.t 4), none, [], [], false⟩,
     ⟨(some 6), .addOff 1 (.t 1), (some (5, true)), [], [], false⟩,
     ⟨(some 7), .load false 1 (.t 6), (some (5, true)), [], [], false⟩,
     ⟨(some 8), .bin .leq .int (.c (.int .i64 1)) (.t 7), (some (5, true)), [], [], false⟩,
     ⟨(some 9), .pick (.t 5) (.t 8) (.c (.bool false)), none, [], [], false⟩,
     ⟨(some 10), .mv (.t 9), none, [], [], false⟩,
     ⟨(some 11), .addOff 1 (.t 1), (some (10, true)), [], [], false⟩,
     ⟨(some 12), .load false 1 (.t 11), (some (10, true)), [], [], false⟩,
     ⟨(some 13), .bin .leq .int (.t 12) (.c (.int .i64 16)), (some (10, true)), [], [], false⟩,
     ⟨(some 14), .pick (.t 10) (.t 13) (.c (.bool false)), none, [], [], false⟩,
     ⟨(some 15), .mv (.t 14), none, [], [], false⟩,
     ⟨(some 16), .addOff 0 (.t 1), (some (15, true)), [], [], false⟩,
     ⟨(some 17), .load false 1 (.t 16), (some (15, true)), [], [], false⟩,
     ⟨(some 18), .bin .leq .int (.c (.int .i64 0)) (.t 17), (some (15, true)), [], [], false⟩,
     ⟨(some 19), .pick (.t 15) (.t 18) (.c (.bool false)), none, [], [], false⟩,
     ⟨(some 20), .mv (.t 19), none, [], [], false⟩,
     ⟨(some 21), .addOff 0 (.t 1), (some (20, true)), [], [], false⟩,
     ⟨(some 22), .load false 1 (.t 21), (some (20, true)), [], [], false⟩,
     ⟨(some 23), .addOff 1 (.t 1), (some (20, true)), [], [], false⟩,
     ⟨(some 24), .load false 1 (.t 23), (some (20, true)), [], [], false⟩,
     ⟨(some 25), .bin .leq .int (.t 22) (.t 24), (some (20, true)), [], [], false⟩,
     ⟨(some 26), .pick (.t 20) (.t 25) (.c (.bool false)), none, [], [], false⟩,
     ⟨(some 27), .mv (.t 26), none, [], [], false⟩,
     ⟨(some 28), .load true 4 (.t 1), (some (27, false)), [], [], false⟩,
     ⟨(some 29), .build [(.int .i64 0), (.int .i64 0), (.bool false), (.bool false)] [], (some (27, false)), [], [], false⟩,
     ⟨(some 30), .bin .eql (.plain [(some .i64), (some .i64), none, none]) (.t 28) (.t 29), (some (27, false)), [], [], false⟩,
     ⟨(some 31), .pick (.t 27) (.c (.bool true)) (.t 30), none, [], [], false⟩,
     ⟨(some 2), .mv (.t 31), none, [], [], false⟩])
  .ret)),
  [.tmp 2]⟩

/-- wainscot/count.flag -/
def i48 : IFun := ⟨7,
  (.seq
   (.region [
     ⟨(some 4), .mv (.c (.int .u64 0)), none, [], [], false⟩])
  (.seq
   (.seq
    (.region [
      ⟨(some 5), .mv (.t 0), none, [], [], false⟩])
   (.cond (.t 5)
    (.seq
     (.region [
       ⟨(some 6), .mv (.t 1), none, [], [], false⟩,
       ⟨(some 4), .mv (.t 6), none, [], [], false⟩])
    .ret)
    .skip))
  (.seq
   (.region [
     ⟨(some 4), .mv (.c (.int .u64 0)), none, [], [], false⟩])
  .ret))),
  [.tmp 4]⟩

/-- wainscot/chart.Link$1 -/
def i49 : IFun := ⟨13,
  (.seq
   (.region [
     ⟨(some 3), .mv (.c (.int .i64 0)), none, [], [], false⟩])
  (.seq
   (.region [
     ⟨(some 4), .load true 6 (.t 0), none, [], [], false⟩,
     ⟨(some 5), .call (.c (.func (.func 45) #[] #[])) [(.t 4)] true, none, [], [], false⟩,
     ⟨(some 6), .load false 1 (.t 1), none, [], [], false⟩,
     ⟨(some 7), .addOff 2 (.t 0), none, [], [], false⟩,
     ⟨(some 8), .load false 1 (.t 7), none, [], [], false⟩,
     ⟨(some 9), .bin .mul .int (.t 6) (.t 8), none, [], [], false⟩,
     ⟨(some 10), .bin .add .int (.t 5) (.t 9), none, [], [], false⟩,
     ⟨(some 11), .load false 1 (.t 2), none, [], [], false⟩,
     ⟨(some 12), .bin .add .int (.t 10) (.t 11), none, [], [], false⟩,
     ⟨(some 3), .mv (.t 12), none, [], [], false⟩])
  .ret)),
  [.tmp 3]⟩

/-- wainscot/chart.First$1 -/
def i50 : IFun := ⟨8,
  (.seq
   (.region [
     ⟨(some 2), .mv (.c (.int .i64 0)), none, [], [], false⟩])
  (.seq
   (.region [
     ⟨(some 3), .load true 6 (.t 0), none, [], [], false⟩,
     ⟨(some 4), .call (.c (.func (.func 41) #[] #[])) [(.t 3)] true, none, [], [], false⟩,
     ⟨(some 5), .load false 1 (.t 1), none, [], [], false⟩,
     ⟨(some 6), .bin .mul .int (.c (.int .i64 4)) (.t 5), none, [], [], false⟩,
     ⟨(some 7), .bin .add .int (.t 4) (.t 6), none, [], [], false⟩,
     ⟨(some 2), .mv (.t 7), none, [], [], false⟩])
  .ret)),
  [.tmp 2]⟩

/-- wainscot/chart.Head -/
def i51 : IFun := ⟨11,
  (.seq
   (.region [
     ⟨(some 2), .box 28 6 (.t 0), none, [], [], false⟩,
     ⟨(some 3), .box 3 1 (.t 1), none, [], [], false⟩,
     ⟨(some 4), .mv (.c (.int .i64 0)), none, [], [], false⟩])
  (.seq
   (.region [
     ⟨(some 5), .load true 6 (.t 2), none, [], [], false⟩,
     ⟨(some 6), .load false 1 (.t 3), none, [], [], false⟩,
     ⟨(some 7), .addOff 0 (.t 2), none, [], [], false⟩,
     ⟨(some 8), .load false 1 (.t 7), none, [], [], false⟩,
     ⟨(some 9), .mkFunc 62 [] [(.t 3)], none, [], [], false⟩,
     ⟨(some 10), .call (.c (.func (.func 37) #[] #[])) [(.t 5), (.t 6), (.t 8), (.t 9)] true, none, [], [], false⟩,
     ⟨(some 4), .mv (.t 10), none, [], [], false⟩])
  .ret)),
  [.tmp 4]⟩

/-- wainscot/count.HeadOf -/
def i52 : IFun := ⟨15,
  (.seq
   (.region [
     ⟨(some 2), .mv (.c (.int .i64 0)), none, [], [], false⟩,
     ⟨(some 3), .mv (.c (.int .i64 0)), none, [], [], false⟩,
     ⟨(some 4), .mv (.c (.bool false)), none, [], [], false⟩])
  (.seq
   (.region [
     ⟨(some 6), .mv (.t 0), none, [], [], false⟩,
     ⟨(some 7), .call (.c (.func (.func 63) #[] #[])) [(.t 6), (.c (.int .i64 1)), (.c (.int .i64 1)), (.c (.func (.func 64) #[] #[]))] true, none, [], [], false⟩,
     ⟨(some 5), .mv (.t 7), none, [], [], false⟩,
     ⟨(some 8), .extract (.t 5) 0, none, [], [], false⟩,
     ⟨(some 9), .extract (.t 5) 1, none, [], [], false⟩,
     ⟨(some 10), .extract (.t 5) 2, none, [], [], false⟩,
     ⟨(some 2), .mv (.t 8), none, [], [], false⟩,
     ⟨(some 3), .mv (.t 9), none, [], [], false⟩,
     ⟨(some 4), .mv (.t 10), none, [], [], false⟩])
  (.seq
   (.seq
    (.region [
      ⟨(some 11), .mv (.t 4), none, [], [], false⟩,
      ⟨(some 12), .un .not (.t 11), none, [], [], false⟩])
   (.cond (.t 12)
    (.seq
     (.region [
       ⟨(some 2), .mv (.c (.int .i64 (-1))), none, [], [], false⟩,
       ⟨(some 3), .mv (.c (.int .i64 (-1))), none, [], [], false⟩,
       ⟨(some 4), .mv (.c (.bool false)), none, [], [], false⟩])
    .ret)
    .skip))
  (.seq
   (.region [
     ⟨(some 13), .mv (.t 2), none, [], [], false⟩,
     ⟨(some 14), .mv (.t 3), none, [], [], false⟩,
     ⟨(some 2), .mv (.t 13), none, [], [], false⟩,
     ⟨(some 3), .mv (.t 14), none, [], [], false⟩,
     ⟨(some 4), .mv (.c (.bool true)), none, [], [], false⟩])
  .ret)))),
  [.tmp 2, .tmp 3, .tmp 4]⟩

/-- (wainscot/chart.reader).list -/
def i53 : IFun := ⟨41,
  (.seq
   (.region [
     ⟨(some 3), .box 72 7 (.t 0), none, [], [], false⟩,
     ⟨(some 6), .mv (.c (.slice none 0 0)), none, [], [], false⟩,
     ⟨(some 7), .mv (.c (.bool false)), none, [], [], false⟩])
  (.seq
   (.seq
    (.region [
      ⟨(some 11), .mv (.t 2), none, [], [], false⟩,
      ⟨(some 12), .addOff 1 (.t 3), none, [], [], false⟩,
      ⟨(some 13), .addOff 2 (.t 12), none, [], [], false⟩,
      ⟨(some 14), .load false 1 (.t 13), none, [], [], false⟩,
      ⟨(some 15), .bin .geq .int (.t 11) (.t 14), none, [], [], false⟩])
   (.cond (.t 15)
    (.seq
     (.region [
       ⟨(some 6), .mv (.c (.slice none 0 0)), none, [], [], false⟩,
       ⟨(some 7), .mv (.c (.bool false)), none, [], [], false⟩])
    .ret)
    .skip))
  (.seq
   (.region [
     ⟨(some 16), .addOff 1 (.t 3), none, [], [], false⟩,
     ⟨(some 17), .load true 6 (.t 16), none, [], [], false⟩,
     ⟨(some 18), .mv (.t 1), none, [], [], false⟩,
     ⟨(some 19), .call (.c (.func (.func 25) #[] #[])) [(.t 17), (.t 18), (.c (.int .i64 0))] true, none, [], [], false⟩,
     ⟨(some 8), .mv (.t 19), none, [], [], false⟩])
  (.seq
   (.region [
     ⟨(some 21), .addOff 0 (.t 3), none, [], [], false⟩,
     ⟨(some 22), .load false 1 (.t 21), none, [], [], false⟩,
     ⟨(some 23), .mv (.t 8), none, [], [], false⟩,
     ⟨(some 24), .mv (.t 8), none, [], [], false⟩,
     ⟨(some 25), .addOff 1 (.t 3), none, [], [], false⟩,
     ⟨(some 26), .addOff 2 (.t 25), none, [], [], false⟩,
     ⟨(some 27), .load false 1 (.t 26), none, [], [], false⟩,
     ⟨(some 28), .bin .add .int (.t 24) (.t 27), none, [], [], false⟩,
     ⟨(some 29), .slice 26 (.t 22) (some (.t 23)) (some (.t 28)) none, none, [], [], false⟩,
     ⟨(some 30), .addOff 1 (.t 3), none, [], [], false⟩,
     ⟨(some 31), .load true 6 (.t 30), none, [], [], false⟩,
     ⟨(some 32), .mv (.t 1), none, [], [], false⟩,
     ⟨(some 33), .call (.c (.func (.func 23) #[] #[])) [(.t 31), (.t 32)] true, none, [], [], false⟩,
     ⟨(some 34), .mv (.t 2), none, [], [], false⟩,
     ⟨(some 35), .call (.c (.func (.func 66) #[] #[])) [(.t 29), (.t 33), (.t 34)] true, none, [], [], false⟩,
     ⟨(some 20), .mv (.t 35), none, [], [], false⟩,
     ⟨(some 36), .extract (.t 20) 0, none, [], [], false⟩,
     ⟨(some 37), .extract (.t 20) 1, none, [], [], false⟩,
     ⟨(some 9), .mv (.t 36), none, [], [], false⟩,
     ⟨(some 10), .mv (.t 37), none, [], [], false⟩])
  (.seq
   (.region [
     ⟨(some 38), .mv (.t 9), none, [], [], false⟩,
     ⟨(some 39), .mv (.t 10), none, [], [], false⟩,
     ⟨(some 40), .bin .eql .int (.t 39) (.c (.int .i64 0)), none, [], [], false⟩,
     ⟨(some 6), .mv (.t 38), none, [], [], false⟩,
     ⟨(some 7), .mv (.t 40), none, [], [], false⟩])
  .ret))))),
  [.tmp 6, .tmp 7]⟩

/-- wainscot/chart.partOf -/
def i54 : IFun := ⟨15,
  (.seq
   (.region [
     ⟨(some 2), .mv (.c (.int .i64 0)), none, [], [], false⟩,
     ⟨(some 3), .mv (.c (.bool false)), none, [], [], false⟩])
  (.seq
   (.region [
     ⟨(some 8), .mv (.t 0), none, [], [], false⟩,
     ⟨(some 9), .call (.c (.func (.func 67) #[] #[])) [(.t 8)] true, none, [], [], false⟩,
     ⟨(some 7), .mv (.t 9), none, [], [], false⟩,
     ⟨(some 10), .extract (.t 7) 0, none, [], [], false⟩,
     ⟨(some 11), .extract (.t 7) 1, none, [], [], false⟩,
     ⟨(some 12), .extract (.t 7) 2, none, [], [], false⟩,
     ⟨(some 4), .mv (.t 10), none, [], [], false⟩,
     ⟨(some 5), .mv (.t 11), none, [], [], false⟩,
     ⟨(some 6), .mv (.t 12), none, [], [], false⟩])
  (.seq
   (.region [
     ⟨(some 13), .mv (.t 4), none, [], [], false⟩,
     ⟨(some 14), .mv (.t 6), none, [], [], false⟩,
     ⟨(some 2), .mv (.t 13), none, [], [], false⟩,
     ⟨(some 3), .mv (.t 14), none, [], [], false⟩])
  .ret))),
  [.tmp 2, .tmp 3]⟩

/-- wainscot/count.Counts -/
def i55 : IFun := ⟨28,
  (.seq
   (.region [
     ⟨(some 2), .new 46 [(.int .i64 0), (.int .i64 0), (.bool false), (.bool false)], none, [], [], false⟩,
     ⟨(some 3), .mv (.c (.bool false)), none, [], [], false⟩])
  (.seq
   (.region [
     ⟨(some 5), .mv (.t 0), none, [], [], false⟩,
     ⟨(some 6), .bin .and .int (.t 5) (.c (.int .u64 255)), none, [], [], false⟩,
     ⟨(some 7), .conv .i64 (.t 6), none, [], [], false⟩,
     ⟨(some 8), .mv (.t 0), none, [], [], false⟩,
     ⟨(some 9), .bin .shr .int (.t 8) (.c (.int .u64 8)), none, [], [], false⟩,
     ⟨(some 10), .bin .and .int (.t 9) (.c (.int .u64 255)), none, [], [], false⟩,
     ⟨(some 11), .conv .i64 (.t 10), none, [], [], false⟩,
     ⟨(some 12), .mv (.t 0), none, [], [], false⟩,
     ⟨(some 13), .bin .and .int (.t 12) (.c (.int .u64 65536)), none, [], [], false⟩,
     ⟨(some 14), .bin .neq .int (.t 13) (.c (.int .u64 0)), none, [], [], false⟩,
     ⟨(some 15), .mv (.t 0), none, [], [], false⟩,
     ⟨(some 16), .bin .and .int (.t 15) (.c (.int .u64 131072)), none, [], [], false⟩,
     ⟨(some 17), .bin .neq .int (.t 16) (.c (.int .u64 0)), none, [], [], false⟩,
     ⟨(some 18), .build [(.int .i64 0), (.int .i64 0), (.bool false), (.bool false)] [(0, 1, (.t 7)), (1, 1, (.t 11)), (2, 1, (.t 14)), (3, 1, (.t 17))], none, [], [], false⟩,
     ⟨(some 4), .new 46 [(.int .i64 0), (.int .i64 0), (.bool false), (.bool false)], none, [], [], false⟩,
     ⟨none, .store 4 (.t 4) (.t 18), none, [], [], false⟩])
  (.seq
   (.seq
    (.region [
      ⟨(some 19), .mv (.t 0), none, [], [], false⟩,
      ⟨(some 20), .bin .geq .int (.t 19) (.c (.int .u64 262144)), none, [], [], false⟩,
      ⟨(some 21), .mv (.t 20), none, [], [], false⟩,
      ⟨(some 22), .load true 4 (.t 4), (some (21, false)), [], [], false⟩,
      ⟨(some 23), .call (.c (.func (.func 47) #[] #[])) [(.t 22)] true, (some (21, false)), [], [], false⟩,
      ⟨(some 24), .un .not (.t 23), (some (21, false)), [], [], false⟩,
      ⟨(some 25), .pick (.t 21) (.c (.bool true)) (.t 24), none, [], [], false⟩])
   (.cond (.t 25)
    (.seq
     (.region [
       ⟨(some 26), .build [(.int .i64 0), (.int .i64 0), (.bool false), (.bool false)] [], none, [], [], false⟩,
       ⟨none, .store 4 (.t 2) (.t 26), none, [], [], false⟩,
       ⟨(some 3), .mv (.c (.bool false)), none, [], [], false⟩])
    .ret)
    .skip))
  (.seq
   (.region [
     ⟨(some 27), .load true 4 (.t 4), none, [], [], false⟩,
     ⟨none, .store 4 (.t 2) (.t 27), none, [], [], false⟩,
     ⟨(some 3), .mv (.c (.bool true)), none, [], [], false⟩])
  .ret)))),
  [.cell 2 true 4, .tmp 3]⟩

/-- (*wainscot/back.step).read -/
def i56 : IFun := ⟨170,
  (.seq
   (.region [
     ⟨(some 5), .mv (.t 0), none, [], [], false⟩,
     ⟨(some 6), .nilCheck (.t 5), none, [], [], false⟩,
     ⟨(some 7), .addOff 7 (.t 6), none, [], [], false⟩,
     ⟨(some 8), .addOff 2 (.t 7), none, [], [], false⟩,
     ⟨(some 9), .load false 1 (.t 8), none, [], [], false⟩])
  (.block 0
   (.seq
    (.region [
      ⟨(some 110), .bin .eql .int (.t 9) (.c (.int .i64 50)), none, [], [], false⟩,
      ⟨(some 109), .mv (.t 110), none, [], [], false⟩])
   (.cond (.t 109)
    (.seq
     (.region [
       ⟨(some 111), .mv (.t 0), none, [], [], false⟩,
       ⟨(some 112), .mv (.t 0), none, [], [], false⟩,
       ⟨(some 113), .mv (.t 0), none, [], [], false⟩,
       ⟨(some 114), .nilCheck (.t 113), none, [], [], false⟩,
       ⟨(some 115), .addOff 1 (.t 114), none, [], [], false⟩,
       ⟨(some 116), .load true 6 (.t 115), none, [], [], false⟩,
       ⟨(some 117), .mv (.t 0), none, [], [], false⟩,
       ⟨(some 118), .nilCheck (.t 117), none, [], [], false⟩,
       ⟨(some 119), .addOff 7 (.t 118), none, [], [], false⟩,
       ⟨(some 120), .addOff 5 (.t 119), none, [], [], false⟩,
       ⟨(some 121), .load false 1 (.t 120), none, [], [], false⟩,
       ⟨(some 122), .call (.c (.func (.func 26) #[] #[])) [(.t 116), (.t 121)] true, none, [], [], false⟩,
       ⟨(some 123), .call (.c (.func (.func 68) #[] #[])) [(.t 112), (.t 122)] false, none, [], [], false⟩,
       ⟨(some 124), .nilCheck (.t 111), none, [], [], false⟩,
       ⟨(some 125), .addOff 7 (.t 124), none, [], [], false⟩,
       ⟨(some 126), .addOff 9 (.t 125), none, [], [], false⟩,
       ⟨none, .store 1 (.t 126) (.t 123), none, [], [], false⟩])
    (.seq
     (.region [
       ⟨(some 127), .mv (.t 0), none, [], [], false⟩,
       ⟨(some 128), .mv (.t 0), none, [], [], false⟩,
       ⟨(some 129), .nilCheck (.t 128), none, [], [], false⟩,
       ⟨(some 130), .addOff 7 (.t 129), none, [], [], false⟩,
       ⟨(some 131), .addOff 9 (.t 130), none, [], [], false⟩,
       ⟨(some 132), .load false 1 (.t 131), none, [], [], false⟩,
       ⟨(some 133), .mv (.t 0), none, [], [], false⟩,
       ⟨(some 134), .nilCheck (.t 133), none, [], [], false⟩,
       ⟨(some 135), .addOff 1 (.t 134), none, [], [], false⟩,
       ⟨(some 136), .addOff 2 (.t 135), none, [], [], false⟩,
       ⟨(some 137), .load false 1 (.t 136), none, [], [], false⟩,
       ⟨(some 138), .conv .u64 (.t 137), none, [], [], false⟩,
       ⟨(some 139), .bin .leq .int (.t 132) (.t 138), none, [], [], false⟩,
       ⟨(some 140), .call (.c (.func (.func 69) #[] #[])) [(.t 127), (.t 139)] false, none, [], [], false⟩])
    (.region [
      ⟨(some 141), .mv (.t 0), none, [], [], false⟩,
      ⟨(some 142), .call (.c (.func (.func 70) #[] #[])) [(.t 141), (.c (.int .i64 51))] false, none, [], [], false⟩])))
    (.seq
     (.region [
       ⟨(some 144), .bin .eql .int (.t 9) (.c (.int .i64 51)), none, [], [], false⟩,
       ⟨(some 143), .mv (.t 144), none, [], [], false⟩])
    (.cond (.t 143)
     (.seq
      (.region [
        ⟨(some 145), .mv (.t 0), none, [], [], false⟩,
        ⟨(some 146), .mv (.t 0), none, [], [], false⟩,
        ⟨(some 147), .mv (.t 0), none, [], [], false⟩,
        ⟨(some 148), .nilCheck (.t 147), none, [], [], false⟩,
        ⟨(some 149), .addOff 1 (.t 148), none, [], [], false⟩,
        ⟨(some 150), .load true 6 (.t 149), none, [], [], false⟩,
        ⟨(some 151), .mv (.t 0), none, [], [], false⟩,
        ⟨(some 152), .nilCheck (.t 151), none, [], [], false⟩,
        ⟨(some 153), .addOff 7 (.t 152), none, [], [], false⟩,
        ⟨(some 154), .addOff 5 (.t 153), none, [], [], false⟩,
        ⟨(some 155), .load false 1 (.t 154), none, [], [], false⟩,
        ⟨(some 156), .call (.c (.func (.func 26) #[] #[])) [(.t 150), (.t 155)] true, none, [], [], false⟩,
        ⟨(some 157), .call (.c (.func (.func 71) #[] #[])) [(.t 156)] true, none, [], [], false⟩,
        ⟨(some 158), .call (.c (.func (.func 68) #[] #[])) [(.t 146), (.t 157)] false, none, [], [], false⟩,
        ⟨(some 159), .nilCheck (.t 145), none, [], [], false⟩,
        ⟨(some 160), .addOff 7 (.t 159), none, [], [], false⟩,
        ⟨(some 161), .addOff 10 (.t 160), none, [], [], false⟩,
        ⟨none, .store 1 (.t 161) (.t 158), none, [], [], false⟩])
     (.seq
      (.region [
        ⟨(some 162), .mv (.t 0), none, [], [], false⟩,
        ⟨(some 163), .mv (.t 0), none, [], [], false⟩,
        ⟨(some 164), .call (.c (.func (.func 72) #[] #[])) [(.t 163)] false, none, [], [], false⟩,
        ⟨(some 165), .field false 0 1 (.t 164), none, [], [], false⟩,
        ⟨(some 166), .bin .gtr .int (.t 165) (.c (.int .i64 0)), none, [], [], false⟩,
        ⟨(some 167), .call (.c (.func (.func 69) #[] #[])) [(.t 162), (.t 166)] false, none, [], [], false⟩])
     (.region [
       ⟨(some 168), .mv (.t 0), none, [], [], false⟩,
       ⟨(some 169), .call (.c (.func (.func 70) #[] #[])) [(.t 168), (.c (.int .i64 52))] false, none, [], [], false⟩])))
     (.seq
      (.region [
        ⟨(some 10), .mv (.t 0), none, [], [], false⟩,
        ⟨(some 11), .call (.c (.func (.func 72) #[] #[])) [(.t 10)] false, none, [], [], false⟩,
        ⟨(some 2), .new 46 [(.int .i64 0), (.int .i64 0), (.bool false), (.bool false)], none, [], [], false⟩,
        ⟨none, .store 4 (.t 2) (.t 11), none, [], [], false⟩])
     (.seq
      (.region [
        ⟨(some 13), .mv (.t 0), none, [], [], false⟩,
        ⟨(some 14), .nilCheck (.t 13), none, [], [], false⟩,
        ⟨(some 15), .addOff 7 (.t 14), none, [], [], false⟩,
        ⟨(some 16), .addOff 9 (.t 15), none, [], [], false⟩,
        ⟨(some 17), .load false 1 (.t 16), none, [], [], false⟩,
        ⟨(some 18), .conv .i64 (.t 17), none, [], [], false⟩,
        ⟨(some 19), .bin .sub .int (.t 18) (.c (.int .i64 1)), none, [], [], false⟩,
        ⟨(some 20), .mv (.t 0), none, [], [], false⟩,
        ⟨(some 21), .nilCheck (.t 20), none, [], [], false⟩,
        ⟨(some 22), .addOff 1 (.t 21), none, [], [], false⟩,
        ⟨(some 23), .load true 6 (.t 22), none, [], [], false⟩,
        ⟨(some 24), .mv (.t 0), none, [], [], false⟩,
        ⟨(some 25), .nilCheck (.t 24), none, [], [], false⟩,
        ⟨(some 26), .addOff 7 (.t 25), none, [], [], false⟩,
        ⟨(some 27), .addOff 5 (.t 26), none, [], [], false⟩,
        ⟨(some 28), .load false 1 (.t 27), none, [], [], false⟩,
        ⟨(some 29), .call (.c (.func (.func 23) #[] #[])) [(.t 23), (.t 28)] true, none, [], [], false⟩,
        ⟨(some 30), .mv (.t 0), none, [], [], false⟩,
        ⟨(some 31), .nilCheck (.t 30), none, [], [], false⟩,
        ⟨(some 32), .addOff 7 (.t 31), none, [], [], false⟩,
        ⟨(some 33), .addOff 6 (.t 32), none, [], [], false⟩,
        ⟨(some 34), .load false 1 (.t 33), none, [], [], false⟩,
        ⟨(some 35), .call (.c (.func (.func 73) #[] #[])) [(.t 19), (.t 29), (.t 34)] true, none, [], [], false⟩,
        ⟨(some 12), .mv (.t 35), none, [], [], false⟩,
        ⟨(some 36), .extract (.t 12) 0, none, [], [], false⟩,
        ⟨(some 37), .extract (.t 12) 1, none, [], [], false⟩,
        ⟨(some 3), .mv (.t 36), none, [], [], false⟩,
        ⟨(some 4), .mv (.t 37), none, [], [], false⟩])
     (.seq
      (.region [
        ⟨(some 38), .mv (.t 0), none, [], [], false⟩,
        ⟨(some 39), .addOff 0 (.t 2), none, [], [], false⟩,
        ⟨(some 40), .load false 1 (.t 39), none, [], [], false⟩,
        ⟨(some 41), .bin .gtr .int (.t 40) (.c (.int .i64 0)), none, [], [], false⟩,
        ⟨(some 42), .mv (.t 41), none, [], [], false⟩,
        ⟨(some 43), .mv (.t 0), (some (42, true)), [], [], false⟩,
        ⟨(some 44), .nilCheck (.t 43), (some (42, true)), [], [], false⟩,
        ⟨(some 45), .addOff 7 (.t 44), (some (42, true)), [], [], false⟩,
        ⟨(some 46), .addOff 9 (.t 45), (some (42, true)), [], [], false⟩,
        ⟨(some 47), .load false 1 (.t 46), (some (42, true)), [], [], false⟩,
        ⟨(some 48), .mv (.t 0), (some (42, true)), [], [], false⟩,
        ⟨(some 49), .nilCheck (.t 48), (some (42, true)), [], [], false⟩,
        ⟨(some 50), .addOff 1 (.t 49), (some (42, true)), [], [], false⟩,
        ⟨(some 51), .addOff 2 (.t 50), (some (42, true)), [], [], false⟩,
        ⟨(some 52), .load false 1 (.t 51), (some (42, true)), [], [], false⟩,
        ⟨(some 53), .conv .u64 (.t 52), (some (42, true)), [], [], false⟩,
        ⟨(some 54), .bin .leq .int (.t 47) (.t 53), (some (42, true)), [], [], false⟩,
        ⟨(some 55), .pick (.t 42) (.t 54) (.c (.bool false)), none, [], [], false⟩,
        ⟨(some 56), .mv (.t 55), none, [], [], false⟩,
        ⟨(some 57), .mv (.t 4), (some (56, true)), [], [], false⟩,
        ⟨(some 58), .bin .eql .int (.t 57) (.c (.int .i64 0)), (some (56, true)), [], [], false⟩,
        ⟨(some 59), .pick (.t 56) (.t 58) (.c (.bool false)), none, [], [], false⟩,
        ⟨(some 60), .call (.c (.func (.func 69) #[] #[])) [(.t 38), (.t 59)] false, none, [], [], false⟩])
     (.seq
      (.seq
       (.region [
         ⟨(some 61), .mv (.t 0), none, [], [], false⟩,
         ⟨(some 62), .nilCheck (.t 61), none, [], [], false⟩,
         ⟨(some 63), .addOff 24 (.t 62), none, [], [], false⟩,
         ⟨(some 64), .load false 1 (.t 63), none, [], [], false⟩])
      (.cond (.t 64)
       .ret
       .skip))
     (.seq
      (.region [
        ⟨(some 65), .mv (.t 0), none, [], [], false⟩,
        ⟨(some 66), .mv (.t 0), none, [], [], false⟩,
        ⟨(some 67), .nilCheck (.t 66), none, [], [], false⟩,
        ⟨(some 68), .addOff 1 (.t 67), none, [], [], false⟩,
        ⟨(some 69), .load true 6 (.t 68), none, [], [], false⟩,
        ⟨(some 70), .mv (.t 0), none, [], [], false⟩,
        ⟨(some 71), .nilCheck (.t 70), none, [], [], false⟩,
        ⟨(some 72), .addOff 7 (.t 71), none, [], [], false⟩,
        ⟨(some 73), .addOff 5 (.t 72), none, [], [], false⟩,
        ⟨(some 74), .load false 1 (.t 73), none, [], [], false⟩,
        ⟨(some 75), .mv (.t 0), none, [], [], false⟩,
        ⟨(some 76), .nilCheck (.t 75), none, [], [], false⟩,
        ⟨(some 77), .addOff 7 (.t 76), none, [], [], false⟩,
        ⟨(some 78), .addOff 6 (.t 77), none, [], [], false⟩,
        ⟨(some 79), .load false 1 (.t 78), none, [], [], false⟩,
        ⟨(some 80), .call (.c (.func (.func 25) #[] #[])) [(.t 69), (.t 74), (.t 79)] true, none, [], [], false⟩,
        ⟨(some 81), .mv (.t 3), none, [], [], false⟩,
        ⟨(some 82), .call (.c (.func (.func 74) #[] #[])) [(.t 65), (.t 80), (.t 81)] false, none, [], [], false⟩])
     (.block 1
      (.seq
       (.region [
         ⟨(some 92), .addOff 2 (.t 2), none, [], [], false⟩,
         ⟨(some 93), .load false 1 (.t 92), none, [], [], false⟩,
         ⟨(some 94), .mv (.t 93), none, [], [], false⟩,
         ⟨(some 95), .mv (.t 0), (some (94, false)), [], [], false⟩,
         ⟨(some 96), .nilCheck (.t 95), (some (94, false)), [], [], false⟩,
         ⟨(some 97), .addOff 7 (.t 96), (some (94, false)), [], [], false⟩,
         ⟨(some 98), .addOff 9 (.t 97), (some (94, false)), [], [], false⟩,
         ⟨(some 99), .load false 1 (.t 98), (some (94, false)), [], [], false⟩,
         ⟨(some 100), .bin .neq .int (.t 99) (.c (.int .u64 0)), (some (94, false)), [], [], false⟩,
         ⟨(some 101), .mv (.t 100), (some (94, false)), [], [], false⟩,
         ⟨(some 102), .addOff 0 (.t 2), (some (101, true)), [], [], false⟩,
         ⟨(some 103), .load false 1 (.t 102), (some (101, true)), [], [], false⟩,
         ⟨(some 104), .bin .gtr .int (.t 103) (.c (.int .i64 1)), (some (101, true)), [], [], false⟩,
         ⟨(some 105), .pick (.t 101) (.t 104) (.c (.bool false)), (some (94, false)), [], [], false⟩,
         ⟨(some 106), .pick (.t 94) (.c (.bool true)) (.t 105), none, [], [], false⟩,
         ⟨(some 91), .mv (.t 106), none, [], [], false⟩])
      (.cond (.t 91)
       (.region [
         ⟨(some 107), .mv (.t 0), none, [], [], false⟩,
         ⟨(some 108), .call (.c (.func (.func 70) #[] #[])) [(.t 107), (.c (.int .i64 53))] false, none, [], [], false⟩])
       (.region [
         ⟨(some 83), .mv (.t 0), none, [], [], false⟩,
         ⟨(some 84), .mv (.t 0), none, [], [], false⟩,
         ⟨(some 85), .nilCheck (.t 84), none, [], [], false⟩,
         ⟨(some 86), .addOff 7 (.t 85), none, [], [], false⟩,
         ⟨(some 87), .addOff 9 (.t 86), none, [], [], false⟩,
         ⟨(some 88), .load false 1 (.t 87), none, [], [], false⟩,
         ⟨(some 89), .bin .eql .int (.t 88) (.c (.int .u64 0)), none, [], [], false⟩,
         ⟨(some 90), .call (.c (.func (.func 75) #[] #[])) [(.t 83), (.t 89), (.c (.int .i64 54)), (.c (.int .i64 55))] false, none, [], [], false⟩]))))))))))))))),
  []⟩

/-- (*wainscot/back.step).gives -/
def i57 : IFun := ⟨57,
  (.seq
   (.region [
     ⟨(some 1), .box 84 1 (.t 0), none, [], [], false⟩])
  (.seq
   (.region [
     ⟨(some 5), .load false 1 (.t 1), none, [], [], false⟩,
     ⟨(some 6), .mkFunc 77 [] [(.t 1)], none, [], [], false⟩,
     ⟨(some 7), .call (.c (.func (.func 76) #[] #[])) [(.t 5), (.t 6)] false, none, [], [], false⟩,
     ⟨(some 4), .mv (.t 7), none, [], [], false⟩,
     ⟨(some 8), .extract (.t 4) 0, none, [], [], false⟩,
     ⟨(some 9), .extract (.t 4) 1, none, [], [], false⟩,
     ⟨(some 2), .mv (.t 8), none, [], [], false⟩,
     ⟨(some 3), .mv (.t 9), none, [], [], false⟩])
  (.block 0
   (.seq
    (.region [
      ⟨(some 29), .mv (.t 3), none, [], [], false⟩,
      ⟨(some 30), .un .not (.t 29), none, [], [], false⟩,
      ⟨(some 28), .mv (.t 30), none, [], [], false⟩])
   (.cond (.t 28)
    (.region [
      ⟨(some 31), .load false 1 (.t 1), none, [], [], false⟩,
      ⟨(some 32), .load false 1 (.t 1), none, [], [], false⟩,
      ⟨(some 33), .nilCheck (.t 32), none, [], [], false⟩,
      ⟨(some 34), .addOff 7 (.t 33), none, [], [], false⟩,
      ⟨(some 35), .addOff 2 (.t 34), none, [], [], false⟩,
      ⟨(some 36), .load false 1 (.t 35), none, [], [], false⟩,
      ⟨(some 37), .bin .eql .int (.t 36) (.c (.int .i64 56)), none, [], [], false⟩,
      ⟨(some 38), .call (.c (.func (.func 75) #[] #[])) [(.t 31), (.t 37), (.c (.int .i64 57)), (.c (.int .i64 50))] false, none, [], [], false⟩])
    (.seq
     (.region [
       ⟨(some 40), .load false 1 (.t 1), none, [], [], false⟩,
       ⟨(some 41), .nilCheck (.t 40), none, [], [], false⟩,
       ⟨(some 42), .addOff 7 (.t 41), none, [], [], false⟩,
       ⟨(some 43), .addOff 2 (.t 42), none, [], [], false⟩,
       ⟨(some 44), .load false 1 (.t 43), none, [], [], false⟩,
       ⟨(some 45), .bin .eql .int (.t 44) (.c (.int .i64 53)), none, [], [], false⟩,
       ⟨(some 39), .mv (.t 45), none, [], [], false⟩])
    (.cond (.t 39)
     (.region [
       ⟨(some 46), .load false 1 (.t 1), none, [], [], false⟩,
       ⟨(some 47), .call (.c (.func (.func 78) #[] #[])) [(.t 46)] false, none, [], [], false⟩])
     (.seq
      (.region [
        ⟨(some 49), .load false 1 (.t 1), none, [], [], false⟩,
        ⟨(some 50), .nilCheck (.t 49), none, [], [], false⟩,
        ⟨(some 51), .addOff 7 (.t 50), none, [], [], false⟩,
        ⟨(some 52), .addOff 2 (.t 51), none, [], [], false⟩,
        ⟨(some 53), .load false 1 (.t 52), none, [], [], false⟩,
        ⟨(some 54), .bin .eql .int (.t 53) (.c (.int .i64 54)), none, [], [], false⟩,
        ⟨(some 48), .mv (.t 54), none, [], [], false⟩])
     (.cond (.t 48)
      (.region [
        ⟨(some 55), .load false 1 (.t 1), none, [], [], false⟩,
        ⟨(some 56), .call (.c (.func (.func 70) #[] #[])) [(.t 55), (.c (.int .i64 60))] false, none, [], [], false⟩])
      (.seq
       (.region [
         ⟨(some 10), .load false 1 (.t 1), none, [], [], false⟩,
         ⟨(some 11), .load false 1 (.t 1), none, [], [], false⟩,
         ⟨(some 12), .load false 1 (.t 1), none, [], [], false⟩,
         ⟨(some 13), .nilCheck (.t 12), none, [], [], false⟩,
         ⟨(some 14), .addOff 7 (.t 13), none, [], [], false⟩,
         ⟨(some 15), .addOff 6 (.t 14), none, [], [], false⟩,
         ⟨(some 16), .load false 1 (.t 15), none, [], [], false⟩,
         ⟨(some 17), .bin .add .int (.t 16) (.c (.int .i64 1)), none, [], [], false⟩,
         ⟨(some 18), .conv .u64 (.t 17), none, [], [], false⟩,
         ⟨(some 19), .mv (.t 2), none, [], [], false⟩,
         ⟨(some 20), .nilCheck (.t 10), none, [], [], false⟩,
         ⟨(some 21), .addOff 7 (.t 20), none, [], [], false⟩,
         ⟨(some 22), .addOff 9 (.t 21), none, [], [], false⟩,
         ⟨none, .store 1 (.t 22) (.t 18), none, [], [1], false⟩,
         ⟨(some 23), .nilCheck (.t 11), none, [], [], false⟩,
         ⟨(some 24), .addOff 7 (.t 23), none, [], [], false⟩,
         ⟨(some 25), .addOff 10 (.t 24), none, [], [], false⟩,
         ⟨none, .store 1 (.t 25) (.t 19), none, [], [], false⟩])
      (.region [
        ⟨(some 26), .load false 1 (.t 1), none, [], [], false⟩,
        ⟨(some 27), .call (.c (.func (.func 70) #[] #[])) [(.t 26), (.c (.int .i64 58))] false, none, [], [], false⟩]))))))))))),
  []⟩

/-- (*wainscot/back.step).locked -/
def i58 : IFun := ⟨66,
  (.seq
   (.region [
     ⟨(some 4), .mv (.t 0), none, [], [], false⟩,
     ⟨(some 5), .nilCheck (.t 4), none, [], [], false⟩,
     ⟨(some 6), .addOff 7 (.t 5), none, [], [], false⟩,
     ⟨(some 7), .addOff 2 (.t 6), none, [], [], false⟩,
     ⟨(some 8), .load false 1 (.t 7), none, [], [], false⟩])
  (.block 0
   (.seq
    (.region [
      ⟨(some 27), .bin .eql .int (.t 8) (.c (.int .i64 55)), none, [], [], false⟩,
      ⟨(some 26), .mv (.t 27), none, [], [], false⟩])
   (.cond (.t 26)
    (.seq
     (.region [
       ⟨(some 29), .mv (.t 0), none, [], [], false⟩,
       ⟨(some 30), .nilCheck (.t 29), none, [], [], false⟩,
       ⟨(some 31), .addOff 0 (.t 30), none, [], [], false⟩,
       ⟨(some 32), .load false 1 (.t 31), none, [], [], false⟩,
       ⟨(some 33), .mv (.t 0), none, [], [], false⟩,
       ⟨(some 34), .nilCheck (.t 33), none, [], [], false⟩,
       ⟨(some 35), .addOff 1 (.t 34), none, [], [], false⟩,
       ⟨(some 36), .load true 6 (.t 35), none, [], [], false⟩,
       ⟨(some 37), .call (.c (.func (.func 19) #[] #[])) [(.t 36)] true, none, [], [], false⟩,
       ⟨(some 38), .call (.c (.func (.func 79) #[] #[])) [(.t 32), (.t 37), (.c (.int .u64 0)), (.c (.int .u64 1))] false, none, [], [], false⟩,
       ⟨(some 28), .mv (.t 38), none, [], [], false⟩,
       ⟨(some 39), .extract (.t 28) 0, none, [], [], false⟩,
       ⟨(some 40), .extract (.t 28) 1, none, [], [], false⟩,
       ⟨(some 2), .mv (.t 39), none, [], [], false⟩,
       ⟨(some 3), .mv (.t 40), none, [], [], false⟩])
    (.seq
     (.region [
       ⟨(some 41), .mv (.t 0), none, [], [], false⟩,
       ⟨(some 42), .mv (.t 3), none, [], [], false⟩,
       ⟨(some 43), .bin .eql .int (.t 42) (.c (.int .i64 0)), none, [], [], false⟩,
       ⟨(some 44), .call (.c (.func (.func 69) #[] #[])) [(.t 41), (.t 43)] false, none, [], [], false⟩])
    (.region [
      ⟨(some 45), .mv (.t 0), none, [], [], false⟩,
      ⟨(some 46), .mv (.t 2), none, [], [], false⟩,
      ⟨(some 47), .call (.c (.func (.func 75) #[] #[])) [(.t 45), (.t 46), (.c (.int .i64 56)), (.c (.int .i64 55))] false, none, [], [], false⟩])))
    (.seq
     (.region [
       ⟨(some 49), .bin .eql .int (.t 8) (.c (.int .i64 58)), none, [], [], false⟩,
       ⟨(some 48), .mv (.t 49), none, [], [], false⟩])
    (.cond (.t 48)
     (.region [
       ⟨(some 50), .mv (.t 0), none, [], [], false⟩,
       ⟨(some 51), .mv (.t 0), none, [], [], false⟩,
       ⟨(some 52), .mv (.t 0), none, [], [], false⟩,
       ⟨(some 53), .nilCheck (.t 52), none, [], [], false⟩,
       ⟨(some 54), .addOff 1 (.t 53), none, [], [], false⟩,
       ⟨(some 55), .load true 6 (.t 54), none, [], [], false⟩,
       ⟨(some 56), .call (.c (.func (.func 17) #[] #[])) [(.t 55)] true, none, [], [], false⟩,
       ⟨(some 57), .call (.c (.func (.func 68) #[] #[])) [(.t 51), (.t 56)] false, none, [], [], true⟩,
       ⟨(some 58), .mv (.t 0), none, [], [], false⟩,
       ⟨(some 59), .nilCheck (.t 58), none, [], [], false⟩,
       ⟨(some 60), .addOff 1 (.t 59), none, [], [], false⟩,
       ⟨(some 61), .addOff 3 (.t 60), none, [], [], false⟩,
       ⟨(some 62), .load false 1 (.t 61), none, [7], [], false⟩,
       ⟨(some 63), .conv .u64 (.t 62), none, [], [], false⟩,
       ⟨(some 64), .bin .gtr .int (.t 57) (.t 63), none, [], [], false⟩,
       ⟨(some 65), .call (.c (.func (.func 75) #[] #[])) [(.t 50), (.t 64), (.c (.int .i64 64)), (.c (.int .i64 59))] false, none, [], [], false⟩])
     (.seq
      (.region [
        ⟨(some 9), .mv (.t 0), none, [], [], false⟩,
        ⟨(some 10), .mv (.t 0), none, [], [], false⟩,
        ⟨(some 11), .nilCheck (.t 10), none, [], [], false⟩,
        ⟨(some 12), .addOff 1 (.t 11), none, [], [], false⟩,
        ⟨(some 13), .load true 6 (.t 12), none, [], [], false⟩,
        ⟨(some 14), .call (.c (.func (.func 19) #[] #[])) [(.t 13)] true, none, [], [], false⟩,
        ⟨(some 15), .call (.c (.func (.func 74) #[] #[])) [(.t 9), (.t 14), (.c (.int .u64 0))] false, none, [], [], false⟩])
     (.seq
      (.region [
        ⟨(some 16), .mv (.t 0), none, [], [], false⟩,
        ⟨(some 17), .nilCheck (.t 16), none, [], [], false⟩,
        ⟨(some 18), .addOff 7 (.t 17), none, [], [], false⟩,
        ⟨(some 19), .addOff 2 (.t 18), none, [], [], false⟩,
        ⟨(some 20), .load false 1 (.t 19), none, [], [], false⟩,
        ⟨(some 21), .bin .eql .int (.t 20) (.c (.int .i64 59)), none, [], [], false⟩])
     (.cond (.t 21)
      (.region [
        ⟨(some 22), .mv (.t 0), none, [], [], false⟩,
        ⟨(some 23), .call (.c (.func (.func 78) #[] #[])) [(.t 22)] false, none, [], [], false⟩])
      (.region [
        ⟨(some 24), .mv (.t 0), none, [], [], false⟩,
        ⟨(some 25), .call (.c (.func (.func 70) #[] #[])) [(.t 24), (.c (.int .i64 50))] false, none, [], [], false⟩])))))))))),
  []⟩

/-- (*wainscot/back.step).kept -/
def i59 : IFun := ⟨169,
  (.seq
   (.region [
     ⟨(some 11), .mv (.t 0), none, [], [], false⟩,
     ⟨(some 12), .nilCheck (.t 11), none, [], [], false⟩,
     ⟨(some 13), .addOff 1 (.t 12), none, [], [], false⟩,
     ⟨(some 14), .load true 6 (.t 13), none, [], [], false⟩,
     ⟨(some 15), .mv (.t 0), none, [], [], false⟩,
     ⟨(some 16), .nilCheck (.t 15), none, [], [], false⟩,
     ⟨(some 17), .addOff 7 (.t 16), none, [], [], false⟩,
     ⟨(some 18), .addOff 1 (.t 17), none, [], [], false⟩,
     ⟨(some 19), .load false 1 (.t 18), none, [], [], false⟩,
     ⟨(some 20), .call (.c (.func (.func 80) #[] #[])) [(.t 14), (.t 19)] true, none, [], [], false⟩,
     ⟨(some 2), .mv (.t 20), none, [], [], false⟩])
  (.seq
   (.region [
     ⟨(some 21), .mv (.t 0), none, [], [], false⟩,
     ⟨(some 22), .nilCheck (.t 21), none, [], [], false⟩,
     ⟨(some 23), .addOff 7 (.t 22), none, [], [], false⟩,
     ⟨(some 24), .addOff 2 (.t 23), none, [], [], false⟩,
     ⟨(some 25), .load false 1 (.t 24), none, [], [], false⟩])
  (.block 0
   (.seq
    (.region [
      ⟨(some 83), .bin .eql .int (.t 25) (.c (.int .i64 60)), none, [], [], false⟩,
      ⟨(some 82), .mv (.t 83), none, [], [], false⟩])
   (.cond (.t 82)
    (.seq
     (.region [
       ⟨(some 84), .mv (.t 0), none, [], [], false⟩,
       ⟨(some 85), .mv (.t 0), none, [], [], false⟩,
       ⟨(some 86), .mv (.t 2), none, [], [], false⟩,
       ⟨(some 87), .call (.c (.func (.func 71) #[] #[])) [(.t 86)] true, none, [], [], false⟩,
       ⟨(some 88), .call (.c (.func (.func 68) #[] #[])) [(.t 85), (.t 87)] false, none, [], [], false⟩,
       ⟨(some 89), .nilCheck (.t 84), none, [], [], false⟩,
       ⟨(some 90), .addOff 7 (.t 89), none, [], [], false⟩,
       ⟨(some 91), .addOff 8 (.t 90), none, [], [], false⟩,
       ⟨none, .store 1 (.t 91) (.t 88), none, [], [], false⟩])
    (.region [
      ⟨(some 92), .mv (.t 0), none, [], [], false⟩,
      ⟨(some 93), .call (.c (.func (.func 70) #[] #[])) [(.t 92), (.c (.int .i64 61))] false, none, [], [], false⟩]))
    (.seq
     (.region [
       ⟨(some 95), .bin .eql .int (.t 25) (.c (.int .i64 61)), none, [], [], false⟩,
       ⟨(some 94), .mv (.t 95), none, [], [], false⟩])
    (.cond (.t 94)
     (.seq
      (.region [
        ⟨(some 96), .mv (.t 0), none, [], [], false⟩,
        ⟨(some 97), .mv (.t 0), none, [], [], false⟩,
        ⟨(some 98), .mv (.t 2), none, [], [], false⟩,
        ⟨(some 99), .call (.c (.func (.func 68) #[] #[])) [(.t 97), (.t 98)] false, none, [], [], false⟩,
        ⟨(some 100), .nilCheck (.t 96), none, [], [], false⟩,
        ⟨(some 101), .addOff 7 (.t 100), none, [], [], false⟩,
        ⟨(some 102), .addOff 11 (.t 101), none, [], [], false⟩,
        ⟨none, .store 1 (.t 102) (.t 99), none, [], [], false⟩])
     (.seq
      (.region [
        ⟨(some 104), .mv (.t 0), none, [], [], false⟩,
        ⟨(some 105), .nilCheck (.t 104), none, [], [], false⟩,
        ⟨(some 106), .addOff 7 (.t 105), none, [], [], false⟩,
        ⟨(some 107), .addOff 11 (.t 106), none, [], [], false⟩,
        ⟨(some 108), .load false 1 (.t 107), none, [], [], false⟩,
        ⟨(some 109), .call (.c (.func (.func 67) #[] #[])) [(.t 108)] true, none, [], [], false⟩,
        ⟨(some 103), .mv (.t 109), none, [], [], false⟩,
        ⟨(some 110), .extract (.t 103) 0, none, [], [], false⟩,
        ⟨(some 111), .extract (.t 103) 1, none, [], [], false⟩,
        ⟨(some 112), .extract (.t 103) 2, none, [], [], false⟩,
        ⟨(some 3), .mv (.t 110), none, [], [], false⟩,
        ⟨(some 4), .mv (.t 111), none, [], [], false⟩,
        ⟨(some 5), .mv (.t 112), none, [], [], false⟩])
     (.seq
      (.region [
        ⟨(some 113), .mv (.t 0), none, [], [], false⟩,
        ⟨(some 114), .mv (.t 5), none, [], [], false⟩,
        ⟨(some 115), .mv (.t 114), none, [], [], false⟩,
        ⟨(some 116), .mv (.t 3), (some (115, true)), [], [], false⟩,
        ⟨(some 117), .mv (.t 0), (some (115, true)), [], [], false⟩,
        ⟨(some 118), .nilCheck (.t 117), (some (115, true)), [], [], false⟩,
        ⟨(some 119), .addOff 1 (.t 118), (some (115, true)), [], [], false⟩,
        ⟨(some 120), .addOff 1 (.t 119), (some (115, true)), [], [], false⟩,
        ⟨(some 121), .load false 1 (.t 120), (some (115, true)), [], [], false⟩,
        ⟨(some 122), .bin .lss .int (.t 116) (.t 121), (some (115, true)), [], [], false⟩,
        ⟨(some 123), .pick (.t 115) (.t 122) (.c (.bool false)), none, [], [], false⟩,
        ⟨(some 124), .call (.c (.func (.func 69) #[] #[])) [(.t 113), (.t 123)] false, none, [], [], false⟩])
     (.seq
      (.region [
        ⟨(some 125), .mv (.t 0), none, [], [], false⟩,
        ⟨(some 126), .call (.c (.func (.func 70) #[] #[])) [(.t 125), (.c (.int .i64 62))] false, none, [], [], false⟩])
     (.seq
      (.region [
        ⟨(some 127), .mv (.t 4), none, [], [], false⟩,
        ⟨(some 128), .mv (.t 0), none, [], [], false⟩,
        ⟨(some 129), .nilCheck (.t 128), none, [], [], false⟩,
        ⟨(some 130), .addOff 1 (.t 129), none, [], [], false⟩,
        ⟨(some 131), .addOff 4 (.t 130), none, [], [], false⟩,
        ⟨(some 132), .load false 1 (.t 131), none, [], [], false⟩,
        ⟨(some 133), .bin .geq .int (.t 127) (.t 132), none, [], [], false⟩])
     (.cond (.t 133)
      (.seq
       (.region [
         ⟨(some 134), .mv (.t 0), none, [], [], false⟩,
         ⟨(some 135), .mv (.t 0), none, [], [], false⟩,
         ⟨(some 136), .mv (.t 0), none, [], [], false⟩,
         ⟨(some 137), .nilCheck (.t 134), none, [], [], false⟩,
         ⟨(some 138), .addOff 7 (.t 137), none, [], [], false⟩,
         ⟨(some 139), .addOff 6 (.t 138), none, [], [], false⟩,
         ⟨none, .store 1 (.t 139) (.c (.int .i64 (-1))), none, [], [], false⟩,
         ⟨(some 140), .nilCheck (.t 135), none, [], [], false⟩,
         ⟨(some 141), .addOff 7 (.t 140), none, [], [], false⟩,
         ⟨(some 142), .addOff 13 (.t 141), none, [], [], false⟩,
         ⟨none, .store 1 (.t 142) (.c (.int .i64 0)), none, [], [], false⟩,
         ⟨(some 143), .nilCheck (.t 136), none, [], [], false⟩,
         ⟨(some 144), .addOff 7 (.t 143), none, [], [], false⟩,
         ⟨(some 145), .addOff 15 (.t 144), none, [], [], false⟩,
         ⟨none, .store 1 (.t 145) (.c (.int .i64 0)), none, [], [], false⟩])
      (.region [
        ⟨(some 146), .mv (.t 0), none, [], [], false⟩,
        ⟨(some 147), .call (.c (.func (.func 70) #[] #[])) [(.t 146), (.c (.int .i64 80))] false, none, [], [], false⟩]))
      .skip))))))
     (.seq
      (.region [
        ⟨(some 149), .bin .eql .int (.t 25) (.c (.int .i64 62)), none, [], [], false⟩,
        ⟨(some 148), .mv (.t 149), none, [], [], false⟩])
     (.cond (.t 148)
      (.seq
       (.region [
         ⟨(some 150), .mv (.t 0), none, [], [], false⟩,
         ⟨(some 151), .mv (.t 0), none, [], [], false⟩,
         ⟨(some 152), .nilCheck (.t 151), none, [], [], false⟩,
         ⟨(some 153), .addOff 1 (.t 152), none, [], [], false⟩,
         ⟨(some 154), .load true 6 (.t 153), none, [], [], false⟩,
         ⟨(some 155), .mv (.t 0), none, [], [], false⟩,
         ⟨(some 156), .nilCheck (.t 155), none, [], [], false⟩,
         ⟨(some 157), .addOff 7 (.t 156), none, [], [], false⟩,
         ⟨(some 158), .addOff 5 (.t 157), none, [], [], false⟩,
         ⟨(some 159), .load false 1 (.t 158), none, [], [], false⟩,
         ⟨(some 160), .call (.c (.func (.func 16) #[] #[])) [(.t 154), (.t 159)] true, none, [], [], false⟩,
         ⟨(some 161), .mv (.t 0), none, [], [], false⟩,
         ⟨(some 162), .nilCheck (.t 161), none, [], [], false⟩,
         ⟨(some 163), .addOff 7 (.t 162), none, [], [], false⟩,
         ⟨(some 164), .addOff 11 (.t 163), none, [], [], false⟩,
         ⟨(some 165), .load false 1 (.t 164), none, [], [], false⟩,
         ⟨(some 166), .call (.c (.func (.func 74) #[] #[])) [(.t 150), (.t 160), (.t 165)] false, none, [], [], false⟩])
      (.region [
        ⟨(some 167), .mv (.t 0), none, [], [], false⟩,
        ⟨(some 168), .call (.c (.func (.func 70) #[] #[])) [(.t 167), (.c (.int .i64 63))] false, none, [], [], false⟩]))
      (.seq
       (.region [
         ⟨(some 27), .mv (.t 0), none, [], [], false⟩,
         ⟨(some 28), .nilCheck (.t 27), none, [], [], false⟩,
         ⟨(some 29), .addOff 7 (.t 28), none, [], [], false⟩,
         ⟨(some 30), .addOff 11 (.t 29), none, [], [], false⟩,
         ⟨(some 31), .load false 1 (.t 30), none, [], [], false⟩,
         ⟨(some 32), .call (.c (.func (.func 67) #[] #[])) [(.t 31)] true, none, [], [], false⟩,
         ⟨(some 26), .mv (.t 32), none, [], [], false⟩,
         ⟨(some 33), .extract (.t 26) 0, none, [], [], false⟩,
         ⟨(some 34), .extract (.t 26) 1, none, [], [], false⟩,
         ⟨(some 35), .extract (.t 26) 2, none, [], [], false⟩,
         ⟨(some 6), .mv (.t 33), none, [], [], false⟩,
         ⟨(some 7), .mv (.t 34), none, [], [], false⟩,
         ⟨(some 8), .mv (.t 35), none, [], [], false⟩])
      (.seq
       (.region [
         ⟨(some 37), .mv (.t 0), none, [], [], false⟩,
         ⟨(some 38), .nilCheck (.t 37), none, [], [], false⟩,
         ⟨(some 39), .addOff 7 (.t 38), none, [], [], false⟩,
         ⟨(some 40), .addOff 5 (.t 39), none, [], [], false⟩,
         ⟨(some 41), .load false 1 (.t 40), none, [], [], false⟩,
         ⟨(some 42), .mv (.t 7), none, [], [], false⟩,
         ⟨(some 43), .bin .add .int (.t 42) (.c (.int .i64 1)), none, [], [], false⟩,
         ⟨(some 44), .call (.c (.func (.func 81) #[] #[])) [(.t 41), (.t 43)] true, none, [], [], false⟩,
         ⟨(some 36), .mv (.t 44), none, [], [], false⟩,
         ⟨(some 45), .extract (.t 36) 0, none, [], [], false⟩,
         ⟨(some 46), .extract (.t 36) 1, none, [], [], false⟩,
         ⟨(some 9), .mv (.t 45), none, [], [], false⟩,
         ⟨(some 10), .mv (.t 46), none, [], [], false⟩])
      (.seq
       (.region [
         ⟨(some 47), .mv (.t 0), none, [], [], false⟩,
         ⟨(some 48), .mv (.t 8), none, [], [], false⟩,
         ⟨(some 49), .mv (.t 48), none, [], [], false⟩,
         ⟨(some 50), .mv (.t 10), (some (49, true)), [], [], false⟩,
         ⟨(some 51), .bin .eql .int (.t 50) (.c (.int .i64 0)), (some (49, true)), [], [], false⟩,
         ⟨(some 52), .pick (.t 49) (.t 51) (.c (.bool false)), none, [], [], false⟩,
         ⟨(some 53), .call (.c (.func (.func 69) #[] #[])) [(.t 47), (.t 52)] false, none, [], [], false⟩])
      (.seq
       (.seq
        (.region [
          ⟨(some 54), .mv (.t 0), none, [], [], false⟩,
          ⟨(some 55), .nilCheck (.t 54), none, [], [], false⟩,
          ⟨(some 56), .addOff 24 (.t 55), none, [], [], false⟩,
          ⟨(some 57), .load false 1 (.t 56), none, [], [], false⟩])
       (.cond (.t 57)
        .ret
        .skip))
      (.seq
       (.region [
         ⟨(some 58), .mv (.t 0), none, [], [], false⟩,
         ⟨(some 59), .mv (.t 2), none, [], [], false⟩,
         ⟨(some 60), .mv (.t 0), none, [], [], false⟩,
         ⟨(some 61), .nilCheck (.t 60), none, [], [], false⟩,
         ⟨(some 62), .addOff 7 (.t 61), none, [], [], false⟩,
         ⟨(some 63), .addOff 11 (.t 62), none, [], [], false⟩,
         ⟨(some 64), .load false 1 (.t 63), none, [], [], false⟩,
         ⟨(some 65), .mv (.t 0), none, [], [], false⟩,
         ⟨(some 66), .nilCheck (.t 65), none, [], [], false⟩,
         ⟨(some 67), .addOff 7 (.t 66), none, [], [], false⟩,
         ⟨(some 68), .addOff 8 (.t 67), none, [], [], false⟩,
         ⟨(some 69), .load false 1 (.t 68), none, [], [], false⟩,
         ⟨(some 70), .mv (.t 9), none, [], [], false⟩,
         ⟨(some 71), .mv (.t 0), none, [], [], false⟩,
         ⟨(some 72), .nilCheck (.t 71), none, [], [], false⟩,
         ⟨(some 73), .addOff 7 (.t 72), none, [], [], false⟩,
         ⟨(some 74), .addOff 8 (.t 73), none, [], [], false⟩,
         ⟨(some 75), .load false 1 (.t 74), none, [], [], false⟩,
         ⟨(some 76), .bin .add .int (.t 75) (.c (.int .u64 1)), none, [], [], false⟩,
         ⟨(some 77), .call (.c (.func (.func 82) #[] #[])) [(.t 58), (.t 59), (.t 64), (.t 69), (.t 70), (.t 76)] false, none, [], [], false⟩])
      (.cond (.t 77)
       (.region [
         ⟨(some 78), .mv (.t 0), none, [], [], false⟩,
         ⟨(some 79), .call (.c (.func (.func 78) #[] #[])) [(.t 78)] false, none, [], [], false⟩])
       (.region [
         ⟨(some 80), .mv (.t 0), none, [], [], false⟩,
         ⟨(some 81), .call (.c (.func (.func 70) #[] #[])) [(.t 80), (.c (.int .i64 60))] false, none, [], [], false⟩])))))))))))))))),
  []⟩

/-- (*wainscot/back.step).taken -/
def i60 : IFun := ⟨179,
  (.seq
   (.region [
     ⟨(some 7), .mv (.t 0), none, [], [], false⟩,
     ⟨(some 8), .nilCheck (.t 7), none, [], [], false⟩,
     ⟨(some 9), .addOff 7 (.t 8), none, [], [], false⟩,
     ⟨(some 10), .addOff 2 (.t 9), none, [], [], false⟩,
     ⟨(some 11), .load false 1 (.t 10), none, [], [], false⟩])
  (.block 0
   (.seq
    (.seq
     (.region [
       ⟨(some 36), .bin .eql .int (.t 11) (.c (.int .i64 64)), none, [], [], false⟩,
       ⟨(some 35), .mv (.t 36), none, [], [], false⟩])
    (.cond (.t 35)
     .skip
     (.region [
       ⟨(some 37), .bin .eql .int (.t 11) (.c (.int .i64 65)), none, [], [], false⟩,
       ⟨(some 35), .mv (.t 37), none, [], [], false⟩])))
   (.cond (.t 35)
    (.seq
     (.region [
       ⟨(some 38), .mv (.t 0), none, [], [], false⟩,
       ⟨(some 39), .nilCheck (.t 38), none, [], [], false⟩,
       ⟨(some 40), .addOff 1 (.t 39), none, [], [], false⟩,
       ⟨(some 41), .load true 6 (.t 40), none, [], [], false⟩,
       ⟨(some 42), .call (.c (.func (.func 15) #[] #[])) [(.t 41)] true, none, [], [], false⟩,
       ⟨(some 2), .mv (.t 42), none, [], [], false⟩])
    (.seq
     (.seq
      (.region [
        ⟨(some 43), .mv (.t 0), none, [], [], false⟩,
        ⟨(some 44), .nilCheck (.t 43), none, [], [], false⟩,
        ⟨(some 45), .addOff 7 (.t 44), none, [], [], false⟩,
        ⟨(some 46), .addOff 2 (.t 45), none, [], [], false⟩,
        ⟨(some 47), .load false 1 (.t 46), none, [], [], false⟩,
        ⟨(some 48), .bin .eql .int (.t 47) (.c (.int .i64 65)), none, [], [], false⟩])
     (.cond (.t 48)
      (.region [
        ⟨(some 49), .mv (.t 0), none, [], [], false⟩,
        ⟨(some 50), .nilCheck (.t 49), none, [], [], false⟩,
        ⟨(some 51), .addOff 1 (.t 50), none, [], [], false⟩,
        ⟨(some 52), .load true 6 (.t 51), none, [], [], false⟩,
        ⟨(some 53), .mv (.t 0), none, [], [], false⟩,
        ⟨(some 54), .nilCheck (.t 53), none, [], [], false⟩,
        ⟨(some 55), .addOff 7 (.t 54), none, [], [], false⟩,
        ⟨(some 56), .addOff 14 (.t 55), none, [], [], false⟩,
        ⟨(some 57), .load false 1 (.t 56), none, [], [], false⟩,
        ⟨(some 58), .call (.c (.func (.func 16) #[] #[])) [(.t 52), (.t 57)] true, none, [], [], false⟩,
        ⟨(some 2), .mv (.t 58), none, [], [], false⟩])
      .skip))
    (.seq
     (.region [
       ⟨(some 59), .mv (.t 0), none, [], [], false⟩,
       ⟨(some 60), .mv (.t 2), none, [], [], false⟩,
       ⟨(some 61), .call (.c (.func (.func 68) #[] #[])) [(.t 59), (.t 60)] false, none, [], [], false⟩,
       ⟨(some 3), .mv (.t 61), none, [], [], false⟩])
    (.seq
     (.region [
       ⟨(some 62), .mv (.t 0), none, [], [], false⟩,
       ⟨(some 63), .mv (.t 3), none, [], [], false⟩,
       ⟨(some 64), .bin .geq .int (.t 63) (.c (.int .u64 1)), none, [], [], false⟩,
       ⟨(some 65), .mv (.t 64), none, [], [], false⟩,
       ⟨(some 66), .mv (.t 3), (some (65, true)), [], [], false⟩,
       ⟨(some 67), .mv (.t 0), (some (65, true)), [], [], false⟩,
       ⟨(some 68), .nilCheck (.t 67), (some (65, true)), [], [], false⟩,
       ⟨(some 69), .addOff 1 (.t 68), (some (65, true)), [], [], false⟩,
       ⟨(some 70), .addOff 1 (.t 69), (some (65, true)), [], [], false⟩,
       ⟨(some 71), .load false 1 (.t 70), (some (65, true)), [], [], false⟩,
       ⟨(some 72), .conv .u64 (.t 71), (some (65, true)), [], [], false⟩,
       ⟨(some 73), .bin .leq .int (.t 66) (.t 72), (some (65, true)), [], [], false⟩,
       ⟨(some 74), .pick (.t 65) (.t 73) (.c (.bool false)), none, [], [], false⟩,
       ⟨(some 75), .call (.c (.func (.func 69) #[] #[])) [(.t 62), (.t 74)] false, none, [], [], false⟩])
    (.seq
     (.seq
      (.region [
        ⟨(some 76), .mv (.t 0), none, [], [], false⟩,
        ⟨(some 77), .nilCheck (.t 76), none, [], [], false⟩,
        ⟨(some 78), .addOff 7 (.t 77), none, [], [], false⟩,
        ⟨(some 79), .addOff 2 (.t 78), none, [], [], false⟩,
        ⟨(some 80), .load false 1 (.t 79), none, [], [], false⟩,
        ⟨(some 81), .bin .eql .int (.t 80) (.c (.int .i64 64)), none, [], [], false⟩])
     (.cond (.t 81)
      (.region [
        ⟨(some 82), .mv (.t 0), none, [], [], false⟩,
        ⟨(some 83), .nilCheck (.t 82), none, [], [], false⟩,
        ⟨(some 84), .addOff 7 (.t 83), none, [], [], false⟩,
        ⟨(some 85), .addOff 14 (.t 84), none, [], [], false⟩,
        ⟨none, .store 1 (.t 85) (.c (.int .i64 (-1))), none, [], [], false⟩])
      .skip))
    (.seq
     (.seq
      (.region [
        ⟨(some 86), .mv (.t 0), none, [], [], false⟩,
        ⟨(some 87), .nilCheck (.t 86), none, [], [], false⟩,
        ⟨(some 88), .addOff 24 (.t 87), none, [], [], false⟩,
        ⟨(some 89), .load false 1 (.t 88), none, [], [], false⟩,
        ⟨(some 90), .mv (.t 89), none, [], [], false⟩,
        ⟨(some 91), .mv (.t 3), (some (90, false)), [], [], false⟩,
        ⟨(some 92), .conv .i64 (.t 91), (some (90, false)), [], [], false⟩,
        ⟨(some 93), .bin .sub .int (.t 92) (.c (.int .i64 1)), (some (90, false)), [], [], false⟩,
        ⟨(some 94), .mv (.t 0), (some (90, false)), [], [], false⟩,
        ⟨(some 95), .nilCheck (.t 94), (some (90, false)), [], [], false⟩,
        ⟨(some 96), .addOff 7 (.t 95), (some (90, false)), [], [], false⟩,
        ⟨(some 97), .addOff 5 (.t 96), (some (90, false)), [], [], false⟩,
        ⟨(some 98), .load false 1 (.t 97), (some (90, false)), [], [], false⟩,
        ⟨(some 99), .bin .eql .int (.t 93) (.t 98), (some (90, false)), [], [], false⟩,
        ⟨(some 100), .pick (.t 90) (.c (.bool true)) (.t 99), none, [], [], false⟩])
     (.cond (.t 100)
      (.seq
       (.region [
         ⟨(some 101), .mv (.t 0), none, [], [], false⟩,
         ⟨(some 102), .call (.c (.func (.func 70) #[] #[])) [(.t 101), (.c (.int .i64 66))] false, none, [], [], false⟩])
      .ret)
      .skip))
    (.seq
     (.region [
       ⟨(some 103), .mv (.t 0), none, [], [], false⟩,
       ⟨(some 104), .mv (.t 3), none, [], [], false⟩,
       ⟨(some 105), .conv .i64 (.t 104), none, [], [], false⟩,
       ⟨(some 106), .bin .sub .int (.t 105) (.c (.int .i64 1)), none, [], [], false⟩,
       ⟨(some 107), .nilCheck (.t 103), none, [], [], false⟩,
       ⟨(some 108), .addOff 7 (.t 107), none, [], [], false⟩,
       ⟨(some 109), .addOff 14 (.t 108), none, [], [], false⟩,
       ⟨none, .store 1 (.t 109) (.t 106), none, [], [], false⟩])
    (.region [
      ⟨(some 110), .mv (.t 0), none, [], [], false⟩,
      ⟨(some 111), .call (.c (.func (.func 70) #[] #[])) [(.t 110), (.c (.int .i64 65))] false, none, [], [], false⟩]))))))))
    (.seq
     (.region [
       ⟨(some 113), .bin .eql .int (.t 11) (.c (.int .i64 66)), none, [], [], false⟩,
       ⟨(some 112), .mv (.t 113), none, [], [], false⟩])
    (.cond (.t 112)
     (.seq
      (.region [
        ⟨(some 114), .mv (.t 0), none, [], [], false⟩,
        ⟨(some 115), .mv (.t 0), none, [], [], false⟩,
        ⟨(some 116), .mv (.t 0), none, [], [], false⟩,
        ⟨(some 117), .nilCheck (.t 116), none, [], [], false⟩,
        ⟨(some 118), .addOff 1 (.t 117), none, [], [], false⟩,
        ⟨(some 119), .load true 6 (.t 118), none, [], [], false⟩,
        ⟨(some 120), .mv (.t 0), none, [], [], false⟩,
        ⟨(some 121), .nilCheck (.t 120), none, [], [], false⟩,
        ⟨(some 122), .addOff 7 (.t 121), none, [], [], false⟩,
        ⟨(some 123), .addOff 5 (.t 122), none, [], [], false⟩,
        ⟨(some 124), .load false 1 (.t 123), none, [], [], false⟩,
        ⟨(some 125), .call (.c (.func (.func 16) #[] #[])) [(.t 119), (.t 124)] true, none, [], [], false⟩,
        ⟨(some 126), .call (.c (.func (.func 68) #[] #[])) [(.t 115), (.t 125)] false, none, [], [], false⟩,
        ⟨(some 127), .nilCheck (.t 114), none, [], [], false⟩,
        ⟨(some 128), .addOff 7 (.t 127), none, [], [], false⟩,
        ⟨(some 129), .addOff 11 (.t 128), none, [], [], false⟩,
        ⟨none, .store 1 (.t 129) (.t 126), none, [], [], false⟩])
     (.seq
      (.region [
        ⟨(some 130), .mv (.t 0), none, [], [], false⟩,
        ⟨(some 131), .mv (.t 0), none, [], [], false⟩,
        ⟨(some 132), .nilCheck (.t 131), none, [], [], false⟩,
        ⟨(some 133), .addOff 7 (.t 132), none, [], [], false⟩,
        ⟨(some 134), .addOff 11 (.t 133), none, [], [], false⟩,
        ⟨(some 135), .load false 1 (.t 134), none, [], [], false⟩,
        ⟨(some 136), .mv (.t 0), none, [], [], false⟩,
        ⟨(some 137), .nilCheck (.t 136), none, [], [], false⟩,
        ⟨(some 138), .addOff 1 (.t 137), none, [], [], false⟩,
        ⟨(some 139), .addOff 1 (.t 138), none, [], [], false⟩,
        ⟨(some 140), .load false 1 (.t 139), none, [], [], false⟩,
        ⟨(some 141), .conv .u64 (.t 140), none, [], [], false⟩,
        ⟨(some 142), .bin .leq .int (.t 135) (.t 141), none, [], [], false⟩,
        ⟨(some 143), .call (.c (.func (.func 69) #[] #[])) [(.t 130), (.t 142)] false, none, [], [], false⟩])
     (.region [
       ⟨(some 144), .mv (.t 0), none, [], [], false⟩,
       ⟨(some 145), .call (.c (.func (.func 70) #[] #[])) [(.t 144), (.c (.int .i64 67))] false, none, [], [], false⟩])))
     (.seq
      (.region [
        ⟨(some 147), .bin .eql .int (.t 11) (.c (.int .i64 67)), none, [], [], false⟩,
        ⟨(some 146), .mv (.t 147), none, [], [], false⟩])
     (.cond (.t 146)
      (.seq
       (.region [
         ⟨(some 148), .mv (.t 0), none, [], [], false⟩,
         ⟨(some 149), .nilCheck (.t 148), none, [], [], false⟩,
         ⟨(some 150), .addOff 1 (.t 149), none, [], [], false⟩,
         ⟨(some 151), .load true 6 (.t 150), none, [], [], false⟩,
         ⟨(some 152), .call (.c (.func (.func 15) #[] #[])) [(.t 151)] true, none, [], [], false⟩,
         ⟨(some 4), .mv (.t 152), none, [], [], false⟩])
      (.seq
       (.seq
        (.region [
          ⟨(some 153), .mv (.t 0), none, [], [], false⟩,
          ⟨(some 154), .nilCheck (.t 153), none, [], [], false⟩,
          ⟨(some 155), .addOff 7 (.t 154), none, [], [], false⟩,
          ⟨(some 156), .addOff 14 (.t 155), none, [], [], false⟩,
          ⟨(some 157), .load false 1 (.t 156), none, [], [], false⟩,
          ⟨(some 158), .bin .neq .int (.t 157) (.c (.int .i64 (-1))), none, [], [], false⟩])
       (.cond (.t 158)
        (.region [
          ⟨(some 159), .mv (.t 0), none, [], [], false⟩,
          ⟨(some 160), .nilCheck (.t 159), none, [], [], false⟩,
          ⟨(some 161), .addOff 1 (.t 160), none, [], [], false⟩,
          ⟨(some 162), .load true 6 (.t 161), none, [], [], false⟩,
          ⟨(some 163), .mv (.t 0), none, [], [], false⟩,
          ⟨(some 164), .nilCheck (.t 163), none, [], [], false⟩,
          ⟨(some 165), .addOff 7 (.t 164), none, [], [], false⟩,
          ⟨(some 166), .addOff 14 (.t 165), none, [], [], false⟩,
          ⟨(some 167), .load false 1 (.t 166), none, [], [], false⟩,
          ⟨(some 168), .call (.c (.func (.func 16) #[] #[])) [(.t 162), (.t 167)] true, none, [], [], false⟩,
          ⟨(some 4), .mv (.t 168), none, [], [], false⟩])
        .skip))
      (.seq
       (.region [
         ⟨(some 169), .mv (.t 0), none, [], [], false⟩,
         ⟨(some 170), .mv (.t 4), none, [], [], false⟩,
         ⟨(some 171), .mv (.t 0), none, [], [], false⟩,
         ⟨(some 172), .nilCheck (.t 171), none, [], [], false⟩,
         ⟨(some 173), .addOff 7 (.t 172), none, [], [], false⟩,
         ⟨(some 174), .addOff 11 (.t 173), none, [], [], false⟩,
         ⟨(some 175), .load false 1 (.t 174), none, [], [], false⟩,
         ⟨(some 176), .call (.c (.func (.func 74) #[] #[])) [(.t 169), (.t 170), (.t 175)] false, none, [], [], false⟩])
      (.region [
        ⟨(some 177), .mv (.t 0), none, [], [], false⟩,
        ⟨(some 178), .call (.c (.func (.func 70) #[] #[])) [(.t 177), (.c (.int .i64 68))] false, none, [], [], false⟩]))))
      (.seq
       (.region [
         ⟨(some 13), .mv (.t 0), none, [], [], false⟩,
         ⟨(some 14), .nilCheck (.t 13), none, [], [], false⟩,
         ⟨(some 15), .addOff 0 (.t 14), none, [], [], false⟩,
         ⟨(some 16), .load false 1 (.t 15), none, [], [], false⟩,
         ⟨(some 17), .mv (.t 0), none, [], [], false⟩,
         ⟨(some 18), .nilCheck (.t 17), none, [], [], false⟩,
         ⟨(some 19), .addOff 1 (.t 18), none, [], [], false⟩,
         ⟨(some 20), .load true 6 (.t 19), none, [], [], false⟩,
         ⟨(some 21), .call (.c (.func (.func 17) #[] #[])) [(.t 20)] true, none, [], [], false⟩,
         ⟨(some 22), .call (.c (.func (.func 83) #[] #[])) [(.t 16), (.t 21), (.c (.int .u64 18446744073709551615))] false, none, [], [], false⟩,
         ⟨(some 12), .mv (.t 22), none, [], [], false⟩,
         ⟨(some 23), .extract (.t 12) 0, none, [], [], false⟩,
         ⟨(some 24), .extract (.t 12) 1, none, [], [], false⟩,
         ⟨(some 5), .mv (.t 23), none, [], [], false⟩,
         ⟨(some 6), .mv (.t 24), none, [], [], false⟩])
      (.seq
       (.region [
         ⟨(some 25), .mv (.t 0), none, [], [], false⟩,
         ⟨(some 26), .mv (.t 6), none, [], [], false⟩,
         ⟨(some 27), .bin .eql .int (.t 26) (.c (.int .i64 0)), none, [], [], false⟩,
         ⟨(some 28), .call (.c (.func (.func 69) #[] #[])) [(.t 25), (.t 27)] false, none, [], [], false⟩])
      (.seq
       (.region [
         ⟨(some 29), .mv (.t 0), none, [], [], false⟩,
         ⟨(some 30), .nilCheck (.t 29), none, [], [], false⟩,
         ⟨(some 31), .addOff 7 (.t 30), none, [], [], false⟩,
         ⟨(some 32), .addOff 15 (.t 31), none, [], [], false⟩,
         ⟨none, .store 1 (.t 32) (.c (.int .i64 0)), none, [], [], false⟩])
      (.region [
        ⟨(some 33), .mv (.t 0), none, [], [], false⟩,
        ⟨(some 34), .call (.c (.func (.func 70) #[] #[])) [(.t 33), (.c (.int .i64 76))] false, none, [], [], false⟩])))))))))))),
  []⟩

/-- math/bits.RotateLeft64 -/
def i61 : IFun := ⟨17,
  (.seq
   (.region [
     ⟨(some 4), .mv (.c (.int .u64 0)), none, [], [], false⟩])
  (.seq
   (.region [
     ⟨(some 6), .mv (.t 1), none, [], [], false⟩,
     ⟨(some 7), .conv .u64 (.t 6), none, [], [], false⟩,
     ⟨(some 8), .bin .and .int (.t 7) (.c (.int .u64 63)), none, [], [], false⟩,
     ⟨(some 5), .mv (.t 8), none, [], [], false⟩])
  (.seq
   (.region [
     ⟨(some 9), .mv (.t 0), none, [], [], false⟩,
     ⟨(some 10), .mv (.t 5), none, [], [], false⟩,
     ⟨(some 11), .bin .shl .int (.t 9) (.t 10), none, [], [], false⟩,
     ⟨(some 12), .mv (.t 0), none, [], [], false⟩,
     ⟨(some 13), .mv (.t 5), none, [], [], false⟩,
     ⟨(some 14), .bin .sub .int (.c (.int .u64 64)) (.t 13), none, [], [], false⟩,
     ⟨(some 15), .bin .shr .int (.t 12) (.t 14), none, [], [], false⟩,
     ⟨(some 16), .bin .or .int (.t 11) (.t 15), none, [], [], false⟩,
     ⟨(some 4), .mv (.t 16), none, [], [], false⟩])
  .ret))),
  [.tmp 4]⟩

/-- wainscot/chart.Head$1 -/
def i62 : IFun := ⟨4,
  (.seq
   (.region [
     ⟨(some 1), .mv (.c (.int .i64 0)), none, [], [], false⟩])
  (.seq
   (.region [
     ⟨(some 2), .load false 1 (.t 0), none, [], [], false⟩,
     ⟨(some 3), .bin .mul .int (.c (.int .i64 4)) (.t 2), none, [], [], false⟩,
     ⟨(some 1), .mv (.t 3), none, [], [], false⟩])
  .ret)),
  [.tmp 1]⟩

/-- wainscot/count.told[int] -/
def i63 : IFun := ⟨34,
  (.seq
   (.region [
     ⟨(some 8), .mv (.c (.int .i64 0)), none, [], [], false⟩,
     ⟨(some 9), .mv (.c (.int .i64 0)), none, [], [], false⟩,
     ⟨(some 10), .mv (.c (.bool false)), none, [], [], false⟩])
  (.seq
   (.region [
     ⟨(some 13), .mv (.t 0), none, [], [], false⟩,
     ⟨(some 14), .bin .shr .int (.t 13) (.c (.int .u64 6)), none, [], [], false⟩,
     ⟨(some 15), .conv .i64 (.t 14), none, [], [], false⟩,
     ⟨(some 16), .mv (.t 1), none, [], [], false⟩,
     ⟨(some 17), .bin .sub .int (.t 15) (.t 16), none, [], [], false⟩,
     ⟨(some 18), .mv (.t 0), none, [], [], false⟩,
     ⟨(some 19), .bin .and .int (.t 18) (.c (.int .u64 63)), none, [], [], false⟩,
     ⟨(some 20), .conv .i64 (.t 19), none, [], [], false⟩,
     ⟨(some 21), .mv (.t 2), none, [], [], false⟩,
     ⟨(some 22), .bin .sub .int (.t 20) (.t 21), none, [], [], false⟩,
     ⟨(some 11), .mv (.t 17), none, [], [], false⟩,
     ⟨(some 12), .mv (.t 22), none, [], [], false⟩])
  (.seq
   (.seq
    (.region [
      ⟨(some 23), .mv (.t 0), none, [], [], false⟩,
      ⟨(some 24), .bin .gtr .int (.t 23) (.c (.int .u64 4095)), none, [], [], false⟩,
      ⟨(some 25), .mv (.t 24), none, [], [], false⟩,
      ⟨(some 26), .mv (.t 3), (some (25, false)), [], [], false⟩,
      ⟨(some 27), .mv (.t 11), (some (25, false)), [], [], false⟩,
      ⟨(some 28), .mv (.t 12), (some (25, false)), [], [], false⟩,
      ⟨(some 29), .call (.t 26) [(.t 27), (.t 28)] false, (some (25, false)), [], [], false⟩,
      ⟨(some 30), .un .not (.t 29), (some (25, false)), [], [], false⟩,
      ⟨(some 31), .pick (.t 25) (.c (.bool true)) (.t 30), none, [], [], false⟩])
   (.cond (.t 31)
    (.seq
     (.region [
       ⟨(some 8), .mv (.c (.int .i64 0)), none, [], [], false⟩,
       ⟨(some 9), .mv (.c (.int .i64 0)), none, [], [], false⟩,
       ⟨(some 10), .mv (.c (.bool false)), none, [], [], false⟩])
    .ret)
    .skip))
  (.seq
   (.region [
     ⟨(some 32), .mv (.t 11), none, [], [], false⟩,
     ⟨(some 33), .mv (.t 12), none, [], [], false⟩,
     ⟨(some 8), .mv (.t 32), none, [], [], false⟩,
     ⟨(some 9), .mv (.t 33), none, [], [], false⟩,
     ⟨(some 10), .mv (.c (.bool true)), none, [], [], false⟩])
  .ret)))),
  [.tmp 8, .tmp 9, .tmp 10]⟩

/-- wainscot/count.HeadOf$1 -/
def i64 : IFun := ⟨15,
  (.seq
   (.region [
     ⟨(some 4), .mv (.c (.bool false)), none, [], [], false⟩])
  (.seq
   (.region [
     ⟨(some 8), .mv (.t 0), none, [], [], false⟩,
     ⟨(some 9), .mv (.t 1), none, [], [], false⟩,
     ⟨(some 10), .call (.c (.func (.func 65) #[] #[])) [(.t 8), (.t 9)] true, none, [], [], false⟩,
     ⟨(some 7), .mv (.t 10), none, [], [], false⟩,
     ⟨(some 11), .extract (.t 7) 0, none, [], [], false⟩,
     ⟨(some 12), .extract (.t 7) 1, none, [], [], false⟩,
     ⟨(some 5), .mv (.t 11), none, [], [], false⟩,
     ⟨(some 6), .mv (.t 12), none, [], [], false⟩])
  (.seq
   (.region [
     ⟨(some 13), .mv (.t 6), none, [], [], false⟩,
     ⟨(some 14), .bin .eql .int (.t 13) (.c (.int .i64 0)), none, [], [], false⟩,
     ⟨(some 4), .mv (.t 14), none, [], [], false⟩])
  .ret))),
  [.tmp 4]⟩

/-- wainscot/count.Head -/
def i65 : IFun := ⟨33,
  (.seq
   (.region [
     ⟨(some 4), .mv (.c (.int .u64 0)), none, [], [], false⟩,
     ⟨(some 5), .mv (.c (.int .i64 0)), none, [], [], false⟩])
  (.seq
   (.block 0
    (.seq
     (.region [
       ⟨(some 7), .mv (.t 0), none, [], [], false⟩,
       ⟨(some 8), .bin .eql .int (.t 7) (.c (.int .i64 (-1))), none, [], [], false⟩,
       ⟨(some 9), .mv (.t 8), none, [], [], false⟩,
       ⟨(some 10), .mv (.t 1), (some (9, true)), [], [], false⟩,
       ⟨(some 11), .bin .eql .int (.t 10) (.c (.int .i64 (-1))), (some (9, true)), [], [], false⟩,
       ⟨(some 12), .pick (.t 9) (.t 11) (.c (.bool false)), none, [], [], false⟩,
       ⟨(some 6), .mv (.t 12), none, [], [], false⟩])
    (.cond (.t 6)
     (.seq
      (.region [
        ⟨(some 4), .mv (.c (.int .u64 0)), none, [], [], false⟩,
        ⟨(some 5), .mv (.c (.int .i64 0)), none, [], [], false⟩])
     .ret)
     (.seq
      (.region [
        ⟨(some 14), .mv (.t 0), none, [], [], false⟩,
        ⟨(some 15), .call (.c (.func (.func 84) #[] #[])) [(.t 14)] true, none, [], [], false⟩,
        ⟨(some 16), .un .not (.t 15), none, [], [], false⟩,
        ⟨(some 17), .mv (.t 16), none, [], [], false⟩,
        ⟨(some 18), .mv (.t 1), (some (17, false)), [], [], false⟩,
        ⟨(some 19), .bin .lss .int (.t 18) (.c (.int .i64 (-1))), (some (17, false)), [], [], false⟩,
        ⟨(some 20), .pick (.t 17) (.c (.bool true)) (.t 19), none, [], [], false⟩,
        ⟨(some 21), .mv (.t 20), none, [], [], false⟩,
        ⟨(some 22), .mv (.t 1), (some (21, false)), [], [], false⟩,
        ⟨(some 23), .bin .geq .int (.t 22) (.c (.int .i64 16)), (some (21, false)), [], [], false⟩,
        ⟨(some 24), .pick (.t 21) (.c (.bool true)) (.t 23), none, [], [], false⟩,
        ⟨(some 13), .mv (.t 24), none, [], [], false⟩])
     (.cond (.t 13)
      (.seq
       (.region [
         ⟨(some 4), .mv (.c (.int .u64 0)), none, [], [], false⟩,
         ⟨(some 5), .mv (.c (.int .i64 2)), none, [], [], false⟩])
      .ret)
      .skip)))))
  (.seq
   (.region [
     ⟨(some 25), .mv (.t 0), none, [], [], false⟩,
     ⟨(some 26), .bin .add .int (.t 25) (.c (.int .i64 1)), none, [], [], false⟩,
     ⟨(some 27), .conv .u64 (.t 26), none, [], [], false⟩,
     ⟨(some 28), .bin .shl .int (.t 27) (.c (.int .u64 6)), none, [], [], false⟩,
     ⟨(some 29), .mv (.t 1), none, [], [], false⟩,
     ⟨(some 30), .bin .add .int (.t 29) (.c (.int .i64 1)), none, [], [], false⟩,
     ⟨(some 31), .conv .u64 (.t 30), none, [], [], false⟩,
     ⟨(some 32), .bin .or .int (.t 28) (.t 31), none, [], [], false⟩,
     ⟨(some 4), .mv (.t 32), none, [], [], false⟩,
     ⟨(some 5), .mv (.c (.int .i64 0)), none, [], [], false⟩])
  .ret))),
  [.tmp 4, .tmp 5]⟩

/-- wainscot/link.List -/
def i66 : IFun := ⟨58,
  (.seq
   (.region [
     ⟨(some 6), .mv (.c (.slice none 0 0)), none, [], [], false⟩,
     ⟨(some 7), .mv (.c (.int .i64 0)), none, [], [], false⟩])
  (.seq
   (.seq
    (.region [
      ⟨(some 12), .mv (.t 0), none, [], [], false⟩,
      ⟨(some 13), .lenS (.t 12), none, [], [], false⟩,
      ⟨(some 14), .bin .gtr .int (.t 13) (.c (.int .i64 16)), none, [], [], false⟩,
      ⟨(some 15), .mv (.t 14), none, [], [], false⟩,
      ⟨(some 16), .mv (.t 2), (some (15, false)), [], [], false⟩,
      ⟨(some 17), .bin .lss .int (.t 16) (.c (.int .i64 (-1))), (some (15, false)), [], [], false⟩,
      ⟨(some 18), .pick (.t 15) (.c (.bool true)) (.t 17), none, [], [], false⟩,
      ⟨(some 19), .mv (.t 18), none, [], [], false⟩,
      ⟨(some 20), .mv (.t 2), (some (19, false)), [], [], false⟩,
      ⟨(some 21), .mv (.t 0), (some (19, false)), [], [], false⟩,
      ⟨(some 22), .lenS (.t 21), (some (19, false)), [], [], false⟩,
      ⟨(some 23), .bin .geq .int (.t 20) (.t 22), (some (19, false)), [], [], false⟩,
      ⟨(some 24), .pick (.t 19) (.c (.bool true)) (.t 23), none, [], [], false⟩])
   (.cond (.t 24)
    (.seq
     (.region [
       ⟨(some 6), .mv (.c (.slice none 0 0)), none, [], [], false⟩,
       ⟨(some 7), .mv (.c (.int .i64 2)), none, [], [], false⟩])
    .ret)
    .skip))
  (.seq
   (.region [
     ⟨(some 8), .new 123 [(.bool false), (.bool false), (.bool false), (.bool false), (.bool false), (.bool false), (.bool false), (.bool false), (.bool false), (.bool false), (.bool false), (.bool false), (.bool false), (.bool false), (.bool false), (.bool false)], none, [], [], false⟩])
  (.seq
   (.region [
     ⟨(some 9), .mv (.c (.slice none 0 0)), none, [], [], false⟩])
  (.seq
   .skip
  (.seq
   (.block 0
    (.loop
     (.block 1
      (.seq
       (.block 2
        (.seq
         (.region [
           ⟨(some 26), .mv (.t 2), none, [], [], false⟩,
           ⟨(some 27), .bin .eql .int (.t 26) (.c (.int .i64 (-1))), none, [], [], false⟩,
           ⟨(some 25), .mv (.t 27), none, [], [], false⟩])
        (.cond (.t 25)
         (.exit 0)
         (.seq
          (.region [
            ⟨(some 29), .mv (.t 2), none, [], [], false⟩,
            ⟨(some 30), .idxA 16 1 (.t 8) (.t 29), none, [], [], false⟩,
            ⟨(some 31), .load false 1 (.t 30), none, [], [], false⟩,
            ⟨(some 28), .mv (.t 31), none, [], [], false⟩])
         (.cond (.t 28)
          (.seq
           (.region [
             ⟨(some 6), .mv (.c (.slice none 0 0)), none, [], [], false⟩,
             ⟨(some 7), .mv (.c (.int .i64 150)), none, [], [], false⟩])
          .ret)
          .skip)))))
      (.seq
       (.region [
         ⟨(some 32), .mv (.t 2), none, [], [], false⟩,
         ⟨(some 33), .idxA 16 1 (.t 8) (.t 32), none, [], [], false⟩,
         ⟨none, .store 1 (.t 33) (.c (.bool true)), none, [], [], false⟩])
      (.seq
       (.region [
         ⟨(some 34), .mv (.t 9), none, [], [], false⟩,
         ⟨(some 35), .mv (.t 2), none, [], [], false⟩,
         ⟨(some 36), .buildSlice 3 [(.int .i64 0)] 1 [(0, 1, (.t 35))], none, [], [], false⟩,
         ⟨(some 37), .append 3 1 8 (.t 34) (.t 36), none, [], [], false⟩,
         ⟨(some 9), .mv (.t 37), none, [], [], false⟩])
      (.seq
       (.region [
         ⟨(some 39), .mv (.t 0), none, [], [], false⟩,
         ⟨(some 40), .mv (.t 2), none, [], [], false⟩,
         ⟨(some 41), .idxS 1 (.t 39) (.t 40), none, [], [], false⟩,
         ⟨(some 42), .load false 1 (.t 41), none, [], [], false⟩,
         ⟨(some 43), .mv (.t 1), none, [], [], false⟩,
         ⟨(some 44), .mv (.t 2), none, [], [], false⟩,
         ⟨(some 45), .call (.c (.func (.func 85) #[] #[])) [(.t 42), (.t 43), (.t 44)] true, none, [], [], false⟩,
         ⟨(some 38), .mv (.t 45), none, [], [], false⟩,
         ⟨(some 46), .extract (.t 38) 0, none, [], [], false⟩,
         ⟨(some 47), .extract (.t 38) 1, none, [], [], false⟩,
         ⟨(some 10), .mv (.t 46), none, [], [], false⟩,
         ⟨(some 11), .mv (.t 47), none, [], [], false⟩])
      (.seq
       (.seq
        (.region [
          ⟨(some 48), .mv (.t 11), none, [], [], false⟩,
          ⟨(some 49), .un .not (.t 48), none, [], [], false⟩,
          ⟨(some 50), .mv (.t 49), none, [], [], false⟩,
          ⟨(some 51), .mv (.t 10), (some (50, false)), [], [], false⟩,
          ⟨(some 52), .mv (.t 0), (some (50, false)), [], [], false⟩,
          ⟨(some 53), .lenS (.t 52), (some (50, false)), [], [], false⟩,
          ⟨(some 54), .bin .geq .int (.t 51) (.t 53), (some (50, false)), [], [], false⟩,
          ⟨(some 55), .pick (.t 50) (.c (.bool true)) (.t 54), none, [], [], false⟩])
       (.cond (.t 55)
        (.seq
         (.region [
           ⟨(some 6), .mv (.c (.slice none 0 0)), none, [], [], false⟩,
           ⟨(some 7), .mv (.c (.int .i64 150)), none, [], [], false⟩])
        .ret)
        .skip))
      (.region [
        ⟨(some 56), .mv (.t 10), none, [], [], false⟩,
        ⟨(some 2), .mv (.t 56), none, [], [], false⟩])))))))))
  (.seq
   (.region [
     ⟨(some 57), .mv (.t 9), none, [], [], false⟩,
     ⟨(some 6), .mv (.t 57), none, [], [], false⟩,
     ⟨(some 7), .mv (.c (.int .i64 0)), none, [], [], false⟩])
  .ret))))))),
  [.tmp 6, .tmp 7]⟩

/-- wainscot/count.PartOf -/
def i67 : IFun := ⟨15,
  (.seq
   (.region [
     ⟨(some 2), .mv (.c (.int .i64 0)), none, [], [], false⟩,
     ⟨(some 3), .mv (.c (.int .i64 0)), none, [], [], false⟩,
     ⟨(some 4), .mv (.c (.bool false)), none, [], [], false⟩])
  (.seq
   (.region [
     ⟨(some 6), .mv (.t 0), none, [], [], false⟩,
     ⟨(some 7), .call (.c (.func (.func 63) #[] #[])) [(.t 6), (.c (.int .i64 0)), (.c (.int .i64 1)), (.c (.func (.func 86) #[] #[]))] true, none, [], [], false⟩,
     ⟨(some 5), .mv (.t 7), none, [], [], false⟩,
     ⟨(some 8), .extract (.t 5) 0, none, [], [], false⟩,
     ⟨(some 9), .extract (.t 5) 1, none, [], [], false⟩,
     ⟨(some 10), .extract (.t 5) 2, none, [], [], false⟩,
     ⟨(some 3), .mv (.t 8), none, [], [], false⟩,
     ⟨(some 2), .mv (.t 9), none, [], [], false⟩,
     ⟨(some 4), .mv (.t 10), none, [], [], false⟩])
  (.seq
   (.seq
    (.region [
      ⟨(some 11), .mv (.t 4), none, [], [], false⟩,
      ⟨(some 12), .un .not (.t 11), none, [], [], false⟩])
   (.cond (.t 12)
    (.seq
     (.region [
       ⟨(some 2), .mv (.c (.int .i64 (-1))), none, [], [], false⟩,
       ⟨(some 3), .mv (.c (.int .i64 0)), none, [], [], false⟩,
       ⟨(some 4), .mv (.c (.bool false)), none, [], [], false⟩])
    .ret)
    .skip))
  (.seq
   (.region [
     ⟨(some 13), .mv (.t 2), none, [], [], false⟩,
     ⟨(some 14), .mv (.t 3), none, [], [], false⟩,
     ⟨(some 2), .mv (.t 13), none, [], [], false⟩,
     ⟨(some 3), .mv (.t 14), none, [], [], false⟩,
     ⟨(some 4), .mv (.c (.bool true)), none, [], [], false⟩])
  .ret)))),
  [.tmp 2, .tmp 3, .tmp 4]⟩

/-- (*wainscot/back.step).load -/
def i68 : IFun := ⟨21,
  (.seq
   (.region [
     ⟨(some 4), .mv (.c (.int .u64 0)), none, [], [], false⟩])
  (.seq
   (.region [
     ⟨(some 8), .mv (.t 0), none, [], [], false⟩,
     ⟨(some 9), .nilCheck (.t 8), none, [], [], false⟩,
     ⟨(some 10), .addOff 0 (.t 9), none, [], [], false⟩,
     ⟨(some 11), .load false 1 (.t 10), none, [], [], false⟩,
     ⟨(some 12), .mv (.t 1), none, [], [], false⟩,
     ⟨(some 13), .call (.c (.func (.func 18) #[] #[])) [(.t 11), (.t 12)] false, none, [], [], false⟩,
     ⟨(some 7), .mv (.t 13), none, [], [], false⟩,
     ⟨(some 14), .extract (.t 7) 0, none, [], [], false⟩,
     ⟨(some 15), .extract (.t 7) 1, none, [], [], false⟩,
     ⟨(some 5), .mv (.t 14), none, [], [], false⟩,
     ⟨(some 6), .mv (.t 15), none, [], [], false⟩])
  (.seq
   (.region [
     ⟨(some 16), .mv (.t 0), none, [], [], false⟩,
     ⟨(some 17), .mv (.t 6), none, [], [], false⟩,
     ⟨(some 18), .bin .eql .int (.t 17) (.c (.int .i64 0)), none, [], [], false⟩,
     ⟨(some 19), .call (.c (.func (.func 69) #[] #[])) [(.t 16), (.t 18)] false, none, [], [], false⟩])
  (.seq
   (.region [
     ⟨(some 20), .mv (.t 5), none, [], [], false⟩,
     ⟨(some 4), .mv (.t 20), none, [], [], false⟩])
  .ret)))),
  [.tmp 4]⟩

/-- (*wainscot/back.step).must -/
def i69 : IFun := ⟨15,
  (.region [
    ⟨(some 4), .mv (.t 0), none, [], [], false⟩,
    ⟨(some 5), .mv (.t 0), none, [], [], false⟩,
    ⟨(some 6), .nilCheck (.t 5), none, [], [], false⟩,
    ⟨(some 7), .addOff 24 (.t 6), none, [], [], false⟩,
    ⟨(some 8), .load false 1 (.t 7), none, [], [], false⟩,
    ⟨(some 9), .mv (.t 8), none, [], [], false⟩,
    ⟨(some 10), .mv (.t 1), (some (9, false)), [], [], false⟩,
    ⟨(some 11), .un .not (.t 10), (some (9, false)), [], [], false⟩,
    ⟨(some 12), .pick (.t 9) (.c (.bool true)) (.t 11), none, [], [], false⟩,
    ⟨(some 13), .nilCheck (.t 4), none, [], [], false⟩,
    ⟨(some 14), .addOff 24 (.t 13), none, [], [], false⟩,
    ⟨none, .store 1 (.t 14) (.t 12), none, [], [], false⟩]),
  []⟩

/-- (*wainscot/back.step).to -/
def i70 : IFun := ⟨9,
  (.region [
    ⟨(some 4), .mv (.t 0), none, [], [], false⟩,
    ⟨(some 5), .mv (.t 1), none, [], [], false⟩,
    ⟨(some 6), .nilCheck (.t 4), none, [], [], false⟩,
    ⟨(some 7), .addOff 7 (.t 6), none, [], [], false⟩,
    ⟨(some 8), .addOff 2 (.t 7), none, [], [], false⟩,
    ⟨none, .store 1 (.t 8) (.t 5), none, [], [], false⟩]),
  []⟩

/-- wainscot/back.behind -/
def i71 : IFun := ⟨8,
  (.seq
   (.region [
     ⟨(some 2), .mv (.c (.int .i64 0)), none, [], [], false⟩])
  (.seq
   (.seq
    (.region [
      ⟨(some 3), .mv (.t 0), none, [], [], false⟩,
      ⟨(some 4), .bin .lss .int (.t 3) (.c (.int .i64 0)), none, [], [], false⟩])
   (.cond (.t 4)
    (.seq
     (.region [
       ⟨(some 5), .mv (.t 0), none, [], [], false⟩,
       ⟨(some 2), .mv (.t 5), none, [], [], false⟩])
    .ret)
    .skip))
  (.seq
   (.region [
     ⟨(some 6), .mv (.t 0), none, [], [], false⟩,
     ⟨(some 7), .bin .add .int (.t 6) (.c (.int .i64 1)), none, [], [], false⟩,
     ⟨(some 2), .mv (.t 7), none, [], [], false⟩])
  .ret))),
  [.tmp 2]⟩

/-- (*wainscot/back.step).slab -/
def i72 : IFun := ⟨22,
  (.seq
   (.region [
     ⟨(some 2), .new 46 [(.int .i64 0), (.int .i64 0), (.bool false), (.bool false)], none, [], [], false⟩])
  (.seq
   (.region [
     ⟨(some 6), .mv (.t 0), none, [], [], false⟩,
     ⟨(some 7), .nilCheck (.t 6), none, [], [], false⟩,
     ⟨(some 8), .addOff 7 (.t 7), none, [], [], false⟩,
     ⟨(some 9), .addOff 10 (.t 8), none, [], [], false⟩,
     ⟨(some 10), .load false 1 (.t 9), none, [], [], false⟩,
     ⟨(some 11), .call (.c (.func (.func 55) #[] #[])) [(.t 10)] true, none, [], [], false⟩,
     ⟨(some 5), .mv (.t 11), none, [], [], false⟩,
     ⟨(some 12), .extract (.t 5) 0, none, [], [], false⟩,
     ⟨(some 13), .extract (.t 5) 1, none, [], [], false⟩,
     ⟨(some 3), .new 46 [(.int .i64 0), (.int .i64 0), (.bool false), (.bool false)], none, [], [], false⟩,
     ⟨none, .store 4 (.t 3) (.t 12), none, [], [], false⟩,
     ⟨(some 4), .mv (.t 13), none, [], [], false⟩])
  (.seq
   (.region [
     ⟨(some 14), .mv (.t 0), none, [], [], false⟩,
     ⟨(some 15), .mv (.t 4), none, [], [], false⟩,
     ⟨(some 16), .mv (.t 15), none, [], [], false⟩,
     ⟨(some 17), .addOff 3 (.t 3), (some (16, true)), [], [], false⟩,
     ⟨(some 18), .load false 1 (.t 17), (some (16, true)), [], [], false⟩,
     ⟨(some 19), .pick (.t 16) (.t 18) (.c (.bool false)), none, [], [], false⟩,
     ⟨(some 20), .call (.c (.func (.func 69) #[] #[])) [(.t 14), (.t 19)] false, none, [], [], false⟩])
  (.seq
   (.region [
     ⟨(some 21), .load true 4 (.t 3), none, [], [], false⟩,
     ⟨none, .store 4 (.t 2) (.t 21), none, [], [], false⟩])
  .ret)))),
  [.cell 2 true 4]⟩

/-- wainscot/link.Hide -/
def i73 : IFun := ⟨27,
  (.seq
   (.region [
     ⟨(some 6), .mv (.c (.int .u64 0)), none, [], [], false⟩,
     ⟨(some 7), .mv (.c (.int .i64 0)), none, [], [], false⟩])
  (.seq
   (.seq
    (.region [
      ⟨(some 8), .mv (.t 0), none, [], [], false⟩,
      ⟨(some 9), .bin .neq .int (.t 8) (.c (.int .i64 (-1))), none, [], [], false⟩,
      ⟨(some 10), .mv (.t 9), none, [], [], false⟩,
      ⟨(some 11), .mv (.t 0), (some (10, true)), [], [], false⟩,
      ⟨(some 12), .call (.c (.func (.func 87) #[] #[])) [(.t 11)] true, (some (10, true)), [], [], false⟩,
      ⟨(some 13), .un .not (.t 12), (some (10, true)), [], [], false⟩,
      ⟨(some 14), .pick (.t 10) (.t 13) (.c (.bool false)), none, [], [], false⟩,
      ⟨(some 15), .mv (.t 14), none, [], [], false⟩,
      ⟨(some 16), .mv (.t 2), (some (15, false)), [], [], false⟩,
      ⟨(some 17), .call (.c (.func (.func 87) #[] #[])) [(.t 16)] true, (some (15, false)), [], [], false⟩,
      ⟨(some 18), .un .not (.t 17), (some (15, false)), [], [], false⟩,
      ⟨(some 19), .pick (.t 15) (.c (.bool true)) (.t 18), none, [], [], false⟩])
   (.cond (.t 19)
    (.seq
     (.region [
       ⟨(some 6), .mv (.c (.int .u64 0)), none, [], [], false⟩,
       ⟨(some 7), .mv (.c (.int .i64 2)), none, [], [], false⟩])
    .ret)
    .skip))
  (.seq
   (.region [
     ⟨(some 20), .mv (.t 0), none, [], [], false⟩,
     ⟨(some 21), .bin .add .int (.t 20) (.c (.int .i64 1)), none, [], [], false⟩,
     ⟨(some 22), .conv .u64 (.t 21), none, [], [], false⟩,
     ⟨(some 23), .mv (.t 1), none, [], [], false⟩,
     ⟨(some 24), .mv (.t 2), none, [], [], false⟩,
     ⟨(some 25), .call (.c (.func (.func 46) #[] #[])) [(.t 23), (.t 24)] true, none, [], [], false⟩,
     ⟨(some 26), .bin .xor .int (.t 22) (.t 25), none, [], [], false⟩,
     ⟨(some 6), .mv (.t 26), none, [], [], false⟩,
     ⟨(some 7), .mv (.c (.int .i64 0)), none, [], [], false⟩])
  .ret))),
  [.tmp 6, .tmp 7]⟩

/-- (*wainscot/back.step).store -/
def i74 : IFun := ⟨16,
  (.region [
    ⟨(some 6), .mv (.t 0), none, [], [], false⟩,
    ⟨(some 7), .mv (.t 0), none, [], [], false⟩,
    ⟨(some 8), .nilCheck (.t 7), none, [], [], false⟩,
    ⟨(some 9), .addOff 0 (.t 8), none, [], [], false⟩,
    ⟨(some 10), .load false 1 (.t 9), none, [], [], false⟩,
    ⟨(some 11), .mv (.t 1), none, [], [], false⟩,
    ⟨(some 12), .mv (.t 2), none, [], [], false⟩,
    ⟨(some 13), .call (.c (.func (.func 14) #[] #[])) [(.t 10), (.t 11), (.t 12)] false, none, [], [], false⟩,
    ⟨(some 14), .bin .eql .int (.t 13) (.c (.int .i64 0)), none, [], [], false⟩,
    ⟨(some 15), .call (.c (.func (.func 69) #[] #[])) [(.t 6), (.t 14)] false, none, [], [], false⟩]),
  []⟩

/-- (*wainscot/back.step).either -/
def i75 : IFun := ⟨15,
  (.seq
   (.region [
     ⟨(some 8), .mv (.t 1), none, [], [], false⟩])
  (.cond (.t 8)
   (.region [
     ⟨(some 9), .mv (.t 0), none, [], [], false⟩,
     ⟨(some 10), .mv (.t 2), none, [], [], false⟩,
     ⟨(some 11), .call (.c (.func (.func 70) #[] #[])) [(.t 9), (.t 10)] false, none, [], [], false⟩])
   (.region [
     ⟨(some 12), .mv (.t 0), none, [], [], false⟩,
     ⟨(some 13), .mv (.t 3), none, [], [], false⟩,
     ⟨(some 14), .call (.c (.func (.func 70) #[] #[])) [(.t 12), (.t 13)] false, none, [], [], false⟩]))),
  []⟩

/-- (*wainscot/back.step).turned -/
def i76 : IFun := ⟨82,
  (.seq
   (.region [
     ⟨(some 4), .mv (.c (.int .u64 0)), none, [], [], false⟩,
     ⟨(some 5), .mv (.c (.bool false)), none, [], [], false⟩])
  (.seq
   (.region [
     ⟨(some 9), .mv (.t 0), none, [], [], false⟩,
     ⟨(some 10), .call (.c (.func (.func 72) #[] #[])) [(.t 9)] false, none, [], [], false⟩,
     ⟨(some 6), .new 46 [(.int .i64 0), (.int .i64 0), (.bool false), (.bool false)], none, [], [], false⟩,
     ⟨none, .store 4 (.t 6) (.t 10), none, [], [], false⟩])
  (.seq
   (.region [
     ⟨(some 11), .addOff 0 (.t 6), none, [], [], false⟩,
     ⟨(some 12), .load false 1 (.t 11), none, [], [], false⟩,
     ⟨(some 13), .bin .sub .int (.t 12) (.c (.int .i64 1)), none, [], [], false⟩,
     ⟨(some 14), .addOff 0 (.t 6), none, [], [], false⟩,
     ⟨none, .store 1 (.t 14) (.t 13), none, [], [], false⟩])
  (.seq
   (.region [
     ⟨(some 15), .mv (.t 1), none, [], [], false⟩,
     ⟨(some 16), .call (.t 15) [(.t 6)] false, none, [], [], false⟩])
  (.seq
   (.region [
     ⟨(some 18), .load true 4 (.t 6), none, [], [], false⟩,
     ⟨(some 19), .call (.c (.func (.func 24) #[] #[])) [(.t 18)] true, none, [], [], false⟩,
     ⟨(some 17), .mv (.t 19), none, [], [], false⟩,
     ⟨(some 20), .extract (.t 17) 0, none, [], [], false⟩,
     ⟨(some 21), .extract (.t 17) 1, none, [], [], false⟩,
     ⟨(some 7), .mv (.t 20), none, [], [], false⟩,
     ⟨(some 8), .mv (.t 21), none, [], [], false⟩])
  (.seq
   (.region [
     ⟨(some 22), .mv (.t 0), none, [], [], false⟩,
     ⟨(some 23), .mv (.t 8), none, [], [], false⟩,
     ⟨(some 24), .bin .eql .int (.t 23) (.c (.int .i64 0)), none, [], [], false⟩,
     ⟨(some 25), .mv (.t 24), none, [], [], false⟩,
     ⟨(some 26), .mv (.t 0), (some (25, true)), [], [], false⟩,
     ⟨(some 27), .nilCheck (.t 26), (some (25, true)), [], [], false⟩,
     ⟨(some 28), .addOff 7 (.t 27), (some (25, true)), [], [], false⟩,
     ⟨(some 29), .addOff 6 (.t 28), (some (25, true)), [], [], false⟩,
     ⟨(some 30), .load false 1 (.t 29), (some (25, true)), [], [], false⟩,
     ⟨(some 31), .bin .geq .int (.t 30) (.c (.int .i64 0)), (some (25, true)), [], [], false⟩,
     ⟨(some 32), .pick (.t 25) (.t 31) (.c (.bool false)), none, [], [], false⟩,
     ⟨(some 33), .mv (.t 32), none, [], [], false⟩,
     ⟨(some 34), .mv (.t 0), (some (33, true)), [], [], false⟩,
     ⟨(some 35), .nilCheck (.t 34), (some (33, true)), [], [], false⟩,
     ⟨(some 36), .addOff 7 (.t 35), (some (33, true)), [], [], false⟩,
     ⟨(some 37), .addOff 6 (.t 36), (some (33, true)), [], [], false⟩,
     ⟨(some 38), .load false 1 (.t 37), (some (33, true)), [], [], false⟩,
     ⟨(some 39), .mv (.t 0), (some (33, true)), [], [], false⟩,
     ⟨(some 40), .nilCheck (.t 39), (some (33, true)), [], [], false⟩,
     ⟨(some 41), .addOff 1 (.t 40), (some (33, true)), [], [], false⟩,
     ⟨(some 42), .addOff 2 (.t 41), (some (33, true)), [], [], false⟩,
     ⟨(some 43), .load false 1 (.t 42), (some (33, true)), [], [], false⟩,
     ⟨(some 44), .bin .lss .int (.t 38) (.t 43), (some (33, true)), [], [], false⟩,
     ⟨(some 45), .pick (.t 33) (.t 44) (.c (.bool false)), none, [], [], false⟩,
     ⟨(some 46), .call (.c (.func (.func 69) #[] #[])) [(.t 22), (.t 45)] false, none, [], [], false⟩])
  (.seq
   (.seq
    (.region [
      ⟨(some 47), .mv (.t 0), none, [], [], false⟩,
      ⟨(some 48), .nilCheck (.t 47), none, [], [], false⟩,
      ⟨(some 49), .addOff 24 (.t 48), none, [], [], false⟩,
      ⟨(some 50), .load false 1 (.t 49), none, [], [], false⟩])
   (.cond (.t 50)
    (.seq
     (.region [
       ⟨(some 4), .mv (.c (.int .u64 0)), none, [], [], false⟩,
       ⟨(some 5), .mv (.c (.bool false)), none, [], [], false⟩])
    .ret)
    .skip))
  (.seq
   (.region [
     ⟨(some 51), .mv (.t 7), none, [], [], false⟩,
     ⟨(some 52), .mv (.t 0), none, [], [], false⟩,
     ⟨(some 53), .mv (.t 0), none, [], [], false⟩,
     ⟨(some 54), .nilCheck (.t 53), none, [], [], false⟩,
     ⟨(some 55), .addOff 1 (.t 54), none, [], [], false⟩,
     ⟨(some 56), .load true 6 (.t 55), none, [], [], false⟩,
     ⟨(some 57), .mv (.t 0), none, [], [], false⟩,
     ⟨(some 58), .nilCheck (.t 57), none, [], [], false⟩,
     ⟨(some 59), .addOff 7 (.t 58), none, [], [], false⟩,
     ⟨(some 60), .addOff 5 (.t 59), none, [], [], false⟩,
     ⟨(some 61), .load false 1 (.t 60), none, [], [], false⟩,
     ⟨(some 62), .call (.c (.func (.func 26) #[] #[])) [(.t 56), (.t 61)] true, none, [], [], false⟩,
     ⟨(some 63), .mv (.t 0), none, [], [], false⟩,
     ⟨(some 64), .nilCheck (.t 63), none, [], [], false⟩,
     ⟨(some 65), .addOff 7 (.t 64), none, [], [], false⟩,
     ⟨(some 66), .addOff 9 (.t 65), none, [], [], false⟩,
     ⟨(some 67), .load false 1 (.t 66), none, [], [], false⟩,
     ⟨(some 68), .mv (.t 0), none, [], [], false⟩,
     ⟨(some 69), .nilCheck (.t 68), none, [], [], false⟩,
     ⟨(some 70), .addOff 7 (.t 69), none, [], [], false⟩,
     ⟨(some 71), .addOff 10 (.t 70), none, [], [], false⟩,
     ⟨(some 72), .load false 1 (.t 71), none, [], [], false⟩,
     ⟨(some 73), .mv (.t 0), none, [], [], false⟩,
     ⟨(some 74), .nilCheck (.t 73), none, [], [], false⟩,
     ⟨(some 75), .addOff 7 (.t 74), none, [], [], false⟩,
     ⟨(some 76), .addOff 6 (.t 75), none, [], [], false⟩,
     ⟨(some 77), .load false 1 (.t 76), none, [], [], false⟩,
     ⟨(some 78), .bin .add .int (.t 77) (.c (.int .i64 1)), none, [], [], false⟩,
     ⟨(some 79), .conv .u64 (.t 78), none, [], [], false⟩,
     ⟨(some 80), .mv (.t 7), none, [], [], false⟩,
     ⟨(some 81), .call (.c (.func (.func 82) #[] #[])) [(.t 52), (.t 62), (.t 67), (.t 72), (.t 79), (.t 80)] false, none, [], [], false⟩,
     ⟨(some 4), .mv (.t 51), none, [], [], false⟩,
     ⟨(some 5), .mv (.t 81), none, [], [], false⟩])
  .ret)))))))),
  [.tmp 4, .tmp 5]⟩

/-- (*wainscot/back.step).gives$1 -/
def i77 : IFun := ⟨18,
  (.region [
    ⟨(some 3), .mv (.t 0), none, [], [], false⟩,
    ⟨(some 4), .mv (.t 0), none, [], [], false⟩,
    ⟨(some 5), .nilCheck (.t 4), none, [], [], false⟩,
    ⟨(some 6), .addOff 2 (.t 5), none, [], [], false⟩,
    ⟨(some 7), .load false 1 (.t 6), none, [], [], false⟩,
    ⟨(some 8), .mv (.t 7), none, [], [], false⟩,
    ⟨(some 9), .load false 1 (.t 1), (some (8, false)), [], [], false⟩,
    ⟨(some 10), .nilCheck (.t 9), (some (8, false)), [], [], false⟩,
    ⟨(some 11), .addOff 7 (.t 10), (some (8, false)), [], [], false⟩,
    ⟨(some 12), .addOff 2 (.t 11), (some (8, false)), [], [], false⟩,
    ⟨(some 13), .load false 1 (.t 12), (some (8, false)), [], [], false⟩,
    ⟨(some 14), .bin .eql .int (.t 13) (.c (.int .i64 54)), (some (8, false)), [], [], false⟩,
    ⟨(some 15), .pick (.t 8) (.c (.bool true)) (.t 14), none, [], [], false⟩,
    ⟨(some 16), .nilCheck (.t 3), none, [], [], false⟩,
    ⟨(some 17), .addOff 2 (.t 16), none, [], [], false⟩,
    ⟨none, .store 1 (.t 17) (.t 15), none, [], [], false⟩]),
  []⟩

/-- (*wainscot/back.step).done -/
def i78 : IFun := ⟨6,
  (.region [
    ⟨(some 2), .mv (.t 0), none, [], [], false⟩,
    ⟨(some 3), .nilCheck (.t 2), none, [], [], false⟩,
    ⟨(some 4), .addOff 7 (.t 3), none, [], [], false⟩,
    ⟨(some 5), .addOff 3 (.t 4), none, [], [], false⟩,
    ⟨none, .store 1 (.t 5) (.c (.int .i64 1)), none, [], [], false⟩]),
  []⟩

/-- (*wainscot/mem.Mem).Cas -/
def i79 : IFun := ⟨16,
  (.seq
   (.region [
     ⟨(some 6), .box 26 1 (.t 2), none, [], [], false⟩,
     ⟨(some 7), .box 26 1 (.t 3), none, [], [], false⟩,
     ⟨(some 8), .new 4 [(.bool false)], none, [], [], false⟩,
     ⟨(some 9), .mv (.c (.int .i64 0)), none, [], [], false⟩])
  (.seq
   (.region [
     ⟨(some 10), .mv (.t 0), none, [], [], false⟩,
     ⟨(some 11), .mv (.t 1), none, [], [], false⟩,
     ⟨(some 12), .mkFunc 88 [] [(.t 6), (.t 8), (.t 7)], none, [], [], false⟩,
     ⟨(some 13), .call (.c (.func (.func 35) #[] #[])) [(.t 10), (.t 11), (.c (.int .i64 1)), (.t 12)] false, none, [], [], false⟩,
     ⟨(some 9), .mv (.t 13), none, [], [], false⟩])
  (.seq
   (.region [
     ⟨(some 14), .load false 1 (.t 8), none, [], [], false⟩,
     ⟨(some 15), .mv (.t 9), none, [], [], false⟩,
     ⟨none, .store 1 (.t 8) (.t 14), none, [], [], false⟩,
     ⟨(some 9), .mv (.t 15), none, [], [], false⟩])
  .ret))),
  [.cell 8 false 1, .tmp 9]⟩

/-- wainscot/chart.Part -/
def i80 : IFun := ⟨11,
  (.seq
   (.region [
     ⟨(some 2), .box 28 6 (.t 0), none, [], [], false⟩,
     ⟨(some 3), .box 3 1 (.t 1), none, [], [], false⟩,
     ⟨(some 4), .mv (.c (.int .i64 0)), none, [], [], false⟩])
  (.seq
   (.region [
     ⟨(some 5), .load true 6 (.t 2), none, [], [], false⟩,
     ⟨(some 6), .load false 1 (.t 3), none, [], [], false⟩,
     ⟨(some 7), .addOff 0 (.t 2), none, [], [], false⟩,
     ⟨(some 8), .load false 1 (.t 7), none, [], [], false⟩,
     ⟨(some 9), .mkFunc 89 [] [(.t 3)], none, [], [], false⟩,
     ⟨(some 10), .call (.c (.func (.func 37) #[] #[])) [(.t 5), (.t 6), (.t 8), (.t 9)] true, none, [], [], false⟩,
     ⟨(some 4), .mv (.t 10), none, [], [], false⟩])
  .ret)),
  [.tmp 4]⟩

/-- wainscot/count.Part -/
def i81 : IFun := ⟨32,
  (.seq
   (.region [
     ⟨(some 4), .mv (.c (.int .u64 0)), none, [], [], false⟩,
     ⟨(some 5), .mv (.c (.int .i64 0)), none, [], [], false⟩])
  (.seq
   (.block 0
    (.seq
     (.region [
       ⟨(some 7), .mv (.t 0), none, [], [], false⟩,
       ⟨(some 8), .bin .eql .int (.t 7) (.c (.int .i64 (-1))), none, [], [], false⟩,
       ⟨(some 9), .mv (.t 8), none, [], [], false⟩,
       ⟨(some 10), .mv (.t 1), (some (9, true)), [], [], false⟩,
       ⟨(some 11), .bin .eql .int (.t 10) (.c (.int .i64 0)), (some (9, true)), [], [], false⟩,
       ⟨(some 12), .pick (.t 9) (.t 11) (.c (.bool false)), none, [], [], false⟩,
       ⟨(some 6), .mv (.t 12), none, [], [], false⟩])
    (.cond (.t 6)
     (.seq
      (.region [
        ⟨(some 4), .mv (.c (.int .u64 0)), none, [], [], false⟩,
        ⟨(some 5), .mv (.c (.int .i64 0)), none, [], [], false⟩])
     .ret)
     (.seq
      (.region [
        ⟨(some 14), .mv (.t 0), none, [], [], false⟩,
        ⟨(some 15), .call (.c (.func (.func 84) #[] #[])) [(.t 14)] true, none, [], [], false⟩,
        ⟨(some 16), .un .not (.t 15), none, [], [], false⟩,
        ⟨(some 17), .mv (.t 16), none, [], [], false⟩,
        ⟨(some 18), .mv (.t 1), (some (17, false)), [], [], false⟩,
        ⟨(some 19), .bin .lss .int (.t 18) (.c (.int .i64 1)), (some (17, false)), [], [], false⟩,
        ⟨(some 20), .pick (.t 17) (.c (.bool true)) (.t 19), none, [], [], false⟩,
        ⟨(some 21), .mv (.t 20), none, [], [], false⟩,
        ⟨(some 22), .mv (.t 1), (some (21, false)), [], [], false⟩,
        ⟨(some 23), .bin .gtr .int (.t 22) (.c (.int .i64 63)), (some (21, false)), [], [], false⟩,
        ⟨(some 24), .pick (.t 21) (.c (.bool true)) (.t 23), none, [], [], false⟩,
        ⟨(some 13), .mv (.t 24), none, [], [], false⟩])
     (.cond (.t 13)
      (.seq
       (.region [
         ⟨(some 4), .mv (.c (.int .u64 0)), none, [], [], false⟩,
         ⟨(some 5), .mv (.c (.int .i64 2)), none, [], [], false⟩])
      .ret)
      .skip)))))
  (.seq
   (.region [
     ⟨(some 25), .mv (.t 1), none, [], [], false⟩,
     ⟨(some 26), .conv .u64 (.t 25), none, [], [], false⟩,
     ⟨(some 27), .bin .shl .int (.t 26) (.c (.int .u64 6)), none, [], [], false⟩,
     ⟨(some 28), .mv (.t 0), none, [], [], false⟩,
     ⟨(some 29), .bin .add .int (.t 28) (.c (.int .i64 1)), none, [], [], false⟩,
     ⟨(some 30), .conv .u64 (.t 29), none, [], [], false⟩,
     ⟨(some 31), .bin .or .int (.t 27) (.t 30), none, [], [], false⟩,
     ⟨(some 4), .mv (.t 31), none, [], [], false⟩,
     ⟨(some 5), .mv (.c (.int .i64 0)), none, [], [], false⟩])
  .ret))),
  [.tmp 4, .tmp 5]⟩

/-- (*wainscot/back.step).cas2 -/
def i82 : IFun := ⟨33,
  (.seq
   (.region [
     ⟨(some 12), .mv (.c (.bool false)), none, [], [], false⟩])
  (.seq
   (.region [
     ⟨(some 16), .mv (.t 0), none, [], [], false⟩,
     ⟨(some 17), .nilCheck (.t 16), none, [], [], false⟩,
     ⟨(some 18), .addOff 0 (.t 17), none, [], [], false⟩,
     ⟨(some 19), .load false 1 (.t 18), none, [], [], false⟩,
     ⟨(some 20), .mv (.t 1), none, [], [], false⟩,
     ⟨(some 21), .mv (.t 2), none, [], [], false⟩,
     ⟨(some 22), .mv (.t 3), none, [], [], false⟩,
     ⟨(some 23), .mv (.t 4), none, [], [], false⟩,
     ⟨(some 24), .mv (.t 5), none, [], [], false⟩,
     ⟨(some 25), .call (.c (.func (.func 90) #[] #[])) [(.t 19), (.t 20), (.t 21), (.t 22), (.t 23), (.t 24)] false, none, [], [], false⟩,
     ⟨(some 15), .mv (.t 25), none, [], [], false⟩,
     ⟨(some 26), .extract (.t 15) 0, none, [], [], false⟩,
     ⟨(some 27), .extract (.t 15) 1, none, [], [], false⟩,
     ⟨(some 13), .mv (.t 26), none, [], [], false⟩,
     ⟨(some 14), .mv (.t 27), none, [], [], false⟩])
  (.seq
   (.region [
     ⟨(some 28), .mv (.t 0), none, [], [], false⟩,
     ⟨(some 29), .mv (.t 14), none, [], [], false⟩,
     ⟨(some 30), .bin .eql .int (.t 29) (.c (.int .i64 0)), none, [], [], false⟩,
     ⟨(some 31), .call (.c (.func (.func 69) #[] #[])) [(.t 28), (.t 30)] false, none, [], [], false⟩])
  (.seq
   (.region [
     ⟨(some 32), .mv (.t 13), none, [], [], false⟩,
     ⟨(some 12), .mv (.t 32), none, [], [], false⟩])
  .ret)))),
  [.tmp 12]⟩

/-- (*wainscot/mem.Mem).Add -/
def i83 : IFun := ⟨14,
  (.seq
   (.region [
     ⟨(some 5), .box 26 1 (.t 2), none, [], [], false⟩,
     ⟨(some 6), .new 26 [(.int .u64 0)], none, [], [], false⟩,
     ⟨(some 7), .mv (.c (.int .i64 0)), none, [], [], false⟩])
  (.seq
   (.region [
     ⟨(some 8), .mv (.t 0), none, [], [], false⟩,
     ⟨(some 9), .mv (.t 1), none, [], [], false⟩,
     ⟨(some 10), .mkFunc 91 [] [(.t 6), (.t 5)], none, [], [], false⟩,
     ⟨(some 11), .call (.c (.func (.func 35) #[] #[])) [(.t 8), (.t 9), (.c (.int .i64 1)), (.t 10)] false, none, [], [], false⟩,
     ⟨(some 7), .mv (.t 11), none, [], [], false⟩])
  (.seq
   (.region [
     ⟨(some 12), .load false 1 (.t 6), none, [], [], false⟩,
     ⟨(some 13), .mv (.t 7), none, [], [], false⟩,
     ⟨none, .store 1 (.t 6) (.t 12), none, [], [], false⟩,
     ⟨(some 7), .mv (.t 13), none, [], [], false⟩])
  .ret))),
  [.cell 6 false 1, .tmp 7]⟩

/-- wainscot/count.slabMay -/
def i84 : IFun := ⟨9,
  (.seq
   (.region [
     ⟨(some 2), .mv (.c (.bool false)), none, [], [], false⟩])
  (.seq
   (.region [
     ⟨(some 3), .mv (.t 0), none, [], [], false⟩,
     ⟨(some 4), .bin .leq .int (.c (.int .i64 0)) (.t 3), none, [], [], false⟩,
     ⟨(some 5), .mv (.t 4), none, [], [], false⟩,
     ⟨(some 6), .mv (.t 0), (some (5, true)), [], [], false⟩,
     ⟨(some 7), .bin .lss .int (.t 6) (.c (.int .i64 32)), (some (5, true)), [], [], false⟩,
     ⟨(some 8), .pick (.t 5) (.t 7) (.c (.bool false)), none, [], [], false⟩,
     ⟨(some 2), .mv (.t 8), none, [], [], false⟩])
  .ret)),
  [.tmp 2]⟩

/-- wainscot/link.Show -/
def i85 : IFun := ⟨21,
  (.seq
   (.region [
     ⟨(some 6), .mv (.c (.int .i64 0)), none, [], [], false⟩,
     ⟨(some 7), .mv (.c (.bool false)), none, [], [], false⟩])
  (.seq
   (.seq
    (.region [
      ⟨(some 8), .mv (.t 2), none, [], [], false⟩,
      ⟨(some 9), .call (.c (.func (.func 87) #[] #[])) [(.t 8)] true, none, [], [], false⟩,
      ⟨(some 10), .un .not (.t 9), none, [], [], false⟩])
   (.cond (.t 10)
    (.seq
     (.region [
       ⟨(some 6), .mv (.c (.int .i64 0)), none, [], [], false⟩,
       ⟨(some 7), .mv (.c (.bool false)), none, [], [], false⟩])
    .ret)
    .skip))
  (.seq
   (.seq
    (.region [
      ⟨(some 11), .mv (.t 0), none, [], [], false⟩,
      ⟨(some 12), .mv (.t 1), none, [], [], false⟩,
      ⟨(some 13), .mv (.t 2), none, [], [], false⟩,
      ⟨(some 14), .call (.c (.func (.func 46) #[] #[])) [(.t 12), (.t 13)] true, none, [], [], false⟩,
      ⟨(some 15), .bin .xor .int (.t 11) (.t 14), none, [], [], false⟩,
      ⟨(some 0), .mv (.t 15), none, [], [], false⟩])
   (.seq
    (.region [
      ⟨(some 16), .mv (.t 0), none, [], [], false⟩,
      ⟨(some 17), .bin .gtr .int (.t 16) (.c (.int .u64 16)), none, [], [], false⟩])
   (.cond (.t 17)
    (.seq
     (.region [
       ⟨(some 6), .mv (.c (.int .i64 0)), none, [], [], false⟩,
       ⟨(some 7), .mv (.c (.bool false)), none, [], [], false⟩])
    .ret)
    .skip)))
  (.seq
   (.region [
     ⟨(some 18), .mv (.t 0), none, [], [], false⟩,
     ⟨(some 19), .conv .i64 (.t 18), none, [], [], false⟩,
     ⟨(some 20), .bin .sub .int (.t 19) (.c (.int .i64 1)), none, [], [], false⟩,
     ⟨(some 6), .mv (.t 20), none, [], [], false⟩,
     ⟨(some 7), .mv (.c (.bool true)), none, [], [], false⟩])
  .ret)))),
  [.tmp 6, .tmp 7]⟩

/-- wainscot/count.PartOf$1 -/
def i86 : IFun := ⟨15,
  (.seq
   (.region [
     ⟨(some 4), .mv (.c (.bool false)), none, [], [], false⟩])
  (.seq
   (.region [
     ⟨(some 8), .mv (.t 1), none, [], [], false⟩,
     ⟨(some 9), .mv (.t 0), none, [], [], false⟩,
     ⟨(some 10), .call (.c (.func (.func 81) #[] #[])) [(.t 8), (.t 9)] true, none, [], [], false⟩,
     ⟨(some 7), .mv (.t 10), none, [], [], false⟩,
     ⟨(some 11), .extract (.t 7) 0, none, [], [], false⟩,
     ⟨(some 12), .extract (.t 7) 1, none, [], [], false⟩,
     ⟨(some 5), .mv (.t 11), none, [], [], false⟩,
     ⟨(some 6), .mv (.t 12), none, [], [], false⟩])
  (.seq
   (.region [
     ⟨(some 13), .mv (.t 6), none, [], [], false⟩,
     ⟨(some 14), .bin .eql .int (.t 13) (.c (.int .i64 0)), none, [], [], false⟩,
     ⟨(some 4), .mv (.t 14), none, [], [], false⟩])
  .ret))),
  [.tmp 4]⟩

/-- wainscot/link.object -/
def i87 : IFun := ⟨9,
  (.seq
   (.region [
     ⟨(some 2), .mv (.c (.bool false)), none, [], [], false⟩])
  (.seq
   (.region [
     ⟨(some 3), .mv (.t 0), none, [], [], false⟩,
     ⟨(some 4), .bin .leq .int (.c (.int .i64 0)) (.t 3), none, [], [], false⟩,
     ⟨(some 5), .mv (.t 4), none, [], [], false⟩,
     ⟨(some 6), .mv (.t 0), (some (5, true)), [], [], false⟩,
     ⟨(some 7), .bin .lss .int (.t 6) (.c (.int .i64 16)), (some (5, true)), [], [], false⟩,
     ⟨(some 8), .pick (.t 5) (.t 7) (.c (.bool false)), none, [], [], false⟩,
     ⟨(some 2), .mv (.t 8), none, [], [], false⟩])
  .ret)),
  [.tmp 2]⟩

/-- (*wainscot/mem.Mem).Cas$1 -/
def i88 : IFun := ⟨14,
  (.seq
   (.region [
     ⟨(some 5), .mv (.t 0), none, [], [], false⟩,
     ⟨(some 6), .idxS 1 (.t 5) (.c (.int .i64 0)), none, [], [], false⟩,
     ⟨(some 7), .load false 1 (.t 6), none, [], [], false⟩,
     ⟨(some 8), .load false 1 (.t 1), none, [], [], false⟩,
     ⟨(some 9), .bin .eql .int (.t 7) (.t 8), none, [], [], false⟩,
     ⟨none, .store 1 (.t 2) (.t 9), none, [], [], false⟩])
  (.seq
   (.region [
     ⟨(some 10), .load false 1 (.t 2), none, [], [], false⟩])
  (.cond (.t 10)
   (.region [
     ⟨(some 11), .mv (.t 0), none, [], [], false⟩,
     ⟨(some 12), .load false 1 (.t 3), none, [], [], false⟩,
     ⟨(some 13), .idxS 1 (.t 11) (.c (.int .i64 0)), none, [], [], false⟩,
     ⟨none, .store 1 (.t 13) (.t 12), none, [], [], false⟩])
   .skip))),
  []⟩

/-- wainscot/chart.Part$1 -/
def i89 : IFun := ⟨5,
  (.seq
   (.region [
     ⟨(some 1), .mv (.c (.int .i64 0)), none, [], [], false⟩])
  (.seq
   (.region [
     ⟨(some 2), .load false 1 (.t 0), none, [], [], false⟩,
     ⟨(some 3), .bin .mul .int (.c (.int .i64 4)) (.t 2), none, [], [], false⟩,
     ⟨(some 4), .bin .add .int (.t 3) (.c (.int .i64 2)), none, [], [], false⟩,
     ⟨(some 1), .mv (.t 4), none, [], [], false⟩])
  .ret)),
  [.tmp 1]⟩

/-- (*wainscot/mem.Mem).Cas2 -/
def i90 : IFun := ⟨20,
  (.seq
   (.region [
     ⟨(some 8), .box 26 1 (.t 2), none, [], [], false⟩,
     ⟨(some 9), .box 26 1 (.t 3), none, [], [], false⟩,
     ⟨(some 10), .box 26 1 (.t 4), none, [], [], false⟩,
     ⟨(some 11), .box 26 1 (.t 5), none, [], [], false⟩,
     ⟨(some 12), .new 4 [(.bool false)], none, [], [], false⟩,
     ⟨(some 13), .mv (.c (.int .i64 0)), none, [], [], false⟩])
  (.seq
   (.region [
     ⟨(some 14), .mv (.t 0), none, [], [], false⟩,
     ⟨(some 15), .mv (.t 1), none, [], [], false⟩,
     ⟨(some 16), .mkFunc 92 [] [(.t 8), (.t 9), (.t 12), (.t 10), (.t 11)], none, [], [], false⟩,
     ⟨(some 17), .call (.c (.func (.func 35) #[] #[])) [(.t 14), (.t 15), (.c (.int .i64 2)), (.t 16)] false, none, [], [], false⟩,
     ⟨(some 13), .mv (.t 17), none, [], [], false⟩])
  (.seq
   (.region [
     ⟨(some 18), .load false 1 (.t 12), none, [], [], false⟩,
     ⟨(some 19), .mv (.t 13), none, [], [], false⟩,
     ⟨none, .store 1 (.t 12) (.t 18), none, [], [], false⟩,
     ⟨(some 13), .mv (.t 19), none, [], [], false⟩])
  .ret))),
  [.cell 12 false 1, .tmp 13]⟩

/-- (*wainscot/mem.Mem).Add$1 -/
def i91 : IFun := ⟨13,
  (.seq
   (.region [
     ⟨(some 4), .mv (.t 0), none, [], [], false⟩,
     ⟨(some 5), .idxS 1 (.t 4) (.c (.int .i64 0)), none, [], [], false⟩,
     ⟨(some 6), .load false 1 (.t 5), none, [], [], false⟩,
     ⟨none, .store 1 (.t 1) (.t 6), none, [], [], false⟩])
  (.region [
    ⟨(some 7), .mv (.t 0), none, [], [], false⟩,
    ⟨(some 8), .idxS 1 (.t 7) (.c (.int .i64 0)), none, [], [], false⟩,
    ⟨(some 9), .load false 1 (.t 8), none, [], [], false⟩,
    ⟨(some 10), .load false 1 (.t 2), none, [], [], false⟩,
    ⟨(some 11), .bin .add .int (.t 9) (.t 10), none, [], [], false⟩,
    ⟨(some 12), .idxS 1 (.t 7) (.c (.int .i64 0)), none, [], [], false⟩,
    ⟨none, .store 1 (.t 12) (.t 11), none, [], [], false⟩])),
  []⟩

/-- (*wainscot/mem.Mem).Cas2$1 -/
def i92 : IFun := ⟨25,
  (.seq
   (.region [
     ⟨(some 7), .mv (.t 0), none, [], [], false⟩,
     ⟨(some 8), .idxS 1 (.t 7) (.c (.int .i64 0)), none, [], [], false⟩,
     ⟨(some 9), .load false 1 (.t 8), none, [], [], false⟩,
     ⟨(some 10), .mv (.t 0), none, [], [], false⟩,
     ⟨(some 11), .idxS 1 (.t 10) (.c (.int .i64 1)), none, [], [], false⟩,
     ⟨(some 12), .load false 1 (.t 11), none, [], [], false⟩,
     ⟨(some 13), .build [(.int .u64 0), (.int .u64 0)] [(0, 1, (.t 9)), (1, 1, (.t 12))], none, [], [], false⟩,
     ⟨(some 14), .load false 1 (.t 1), none, [], [], false⟩,
     ⟨(some 15), .load false 1 (.t 2), none, [], [], false⟩,
     ⟨(some 16), .build [(.int .u64 0), (.int .u64 0)] [(0, 1, (.t 14)), (1, 1, (.t 15))], none, [], [], false⟩,
     ⟨(some 17), .bin .eql (.plain [(some .u64), (some .u64)]) (.t 13) (.t 16), none, [], [], false⟩,
     ⟨none, .store 1 (.t 3) (.t 17), none, [], [], false⟩])
  (.seq
   (.region [
     ⟨(some 18), .load false 1 (.t 3), none, [], [], false⟩])
  (.cond (.t 18)
   (.region [
     ⟨(some 19), .mv (.t 0), none, [], [], false⟩,
     ⟨(some 20), .mv (.t 0), none, [], [], false⟩,
     ⟨(some 21), .load false 1 (.t 4), none, [], [], false⟩,
     ⟨(some 22), .load false 1 (.t 5), none, [], [], false⟩,
     ⟨(some 23), .idxS 1 (.t 19) (.c (.int .i64 0)), none, [], [], false⟩,
     ⟨none, .store 1 (.t 23) (.t 21), none, [], [3], false⟩,
     ⟨(some 24), .idxS 1 (.t 20) (.c (.int .i64 1)), none, [], [], false⟩,
     ⟨none, .store 1 (.t 24) (.t 22), none, [], [], false⟩])
   .skip))),
  []⟩

theorem c5 : cFun Try.prog 0 quiet Try.f5 = some i5 := by kernel_rfl
theorem g5 : Try.prog.funcs[5]? = some Try.f5 := by kernel_rfl
theorem c7 : cFun Try.prog 0 quiet Try.f7 = some i7 := by kernel_rfl
theorem g7 : Try.prog.funcs[7]? = some Try.f7 := by kernel_rfl
theorem c8 : cFun Try.prog 0 quiet Try.f8 = some i8 := by kernel_rfl
theorem g8 : Try.prog.funcs[8]? = some Try.f8 := by kernel_rfl
theorem c9 : cFun Try.prog 0 quiet Try.f9 = some i9 := by kernel_rfl
theorem g9 : Try.prog.funcs[9]? = some Try.f9 := by kernel_rfl
theorem c10 : cFun Try.prog 0 quiet Try.f10 = some i10 := by kernel_rfl
theorem g10 : Try.prog.funcs[10]? = some Try.f10 := by kernel_rfl
theorem c11 : cFun Try.prog 0 quiet Try.f11 = some i11 := by kernel_rfl
theorem g11 : Try.prog.funcs[11]? = some Try.f11 := by kernel_rfl
theorem c12 : cFun Try.prog 0 quiet Try.f12 = some i12 := by kernel_rfl
theorem g12 : Try.prog.funcs[12]? = some Try.f12 := by kernel_rfl
theorem c13 : cFun Try.prog 0 quiet Try.f13 = some i13 := by kernel_rfl
theorem g13 : Try.prog.funcs[13]? = some Try.f13 := by kernel_rfl
theorem c14 : cFun Try.prog 0 quiet Try.f14 = some i14 := by kernel_rfl
theorem g14 : Try.prog.funcs[14]? = some Try.f14 := by kernel_rfl
theorem c15 : cFun Try.prog 0 quiet Try.f15 = some i15 := by kernel_rfl
theorem g15 : Try.prog.funcs[15]? = some Try.f15 := by kernel_rfl
theorem c16 : cFun Try.prog 0 quiet Try.f16 = some i16 := by kernel_rfl
theorem g16 : Try.prog.funcs[16]? = some Try.f16 := by kernel_rfl
theorem c17 : cFun Try.prog 0 quiet Try.f17 = some i17 := by kernel_rfl
theorem g17 : Try.prog.funcs[17]? = some Try.f17 := by kernel_rfl
theorem c18 : cFun Try.prog 0 quiet Try.f18 = some i18 := by kernel_rfl
theorem g18 : Try.prog.funcs[18]? = some Try.f18 := by kernel_rfl
theorem c19 : cFun Try.prog 0 quiet Try.f19 = some i19 := by kernel_rfl
theorem g19 : Try.prog.funcs[19]? = some Try.f19 := by kernel_rfl
theorem c20 : cFun Try.prog 0 quiet Try.f20 = some i20 := by kernel_rfl
theorem g20 : Try.prog.funcs[20]? = some Try.f20 := by kernel_rfl
theorem c21 : cFun Try.prog 0 quiet Try.f21 = some i21 := by kernel_rfl
theorem g21 : Try.prog.funcs[21]? = some Try.f21 := by kernel_rfl
theorem c22 : cFun Try.prog 0 quiet Try.f22 = some i22 := by kernel_rfl
theorem g22 : Try.prog.funcs[22]? = some Try.f22 := by kernel_rfl
theorem c23 : cFun Try.prog 0 quiet Try.f23 = some i23 := by kernel_rfl
theorem g23 : Try.prog.funcs[23]? = some Try.f23 := by kernel_rfl
theorem c24 : cFun Try.prog 0 quiet Try.f24 = some i24 := by kernel_rfl
theorem g24 : Try.prog.funcs[24]? = some Try.f24 := by kernel_rfl
theorem c25 : cFun Try.prog 0 quiet Try.f25 = some i25 := by kernel_rfl
theorem g25 : Try.prog.funcs[25]? = some Try.f25 := by kernel_rfl
theorem c26 : cFun Try.prog 0 quiet Try.f26 = some i26 := by kernel_rfl
theorem g26 : Try.prog.funcs[26]? = some Try.f26 := by kernel_rfl
theorem c27 : cFun Try.prog 0 quiet Try.f27 = some i27 := by kernel_rfl
theorem g27 : Try.prog.funcs[27]? = some Try.f27 := by kernel_rfl
theorem c28 : cFun Try.prog 0 quiet Try.f28 = some i28 := by kernel_rfl
theorem g28 : Try.prog.funcs[28]? = some Try.f28 := by kernel_rfl
theorem c29 : cFun Try.prog 0 quiet Try.f29 = some i29 := by kernel_rfl
theorem g29 : Try.prog.funcs[29]? = some Try.f29 := by kernel_rfl
theorem c30 : cFun Try.prog 0 quiet Try.f30 = some i30 := by kernel_rfl
theorem g30 : Try.prog.funcs[30]? = some Try.f30 := by kernel_rfl
theorem c31 : cFun Try.prog 0 quiet Try.f31 = some i31 := by kernel_rfl
theorem g31 : Try.prog.funcs[31]? = some Try.f31 := by kernel_rfl
theorem c32 : cFun Try.prog 0 quiet Try.f32 = some i32 := by kernel_rfl
theorem g32 : Try.prog.funcs[32]? = some Try.f32 := by kernel_rfl
theorem c33 : cFun Try.prog 0 quiet Try.f33 = some i33 := by kernel_rfl
theorem g33 : Try.prog.funcs[33]? = some Try.f33 := by kernel_rfl
theorem c34 : cFun Try.prog 0 quiet Try.f34 = some i34 := by kernel_rfl
theorem g34 : Try.prog.funcs[34]? = some Try.f34 := by kernel_rfl
theorem c35 : cFun Try.prog 0 quiet Try.f35 = some i35 := by kernel_rfl
theorem g35 : Try.prog.funcs[35]? = some Try.f35 := by kernel_rfl
theorem c36 : cFun Try.prog 0 quiet Try.f36 = some i36 := by kernel_rfl
theorem g36 : Try.prog.funcs[36]? = some Try.f36 := by kernel_rfl
theorem c37 : cFun Try.prog 0 quiet Try.f37 = some i37 := by kernel_rfl
theorem g37 : Try.prog.funcs[37]? = some Try.f37 := by kernel_rfl
theorem c38 : cFun Try.prog 0 quiet Try.f38 = some i38 := by kernel_rfl
theorem g38 : Try.prog.funcs[38]? = some Try.f38 := by kernel_rfl
theorem c39 : cFun Try.prog 0 quiet Try.f39 = some i39 := by kernel_rfl
theorem g39 : Try.prog.funcs[39]? = some Try.f39 := by kernel_rfl
theorem c40 : cFun Try.prog 0 quiet Try.f40 = some i40 := by kernel_rfl
theorem g40 : Try.prog.funcs[40]? = some Try.f40 := by kernel_rfl
theorem c41 : cFun Try.prog 0 quiet Try.f41 = some i41 := by kernel_rfl
theorem g41 : Try.prog.funcs[41]? = some Try.f41 := by kernel_rfl
theorem c42 : cFun Try.prog 0 quiet Try.f42 = some i42 := by kernel_rfl
theorem g42 : Try.prog.funcs[42]? = some Try.f42 := by kernel_rfl
theorem c43 : cFun Try.prog 0 quiet Try.f43 = some i43 := by kernel_rfl
theorem g43 : Try.prog.funcs[43]? = some Try.f43 := by kernel_rfl
theorem c44 : cFun Try.prog 0 quiet Try.f44 = some i44 := by kernel_rfl
theorem g44 : Try.prog.funcs[44]? = some Try.f44 := by kernel_rfl
theorem c45 : cFun Try.prog 0 quiet Try.f45 = some i45 := by kernel_rfl
theorem g45 : Try.prog.funcs[45]? = some Try.f45 := by kernel_rfl
theorem c46 : cFun Try.prog 0 quiet Try.f46 = some i46 := by kernel_rfl
theorem g46 : Try.prog.funcs[46]? = some Try.f46 := by kernel_rfl
theorem c47 : cFun Try.prog 0 quiet Try.f47 = some i47 := by kernel_rfl
theorem g47 : Try.prog.funcs[47]? = some Try.f47 := by kernel_rfl
theorem c48 : cFun Try.prog 0 quiet Try.f48 = some i48 := by kernel_rfl
theorem g48 : Try.prog.funcs[48]? = some Try.f48 := by kernel_rfl
theorem c49 : cFun Try.prog 0 quiet Try.f49 = some i49 := by kernel_rfl
theorem g49 : Try.prog.funcs[49]? = some Try.f49 := by kernel_rfl
theorem c50 : cFun Try.prog 0 quiet Try.f50 = some i50 := by kernel_rfl
theorem g50 : Try.prog.funcs[50]? = some Try.f50 := by kernel_rfl
theorem c51 : cFun Try.prog 0 quiet Try.f51 = some i51 := by kernel_rfl
theorem g51 : Try.prog.funcs[51]? = some Try.f51 := by kernel_rfl
theorem c52 : cFun Try.prog 0 quiet Try.f52 = some i52 := by kernel_rfl
theorem g52 : Try.prog.funcs[52]? = some Try.f52 := by kernel_rfl
theorem c53 : cFun Try.prog 0 quiet Try.f53 = some i53 := by kernel_rfl
theorem g53 : Try.prog.funcs[53]? = some Try.f53 := by kernel_rfl
theorem c54 : cFun Try.prog 0 quiet Try.f54 = some i54 := by kernel_rfl
theorem g54 : Try.prog.funcs[54]? = some Try.f54 := by kernel_rfl
theorem c55 : cFun Try.prog 0 quiet Try.f55 = some i55 := by kernel_rfl
theorem g55 : Try.prog.funcs[55]? = some Try.f55 := by kernel_rfl
theorem c56 : cFun Try.prog 0 quiet Try.f56 = some i56 := by kernel_rfl
theorem g56 : Try.prog.funcs[56]? = some Try.f56 := by kernel_rfl
theorem c57 : cFun Try.prog 0 quiet Try.f57 = some i57 := by kernel_rfl
theorem g57 : Try.prog.funcs[57]? = some Try.f57 := by kernel_rfl
theorem c58 : cFun Try.prog 0 quiet Try.f58 = some i58 := by kernel_rfl
theorem g58 : Try.prog.funcs[58]? = some Try.f58 := by kernel_rfl
theorem c59 : cFun Try.prog 0 quiet Try.f59 = some i59 := by kernel_rfl
theorem g59 : Try.prog.funcs[59]? = some Try.f59 := by kernel_rfl
theorem c60 : cFun Try.prog 0 quiet Try.f60 = some i60 := by kernel_rfl
theorem g60 : Try.prog.funcs[60]? = some Try.f60 := by kernel_rfl
theorem c61 : cFun Try.prog 0 quiet Try.f61 = some i61 := by kernel_rfl
theorem g61 : Try.prog.funcs[61]? = some Try.f61 := by kernel_rfl
theorem c62 : cFun Try.prog 0 quiet Try.f62 = some i62 := by kernel_rfl
theorem g62 : Try.prog.funcs[62]? = some Try.f62 := by kernel_rfl
theorem c63 : cFun Try.prog 0 quiet Try.f63 = some i63 := by kernel_rfl
theorem g63 : Try.prog.funcs[63]? = some Try.f63 := by kernel_rfl
theorem c64 : cFun Try.prog 0 quiet Try.f64 = some i64 := by kernel_rfl
theorem g64 : Try.prog.funcs[64]? = some Try.f64 := by kernel_rfl
theorem c65 : cFun Try.prog 0 quiet Try.f65 = some i65 := by kernel_rfl
theorem g65 : Try.prog.funcs[65]? = some Try.f65 := by kernel_rfl
theorem c66 : cFun Try.prog 0 quiet Try.f66 = some i66 := by kernel_rfl
theorem g66 : Try.prog.funcs[66]? = some Try.f66 := by kernel_rfl
theorem c67 : cFun Try.prog 0 quiet Try.f67 = some i67 := by kernel_rfl
theorem g67 : Try.prog.funcs[67]? = some Try.f67 := by kernel_rfl
theorem c68 : cFun Try.prog 0 quiet Try.f68 = some i68 := by kernel_rfl
theorem g68 : Try.prog.funcs[68]? = some Try.f68 := by kernel_rfl
theorem c69 : cFun Try.prog 0 quiet Try.f69 = some i69 := by kernel_rfl
theorem g69 : Try.prog.funcs[69]? = some Try.f69 := by kernel_rfl
theorem c70 : cFun Try.prog 0 quiet Try.f70 = some i70 := by kernel_rfl
theorem g70 : Try.prog.funcs[70]? = some Try.f70 := by kernel_rfl
theorem c71 : cFun Try.prog 0 quiet Try.f71 = some i71 := by kernel_rfl
theorem g71 : Try.prog.funcs[71]? = some Try.f71 := by kernel_rfl
theorem c72 : cFun Try.prog 0 quiet Try.f72 = some i72 := by kernel_rfl
theorem g72 : Try.prog.funcs[72]? = some Try.f72 := by kernel_rfl
theorem c73 : cFun Try.prog 0 quiet Try.f73 = some i73 := by kernel_rfl
theorem g73 : Try.prog.funcs[73]? = some Try.f73 := by kernel_rfl
theorem c74 : cFun Try.prog 0 quiet Try.f74 = some i74 := by kernel_rfl
theorem g74 : Try.prog.funcs[74]? = some Try.f74 := by kernel_rfl
theorem c75 : cFun Try.prog 0 quiet Try.f75 = some i75 := by kernel_rfl
theorem g75 : Try.prog.funcs[75]? = some Try.f75 := by kernel_rfl
theorem c76 : cFun Try.prog 0 quiet Try.f76 = some i76 := by kernel_rfl
theorem g76 : Try.prog.funcs[76]? = some Try.f76 := by kernel_rfl
theorem c77 : cFun Try.prog 0 quiet Try.f77 = some i77 := by kernel_rfl
theorem g77 : Try.prog.funcs[77]? = some Try.f77 := by kernel_rfl
theorem c78 : cFun Try.prog 0 quiet Try.f78 = some i78 := by kernel_rfl
theorem g78 : Try.prog.funcs[78]? = some Try.f78 := by kernel_rfl
theorem c79 : cFun Try.prog 0 quiet Try.f79 = some i79 := by kernel_rfl
theorem g79 : Try.prog.funcs[79]? = some Try.f79 := by kernel_rfl
theorem c80 : cFun Try.prog 0 quiet Try.f80 = some i80 := by kernel_rfl
theorem g80 : Try.prog.funcs[80]? = some Try.f80 := by kernel_rfl
theorem c81 : cFun Try.prog 0 quiet Try.f81 = some i81 := by kernel_rfl
theorem g81 : Try.prog.funcs[81]? = some Try.f81 := by kernel_rfl
theorem c82 : cFun Try.prog 0 quiet Try.f82 = some i82 := by kernel_rfl
theorem g82 : Try.prog.funcs[82]? = some Try.f82 := by kernel_rfl
theorem c83 : cFun Try.prog 0 quiet Try.f83 = some i83 := by kernel_rfl
theorem g83 : Try.prog.funcs[83]? = some Try.f83 := by kernel_rfl
theorem c84 : cFun Try.prog 0 quiet Try.f84 = some i84 := by kernel_rfl
theorem g84 : Try.prog.funcs[84]? = some Try.f84 := by kernel_rfl
theorem c85 : cFun Try.prog 0 quiet Try.f85 = some i85 := by kernel_rfl
theorem g85 : Try.prog.funcs[85]? = some Try.f85 := by kernel_rfl
theorem c86 : cFun Try.prog 0 quiet Try.f86 = some i86 := by kernel_rfl
theorem g86 : Try.prog.funcs[86]? = some Try.f86 := by kernel_rfl
theorem c87 : cFun Try.prog 0 quiet Try.f87 = some i87 := by kernel_rfl
theorem g87 : Try.prog.funcs[87]? = some Try.f87 := by kernel_rfl
theorem c88 : cFun Try.prog 0 quiet Try.f88 = some i88 := by kernel_rfl
theorem g88 : Try.prog.funcs[88]? = some Try.f88 := by kernel_rfl
theorem c89 : cFun Try.prog 0 quiet Try.f89 = some i89 := by kernel_rfl
theorem g89 : Try.prog.funcs[89]? = some Try.f89 := by kernel_rfl
theorem c90 : cFun Try.prog 0 quiet Try.f90 = some i90 := by kernel_rfl
theorem g90 : Try.prog.funcs[90]? = some Try.f90 := by kernel_rfl
theorem c91 : cFun Try.prog 0 quiet Try.f91 = some i91 := by kernel_rfl
theorem g91 : Try.prog.funcs[91]? = some Try.f91 := by kernel_rfl
theorem c92 : cFun Try.prog 0 quiet Try.f92 = some i92 := by kernel_rfl
theorem g92 : Try.prog.funcs[92]? = some Try.f92 := by kernel_rfl

def table : Tree := (.node 49 i49 (.node 27 i27 (.node 16 i16 (.node 11 i11 (.node 8 i8 (.node 7 i7 (.node 5 i5 .leaf .leaf) .leaf) (.node 10 i10 (.node 9 i9 .leaf .leaf) .leaf)) (.node 14 i14 (.node 13 i13 (.node 12 i12 .leaf .leaf) .leaf) (.node 15 i15 .leaf .leaf))) (.node 22 i22 (.node 19 i19 (.node 18 i18 (.node 17 i17 .leaf .leaf) .leaf) (.node 21 i21 (.node 20 i20 .leaf .leaf) .leaf)) (.node 25 i25 (.node 24 i24 (.node 23 i23 .leaf .leaf) .leaf) (.node 26 i26 .leaf .leaf)))) (.node 38 i38 (.node 33 i33 (.node 30 i30 (.node 29 i29 (.node 28 i28 .leaf .leaf) .leaf) (.node 32 i32 (.node 31 i31 .leaf .leaf) .leaf)) (.node 36 i36 (.node 35 i35 (.node 34 i34 .leaf .leaf) .leaf) (.node 37 i37 .leaf .leaf))) (.node 44 i44 (.node 41 i41 (.node 40 i40 (.node 39 i39 .leaf .leaf) .leaf) (.node 43 i43 (.node 42 i42 .leaf .leaf) .leaf)) (.node 47 i47 (.node 46 i46 (.node 45 i45 .leaf .leaf) .leaf) (.node 48 i48 .leaf .leaf))))) (.node 71 i71 (.node 60 i60 (.node 55 i55 (.node 52 i52 (.node 51 i51 (.node 50 i50 .leaf .leaf) .leaf) (.node 54 i54 (.node 53 i53 .leaf .leaf) .leaf)) (.node 58 i58 (.node 57 i57 (.node 56 i56 .leaf .leaf) .leaf) (.node 59 i59 .leaf .leaf))) (.node 66 i66 (.node 63 i63 (.node 62 i62 (.node 61 i61 .leaf .leaf) .leaf) (.node 65 i65 (.node 64 i64 .leaf .leaf) .leaf)) (.node 69 i69 (.node 68 i68 (.node 67 i67 .leaf .leaf) .leaf) (.node 70 i70 .leaf .leaf)))) (.node 82 i82 (.node 77 i77 (.node 74 i74 (.node 73 i73 (.node 72 i72 .leaf .leaf) .leaf) (.node 76 i76 (.node 75 i75 .leaf .leaf) .leaf)) (.node 80 i80 (.node 79 i79 (.node 78 i78 .leaf .leaf) .leaf) (.node 81 i81 .leaf .leaf))) (.node 88 i88 (.node 85 i85 (.node 84 i84 (.node 83 i83 .leaf .leaf) .leaf) (.node 87 i87 (.node 86 i86 .leaf .leaf) .leaf)) (.node 91 i91 (.node 90 i90 (.node 89 i89 .leaf .leaf) .leaf) (.node 92 i92 .leaf .leaf))))))

theorem fits : table.All (Fits Try.prog 0 quiet) := ⟨⟨_, g49, c49⟩, ⟨⟨_, g27, c27⟩, ⟨⟨_, g16, c16⟩, ⟨⟨_, g11, c11⟩, ⟨⟨_, g8, c8⟩, ⟨⟨_, g7, c7⟩, ⟨⟨_, g5, c5⟩, trivial, trivial⟩, trivial⟩, ⟨⟨_, g10, c10⟩, ⟨⟨_, g9, c9⟩, trivial, trivial⟩, trivial⟩⟩, ⟨⟨_, g14, c14⟩, ⟨⟨_, g13, c13⟩, ⟨⟨_, g12, c12⟩, trivial, trivial⟩, trivial⟩, ⟨⟨_, g15, c15⟩, trivial, trivial⟩⟩⟩, ⟨⟨_, g22, c22⟩, ⟨⟨_, g19, c19⟩, ⟨⟨_, g18, c18⟩, ⟨⟨_, g17, c17⟩, trivial, trivial⟩, trivial⟩, ⟨⟨_, g21, c21⟩, ⟨⟨_, g20, c20⟩, trivial, trivial⟩, trivial⟩⟩, ⟨⟨_, g25, c25⟩, ⟨⟨_, g24, c24⟩, ⟨⟨_, g23, c23⟩, trivial, trivial⟩, trivial⟩, ⟨⟨_, g26, c26⟩, trivial, trivial⟩⟩⟩⟩, ⟨⟨_, g38, c38⟩, ⟨⟨_, g33, c33⟩, ⟨⟨_, g30, c30⟩, ⟨⟨_, g29, c29⟩, ⟨⟨_, g28, c28⟩, trivial, trivial⟩, trivial⟩, ⟨⟨_, g32, c32⟩, ⟨⟨_, g31, c31⟩, trivial, trivial⟩, trivial⟩⟩, ⟨⟨_, g36, c36⟩, ⟨⟨_, g35, c35⟩, ⟨⟨_, g34, c34⟩, trivial, trivial⟩, trivial⟩, ⟨⟨_, g37, c37⟩, trivial, trivial⟩⟩⟩, ⟨⟨_, g44, c44⟩, ⟨⟨_, g41, c41⟩, ⟨⟨_, g40, c40⟩, ⟨⟨_, g39, c39⟩, trivial, trivial⟩, trivial⟩, ⟨⟨_, g43, c43⟩, ⟨⟨_, g42, c42⟩, trivial, trivial⟩, trivial⟩⟩, ⟨⟨_, g47, c47⟩, ⟨⟨_, g46, c46⟩, ⟨⟨_, g45, c45⟩, trivial, trivial⟩, trivial⟩, ⟨⟨_, g48, c48⟩, trivial, trivial⟩⟩⟩⟩⟩, ⟨⟨_, g71, c71⟩, ⟨⟨_, g60, c60⟩, ⟨⟨_, g55, c55⟩, ⟨⟨_, g52, c52⟩, ⟨⟨_, g51, c51⟩, ⟨⟨_, g50, c50⟩, trivial, trivial⟩, trivial⟩, ⟨⟨_, g54, c54⟩, ⟨⟨_, g53, c53⟩, trivial, trivial⟩, trivial⟩⟩, ⟨⟨_, g58, c58⟩, ⟨⟨_, g57, c57⟩, ⟨⟨_, g56, c56⟩, trivial, trivial⟩, trivial⟩, ⟨⟨_, g59, c59⟩, trivial, trivial⟩⟩⟩, ⟨⟨_, g66, c66⟩, ⟨⟨_, g63, c63⟩, ⟨⟨_, g62, c62⟩, ⟨⟨_, g61, c61⟩, trivial, trivial⟩, trivial⟩, ⟨⟨_, g65, c65⟩, ⟨⟨_, g64, c64⟩, trivial, trivial⟩, trivial⟩⟩, ⟨⟨_, g69, c69⟩, ⟨⟨_, g68, c68⟩, ⟨⟨_, g67, c67⟩, trivial, trivial⟩, trivial⟩, ⟨⟨_, g70, c70⟩, trivial, trivial⟩⟩⟩⟩, ⟨⟨_, g82, c82⟩, ⟨⟨_, g77, c77⟩, ⟨⟨_, g74, c74⟩, ⟨⟨_, g73, c73⟩, ⟨⟨_, g72, c72⟩, trivial, trivial⟩, trivial⟩, ⟨⟨_, g76, c76⟩, ⟨⟨_, g75, c75⟩, trivial, trivial⟩, trivial⟩⟩, ⟨⟨_, g80, c80⟩, ⟨⟨_, g79, c79⟩, ⟨⟨_, g78, c78⟩, trivial, trivial⟩, trivial⟩, ⟨⟨_, g81, c81⟩, trivial, trivial⟩⟩⟩, ⟨⟨_, g88, c88⟩, ⟨⟨_, g85, c85⟩, ⟨⟨_, g84, c84⟩, ⟨⟨_, g83, c83⟩, trivial, trivial⟩, trivial⟩, ⟨⟨_, g87, c87⟩, ⟨⟨_, g86, c86⟩, trivial, trivial⟩, trivial⟩⟩, ⟨⟨_, g91, c91⟩, ⟨⟨_, g90, c90⟩, ⟨⟨_, g89, c89⟩, trivial, trivial⟩, trivial⟩, ⟨⟨_, g92, c92⟩, trivial, trivial⟩⟩⟩⟩⟩⟩

theorem mixed : Try.prog.follows .mixedOrders = true := by kernel_rfl

theorem allOk (n : Nat) : CallOK Try.prog 0 (fCalls table.look n) := fCalls_ok (stands_look fits) mixed n

end Go.Proofs.Ytlagdoglofbheaa.BackNames
