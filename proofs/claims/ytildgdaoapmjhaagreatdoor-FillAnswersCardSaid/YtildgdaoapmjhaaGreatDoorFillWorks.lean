/- The closed call works() over the variable goesOn, answered at once in any state; and the calls over it. -/
import Derived.Test.YtildgdaoapmjhaaGreatDoorFillIr
import Derived.Test.YtildgdaoapmjhaaGreatDoorAe36
namespace Go.Proofs.YtildgdaoapmjhaaGreatDoor.Fill
open Go Go.Proofs.YtildgdaoapmjhaaGreatDoor.AE Go.RowKit

def goes : List Int := [0, 0, 0, 0, 0, 0, 0, 0, 0, 0, 0, 0, 0, 0, 0, 0, 0, 0, 0, 0, 0, 22, 0, 0, 0, 0, 0, 0, 0, 0, 31, 0, 0, 0, 0, 0, 43, 38, 0, 0, 41, 42, 0, 0, 0, 0, 47, 48, 49, 40]
def goesC : List Value := goes.map (Value.int .i64)

theorem ranWorks : fCalls table.look 64 9 [] ⟨[.view goesC], 1, 1⟩ = some (.bool true, ⟨[.view goesC], 1, 1⟩, true) := by kernel_rfl

/-- What is known: works(), and every call by itself. -/
noncomputable def known : CallS := overG 9 (.bool true) goesC (calls table.find 64)
theorem known_cons {f : FuncId} {a : Value} {l : List Value} {S : St} : known f (a :: l) S = calls table.find 64 f (a :: l) S := overG_cons
theorem known_works {S : St} (h : S.at 0 = some (.view goesC)) : known 9 [] S = some (.bool true, S, true) := overG_at h
theorem known_ok : CallOK Tryz.prog 1 known :=
  overG_ok (allOk' 64) (by decide) rfl (by kernel_rfl) (fun vs w => (allOk 64).enter _ _ _ _ _ _ ranWorks vs w) fun w hw => calls_one (allOk 64) ranWorks rfl (by kernel_rfl) hw
theorem lawOk : CallOK Tryz.prog 1 (evFun table.find known) := evFun_ok (stands_of fits) mixed known_ok

end Go.Proofs.YtildgdaoapmjhaaGreatDoor.Fill
