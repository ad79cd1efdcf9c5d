/- The closed call works(), answered at once in any state; and the calls over it. -/
import Derived.Test.YtepddcemoofmlaaGreatFastIr
import Derived.Test.YtepddcemoofmlaaGreatAe33
set_option linter.unusedSimpArgs false
set_option linter.unusedVariables false
namespace Go.Proofs.YtepddcemoofmlaaGreat.Fast
open Go Go.Proofs.YtepddcemoofmlaaGreat.AE Go.RowKit

theorem ranWorks : fCalls table.look 64 11 [] ⟨[], 0, 0⟩ = some (.bool true, ⟨[], 0, 0⟩, true) := by kernel_rfl

/-- What is known: works(), and every call by itself. -/
def known : CallS := over 11 (.bool true) (calls table.find 64)

theorem known_cons {f : FuncId} {a : Value} {l : List Value} {S : St} : known f (a :: l) S = calls table.find 64 f (a :: l) S := over_cons
theorem known_works {S : St} : known 11 [] S = some (.bool true, S, true) := by rw [known, over_nil, if_pos rfl]

theorem known_ok : CallOK Tryz.prog 0 known :=
  over_ok (allOk' 64) rfl (fun vs w => (allOk 64).enter _ _ _ _ _ _ ranWorks vs w) fun w => calls_none (allOk 64) ranWorks rfl w

theorem lawOk (_ : Nat) : CallOK Tryz.prog 0 (evFun table.find known) := evFun_ok (stands_of fits) mixed known_ok

end Go.Proofs.YtepddcemoofmlaaGreat.Fast
