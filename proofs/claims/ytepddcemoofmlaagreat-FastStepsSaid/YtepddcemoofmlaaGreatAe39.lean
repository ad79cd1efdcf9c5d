/- A region whose order is open, with a writer that lets readers look again. -/
import Derived.Test.YtepddcemoofmlaaGreatAe38
set_option linter.unusedSimpArgs false
set_option linter.unusedVariables false
namespace Go.Proofs.YtepddcemoofmlaaGreat.AE
open Go

section
variable {C : CallS} {al l : List IOper} {p : Nat} {R : List Value} {S : St}
theorem ops_y {d : Nat} {op : IOp} : evOps C al (oy d op :: l) p [] R S = stepK (some d) (evOp C R S op) R fun R S => evOps C al l (p + 1) [] R S := ops_step
theorem ops_x {op : IOp} : evOps C al (ox op :: l) p [] R S = stepK none (evOp C R S op) R fun R S => evOps C al l (p + 1) [] R S := ops_step

def postK (b : Bool) (x : Unit → Option (List Value × St)) : Option (List Value × St) := match b with
  | true => x ()
  | false => none
@[congr] theorem postK_congr {b b' : Bool} {x : Unit → Option (List Value × St)} (h : b = b') : postK b x = postK b' x := by rw [h]
theorem postK_true {x : Unit → Option (List Value × St)} : postK true x = x () := (rfl)
theorem ops_post {op : IOp} {post : List Nat} : evOps C al (⟨none, op, none, [], post, false⟩ :: l) p [] R S =
    stepK none (evOp C R S op) R fun R S => postK (postOk post al R S) fun _ => evOps C al l (p + 1) [] R S := by
  simp only [evOps, stepK, wantedI, preOk, List.all_nil, if_true, Bool.true_and, Bool.false_eq_true, if_false]
  cases evOp C R S op with
  | none => rfl
  | some x =>
    obtain ⟨v, S'⟩ := x
    show (if postOk post al R S' = true then evOps C al l (p + 1) [] R S' else none) = postK (postOk post al R S') fun _ => evOps C al l (p + 1) [] R S'
    cases postOk post al R S' <;> rfl

theorem post_nil : postOk [] al R S = true := rfl
theorem post_load {i d n : Nat} {agg : Bool} {x : IV} {post : List Nat} (h : al[i]? = some (oy d (.load agg n x))) :
    postOk (i :: post) al R S = ((match ldK agg n (IV.ev R x) S with | some u => sameV u (rd R d) | none => false) && postOk post al R S) := by
  have e : evRead R (S.blks[·]?) (.load agg n x) = ldK agg n (IV.ev R x) S := by rw [← ld_eq]; rfl
  simp only [postOk, List.all_cons, h, oy, wantedI, Bool.not_true, Bool.false_or, e]
  congr 1
  cases ldK agg n (IV.ev R x) S <;> rfl
end

theorem sameV_int {k : IntKind} {a : Int} : sameV (.int k a) (.int k a) = true := by simp [sameV]
theorem sameV_bool {a : Bool} : sameV (.bool a) (.bool a) = true := by simp [sameV]
theorem sameV_slice {a : Option Addr} {n c : Nat} : sameV (.slice a n c) (.slice a n c) = true := by simp [sameV]
theorem sameV_agg {l : List Value} (h : ∀ v ∈ l, sameV v v = true) : sameV (.agg ⟨l⟩) (.agg ⟨l⟩) = true := by
  simp only [sameV, sameA]
  induction l with
  | nil => rfl
  | cons v l ih =>
    simp only [sameL, Bool.and_eq_true]
    exact ⟨h v (List.mem_cons_self ..), ih fun u hu => h u (List.mem_cons_of_mem _ hu)⟩

end Go.Proofs.YtepddcemoofmlaaGreat.AE
