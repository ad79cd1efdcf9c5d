/- Calls in the fast form are sound. -/
import Derived.Test.YtepddcemoofmlaaGreatAe25
namespace Go.Proofs.YtepddcemoofmlaaGreat.AE
open Go

noncomputable def Tree.look (t : Tree) : Nat → Option IFun :=
  Tree.rec (motive := fun _ => Nat → Option IFun) (fun _ => none) (fun k v _ _ l r f => cond (Nat.beq f k) (some v) (cond (Nat.blt f k) (l f) (r f))) t

theorem look_eq : ∀ (t : Tree) (f : Nat), t.look f = t.find f
  | .leaf, _ => rfl
  | .node k v l r, f => by
    show cond (Nat.beq f k) (some v) (cond (Nat.blt f k) (l.look f) (r.look f)) = _
    simp only [Tree.find]
    cases Nat.beq f k with
    | true => rfl
    | false => cases Nat.blt f k with
      | true => exact look_eq l f
      | false => exact look_eq r f

theorem callOK_of {P : Program} {nG : Nat} {C C' : CallS} (hC : CallOK P nG C) (h : ∀ f args S x, C' f args S = some x → C f args S = some x) : CallOK P nG C' :=
  ⟨fun f args S v S' q hh => hC.evo f args S v S' q (h _ _ _ _ hh), fun f args S v S' q hh => hC.same f args S v S' q (h _ _ _ _ hh), fun f args S v S' q hh => hC.enter f args S v S' q (h _ _ _ _ hh), fun f args S v S' q hh => hC.run f args S v S' q (h _ _ _ _ hh)⟩

theorem fCalls_ok {P : Program} {nG : Nat} {Q : FuncId → Bool} {prog : Nat → Option IFun} (hp : Stands P nG Q prog) (hm : P.follows .mixedOrders = true) : ∀ n, CallOK P nG (fCalls prog n)
  | 0 => callOK_of (calls_ok hp hm 0) fun f args S x h => by cases h
  | n + 1 => by
    refine callOK_of (evFun_ok hp hm (fCalls_ok hp hm n)) fun f args S x h => ?_
    have e : fCalls prog (n + 1) f args S = fFun prog (fCalls prog n) f args S := rfl
    rw [e] at h
    unfold fFun at h
    split at h
    · cases h
    · rename_i fn hf
      exact fRun_ok hf h

theorem stands_look {P : Program} {nG : Nat} {Q : FuncId → Bool} {t : Tree} (h : t.All (Fits P nG Q)) : Stands P nG Q t.look := fun f fn hf => stands_of h f fn (by rw [← look_eq]; exact hf)

end Go.Proofs.YtepddcemoofmlaaGreat.AE
