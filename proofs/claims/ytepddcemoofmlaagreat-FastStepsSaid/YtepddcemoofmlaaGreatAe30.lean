/- A closed call that is known by another road may be answered at once. -/
import Derived.Test.YtepddcemoofmlaaGreatAe29
namespace Go.Proofs.YtepddcemoofmlaaGreat.AE
open Go Go.RowKit

theorem rep_of_below {P : Program} {nG : Nat} {ρ : Rho} {m : Nat → Option AObj} {w w' : World} (rep : Rep P nG ρ m w) (hb : Below w.heap.size w w') : Rep P nG ρ m w' ∧ Ext ρ m w ρ m w' := by
  have hh : ∀ b o, m b = some o → w'.heap[ρ.blk b]? = w.heap[ρ.blk b]? := fun b o h => hb.block _ (rep.size b o h)
  refine ⟨⟨fun b o h => Nat.lt_of_lt_of_le (rep.size b o h) hb.size, fun b o h => ?_, rep.sep, rep.clo, rep.glob⟩,
    ⟨hb.os, hb.tape, hb.output, hb.size, fun _ _ => ⟨rfl, rfl, rfl⟩, fun k hk _ => hb.block k hk, fun b o h ho => .inr ⟨b, o, h, ho, id, rfl⟩, fun _ h => h⟩⟩
  have ho := rep.obj b o h
  cases o with
  | cells e c => simp only [RepObj, hh b _ h] at ho ⊢; exact ho
  | view c => simp only [RepObj, hh b _ h] at ho ⊢; exact ho
  | amap es => simp only [RepObj, hh b _ h] at ho ⊢; exact ho
  | dead => trivial

def over (f0 : Nat) (v0 : Value) (C : CallS) : CallS := fun f args S =>
  match args with
  | [] => if f = f0 then some (v0, S, true) else C f [] S
  | a :: l => C f (a :: l) S

@[simp] theorem over_cons {f0 : Nat} {v0 : Value} {C : CallS} {f : FuncId} {a : Value} {l : List Value} {S : St} : over f0 v0 C f (a :: l) S = C f (a :: l) S := rfl
@[simp] theorem over_nil {f0 : Nat} {v0 : Value} {C : CallS} {f : FuncId} {S : St} : over f0 v0 C f [] S = if f = f0 then some (v0, S, true) else C f [] S := rfl

theorem over_ok {P : Program} {nG : Nat} {C : CallS} {f0 : Nat} {v0 : Value} (hC : CallOK P nG C) (hz : refsLt 0 v0 = true) (he : ∀ (vs : Array Value) (w : World), (callFunc f0 vs).run P w = .ok (.enter f0 vs) w)
    (hr : ∀ w, Calls P f0 #[] w fun e w' => e = .returned v0 ∧ Below w.heap.size w w') : CallOK P nG (over f0 v0 C) := by
  have key : ∀ f args S x, over f0 v0 C f args S = some x → (f = f0 ∧ args = [] ∧ x = (v0, S, true)) ∨ C f args S = some x := by
    intro f args S x h
    cases args with
    | nil =>
      simp only [over_nil] at h
      split at h
      · rename_i hf
        simp only [Option.some.injEq] at h
        exact .inl ⟨hf, rfl, h.symm⟩
      · exact .inr h
    | cons a l => exact .inr h
  refine ⟨?_, ?_, ?_, ?_⟩
  · intro f args S v S' q h
    rcases key _ _ _ _ h with ⟨_, _, e⟩ | h
    · simp only [Prod.mk.injEq] at e; rw [e.2.1]; exact Evo.refl _
    · exact hC.evo _ _ _ _ _ _ h
  · intro f args S v S' q h hq
    rcases key _ _ _ _ h with ⟨_, _, e⟩ | h
    · simp only [Prod.mk.injEq] at e; rw [e.2.1]; exact fun _ _ => rfl
    · exact hC.same _ _ _ _ _ _ h hq
  · intro f args S v S' q h
    rcases key _ _ _ _ h with ⟨hf, _, _⟩ | h
    · subst hf; exact he
    · exact hC.enter _ _ _ _ _ _ h
  · intro f args S v S' q h ρ w rep ha
    rcases key _ _ _ _ h with ⟨hf, hargs, e⟩ | h
    · subst hf; subst hargs
      simp only [Prod.mk.injEq] at e
      obtain ⟨rfl, rfl, rfl⟩ := e
      refine (hr w).mono ?_
      rintro e w' ⟨he, hb⟩
      obtain ⟨r1, r2⟩ := rep_of_below rep hb
      exact ⟨ρ, by rw [he, ren_of_zero hz], r1, r2, clo_of_zero hz⟩
    · exact hC.run _ _ _ _ _ _ h ρ w rep ha

end Go.Proofs.YtepddcemoofmlaaGreat.AE
