/- A table of functions, and what a call says of the world. -/
import Derived.Test.YtepddcemoofmlaaGreatAe21
import Derived.ProofKit
namespace Go.Proofs.YtepddcemoofmlaaGreat.AE
open Go Go.RowKit

inductive Tree where
  | leaf
  | node (k : Nat) (v : IFun) (l r : Tree)

def Tree.find : Tree → Nat → Option IFun
  | .leaf, _ => none
  | .node k v l r, f => match Nat.beq f k with
    | true => some v
    | false => match Nat.blt f k with
      | true => l.find f
      | false => r.find f

def Tree.All (p : Nat → IFun → Prop) : Tree → Prop
  | .leaf => True
  | .node k v l r => p k v ∧ l.All p ∧ r.All p

theorem Tree.find_all {p : Nat → IFun → Prop} : ∀ {t : Tree} {f : Nat} {v : IFun}, t.All p → t.find f = some v → p f v
  | .leaf, _, _, _, h => by simp [Tree.find] at h
  | .node k u l r, f, v, ha, h => by
    simp only [Tree.find] at h
    split at h
    · rename_i hk
      have := Nat.eq_of_beq_eq_true hk
      simp only [Option.some.injEq] at h
      subst h; subst this
      exact ha.1
    · split at h
      · exact Tree.find_all ha.2.1 h
      · exact Tree.find_all ha.2.2 h

/-- A function of the program and its compact form. -/
def Fits (P : Program) (nG : Nat) (Q : FuncId → Bool) (f : Nat) (fn : IFun) : Prop := ∃ func, P.funcs[f]? = some func ∧ cFun P nG Q func = some fn

theorem stands_of {P : Program} {nG : Nat} {Q : FuncId → Bool} {t : Tree} (h : t.All (Fits P nG Q)) : Stands P nG Q t.find := fun _ _ hf => Tree.find_all h hf

theorem below_of_ext {ρ ρ' : Rho} {m m' : Nat → Option AObj} {w w' : World} (hno : ∀ b o, m b = some o → o.own = false) (h : Ext ρ m w ρ' m' w') : Below w.heap.size w w' :=
  ⟨h.os, h.tape, h.output, h.size, fun k hk => h.frame k hk fun b o hb ho => by rw [hno b o hb] at ho; cases ho⟩

/-- A call without arguments, and without variables of the program. -/
theorem calls_none {P : Program} {C : CallS} (hC : CallOK P 0 C) {f : Nat} {v : Value} {S' : St} {q : Bool} (h : C f [] ⟨[], 0, 0⟩ = some (v, S', q)) (hv : refsLt 0 v = true) (w : World) :
    Calls P f #[] w fun e w' => e = .returned v ∧ Below w.heap.size w w' := by
  have rep : Rep P 0 ⟨fun _ => 0, fun _ => 0, fun _ => 0⟩ (St.m ⟨[], 0, 0⟩) w :=
    ⟨fun b o h => by simp [St.m] at h, fun b o h => by simp [St.m] at h, fun b b' o o' h => by simp [St.m] at h, fun b o h => by simp [St.m] at h, fun g h => absurd h (Nat.not_lt_zero g)⟩
  refine Calls.mono (hC.run f [] _ v S' q h _ w rep (fun u hu => by simp at hu)) ?_
  rintro e w' ⟨ρ', he, _, hx, _⟩
  exact ⟨by rw [he, ren_of_zero hv], below_of_ext (fun b o h => by simp [St.m] at h) hx⟩

/-- As the kit's lemma for a world that stood as it was, where only what was there is asked. -/
theorem post_of_below {H : Type} {enc : TypeId × Value → H} {P : Program} {f : Func} {s : ChangeSpec} {apart fresh handsOn : Bool} {W W' : World} {args : Array Value} {v : Value} {ds gs : List (DataW H)} {before pa pv : List MemPlace}
    (hW : DataW.Whole enc P f.params.toList s.vars apart W args.toList ds gs before)
    (hres : ∀ (b : Nat) (sp : Nat → Bool) (hd : Bool), DataW.TrodAll enc P W' b sp hd f.resultTypes.toList (v.resultList f.resultTypes.size) (s.fn H (ds ++ gs)).results [])
    (hargs : ∀ sp : Nat → Bool, (∀ p ∈ before, sp p.block = true) → DataW.TrodAll enc P W' 0 sp true f.params.toList args.toList (s.fn H (ds ++ gs)).args pa)
    (hvars : ∀ sp : Nat → Bool, (∀ p ∈ before, sp p.block = true) → DataW.TrodVars enc P W' sp s.vars (s.fn H (ds ++ gs)).vars pv)
    (hps : before = pa ++ pv) (hb : Below W.heap.size W W') :
    s.post enc P f apart fresh handsOn false W args v W' := by
  have hold : ∀ p ∈ before, (fun b => decide (b < W.heap.size)) p.block = true := fun p hp => by simpa using hW.lt p hp
  refine ⟨ds, gs, before, [], pa, pv, hW, hres _ _ _, hargs _ hold, hvars _ hold, World.keptBut_mono (fun p hp => ⟨hp, ?_⟩) (hb.frame (· ∈ before)), fun h => by cases h⟩
  rw [hps, List.mem_append] at hp
  exact Or.inr hp

end Go.Proofs.YtepddcemoofmlaaGreat.AE
