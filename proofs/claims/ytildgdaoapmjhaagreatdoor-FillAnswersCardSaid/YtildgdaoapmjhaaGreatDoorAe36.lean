/- A closed call over one variable of the program's, answered at once; a law over that variable, with arguments. -/
import Derived.Test.YtildgdaoapmjhaaGreatDoorAe35
namespace Go.Proofs.YtildgdaoapmjhaaGreatDoor.AE
open Go Go.RowKit Go.ChangeShapes Go.WideShapes Go.ChangeAt Go.WideMaps Go.WideElems

@[simp] theorem isBit_undef {w : Bool} : isBit undef w = false := (rfl)

open Classical in
/-- Where the variable (block 0) reads as c, the call f0 comes to v0. -/
noncomputable def overG (f0 : Nat) (v0 : Value) (c : List Value) (C : CallS) : CallS := fun f args S =>
  if f = f0 ∧ args = [] ∧ S.at 0 = some (.view c) then some (v0, S, true) else C f args S

theorem overG_cons {f0 : Nat} {v0 : Value} {c : List Value} {C : CallS} {f : FuncId} {a : Value} {l : List Value} {S : St} : overG f0 v0 c C f (a :: l) S = C f (a :: l) S := by
  simp [overG]
theorem overG_at {f0 : Nat} {v0 : Value} {c : List Value} {C : CallS} {S : St} (h : S.at 0 = some (.view c)) : overG f0 v0 c C f0 [] S = some (v0, S, true) := by
  simp [overG, h]

theorem overG_ok {P : Program} {nG : Nat} {C : CallS} {f0 : Nat} {v0 : Value} {c : List Value} (hC : CallOK P nG C) (hG : 0 < nG) (hz : refsLt 0 v0 = true) (hc : refsLtL 0 c = true)
    (he : ∀ (vs : Array Value) (w : World), (callFunc f0 vs).run P w = .ok (.enter f0 vs) w)
    (hr : ∀ w : World, (∃ cs e fr, w.heap[0]? = some (.cells cs e fr) ∧ ∀ (i : Nat) (u : Value), c[i]? = some u → cs[i]? = some u) → Calls P f0 #[] w fun e w' => e = .returned v0 ∧ Below w.heap.size w w') :
    CallOK P nG (overG f0 v0 c C) := by
  have key : ∀ f args S x, overG f0 v0 c C f args S = some x → (f = f0 ∧ args = [] ∧ S.at 0 = some (.view c) ∧ x = (v0, S, true)) ∨ C f args S = some x := by
    intro f args S x h
    unfold overG at h
    split at h
    · rename_i hf
      simp only [Option.some.injEq] at h
      exact .inl ⟨hf.1, hf.2.1, hf.2.2, h.symm⟩
    · exact .inr h
  refine ⟨?_, ?_, ?_, ?_⟩
  · intro f args S v S' q h
    rcases key _ _ _ _ h with ⟨_, _, _, e⟩ | h
    · simp only [Prod.mk.injEq] at e; rw [e.2.1]; exact Evo.refl _
    · exact hC.evo _ _ _ _ _ _ h
  · intro f args S v S' q h hq
    rcases key _ _ _ _ h with ⟨_, _, _, e⟩ | h
    · simp only [Prod.mk.injEq] at e; rw [e.2.1]; exact fun _ _ => rfl
    · exact hC.same _ _ _ _ _ _ h hq
  · intro f args S v S' q h
    rcases key _ _ _ _ h with ⟨hf, _, _, _⟩ | h
    · subst hf; exact he
    · exact hC.enter _ _ _ _ _ _ h
  · intro f args S v S' q h ρ w rep ha
    rcases key _ _ _ _ h with ⟨hf, hargs, hv, e⟩ | h
    · subst hf; subst hargs
      simp only [Prod.mk.injEq] at e
      obtain ⟨rfl, rfl, rfl⟩ := e
      obtain ⟨g1, g2, _⟩ := rep.glob 0 hG
      have ho := rep.obj 0 _ hv
      simp only [RepObj, g1, g2, Nat.zero_add] at ho
      obtain ⟨⟨cs, e, fr, h1, h2⟩, _⟩ := ho
      refine (hr w ⟨cs, e, fr, h1, fun i u hu => ?_⟩).mono ?_
      · have := h2 i u hu
        rw [ren_of_zero (refsLtL_iff.1 hc u (List.mem_of_getElem? hu))] at this
        exact this
      · rintro e w' ⟨he, hb⟩
        obtain ⟨r1, r2⟩ := rep_of_below rep hb
        exact ⟨ρ, by rw [he, ren_of_zero hz], r1, r2, clo_of_zero hz⟩
    · exact hC.run _ _ _ _ _ _ h ρ w rep ha

/-- A call whose arguments bear no reference, over one variable of the program's, whose cells are known and bear none. -/
theorem calls_plainG {P : Program} {C : CallS} (hC : CallOK P 1 C) {f : Nat} {c args : List Value} {v : Value} {S' : St} {q : Bool} (h : C f args ⟨[.view c], 1, 1⟩ = some (v, S', q)) (hv : refsLt 0 v = true) (hc : refsLtL 0 c = true)
    (ha : ∀ u ∈ args, refsLt 0 u = true) {w : World} (hw : ∃ cs e fr, w.heap[0]? = some (.cells cs e fr) ∧ ∀ (i : Nat) (u : Value), c[i]? = some u → cs[i]? = some u) :
    Calls P f args.toArray w fun e w' => e = .returned v ∧ Below w.heap.size w w' := by
  have hm : ∀ b o, St.m ⟨[.view c], 1, 1⟩ b = some o → b = 0 ∧ o = .view c := by
    intro b o hb
    cases b with
    | zero => simp [St.m] at hb; exact ⟨rfl, hb.symm⟩
    | succ b => simp [St.m] at hb
  have rep : Rep P 1 ⟨fun _ => 0, fun _ => 0, fun _ => c.length⟩ (St.m ⟨[.view c], 1, 1⟩) w := by
    obtain ⟨cs, e, fr, hh, hcs⟩ := hw
    refine ⟨fun b o h => ?_, fun b o h => ?_, fun b b' o o' h h' ho _ _ => ?_, fun b o h => ?_, fun g hg => ?_⟩
    · obtain ⟨rfl, rfl⟩ := hm b o h
      exact (Array.getElem?_eq_some_iff.1 hh).1
    · obtain ⟨rfl, rfl⟩ := hm b o h
      refine ⟨⟨cs, e, fr, hh, fun i u hu => ?_⟩, Nat.le_refl _⟩
      rw [ren_of_zero (refsLtL_iff.1 hc u (List.mem_of_getElem? hu))]
      simpa using hcs i u hu
    · obtain ⟨rfl, rfl⟩ := hm b o h
      cases ho
    · obtain ⟨rfl, rfl⟩ := hm b o h
      exact fun u hu => clo_of_zero (refsLtL_iff.1 hc u hu)
    · have : g = 0 := by omega
      subst this
      exact ⟨rfl, rfl, by simp [St.m]⟩
  have e : args.map (ren ⟨fun _ => 0, fun _ => 0, fun _ => c.length⟩) = args := by
    conv => rhs; rw [← List.map_id args]
    exact List.map_congr_left fun u hu => ren_of_zero (ha u hu)
  have hr := hC.run f args _ v S' q h _ w rep fun u hu => clo_of_zero (ha u hu)
  rw [e] at hr
  refine Calls.mono hr ?_
  rintro e w' ⟨ρ', he, _, hx, _⟩
  exact ⟨by rw [he, ren_of_zero hv], below_of_ext (fun b o h => by obtain ⟨_, rfl⟩ := hm b o h; rfl) hx⟩

end Go.Proofs.YtildgdaoapmjhaaGreatDoor.AE
