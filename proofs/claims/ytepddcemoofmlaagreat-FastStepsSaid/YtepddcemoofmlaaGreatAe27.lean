/- A call over one variable of the program's, whose cells are known and bear no reference. -/
import Derived.Test.YtepddcemoofmlaaGreatAe26
import Derived.OpenShut
namespace Go.Proofs.YtepddcemoofmlaaGreat.AE
open Go Go.RowKit Go.ChangeShapes Go.WideShapes Go.ChangeAt Go.WideMaps Go.WideElems

theorem calls_one {P : Program} {C : CallS} (hC : CallOK P 1 C) {f : Nat} {c : List Value} {v : Value} {S' : St} {q : Bool} (h : C f [] ⟨[.view c], 1, 1⟩ = some (v, S', q)) (hv : refsLt 0 v = true) (hc : refsLtL 0 c = true) {w : World}
    (hw : ∃ cs e fr, w.heap[0]? = some (.cells cs e fr) ∧ ∀ (i : Nat) (u : Value), c[i]? = some u → cs[i]? = some u) :
    Calls P f #[] w fun e w' => e = .returned v ∧ Below w.heap.size w w' := by
  have hm : ∀ b o, St.m ⟨[.view c], 1, 1⟩ b = some o → b = 0 ∧ o = .view c := by
    intro b o hb
    cases b with
    | zero => simp [St.m] at hb; exact ⟨rfl, hb.symm⟩
    | succ b => simp [St.m] at hb
  have rep : Rep P 1 ⟨fun _ => 0, fun _ => 0, fun _ => c.length⟩ (St.m ⟨[.view c], 1, 1⟩) w := by
    obtain ⟨cs, e, fr, hh, hcs⟩ := hw
    refine ⟨fun b o h => ?_, fun b o h => ?_, fun b b' o o' h h' ho _ _ => ?_, fun b o h => ?_, fun g hg => ?_⟩
    · obtain ⟨rfl, rfl⟩ := hm b o h
      exact (Array.getElem?_eq_some_iff.1 hh).1
    · obtain ⟨rfl, rfl⟩ := hm b o h
      refine ⟨⟨cs, e, fr, hh, fun i u hu => ?_⟩, Nat.le_refl _⟩
      rw [ren_of_zero (refsLtL_iff.1 hc u (List.mem_of_getElem? hu))]
      simpa using hcs i u hu
    · obtain ⟨rfl, rfl⟩ := hm b o h
      cases ho
    · obtain ⟨rfl, rfl⟩ := hm b o h
      exact fun u hu => clo_of_zero (refsLtL_iff.1 hc u hu)
    · have : g = 0 := by omega
      subst this
      exact ⟨rfl, rfl, by simp [St.m]⟩
  refine Calls.mono (hC.run f [] _ v S' q h _ w rep (fun u hu => by simp at hu)) ?_
  rintro e w' ⟨ρ', he, _, hx, _⟩
  exact ⟨by rw [he, ren_of_zero hv], below_of_ext (fun b o h => by obtain ⟨_, rfl⟩ := hm b o h; rfl) hx⟩

/-- What is laid, as cells: an array of integers. -/
theorem ints_laid {H : Type} {enc : TypeId × Value → H} {P : Program} {w : World} {base : Nat} {spare : Nat → Bool} {held : Bool} {fuel n : Nat} {t e : TypeId} {cs : List Value} {ks : List Int} {ps : List MemPlace}
    (ht : P.underlying t = some (.array n e)) (he : P.underlying e = some (.int .i64)) (h1 : P.cellsOf e = 1)
    (h : DataW.trod enc P w base spare held fuel t cs = some (.agg (ks.map fun k => .lit (.int .i64 k)), ps)) :
    ∀ (i : Nat) (u : Value), (ks.map (Value.int .i64))[i]? = some u → cs[i]? = some u := by
  obtain ⟨xs, m, rfl, hx, hlen, hn, hel⟩ := DataW.trod_array ht h
  intro i u hu
  simp only [Prod.mk.injEq, DataW.agg.injEq] at hx
  have hi : i < n := by
    have := (List.getElem?_eq_some_iff.1 hu).1
    have hl := congrArg List.length hx.1
    simp only [List.length_map] at this hl
    omega
  have hxi : i < xs.length := by omega
  have h3 := hel i hi
  rw [h1, List.getElem?_eq_getElem hxi, Nat.mul_one] at h3
  obtain ⟨k, e1, e2, _⟩ := DataW.trod_int he h3
  have h4 : (ks.map fun k => (DataW.lit (Lit.int .i64 k) : DataW H))[i]? = some (xs[i]).1 := by
    rw [hx.1, List.getElem?_map, List.getElem?_eq_getElem hxi]; rfl
  rw [e2] at h4
  rw [List.getElem?_map] at h4 hu
  obtain ⟨k', hk', hkk⟩ := Option.map_eq_some_iff.1 h4
  rw [hk'] at hu
  simp only [DataW.lit.injEq, Lit.int.injEq, true_and] at hkk
  simp only [Option.map_some, Option.some.injEq] at hu
  subst hu; subst hkk
  have : ((cs.drop i).take 1)[0]? = some (Value.int .i64 k') := by rw [e1]; rfl
  rw [List.getElem?_take_of_lt (by omega), List.getElem?_drop] at this
  simpa using this

end Go.Proofs.YtepddcemoofmlaaGreat.AE
