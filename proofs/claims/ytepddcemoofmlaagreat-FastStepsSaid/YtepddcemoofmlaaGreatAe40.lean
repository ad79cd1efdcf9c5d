/- A call whose first argument is a slice of cells that bear no reference, the others without reference; no variables of the program. -/
import Derived.Test.YtepddcemoofmlaaGreatAe39
set_option linter.unusedSimpArgs false
set_option linter.unusedVariables false
namespace Go.Proofs.YtepddcemoofmlaaGreat.AE
open Go Go.RowKit Go.ChangeShapes Go.WideShapes Go.ChangeAt

theorem calls_words {P : Program} {C : CallS} (hC : CallOK P 0 C) {f b off len cap : Nat} {c rest : List Value} {v : Value} {S' : St} {q : Bool}
    (h : C f (.slice (some ⟨0, 0, none⟩) len 0 :: rest) ⟨[.view c], 1, 1⟩ = some (v, S', q)) (hv : refsLt 0 v = true) (hc : refsLtL 0 c = true)
    (ha : ∀ u ∈ rest, refsLt 0 u = true) {w : World} (hw : ∃ cs e fr, w.heap[b]? = some (.cells cs e fr) ∧ ∀ (i : Nat) (u : Value), c[i]? = some u → cs[off + i]? = some u) (hl : c.length ≤ cap) :
    Calls P f (.slice (some ⟨b, off, none⟩) len cap :: rest).toArray w fun e w' => e = .returned v ∧ Below w.heap.size w w' := by
  have hm : ∀ b o, St.m ⟨[.view c], 1, 1⟩ b = some o → b = 0 ∧ o = .view c := by
    intro b o hb
    cases b with
    | zero => simp [St.m] at hb; exact ⟨rfl, hb.symm⟩
    | succ b => simp [St.m] at hb
  have rep : Rep P 0 ⟨fun _ => b, fun _ => off, fun _ => cap⟩ (St.m ⟨[.view c], 1, 1⟩) w := by
    obtain ⟨cs, e, fr, hh, hcs⟩ := hw
    refine ⟨fun b o h => ?_, fun b o h => ?_, fun b b' o o' h h' ho _ _ => ?_, fun b o h => ?_, fun g hg => absurd hg (Nat.not_lt_zero g)⟩
    · obtain ⟨rfl, rfl⟩ := hm b o h
      exact (Array.getElem?_eq_some_iff.1 hh).1
    · obtain ⟨rfl, rfl⟩ := hm b o h
      refine ⟨⟨cs, e, fr, hh, fun i u hu => ?_⟩, hl⟩
      rw [ren_of_zero (refsLtL_iff.1 hc u (List.mem_of_getElem? hu))]
      exact hcs i u hu
    · obtain ⟨rfl, rfl⟩ := hm b o h
      cases ho
    · obtain ⟨rfl, rfl⟩ := hm b o h
      exact fun u hu => clo_of_zero (refsLtL_iff.1 hc u hu)
  have e : (Value.slice (some ⟨0, 0, none⟩) len 0 :: rest).map (ren ⟨fun _ => b, fun _ => off, fun _ => cap⟩) = .slice (some ⟨b, off, none⟩) len cap :: rest := by
    rw [List.map_cons]
    congr 1
    conv => rhs; rw [← List.map_id rest]
    exact List.map_congr_left fun u hu => ren_of_zero (ha u hu)
  have hr := hC.run f _ _ v S' q h _ w rep fun u hu => by
    rcases List.mem_cons.1 hu with rfl | hu
    · exact ⟨rfl, rfl⟩
    · exact clo_of_zero (ha u hu)
  rw [e] at hr
  refine Calls.mono hr ?_
  rintro e w' ⟨ρ', he, _, hx, _⟩
  exact ⟨by rw [he, ren_of_zero hv], below_of_ext (fun b o h => by obtain ⟨_, rfl⟩ := hm b o h; rfl) hx⟩

end Go.Proofs.YtepddcemoofmlaaGreat.AE
