/- FillNames: the law, called without arguments, returns true, in every world where the listed variable reads as the program's text lays it; nothing that was there is changed. The card ties the variable to the text. -/
import Derived.Test.YtildgdaoapmjhaaGreatDoorRows
import Derived.Test.YtildgdaoapmjhaaGreatDoorTie
import Derived.Test.YtildgdaoapmjhaaGreatDoorCards
import Derived.Test.YtildgdaoapmjhaaGreatDoorFillNamesIr
import Derived.WalkKit
import Derived.ProofKit
import Derived.LaidMore
import Derived.OpenShut
import Derived.Stop.Joined
import Derived.SevenTiedAt
namespace Go.Proofs.YtildgdaoapmjhaaGreatDoor.FillNames
open Go Go.Proofs.YtildgdaoapmjhaaGreatDoor.AE Go.ChangeShapes Go.WideShapes Go.ChangeAt Go.WideMaps Go.WideElems Go.RowKit

theorem own : ownKnob Tryz.prog.godebug = none := by kernel_rfl
theorem gGoes : Tryz.prog.globalNamed "wainscot/fill.goesOn" = some 0 := by kernel_rfl
theorem tGoes : (Tryz.prog.globals[0]?).map (·.type) = some 124 := by kernel_rfl

def goes : List Int := [0, 0, 0, 0, 0, 0, 0, 0, 0, 0, 0, 0, 0, 0, 0, 0, 0, 0, 0, 0, 0, 22, 0, 0, 0, 0, 0, 0, 0, 0, 31, 0, 0, 0, 0, 0, 43, 38, 0, 0, 41, 42, 0, 0, 0, 0, 47, 48, 49, 40]
theorem goes_eq {H : Type} : (Rows.laid_wainscot_fill_goesOn : DataW H) = .agg (goes.map fun k => .lit (.int .i64 k)) := rfl

/-- What is laid, as the world's cells. -/
theorem of_laid {W : World} (h : laidMetH Tryz.prog [("wainscot/fill.goesOn", Rows.laid_wainscot_fill_goesOn)] W) :
    ∃ cs e fr, W.heap[0]? = some (.cells cs e fr) ∧ ∀ (i : Nat) (u : Value), (goes.map (Value.int .i64))[i]? = some u → cs[i]? = some u := by
  rw [MakeChecks.laidMetH_plain _ _ _ (by kernel_rfl)] at h
  obtain ⟨ps, ⟨g0, t0, cs0, f0, p0, q0, hg0, ht0, hv0, hd0, _, _⟩, _, _⟩ := h
  obtain rfl := Option.some.inj (gGoes.symm.trans hg0)
  obtain rfl := Option.some.inj (tGoes.symm.trans ht0)
  rw [goes_eq] at hd0
  have hc := ints_laid (n := 50) (e := 3) (by kernel_rfl) (by kernel_rfl) (by kernel_rfl) hd0
  simp only [World.var?, gGoes, Option.bind_some] at hv0
  split at hv0
  · rename_i cs e fr hh
    simp only [Option.some.injEq] at hv0
    subst hv0
    exact ⟨cs, e, fr, hh, fun i u hu => by simpa using hc i u hu⟩
  · cases hv0

/-- The door's own heap meets the condition: closed facts. -/
theorem door_met (os : Os) (args : Array Value) : laidMetH Tryz.prog [("wainscot/fill.goesOn", Rows.laid_wainscot_fill_goesOn)] ((World.doorLaid Tryz.prog 400 os).forCall (fun _ _ => 0) ⟨#[], args, []⟩).memory :=
  laidMetH_of_parts3 (fuel := 8) (laidMet_of_run' 8 (by kernel_rfl) (by kernel_rfl)) (by kernel_rfl) (by kernel_rfl)

theorem ran : fCalls table.look 64 6 [] ⟨[.view (goes.map (Value.int .i64))], 1, 1⟩ = some (.bool true, ⟨[.view (goes.map (Value.int .i64))], 1, 1⟩, true) := by kernel_rfl

theorem walk (w : World) (h : laidMetH Tryz.prog [("wainscot/fill.goesOn", Rows.laid_wainscot_fill_goesOn)] w) : Calls Tryz.prog 6 #[] w fun e w' => e = .returned (.bool true) ∧ Below w.heap.size w w' :=
  calls_one (allOk 64) ran rfl (by kernel_rfl) (of_laid h)

set_option maxRecDepth 100000 in
theorem lifted (os : Os) (started : os.Started) (H : Type) (enc : TypeId × Value → H) :
    ReturnsInHanded {} Tryz.checked os 6 .any (fun w args => (Rows.fillNamesSpec.pre enc Tryz.prog Tryz.f6 [] false w args ∧ laidMetH Tryz.prog [("wainscot/fill.goesOn", Rows.laid_wainscot_fill_goesOn)] w) ∧ sizedMet enc Tryz.prog Tryz.f6 (OpenSpec.ofChange Rows.fillNamesSpec) false w args)
      (Rows.fillNamesSpec.post enc Tryz.prog Tryz.f6 false true false false) := by
  refine returnsInHanded_of_change_and (C := Tryz.checked) (X := fun w _ => laidMetH Tryz.prog [("wainscot/fill.goesOn", Rows.laid_wainscot_fill_goesOn)] w) (fun _ _ _ hh h => h.of_heap hh) own started (by kernel_rfl) Tryz.func6
    (ChangeSpec.witness_shaped (enc := enc) (C := Tryz.checked) (os := os) (X := fun w _ => laidMetH Tryz.prog [("wainscot/fill.goesOn", Rows.laid_wainscot_fill_goesOn)] w) false (World.doorLaid Tryz.prog 400 os) #[] 8 rfl (World.shaped_of_RefB (by kernel_rfl) (by kernel_rfl)) (by kernel_rfl) (by kernel_rfl) (by kernel_rfl) (door_met os _)) ?_
  intro W base args ds gs before hval0 hW _ _ hL _
  have hW' := hW
  obtain ⟨p, q, hA0, hV, rfl, hfz, hnd⟩ := hW
  have hA : DataW.TrodAll enc Tryz.prog W 0 (fun _ => true) true Tryz.f6.params.toList args.toList ds p := hA0
  rw [Tryz.params6] at hA
  have hA := trodAll_none hA
  obtain ⟨ha, rfl, rfl⟩ := hA
  obtain rfl : args = #[] := by cases args; simp_all
  obtain ⟨rfl, rfl⟩ := trodVars_none hV
  clear hA0 hval0
  simp only [List.append_nil] at hW'
  refine (walk W hL).mono fun e W' ⟨he, hb⟩ => ?_
  subst he
  exact ⟨_, rfl, post_of_below (pa := []) (pv := []) hW' (fun _ _ _ => trodAll_cons_mk (shut_bool (by kernel_rfl) _) trodAll_mk0) (fun sp _ => rfl) (fun _ _ => rfl) rfl hb⟩

theorem row_holds : Rows.FillNamesSaid :=
  OpenClaim.holds_of_wide 6 Tryz.f6 rfl rfl rfl rfl rfl rfl rfl ⟨rfl, rfl, rfl, rfl, rfl⟩ rfl rfl rfl rfl rfl (by kernel_rfl) Tryz.func6 (by kernel_rfl)
    (of_decide_eq_true (by kernel_rfl)) (by unfold Func.isWrapper; first | (rw [if_pos (by decide +kernel)]; kernel_rfl) | (rw [if_neg (by decide +kernel)]; exact ⟨rfl, rfl⟩))
    (fun os started H enc _ => lifted os started H enc)

theorem proved : Rows.FillNamesCardSaid :=
  Claim7.holds_tied_plain_at .later [] [.data] true (true, "671fff020e6a06a8a9065e991ddfe9cfe4d1d2f42ff6ee4a5b34d7f2a3907e6c") false
    row_holds (fun _ h => by cases h) (by kernel_rfl) (fun _ h => by cases h) fillNames_row_tie rfl ⟨rfl, rfl⟩ (by kernel_rfl) rfl
    (fun f fn hf hfn => by
      obtain rfl : f = 6 := Option.some.inj ((show Tryz.prog.funcNamed Rows.fillNamesRow.func = some 6 by kernel_rfl).symm.trans hf) |>.symm
      obtain rfl : fn = Tryz.f6 := (Option.some.inj (Tryz.func6.symm.trans hfn)).symm
      exact ⟨by kernel_rfl, fun j t ht => by
        rw [Tryz.params6] at ht
        simp at ht⟩)
    (by kernel_rfl)
#print axioms proved
end Go.Proofs.YtildgdaoapmjhaaGreatDoor.FillNames
