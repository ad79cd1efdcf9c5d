/- FillAnswers: the law returns true, for all values of its arguments, in every world where the listed variable reads as the program's text lays it; its arguments read behind the call as they read before; nothing that was there is changed. The card ties the variable to the text. -/
import Derived.Test.YtildgdaoapmjhaaGreatDoorRows
import Derived.Test.YtildgdaoapmjhaaGreatDoorTie
import Derived.Test.YtildgdaoapmjhaaGreatDoorCards
import Derived.Test.YtildgdaoapmjhaaGreatDoorFillAnswers
import Derived.Test.YtildgdaoapmjhaaGreatDoorAe36
import Derived.WalkKit
import Derived.ProofKit
import Derived.LaidMore
import Derived.OpenShut
import Derived.Stop.Joined
import Derived.SevenTiedAt
namespace Go.Proofs.YtildgdaoapmjhaaGreatDoor.FillAnswers
open Go Go.Proofs.YtildgdaoapmjhaaGreatDoor.AE Go.Proofs.YtildgdaoapmjhaaGreatDoor.Fill Go.ChangeShapes Go.WideShapes Go.ChangeAt Go.WideMaps Go.WideElems Go.RowKit

theorem own : ownKnob Tryz.prog.godebug = none := by kernel_rfl
theorem gGoes : Tryz.prog.globalNamed "wainscot/fill.goesOn" = some 0 := by kernel_rfl
theorem tGoes : (Tryz.prog.globals[0]?).map (·.type) = some 124 := by kernel_rfl

theorem goes_eq {H : Type} : (Rows.laid_wainscot_fill_goesOn : DataW H) = .agg (goes.map fun k => .lit (.int .i64 k)) := rfl

/-- What is laid, as the world's cells. -/
theorem of_laid {W : World} (h : laidMetH Tryz.prog [("wainscot/fill.goesOn", Rows.laid_wainscot_fill_goesOn)] W) :
    ∃ cs e fr, W.heap[0]? = some (.cells cs e fr) ∧ ∀ (i : Nat) (u : Value), (goes.map (Value.int .i64))[i]? = some u → cs[i]? = some u := by
  rw [MakeChecks.laidMetH_plain _ _ _ (by kernel_rfl)] at h
  obtain ⟨ps, ⟨g0, t0, cs0, f0, p0, q0, hg0, ht0, hv0, hd0, _, _⟩, _, _⟩ := h
  obtain rfl := Option.some.inj (gGoes.symm.trans hg0)
  obtain rfl := Option.some.inj (tGoes.symm.trans ht0)
  rw [goes_eq] at hd0
  have hc := ints_laid (n := 50) (e := 3) (by kernel_rfl) (by kernel_rfl) (by kernel_rfl) hd0
  simp only [World.var?, gGoes, Option.bind_some] at hv0
  split at hv0
  · rename_i cs e fr hh
    simp only [Option.some.injEq] at hv0
    subst hv0
    exact ⟨cs, e, fr, hh, fun i u hu => by simpa using hc i u hu⟩
  · cases hv0

/-- The door's own heap meets the condition: closed facts. -/
theorem door_met (os : Os) (args : Array Value) : laidMetH Tryz.prog [("wainscot/fill.goesOn", Rows.laid_wainscot_fill_goesOn)] ((World.doorLaid Tryz.prog 400 os).forCall (fun _ _ => 0) ⟨#[], args, []⟩).memory :=
  laidMetH_of_parts3 (fuel := 8) (laidMet_of_run' 8 (by kernel_rfl) (by kernel_rfl)) (by kernel_rfl) (by kernel_rfl)

set_option maxRecDepth 100000 in
theorem lifted (os : Os) (started : os.Started) (H : Type) (enc : TypeId × Value → H) :
    ReturnsInHanded {} Tryz.checked os 3 .any (fun w args => (Rows.fillAnswersSpec.pre enc Tryz.prog Tryz.f3 [] false w args ∧ laidMetH Tryz.prog [("wainscot/fill.goesOn", Rows.laid_wainscot_fill_goesOn)] w) ∧ sizedMet enc Tryz.prog Tryz.f3 (OpenSpec.ofChange Rows.fillAnswersSpec) false w args)
      (Rows.fillAnswersSpec.post enc Tryz.prog Tryz.f3 false true false false) := by
  refine returnsInHanded_of_change_and (C := Tryz.checked) (X := fun w _ => laidMetH Tryz.prog [("wainscot/fill.goesOn", Rows.laid_wainscot_fill_goesOn)] w) (fun _ _ _ hh h => h.of_heap hh) own started (by kernel_rfl) Tryz.func3
    (ChangeSpec.witness_shaped (enc := enc) (C := Tryz.checked) (os := os) (X := fun w _ => laidMetH Tryz.prog [("wainscot/fill.goesOn", Rows.laid_wainscot_fill_goesOn)] w) false (World.doorLaid Tryz.prog 400 os) #[(.agg #[.int .i64 0, .int .i64 0, .int .i64 0, .int .i64 0, .int .i64 0, .int .i64 0, .int .i64 0, .int .u64 0, .int .u64 0, .int .u64 0, .int .u64 0, .int .u64 0, .int .i64 0, .int .i64 0, .int .i64 0, .int .i64 0, .int .i64 0]), .bool false, .int .i64 0] 8 rfl (World.shaped_of_RefB (by kernel_rfl) (by kernel_rfl)) (by kernel_rfl) (by kernel_rfl) (by kernel_rfl) (door_met os _)) ?_
  intro W base args ds gs before hval0 hW _ _ hL _
  have hW' := hW
  have hval : ∀ (j : Nat) t v, Tryz.f3.params[j]? = some t → args[j]? = some v → Value.okWide Tryz.prog W .any base t v := hval0
  obtain ⟨p, q, hA0, hV, rfl, hfz, hnd⟩ := hW
  have hA : DataW.TrodAll enc Tryz.prog W 0 (fun _ => true) true Tryz.f3.params.toList args.toList ds p := hA0
  rw [Tryz.params3] at hA hval
  obtain ⟨v0, v1, v2, d0, d1, d2, p0, p1, p2, rfl, rfl, rfl, h0, h1, h2⟩ := trodAll_three hA
  obtain ⟨rfl, r0⟩ := reads_plain (n := 5) (t := 24) (by kernel_rfl) h0
  obtain ⟨rfl, r1⟩ := reads_plain (n := 5) (t := 4) (by kernel_rfl) h1
  obtain ⟨rfl, r2⟩ := reads_plain (n := 5) (t := 3) (by kernel_rfl) h2
  obtain ⟨rfl, rfl⟩ := trodVars_none hV
  obtain ⟨cs0, rfl, hl0, hk0⟩ := cells_struct (ks := [some .i64, some .i64, some .i64, some .i64, some .i64, some .i64, some .i64, some .u64, some .u64, some .u64, some .u64, some .u64, some .i64, some .i64, some .i64, some .i64, some .i64]) Tryz.underlying24 (by kernel_rfl) (by kernel_rfl) (hval 0 24 _ rfl rfl) h0
  obtain ⟨c0_0, g0_0, x0_0, rfl, w0_0⟩ := hk0 0 (some .i64) rfl
  obtain ⟨c0_1, g0_1, x0_1, rfl, w0_1⟩ := hk0 1 (some .i64) rfl
  obtain ⟨c0_2, g0_2, x0_2, rfl, w0_2⟩ := hk0 2 (some .i64) rfl
  obtain ⟨c0_3, g0_3, x0_3, rfl, w0_3⟩ := hk0 3 (some .i64) rfl
  obtain ⟨c0_4, g0_4, x0_4, rfl, w0_4⟩ := hk0 4 (some .i64) rfl
  obtain ⟨c0_5, g0_5, x0_5, rfl, w0_5⟩ := hk0 5 (some .i64) rfl
  obtain ⟨c0_6, g0_6, x0_6, rfl, w0_6⟩ := hk0 6 (some .i64) rfl
  obtain ⟨c0_7, g0_7, x0_7, rfl, w0_7⟩ := hk0 7 (some .u64) rfl
  obtain ⟨c0_8, g0_8, x0_8, rfl, w0_8⟩ := hk0 8 (some .u64) rfl
  obtain ⟨c0_9, g0_9, x0_9, rfl, w0_9⟩ := hk0 9 (some .u64) rfl
  obtain ⟨c0_10, g0_10, x0_10, rfl, w0_10⟩ := hk0 10 (some .u64) rfl
  obtain ⟨c0_11, g0_11, x0_11, rfl, w0_11⟩ := hk0 11 (some .u64) rfl
  obtain ⟨c0_12, g0_12, x0_12, rfl, w0_12⟩ := hk0 12 (some .i64) rfl
  obtain ⟨c0_13, g0_13, x0_13, rfl, w0_13⟩ := hk0 13 (some .i64) rfl
  obtain ⟨c0_14, g0_14, x0_14, rfl, w0_14⟩ := hk0 14 (some .i64) rfl
  obtain ⟨c0_15, g0_15, x0_15, rfl, w0_15⟩ := hk0 15 (some .i64) rfl
  obtain ⟨c0_16, g0_16, x0_16, rfl, w0_16⟩ := hk0 16 (some .i64) rfl
  obtain rfl : cs0 = [.int .i64 x0_0, .int .i64 x0_1, .int .i64 x0_2, .int .i64 x0_3, .int .i64 x0_4, .int .i64 x0_5, .int .i64 x0_6, .int .u64 x0_7, .int .u64 x0_8, .int .u64 x0_9, .int .u64 x0_10, .int .u64 x0_11, .int .i64 x0_12, .int .i64 x0_13, .int .i64 x0_14, .int .i64 x0_15, .int .i64 x0_16] := by
    refine List.ext_getElem? fun z => ?_
    match z with
    | 0 => exact g0_0
    | 1 => exact g0_1
    | 2 => exact g0_2
    | 3 => exact g0_3
    | 4 => exact g0_4
    | 5 => exact g0_5
    | 6 => exact g0_6
    | 7 => exact g0_7
    | 8 => exact g0_8
    | 9 => exact g0_9
    | 10 => exact g0_10
    | 11 => exact g0_11
    | 12 => exact g0_12
    | 13 => exact g0_13
    | 14 => exact g0_14
    | 15 => exact g0_15
    | 16 => exact g0_16
    | z + 17 => rw [List.getElem?_eq_none (by simp only [List.length_cons, List.length_nil] at hl0; omega)]; rfl
  obtain ⟨x1, rfl, rfl, -⟩ := open_bool Tryz.underlying4 (hval 1 4 _ rfl rfl) h1
  obtain ⟨x2, rfl, rfl, -, w2⟩ := open_int Tryz.underlying3 (hval 2 3 _ rfl rfl) h2
  clear hA0 hval0
  simp only [List.append_nil] at hW'
  have run := calls_plainG lawOk (ranAnswers (job := x0_0) (cpu := x0_1) (pc := x0_2) (en := x0_3) (want := x0_4) (slab := x0_5) (obj := x0_6) (h := x0_7) (t := x0_8) (f := x0_9) (k := x0_10) (n := x0_11) (last := x0_12) (many := x0_13) (to := x0_14) (bk := x0_15) (fo := x0_16) (yes := x1) (j := x2)) rfl (by kernel_rfl) (by simp [tk, refsLt, refsLtA, refsLtL]) (of_laid hL)
  refine run.mono fun e W' ⟨he, hb⟩ => ?_
  subst he
  exact ⟨_, rfl, post_of_below (pa := []) (pv := []) hW' (fun _ _ _ => trodAll_cons_mk (shut_bool (by kernel_rfl) _) trodAll_mk0) (fun sp _ => (trodAll_cons_mk (r0 _ _ _ _) (trodAll_cons_mk (r1 _ _ _ _) (trodAll_cons_mk (r2 _ _ _ _) trodAll_mk0)))) (fun _ _ => rfl) rfl hb⟩

theorem row_holds : Rows.FillAnswersSaid :=
  OpenClaim.holds_of_wide 3 Tryz.f3 rfl rfl rfl rfl rfl rfl rfl ⟨rfl, rfl, rfl, rfl, rfl⟩ rfl rfl rfl rfl rfl (by kernel_rfl) Tryz.func3 (by kernel_rfl)
    (of_decide_eq_true (by kernel_rfl)) (by unfold Func.isWrapper; first | (rw [if_pos (by decide +kernel)]; kernel_rfl) | (rw [if_neg (by decide +kernel)]; exact ⟨rfl, rfl⟩))
    (fun os started H enc _ => lifted os started H enc)

theorem proved : Rows.FillAnswersCardSaid :=
  Claim7.holds_tied_plain_at .later [] [.data] true (true, "671fff020e6a06a8a9065e991ddfe9cfe4d1d2f42ff6ee4a5b34d7f2a3907e6c") false
    row_holds (fun _ h => by cases h) (by kernel_rfl) (fun _ h => by cases h) fillAnswers_row_tie rfl ⟨rfl, rfl⟩ (by kernel_rfl) rfl
    (fun f fn hf hfn => by
      obtain rfl : f = 3 := Option.some.inj ((show Tryz.prog.funcNamed Rows.fillAnswersRow.func = some 3 by kernel_rfl).symm.trans hf) |>.symm
      obtain rfl : fn = Tryz.f3 := (Option.some.inj (Tryz.func3.symm.trans hfn)).symm
      exact ⟨by kernel_rfl, fun j t ht => by
        rw [Tryz.params3] at ht
        match j, ht with
        | 0, ht => cases ht; show (_ : Bool) = false; kernel_rfl
        | 1, ht => cases ht; show (_ : Bool) = false; kernel_rfl
        | 2, ht => cases ht; show (_ : Bool) = false; kernel_rfl
        | j + 3, ht => simp at ht⟩)
    (by kernel_rfl)
#print axioms proved
end Go.Proofs.YtildgdaoapmjhaaGreatDoor.FillAnswers
