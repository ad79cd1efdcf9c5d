/- ChartApart: the law returns true, for all values of its arguments, in whatever world it is called; its arguments read behind the call as they read before; nothing that was there is changed. No condition. -/
import Derived.Test.YtpecefjgadecfaaRows
import Derived.Test.YtpecefjgadecfaaChartApart
import Derived.Test.YtpecefjgadecfaaAe34
import Derived.WalkKit
import Derived.ProofKit
import Derived.OpenShut
namespace Go.Proofs.Ytpecefjgadecfaa.ChartApart
open Go Go.Proofs.Ytpecefjgadecfaa.AE Go.Proofs.Ytpecefjgadecfaa.Chart Go.ChangeShapes Go.WideShapes Go.ChangeAt Go.RowKit

theorem own : ownKnob Try.prog.godebug = none := by kernel_rfl

set_option maxRecDepth 100000 in
theorem lifted (os : Os) (started : os.Started) (H : Type) (enc : TypeId × Value → H) :
    ReturnsInHanded {} Try.checked os 5 .any (Rows.chartApartSpec.pre6 enc Try.prog Try.f5 Rows.chartApartRow.domain false) (Rows.chartApartSpec.post enc Try.prog Try.f5 false true false false) := by
  refine returnsInHanded_of_change (C := Try.checked) own started (by kernel_rfl) Try.func5
    (ChangeSpec.witness6 (enc := enc) (C := Try.checked) false ⟨#[], #[(.agg #[.int .i64 0, .int .i64 0, .int .i64 0, .int .i64 0, .int .i64 0, .int .u64 0])], []⟩ 8 (by kernel_rfl) (by kernel_rfl) (by kernel_rfl) (by kernel_rfl)) ?_
  intro W base args ds gs before hval0 hW hcnd _
  have hW' := hW
  have hval : ∀ (j : Nat) t v, Try.f5.params[j]? = some t → args[j]? = some v → Value.okWide Try.prog W .any base t v := hval0
  obtain ⟨p, q, hA0, hV, rfl, hfz, hnd⟩ := hW
  have hA : DataW.TrodAll enc Try.prog W 0 (fun _ => true) true Try.f5.params.toList args.toList ds p := hA0
  rw [Try.params5] at hA hval
  obtain ⟨v0, d0, rfl, rfl, h0⟩ := trodAll_one hA
  obtain ⟨rfl, r0⟩ := reads_plain (n := 5) (t := 24) (by kernel_rfl) h0
  obtain ⟨rfl, rfl⟩ := trodVars_none hV
  obtain ⟨cs0, rfl, hl0, hk0⟩ := cells_struct (ks := [some .i64, some .i64, some .i64, some .i64, some .i64, some .u64]) Try.underlying24 (by kernel_rfl) (by kernel_rfl) (hval 0 24 _ rfl rfl) h0
  obtain ⟨c0_0, g0_0, x0_0, rfl, w0_0⟩ := hk0 0 (some .i64) rfl
  obtain ⟨c0_1, g0_1, x0_1, rfl, w0_1⟩ := hk0 1 (some .i64) rfl
  obtain ⟨c0_2, g0_2, x0_2, rfl, w0_2⟩ := hk0 2 (some .i64) rfl
  obtain ⟨c0_3, g0_3, x0_3, rfl, w0_3⟩ := hk0 3 (some .i64) rfl
  obtain ⟨c0_4, g0_4, x0_4, rfl, w0_4⟩ := hk0 4 (some .i64) rfl
  obtain ⟨c0_5, g0_5, x0_5, rfl, w0_5⟩ := hk0 5 (some .u64) rfl
  obtain rfl : cs0 = [.int .i64 x0_0, .int .i64 x0_1, .int .i64 x0_2, .int .i64 x0_3, .int .i64 x0_4, .int .u64 x0_5] := by
    refine List.ext_getElem? fun z => ?_
    match z with
    | 0 => exact g0_0
    | 1 => exact g0_1
    | 2 => exact g0_2
    | 3 => exact g0_3
    | 4 => exact g0_4
    | 5 => exact g0_5
    | z + 6 => rw [List.getElem?_eq_none (by simp only [List.length_cons, List.length_nil] at hl0; omega)]; rfl
  simp only [List.append_nil] at hW'
  have run := calls_plain (lawOk 0) (ranApart (p := x0_0) (s := x0_1) (o := x0_2) (mn := x0_3) (cp := x0_4) (k := x0_5)) rfl (by simp [chart, refsLt, refsLtA, refsLtL]) W
  refine run.mono fun e W' ⟨he, hb⟩ => ?_
  subst he
  exact ⟨_, rfl, post_of_below (pa := []) (pv := []) hW' (fun _ _ _ => trodAll_cons_mk (shut_bool (by kernel_rfl) _) trodAll_mk0) (fun sp _ => (trodAll_cons_mk (r0 _ _ _ _) trodAll_mk0)) (fun _ _ => rfl) rfl hb⟩

theorem proved : Rows.ChartApartSaid :=
  OpenClaim.holds_of_wide 5 Try.f5 rfl rfl rfl rfl rfl rfl rfl ⟨rfl, rfl, rfl, rfl, rfl⟩ rfl rfl rfl rfl rfl (by kernel_rfl) Try.func5 (by kernel_rfl)
    (of_decide_eq_true (by kernel_rfl)) (by unfold Func.isWrapper; first | (rw [if_pos (by decide +kernel)]; kernel_rfl) | (rw [if_neg (by decide +kernel)]; exact ⟨rfl, rfl⟩))
    (fun os started H enc _ => lifted os started H enc)
#print axioms proved
end Go.Proofs.Ytpecefjgadecfaa.ChartApart
