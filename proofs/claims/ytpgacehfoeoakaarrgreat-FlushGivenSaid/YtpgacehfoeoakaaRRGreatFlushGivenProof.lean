/- FlushGiven: the law returns true, for all values of its arguments, in whatever world it is called; its arguments read behind the call as they read before; nothing that was there is changed. No condition. -/
import Derived.Test.YtpgacehfoeoakaaRRGreatRows
import Derived.Test.YtpgacehfoeoakaaRRGreatFlushGiven
import Derived.Test.YtpgacehfoeoakaaRRGreatAe34
import Derived.WalkKit
import Derived.ProofKit
import Derived.OpenShut
namespace Go.Proofs.YtpgacehfoeoakaaRRGreat.FlushGiven
open Go Go.Proofs.YtpgacehfoeoakaaRRGreat.AE Go.Proofs.YtpgacehfoeoakaaRRGreat.Flush Go.ChangeShapes Go.WideShapes Go.ChangeAt Go.RowKit

theorem own : ownKnob Tryz.prog.godebug = none := by kernel_rfl

set_option maxRecDepth 100000 in
theorem lifted (os : Os) (started : os.Started) (H : Type) (enc : TypeId × Value → H) :
    ReturnsInHanded {} Tryz.checked os 3 .any (Rows.flushGivenSpec.pre6 enc Tryz.prog Tryz.f3 Rows.flushGivenRow.domain false) (Rows.flushGivenSpec.post enc Tryz.prog Tryz.f3 false true false false) := by
  refine returnsInHanded_of_change (C := Tryz.checked) own started (by kernel_rfl) Tryz.func3
    (ChangeSpec.witness6 (enc := enc) (C := Tryz.checked) false ⟨#[], #[(.agg #[.int .i64 0, .int .i64 0, .int .i64 0, .int .i64 0, .int .i64 0, .int .i64 0, .int .i64 0, .int .u64 0, .int .u64 0, .int .u64 0, .int .u64 0, .int .u64 0, .int .i64 0, .int .i64 0, .int .i64 0, .int .i64 0, .int .i64 0])], []⟩ 8 (by kernel_rfl) (by kernel_rfl) (by kernel_rfl) (by kernel_rfl)) ?_
  intro W base args ds gs before hval0 hW hcnd _
  have hW' := hW
  have hval : ∀ (j : Nat) t v, Tryz.f3.params[j]? = some t → args[j]? = some v → Value.okWide Tryz.prog W .any base t v := hval0
  obtain ⟨p, q, hA0, hV, rfl, hfz, hnd⟩ := hW
  have hA : DataW.TrodAll enc Tryz.prog W 0 (fun _ => true) true Tryz.f3.params.toList args.toList ds p := hA0
  rw [Tryz.params3] at hA hval
  obtain ⟨v0, d0, rfl, rfl, h0⟩ := trodAll_one hA
  obtain ⟨rfl, r0⟩ := reads_plain (n := 5) (t := 24) (by kernel_rfl) h0
  obtain ⟨rfl, rfl⟩ := trodVars_none hV
  obtain ⟨cs0, rfl, hl0, hk0⟩ := cells_struct (ks := [some .i64, some .i64, some .i64, some .i64, some .i64, some .i64, some .i64, some .u64, some .u64, some .u64, some .u64, some .u64, some .i64, some .i64, some .i64, some .i64, some .i64]) Tryz.underlying24 (by kernel_rfl) (by kernel_rfl) (hval 0 24 _ rfl rfl) h0
  obtain ⟨c0_0, g0_0, x0_0, rfl, w0_0⟩ := hk0 0 (some .i64) rfl
  obtain ⟨c0_1, g0_1, x0_1, rfl, w0_1⟩ := hk0 1 (some .i64) rfl
  obtain ⟨c0_2, g0_2, x0_2, rfl, w0_2⟩ := hk0 2 (some .i64) rfl
  obtain ⟨c0_3, g0_3, x0_3, rfl, w0_3⟩ := hk0 3 (some .i64) rfl
  obtain ⟨c0_4, g0_4, x0_4, rfl, w0_4⟩ := hk0 4 (some .i64) rfl
  obtain ⟨c0_5, g0_5, x0_5, rfl, w0_5⟩ := hk0 5 (some .i64) rfl
  obtain ⟨c0_6, g0_6, x0_6, rfl, w0_6⟩ := hk0 6 (some .i64) rfl
  obtain ⟨c0_7, g0_7, x0_7, rfl, w0_7⟩ := hk0 7 (some .u64) rfl
  obtain ⟨c0_8, g0_8, x0_8, rfl, w0_8⟩ := hk0 8 (some .u64) rfl
  obtain ⟨c0_9, g0_9, x0_9, rfl, w0_9⟩ := hk0 9 (some .u64) rfl
  obtain ⟨c0_10, g0_10, x0_10, rfl, w0_10⟩ := hk0 10 (some .u64) rfl
  obtain ⟨c0_11, g0_11, x0_11, rfl, w0_11⟩ := hk0 11 (some .u64) rfl
  obtain ⟨c0_12, g0_12, x0_12, rfl, w0_12⟩ := hk0 12 (some .i64) rfl
  obtain ⟨c0_13, g0_13, x0_13, rfl, w0_13⟩ := hk0 13 (some .i64) rfl
  obtain ⟨c0_14, g0_14, x0_14, rfl, w0_14⟩ := hk0 14 (some .i64) rfl
  obtain ⟨c0_15, g0_15, x0_15, rfl, w0_15⟩ := hk0 15 (some .i64) rfl
  obtain ⟨c0_16, g0_16, x0_16, rfl, w0_16⟩ := hk0 16 (some .i64) rfl
  obtain rfl : cs0 = [.int .i64 x0_0, .int .i64 x0_1, .int .i64 x0_2, .int .i64 x0_3, .int .i64 x0_4, .int .i64 x0_5, .int .i64 x0_6, .int .u64 x0_7, .int .u64 x0_8, .int .u64 x0_9, .int .u64 x0_10, .int .u64 x0_11, .int .i64 x0_12, .int .i64 x0_13, .int .i64 x0_14, .int .i64 x0_15, .int .i64 x0_16] := by
    refine List.ext_getElem? fun z => ?_
    match z with
    | 0 => exact g0_0
    | 1 => exact g0_1
    | 2 => exact g0_2
    | 3 => exact g0_3
    | 4 => exact g0_4
    | 5 => exact g0_5
    | 6 => exact g0_6
    | 7 => exact g0_7
    | 8 => exact g0_8
    | 9 => exact g0_9
    | 10 => exact g0_10
    | 11 => exact g0_11
    | 12 => exact g0_12
    | 13 => exact g0_13
    | 14 => exact g0_14
    | 15 => exact g0_15
    | 16 => exact g0_16
    | z + 17 => rw [List.getElem?_eq_none (by simp only [List.length_cons, List.length_nil] at hl0; omega)]; rfl
  simp only [List.append_nil] at hW'
  have run := calls_plain lawOk (ranGiven (job := x0_0) (cpu := x0_1) (pc := x0_2) (en := x0_3) (want := x0_4) (slab := x0_5) (obj := x0_6) (h := x0_7) (t := x0_8) (f := x0_9) (k := x0_10) (n := x0_11) (last := x0_12) (many := x0_13) (to := x0_14) (bk := x0_15) (fo := x0_16)) rfl (by simp [tk, refsLt, refsLtA, refsLtL]) W
  refine run.mono fun e W' ⟨he, hb⟩ => ?_
  subst he
  exact ⟨_, rfl, post_of_below (pa := []) (pv := []) hW' (fun _ _ _ => trodAll_cons_mk (shut_bool (by kernel_rfl) _) trodAll_mk0) (fun sp _ => (trodAll_cons_mk (r0 _ _ _ _) trodAll_mk0)) (fun _ _ => rfl) rfl hb⟩

theorem proved : Rows.FlushGivenSaid :=
  OpenClaim.holds_of_wide 3 Tryz.f3 rfl rfl rfl rfl rfl rfl rfl ⟨rfl, rfl, rfl, rfl, rfl⟩ rfl rfl rfl rfl rfl (by kernel_rfl) Tryz.func3 (by kernel_rfl)
    (of_decide_eq_true (by kernel_rfl)) (by unfold Func.isWrapper; first | (rw [if_pos (by decide +kernel)]; kernel_rfl) | (rw [if_neg (by decide +kernel)]; exact ⟨rfl, rfl⟩))
    (fun os started H enc _ => lifted os started H enc)
#print axioms proved
end Go.Proofs.YtpgacehfoeoakaaRRGreat.FlushGiven
