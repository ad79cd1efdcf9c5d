/- FastSteps: the law returns true, for all values of its arguments, in whatever world it is called; its arguments read behind the call as they read before; nothing that was there is changed. No condition. -/
import Derived.Test.YtepddcemoofmlaaGreatRows
import Derived.Test.YtepddcemoofmlaaGreatFastFastSteps
import Derived.Test.YtepddcemoofmlaaGreatAe41
import Derived.WalkKit
import Derived.ProofKit
import Derived.OpenShut
set_option linter.unusedSimpArgs false
set_option linter.unusedVariables false
namespace Go.Proofs.YtepddcemoofmlaaGreat.FastSteps
open Go Go.Proofs.YtepddcemoofmlaaGreat.AE Go.Proofs.YtepddcemoofmlaaGreat.Fast Go.ChangeShapes Go.WideShapes Go.ChangeAt Go.RowKit

theorem own : ownKnob Tryz.prog.godebug = none := by kernel_rfl

theorem word_wf {x : Int} (h : (Lit.int .u64 x).wf = true) : Word x := by
  have := bounds_u64 h
  exact ⟨by omega, by omega⟩

set_option maxRecDepth 100000 in
set_option maxHeartbeats 2000000 in
theorem lifted (os : Os) (started : os.Started) (H : Type) (enc : TypeId × Value → H) :
    ReturnsInHanded {} Tryz.checked os 3 .any (Rows.fastStepsSpec.pre6 enc Tryz.prog Tryz.f3 Rows.fastStepsRow.domain false) (Rows.fastStepsSpec.post enc Tryz.prog Tryz.f3 false true false false) := by
  refine returnsInHanded_of_change (C := Tryz.checked) own started (by kernel_rfl) Tryz.func3
    (ChangeSpec.witness6 (enc := enc) (C := Tryz.checked) false ⟨#[], #[.slice none 0 0, (.agg #[.int .i64 0, .int .i64 0, .int .i64 0, .int .i64 0, .int .i64 0, .int .u64 0]), (.agg #[.int .i64 0, .int .i64 0, .int .i64 0, .int .i64 0, .int .i64 0, .int .i64 0, .int .i64 0, .int .u64 0, .int .u64 0, .int .u64 0, .int .u64 0, .int .u64 0, .int .i64 0, .int .i64 0, .int .i64 0, .int .i64 0, .int .i64 0])], []⟩ 8 (by kernel_rfl) (by kernel_rfl) (by kernel_rfl) (by kernel_rfl)) ?_
  intro W base args ds gs before hval0 hW hcnd _
  have hW' := hW
  have hval : ∀ (j : Nat) t v, Tryz.f3.params[j]? = some t → args[j]? = some v → Value.okWide Tryz.prog W .any base t v := hval0
  obtain ⟨p, q, hA0, hV, rfl, hfz, hnd⟩ := hW
  have hA : DataW.TrodAll enc Tryz.prog W 0 (fun _ => true) true Tryz.f3.params.toList args.toList ds p := hA0
  rw [Tryz.params3] at hA hval
  obtain ⟨v0, v1, v2, d0, d1, d2, p0, p1, p2, rfl, rfl, rfl, h0, h1, h2⟩ := trodAll_three hA
  obtain ⟨rfl, r1⟩ := reads_plain (n := 5) (t := 25) (by kernel_rfl) h1
  obtain ⟨rfl, r2⟩ := reads_plain (n := 5) (t := 27) (by kernel_rfl) h2
  obtain ⟨rfl, rfl⟩ := trodVars_none hV
  obtain ⟨cs1, rfl, hl1, hk1⟩ := cells_struct (ks := [some .i64, some .i64, some .i64, some .i64, some .i64, some .u64]) Tryz.underlying25 (by kernel_rfl) (by kernel_rfl) (hval 1 25 _ rfl rfl) h1
  obtain ⟨c1_0, g1_0, x1_0, rfl, w1_0⟩ := hk1 0 (some .i64) rfl
  obtain ⟨c1_1, g1_1, x1_1, rfl, w1_1⟩ := hk1 1 (some .i64) rfl
  obtain ⟨c1_2, g1_2, x1_2, rfl, w1_2⟩ := hk1 2 (some .i64) rfl
  obtain ⟨c1_3, g1_3, x1_3, rfl, w1_3⟩ := hk1 3 (some .i64) rfl
  obtain ⟨c1_4, g1_4, x1_4, rfl, w1_4⟩ := hk1 4 (some .i64) rfl
  obtain ⟨c1_5, g1_5, x1_5, rfl, w1_5⟩ := hk1 5 (some .u64) rfl
  obtain rfl : cs1 = [.int .i64 x1_0, .int .i64 x1_1, .int .i64 x1_2, .int .i64 x1_3, .int .i64 x1_4, .int .u64 x1_5] := by
    refine List.ext_getElem? fun z => ?_
    match z with
    | 0 => exact g1_0
    | 1 => exact g1_1
    | 2 => exact g1_2
    | 3 => exact g1_3
    | 4 => exact g1_4
    | 5 => exact g1_5
    | z + 6 => rw [List.getElem?_eq_none (by simp only [List.length_cons, List.length_nil] at hl1; omega)]; rfl
  obtain ⟨cs2, rfl, hl2, hk2⟩ := cells_struct (ks := [some .i64, some .i64, some .i64, some .i64, some .i64, some .i64, some .i64, some .u64, some .u64, some .u64, some .u64, some .u64, some .i64, some .i64, some .i64, some .i64, some .i64]) Tryz.underlying27 (by kernel_rfl) (by kernel_rfl) (hval 2 27 _ rfl rfl) h2
  obtain ⟨c2_0, g2_0, x2_0, rfl, w2_0⟩ := hk2 0 (some .i64) rfl
  obtain ⟨c2_1, g2_1, x2_1, rfl, w2_1⟩ := hk2 1 (some .i64) rfl
  obtain ⟨c2_2, g2_2, x2_2, rfl, w2_2⟩ := hk2 2 (some .i64) rfl
  obtain ⟨c2_3, g2_3, x2_3, rfl, w2_3⟩ := hk2 3 (some .i64) rfl
  obtain ⟨c2_4, g2_4, x2_4, rfl, w2_4⟩ := hk2 4 (some .i64) rfl
  obtain ⟨c2_5, g2_5, x2_5, rfl, w2_5⟩ := hk2 5 (some .i64) rfl
  obtain ⟨c2_6, g2_6, x2_6, rfl, w2_6⟩ := hk2 6 (some .i64) rfl
  obtain ⟨c2_7, g2_7, x2_7, rfl, w2_7⟩ := hk2 7 (some .u64) rfl
  obtain ⟨c2_8, g2_8, x2_8, rfl, w2_8⟩ := hk2 8 (some .u64) rfl
  obtain ⟨c2_9, g2_9, x2_9, rfl, w2_9⟩ := hk2 9 (some .u64) rfl
  obtain ⟨c2_10, g2_10, x2_10, rfl, w2_10⟩ := hk2 10 (some .u64) rfl
  obtain ⟨c2_11, g2_11, x2_11, rfl, w2_11⟩ := hk2 11 (some .u64) rfl
  obtain ⟨c2_12, g2_12, x2_12, rfl, w2_12⟩ := hk2 12 (some .i64) rfl
  obtain ⟨c2_13, g2_13, x2_13, rfl, w2_13⟩ := hk2 13 (some .i64) rfl
  obtain ⟨c2_14, g2_14, x2_14, rfl, w2_14⟩ := hk2 14 (some .i64) rfl
  obtain ⟨c2_15, g2_15, x2_15, rfl, w2_15⟩ := hk2 15 (some .i64) rfl
  obtain ⟨c2_16, g2_16, x2_16, rfl, w2_16⟩ := hk2 16 (some .i64) rfl
  obtain rfl : cs2 = [.int .i64 x2_0, .int .i64 x2_1, .int .i64 x2_2, .int .i64 x2_3, .int .i64 x2_4, .int .i64 x2_5, .int .i64 x2_6, .int .u64 x2_7, .int .u64 x2_8, .int .u64 x2_9, .int .u64 x2_10, .int .u64 x2_11, .int .i64 x2_12, .int .i64 x2_13, .int .i64 x2_14, .int .i64 x2_15, .int .i64 x2_16] := by
    refine List.ext_getElem? fun z => ?_
    match z with
    | 0 => exact g2_0
    | 1 => exact g2_1
    | 2 => exact g2_2
    | 3 => exact g2_3
    | 4 => exact g2_4
    | 5 => exact g2_5
    | 6 => exact g2_6
    | 7 => exact g2_7
    | 8 => exact g2_8
    | 9 => exact g2_9
    | 10 => exact g2_10
    | 11 => exact g2_11
    | 12 => exact g2_12
    | 13 => exact g2_13
    | 14 => exact g2_14
    | 15 => exact g2_15
    | 16 => exact g2_16
    | z + 17 => rw [List.getElem?_eq_none (by simp only [List.length_cons, List.length_nil] at hl2; omega)]; rfl
  simp only [List.append_nil] at hW'
  have i0 : InI x1_0 := ⟨(bounds_i64 w1_0).1, (bounds_i64 w1_0).2⟩
  have i1 : InI x1_1 := ⟨(bounds_i64 w1_1).1, (bounds_i64 w1_1).2⟩
  have i2 : InI x1_2 := ⟨(bounds_i64 w1_2).1, (bounds_i64 w1_2).2⟩
  rcases words_open Tryz.underlying22 Tryz.underlying23 (by kernel_rfl) (hval 0 22 _ rfl rfl) h0 with ⟨rfl, rfl, r0⟩ | ⟨b, off, len, cap, zs, rfl, hz, hl, hwf, hheap, r0⟩
  · have run := calls_plain (lawOk 0) (ranSteps (S := ⟨[], 0, 0⟩) (v := .slice none 0 0) (w := []) (p := x1_0) (s := x1_1) (o := x1_2) (mn := x1_3) (cp := x1_4) (k := x1_5) (x := ⟨x2_0, x2_1, x2_2, x2_3, x2_4, x2_5, x2_6, x2_7, x2_8, x2_9, x2_10, x2_11, x2_12, x2_13, x2_14, x2_15, x2_16⟩) i0 i1 i2 ⟨none, 0, rfl, fun i x hx => by simp at hx⟩ (by simp)) rfl (by simp [chart, TaskP.cells, refsLt, refsLtA, refsLtL]) W
    refine run.mono fun e W' ⟨he, hb⟩ => ?_
    subst he
    exact ⟨_, rfl, post_of_below (pa := []) (pv := []) hW' (fun _ _ _ => trodAll_cons_mk (shut_bool (by kernel_rfl) _) trodAll_mk0) (fun sp _ => (trodAll_cons_mk (r0 _ _ _ _) (trodAll_cons_mk (r1 _ _ _ _) (trodAll_cons_mk (r2 _ _ _ _) trodAll_mk0)))) (fun _ _ => rfl) rfl hb⟩
  · have hlen : (zs.take len).length = len := by rw [List.length_take]; omega
    have run := calls_words (lawOk 0) (rest := [chart x1_0 x1_1 x1_2 x1_3 x1_4 x1_5, .agg (TaskP.cells ⟨x2_0, x2_1, x2_2, x2_3, x2_4, x2_5, x2_6, x2_7, x2_8, x2_9, x2_10, x2_11, x2_12, x2_13, x2_14, x2_15, x2_16⟩).toArray]) (c := zs.map (Value.int .u64)) (ranSteps (S := ⟨[.view (zs.map (Value.int .u64))], 1, 1⟩) (v := .slice (some ⟨0, 0, none⟩) len 0) (w := zs.take len) (p := x1_0) (s := x1_1) (o := x1_2) (mn := x1_3) (cp := x1_4) (k := x1_5) (x := ⟨x2_0, x2_1, x2_2, x2_3, x2_4, x2_5, x2_6, x2_7, x2_8, x2_9, x2_10, x2_11, x2_12, x2_13, x2_14, x2_15, x2_16⟩) i0 i1 i2
      ⟨some ⟨0, 0, none⟩, 0, by rw [hlen], fun i x hx => ⟨0, 0, _, rfl, rfl, by
        have hi : i < len := by
          have := (List.getElem?_eq_some_iff.1 hx).1
          rw [List.length_take] at this; omega
        rw [List.getElem?_take_of_lt hi] at hx
        rw [Nat.zero_add, List.getElem?_map, hx]; rfl⟩⟩ (fun x hx => word_wf (hwf x (List.mem_of_mem_take hx))))
      rfl (refsLtL_iff.2 fun v hv => by obtain ⟨x, _, rfl⟩ := List.mem_map.1 hv; rfl) (by simp [chart, TaskP.cells, refsLt, refsLtA, refsLtL]) (w := W) (b := b) (off := off) (cap := cap) hheap (by rw [List.length_map]; omega)
    refine run.mono fun e W' ⟨he, hb⟩ => ?_
    subst he
    exact ⟨_, rfl, post_of_below (pa := p0 ++ ([] ++ ([] ++ []))) (pv := []) hW' (fun _ _ _ => trodAll_cons_mk (shut_bool (by kernel_rfl) _) trodAll_mk0) (fun sp hsp => (trodAll_cons_mk (r0 _ _ _ hb hsp) (trodAll_cons_mk (r1 _ _ _ _) (trodAll_cons_mk (r2 _ _ _ _) trodAll_mk0)))) (fun _ _ => rfl) (by simp) hb⟩

theorem proved : Rows.FastStepsSaid :=
  OpenClaim.holds_of_wide 3 Tryz.f3 rfl rfl rfl rfl rfl rfl rfl ⟨rfl, rfl, rfl, rfl, rfl⟩ rfl rfl rfl rfl rfl (by kernel_rfl) Tryz.func3 (by kernel_rfl)
    (of_decide_eq_true (by kernel_rfl)) (by unfold Func.isWrapper; first | (rw [if_pos (by decide +kernel)]; kernel_rfl) | (rw [if_neg (by decide +kernel)]; exact ⟨rfl, rfl⟩))
    (fun os started H enc _ => lifted os started H enc)
#print axioms proved
end Go.Proofs.YtepddcemoofmlaaGreat.FastSteps
