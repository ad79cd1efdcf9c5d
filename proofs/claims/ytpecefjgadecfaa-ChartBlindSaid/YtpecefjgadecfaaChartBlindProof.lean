/- ChartBlind: the law returns true, for all values of its arguments, in whatever world it is called; its arguments read behind the call as they read before; nothing that was there is changed. No condition. -/
import Derived.Test.YtpecefjgadecfaaRows
import Derived.Test.YtpecefjgadecfaaChartBlind
import Derived.Test.YtpecefjgadecfaaAe41
import Derived.WalkKit
import Derived.ProofKit
import Derived.OpenShut
namespace Go.Proofs.Ytpecefjgadecfaa.ChartBlind
open Go Go.Proofs.Ytpecefjgadecfaa.AE Go.Proofs.Ytpecefjgadecfaa.Chart Go.ChangeShapes Go.WideShapes Go.ChangeAt Go.RowKit

theorem own : ownKnob Try.prog.godebug = none := by kernel_rfl

theorem word_wf {x : Int} (h : (Lit.int .u64 x).wf = true) : Word x := by
  have := bounds_u64 h
  exact ⟨by omega, by omega⟩

set_option maxRecDepth 100000 in
theorem lifted (os : Os) (started : os.Started) (H : Type) (enc : TypeId × Value → H) :
    ReturnsInHanded {} Try.checked os 6 .any (Rows.chartBlindSpec.pre6 enc Try.prog Try.f6 Rows.chartBlindRow.domain false) (Rows.chartBlindSpec.post enc Try.prog Try.f6 false true false false) := by
  refine returnsInHanded_of_change (C := Try.checked) own started (by kernel_rfl) Try.func6
    (ChangeSpec.witness6 (enc := enc) (C := Try.checked) false ⟨#[], #[.slice none 0 0, (.agg #[.int .i64 0, .int .i64 0, .int .i64 0, .int .i64 0, .int .i64 0, .int .u64 0]), .int .u64 0], []⟩ 8 (by kernel_rfl) (by kernel_rfl) (by kernel_rfl) (by kernel_rfl)) ?_
  intro W base args ds gs before hval0 hW hcnd _
  have hW' := hW
  have hval : ∀ (j : Nat) t v, Try.f6.params[j]? = some t → args[j]? = some v → Value.okWide Try.prog W .any base t v := hval0
  obtain ⟨p, q, hA0, hV, rfl, hfz, hnd⟩ := hW
  have hA : DataW.TrodAll enc Try.prog W 0 (fun _ => true) true Try.f6.params.toList args.toList ds p := hA0
  rw [Try.params6] at hA hval
  obtain ⟨v0, v1, v2, d0, d1, d2, p0, p1, p2, rfl, rfl, rfl, h0, h1, h2⟩ := trodAll_three hA
  obtain ⟨rfl, r1⟩ := reads_plain (n := 5) (t := 24) (by kernel_rfl) h1
  obtain ⟨rfl, r2⟩ := reads_plain (n := 5) (t := 22) (by kernel_rfl) h2
  obtain ⟨rfl, rfl⟩ := trodVars_none hV
  obtain ⟨cs1, rfl, hl1, hk1⟩ := cells_struct (ks := [some .i64, some .i64, some .i64, some .i64, some .i64, some .u64]) Try.underlying24 (by kernel_rfl) (by kernel_rfl) (hval 1 24 _ rfl rfl) h1
  obtain ⟨c1_0, g1_0, x1_0, rfl, w1_0⟩ := hk1 0 (some .i64) rfl
  obtain ⟨c1_1, g1_1, x1_1, rfl, w1_1⟩ := hk1 1 (some .i64) rfl
  obtain ⟨c1_2, g1_2, x1_2, rfl, w1_2⟩ := hk1 2 (some .i64) rfl
  obtain ⟨c1_3, g1_3, x1_3, rfl, w1_3⟩ := hk1 3 (some .i64) rfl
  obtain ⟨c1_4, g1_4, x1_4, rfl, w1_4⟩ := hk1 4 (some .i64) rfl
  obtain ⟨c1_5, g1_5, x1_5, rfl, w1_5⟩ := hk1 5 (some .u64) rfl
  obtain rfl : cs1 = [.int .i64 x1_0, .int .i64 x1_1, .int .i64 x1_2, .int .i64 x1_3, .int .i64 x1_4, .int .u64 x1_5] := by
    refine List.ext_getElem? fun z => ?_
    match z with
    | 0 => exact g1_0
    | 1 => exact g1_1
    | 2 => exact g1_2
    | 3 => exact g1_3
    | 4 => exact g1_4
    | 5 => exact g1_5
    | z + 6 => rw [List.getElem?_eq_none (by simp only [List.length_cons, List.length_nil] at hl1; omega)]; rfl
  obtain ⟨x2, rfl, rfl, -, w2⟩ := open_int Try.underlying22 (hval 2 22 _ rfl rfl) h2
  simp only [List.append_nil] at hW'
  have hu : Word x2 := word_wf w2
  rcases words_open Try.underlying35 Try.underlying22 (by kernel_rfl) (hval 0 35 _ rfl rfl) h0 with ⟨rfl, rfl, r0⟩ | ⟨b, off, len, cap, zs, rfl, hz, hl, hwf, hheap, r0⟩
  · have run := calls_plain (lawOk 0) (ranBlind (S := ⟨[], 0, 0⟩) (v := .slice none 0 0) (w := []) (p := x1_0) (s := x1_1) (o := x1_2) (mn := x1_3) (cp := x1_4) (k := x1_5) ⟨none, 0, rfl, fun i x hx => by simp at hx⟩ (by simp) hu) rfl (by simp [chart, refsLt, refsLtA, refsLtL]) W
    refine run.mono fun e W' ⟨he, hb⟩ => ?_
    subst he
    exact ⟨_, rfl, post_of_below (pa := []) (pv := []) hW' (fun _ _ _ => trodAll_cons_mk (shut_bool (by kernel_rfl) _) trodAll_mk0) (fun sp _ => (trodAll_cons_mk (r0 _ _ _ _) (trodAll_cons_mk (r1 _ _ _ _) (trodAll_cons_mk (r2 _ _ _ _) trodAll_mk0)))) (fun _ _ => rfl) rfl hb⟩
  · have run := calls_words (lawOk 0) (rest := [chart x1_0 x1_1 x1_2 x1_3 x1_4 x1_5, .int .u64 x2]) (c := zs.map (Value.int .u64)) (ranBlind (S := ⟨[.view (zs.map (Value.int .u64))], 1, 1⟩) (v := .slice (some ⟨0, 0, none⟩) len 0) (w := zs.take len) (p := x1_0) (s := x1_1) (o := x1_2) (mn := x1_3) (cp := x1_4) (k := x1_5)
      ⟨some ⟨0, 0, none⟩, 0, by rw [List.length_take, Nat.min_eq_left (by omega)], fun i x hx => ⟨0, 0, _, rfl, rfl, by
        have hi : i < len := by
          have := (List.getElem?_eq_some_iff.1 hx).1
          rw [List.length_take] at this; omega
        rw [List.getElem?_take_of_lt hi] at hx
        rw [Nat.zero_add, List.getElem?_map, hx]; rfl⟩⟩ (fun x hx => word_wf (hwf x (List.mem_of_mem_take hx))) hu)
      rfl (refsLtL_iff.2 fun v hv => by obtain ⟨x, _, rfl⟩ := List.mem_map.1 hv; rfl) (by simp [chart, refsLt, refsLtA, refsLtL]) (w := W) (b := b) (off := off) (cap := cap) hheap (by rw [List.length_map]; omega)
    refine run.mono fun e W' ⟨he, hb⟩ => ?_
    subst he
    exact ⟨_, rfl, post_of_below (pa := p0 ++ ([] ++ ([] ++ []))) (pv := []) hW' (fun _ _ _ => trodAll_cons_mk (shut_bool (by kernel_rfl) _) trodAll_mk0) (fun sp hsp => (trodAll_cons_mk (r0 _ _ _ hb hsp) (trodAll_cons_mk (r1 _ _ _ _) (trodAll_cons_mk (r2 _ _ _ _) trodAll_mk0)))) (fun _ _ => rfl) (by simp) hb⟩

theorem proved : Rows.ChartBlindSaid :=
  OpenClaim.holds_of_wide 6 Try.f6 rfl rfl rfl rfl rfl rfl rfl ⟨rfl, rfl, rfl, rfl, rfl⟩ rfl rfl rfl rfl rfl (by kernel_rfl) Try.func6 (by kernel_rfl)
    (of_decide_eq_true (by kernel_rfl)) (by unfold Func.isWrapper; first | (rw [if_pos (by decide +kernel)]; kernel_rfl) | (rw [if_neg (by decide +kernel)]; exact ⟨rfl, rfl⟩))
    (fun os started H enc _ => lifted os started H enc)
#print axioms proved
end Go.Proofs.Ytpecefjgadecfaa.ChartBlind
