/- ChartSees: the law returns true, for all values of its arguments, in whatever world it is called; its arguments read behind the call as they read before; nothing that was there is changed. No condition. -/
import Derived.Test.YtpecefjgadecfaaRows
import Derived.Test.YtpecefjgadecfaaChartSees
import Derived.Test.YtpecefjgadecfaaAe41
import Derived.WalkKit
import Derived.ProofKit
import Derived.OpenShut
import Derived.SizedLaws
namespace Go.Proofs.Ytpecefjgadecfaa.ChartSees
open Go Go.Proofs.Ytpecefjgadecfaa.AE Go.Proofs.Ytpecefjgadecfaa.Chart Go.ChangeShapes Go.WideShapes Go.ChangeAt Go.RowKit

theorem own : ownKnob Try.prog.godebug = none := by kernel_rfl

theorem word_wf {x : Int} (h : (Lit.int .u64 x).wf = true) : Word x := by
  have := bounds_u64 h
  exact ⟨by omega, by omega⟩

theorem words_data {H : Type} {enc : TypeId × Value → H} {P : Program} {w : World} {t e : TypeId} {k : IntKind} {a : Addr} {len cap : Nat} {d : DataW H} {ps : List MemPlace}
    (ht : P.underlying t = some (.slice e)) (he : P.underlying e = some (.int k)) (h1 : P.cellsOf e = 1) (hd : DataW.Trod enc P w 0 (fun _ => true) true t (.slice (some a) len cap) d ps) :
    ∃ es sp, d = .slice es sp ∧ es.length + sp.length = cap := by
  obtain ⟨fuel, h⟩ := hd
  rcases open_ints ht he h1 h with ⟨hcs, _⟩ | ⟨a', len', cap', zs, hcs, _, hl, _, hz, hx, _, _⟩
  · simp [Value.cells] at hcs
  · simp only [Value.cells, List.cons.injEq, and_true, Value.slice.injEq, Option.some.injEq] at hcs
    obtain ⟨rfl, rfl, rfl⟩ := hcs
    simp only [Prod.mk.injEq] at hx
    simp only [if_true] at hz
    refine ⟨_, _, hx.1, ?_⟩
    simp only [lits, List.length_map, List.length_take, List.length_drop]
    omega

set_option maxRecDepth 100000 in
theorem lifted (os : Os) (started : os.Started) (H : Type) (enc : TypeId × Value → H) :
    ReturnsInHanded {} Try.checked os 4 .any (Rows.chartSeesSpec.pre6 enc Try.prog Try.f4 Rows.chartSeesRow.domain false) (Rows.chartSeesSpec.post enc Try.prog Try.f4 false true false false) := by
  refine returnsInHanded_of_change_sized (C := Try.checked) own started (by kernel_rfl) Try.func4
    (ChangeSpec.witness6 (enc := enc) (C := Try.checked) false ⟨#[], #[.slice none 0 0, (.agg #[.int .i64 0, .int .i64 0, .int .i64 0, .int .i64 0, .int .i64 0, .int .u64 0])], []⟩ 8 (by kernel_rfl) (by kernel_rfl) (by kernel_rfl) (by kernel_rfl)) ?_
  intro W base args ds gs before hval0 hW hcnd hsz _
  have hW' := hW
  have hval : ∀ (j : Nat) t v, Try.f4.params[j]? = some t → args[j]? = some v → Value.okWide Try.prog W .any base t v := hval0
  obtain ⟨p, q, hA0, hV, rfl, hfz, hnd⟩ := hW
  have hA : DataW.TrodAll enc Try.prog W 0 (fun _ => true) true Try.f4.params.toList args.toList ds p := hA0
  rw [Try.params4] at hA hval
  obtain ⟨v0, v1, d0, d1, p0, p1, rfl, rfl, rfl, h0, h1⟩ := trodAll_two hA
  obtain ⟨rfl, r1⟩ := reads_plain (n := 5) (t := 24) (by kernel_rfl) h1
  obtain ⟨rfl, rfl⟩ := trodVars_none hV
  obtain ⟨cs1, rfl, hl1, hk1⟩ := cells_struct (ks := [some .i64, some .i64, some .i64, some .i64, some .i64, some .u64]) Try.underlying24 (by kernel_rfl) (by kernel_rfl) (hval 1 24 _ rfl rfl) h1
  obtain ⟨c1_0, g1_0, x1_0, rfl, w1_0⟩ := hk1 0 (some .i64) rfl
  obtain ⟨c1_1, g1_1, x1_1, rfl, w1_1⟩ := hk1 1 (some .i64) rfl
  obtain ⟨c1_2, g1_2, x1_2, rfl, w1_2⟩ := hk1 2 (some .i64) rfl
  obtain ⟨c1_3, g1_3, x1_3, rfl, w1_3⟩ := hk1 3 (some .i64) rfl
  obtain ⟨c1_4, g1_4, x1_4, rfl, w1_4⟩ := hk1 4 (some .i64) rfl
  obtain ⟨c1_5, g1_5, x1_5, rfl, w1_5⟩ := hk1 5 (some .u64) rfl
  obtain rfl : cs1 = [.int .i64 x1_0, .int .i64 x1_1, .int .i64 x1_2, .int .i64 x1_3, .int .i64 x1_4, .int .u64 x1_5] := by
    refine List.ext_getElem? fun z => ?_
    match z with
    | 0 => exact g1_0
    | 1 => exact g1_1
    | 2 => exact g1_2
    | 3 => exact g1_3
    | 4 => exact g1_4
    | 5 => exact g1_5
    | z + 6 => rw [List.getElem?_eq_none (by simp only [List.length_cons, List.length_nil] at hl1; omega)]; rfl
  simp only [List.append_nil] at hW'
  have i0 : InI x1_0 := ⟨(bounds_i64 w1_0).1, (bounds_i64 w1_0).2⟩
  have i1 : InI x1_1 := ⟨(bounds_i64 w1_1).1, (bounds_i64 w1_1).2⟩
  have i2 : InI x1_2 := ⟨(bounds_i64 w1_2).1, (bounds_i64 w1_2).2⟩
  rcases words_open Try.underlying35 Try.underlying22 (by kernel_rfl) (hval 0 35 _ rfl rfl) h0 with ⟨rfl, rfl, r0⟩ | ⟨b, off, len, cap, zs, rfl, hz, hl, hwf, hheap, r0⟩
  · have run := calls_plain (lawOk 0) (ranSees (S := ⟨[], 0, 0⟩) (v := .slice none 0 0) (w := []) (p := x1_0) (s := x1_1) (o := x1_2) (mn := x1_3) (cp := x1_4) (k := x1_5) i0 i1 i2 (.inl ⟨rfl, rfl⟩) (by simp) (by simp)) rfl (by simp [chart, refsLt, refsLtA, refsLtL]) W
    refine run.mono fun e W' ⟨he, hb⟩ => ?_
    subst he
    exact ⟨_, rfl, post_of_below (pa := []) (pv := []) hW' (fun _ _ _ => trodAll_cons_mk (shut_bool (by kernel_rfl) _) trodAll_mk0) (fun sp _ => (trodAll_cons_mk (r0 _ _ _ _) (trodAll_cons_mk (r1 _ _ _ _) trodAll_mk0))) (fun _ _ => rfl) rfl hb⟩
  · obtain ⟨es, sp, rfl, hes⟩ := words_data Try.underlying35 Try.underlying22 (by kernel_rfl) h0
    have hcap := sized_slice hsz (j := 0) (t := 35) (by rw [Try.params4]; rfl) (by rfl) Try.underlying35
    have hby : Try.checked.prog.bytesOf 22 = 8 := by kernel_rfl
    have hrb : reachBytes = 140737488351232 := by decide
    rw [hby, hrb] at hcap
    have hlen : (zs.take len).length = len := by rw [List.length_take]; omega
    have run := calls_words (lawOk 0) (rest := [chart x1_0 x1_1 x1_2 x1_3 x1_4 x1_5]) (c := zs.map (Value.int .u64)) (ranSees (S := ⟨[.view (zs.map (Value.int .u64))], 1, 1⟩) (v := .slice (some ⟨0, 0, none⟩) len 0) (w := zs.take len) (p := x1_0) (s := x1_1) (o := x1_2) (mn := x1_3) (cp := x1_4) (k := x1_5)
      i0 i1 i2 (.inr ⟨0, 0, zs.map (Value.int .u64), by rw [hlen], rfl, by rw [hlen, List.length_map]; omega, fun i x hx => by
        have hi : i < len := by
          have := (List.getElem?_eq_some_iff.1 hx).1
          rw [List.length_take] at this; omega
        rw [List.getElem?_take_of_lt hi] at hx
        rw [Nat.zero_add, List.getElem?_map, hx]; rfl⟩) (fun x hx => word_wf (hwf x (List.mem_of_mem_take hx))) (by rw [hlen]; omega))
      rfl (refsLtL_iff.2 fun v hv => by obtain ⟨x, _, rfl⟩ := List.mem_map.1 hv; rfl) (by simp [chart, refsLt, refsLtA, refsLtL]) (w := W) (b := b) (off := off) (cap := cap) hheap (by rw [List.length_map]; omega)
    refine run.mono fun e W' ⟨he, hb⟩ => ?_
    subst he
    exact ⟨_, rfl, post_of_below (pa := p0 ++ ([] ++ [])) (pv := []) hW' (fun _ _ _ => trodAll_cons_mk (shut_bool (by kernel_rfl) _) trodAll_mk0) (fun sp hsp => (trodAll_cons_mk (r0 _ _ _ hb hsp) (trodAll_cons_mk (r1 _ _ _ _) trodAll_mk0))) (fun _ _ => rfl) (by simp) hb⟩

theorem proved : Rows.ChartSeesSaid :=
  OpenClaim.holds_of_wide 4 Try.f4 rfl rfl rfl rfl rfl rfl rfl ⟨rfl, rfl, rfl, rfl, rfl⟩ rfl rfl rfl rfl rfl (by kernel_rfl) Try.func4 (by kernel_rfl)
    (of_decide_eq_true (by kernel_rfl)) (by unfold Func.isWrapper; first | (rw [if_pos (by decide +kernel)]; kernel_rfl) | (rw [if_neg (by decide +kernel)]; exact ⟨rfl, rfl⟩))
    (fun os started H enc _ => lifted os started H enc)
#print axioms proved
end Go.Proofs.Ytpecefjgadecfaa.ChartSees
