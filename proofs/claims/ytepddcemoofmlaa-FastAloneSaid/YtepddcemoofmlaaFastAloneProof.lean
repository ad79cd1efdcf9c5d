/- FastAlone: the law returns true, for all values of its arguments, in whatever world it is called; its arguments read behind the call as they read before; nothing that was there is changed. No condition. -/
import Derived.Test.YtepddcemoofmlaaRows
import Derived.Test.YtepddcemoofmlaaFastAloneM
import Derived.Test.YtepddcemoofmlaaAe34
import Derived.WalkKit
import Derived.ProofKit
import Derived.OpenShut
set_option linter.unusedSimpArgs false
set_option linter.unusedVariables false
namespace Go.Proofs.Ytepddcemoofmlaa.FastAlone
open Go Go.Proofs.Ytepddcemoofmlaa.AE Go.Proofs.Ytepddcemoofmlaa.Fast Go.ChangeShapes Go.WideShapes Go.ChangeAt Go.RowKit

theorem own : ownKnob Try.prog.godebug = none := by kernel_rfl

set_option maxRecDepth 100000 in
theorem lifted (os : Os) (started : os.Started) (H : Type) (enc : TypeId × Value → H) :
    ReturnsInHanded {} Try.checked os 3 .any (Rows.fastAloneSpec.pre6 enc Try.prog Try.f3 Rows.fastAloneRow.domain false) (Rows.fastAloneSpec.post enc Try.prog Try.f3 false true false false) := by
  refine returnsInHanded_of_change (C := Try.checked) own started (by kernel_rfl) Try.func3
    (ChangeSpec.witness6 (enc := enc) (C := Try.checked) false ⟨#[], #[.int .i64 0, .int .u64 0, .int .i64 0], []⟩ 8 (by kernel_rfl) (by kernel_rfl) (by kernel_rfl) (by kernel_rfl)) ?_
  intro W base args ds gs before hval0 hW hcnd _
  have hW' := hW
  have hval : ∀ (j : Nat) t v, Try.f3.params[j]? = some t → args[j]? = some v → Value.okWide Try.prog W .any base t v := hval0
  obtain ⟨p, q, hA0, hV, rfl, hfz, hnd⟩ := hW
  have hA : DataW.TrodAll enc Try.prog W 0 (fun _ => true) true Try.f3.params.toList args.toList ds p := hA0
  rw [Try.params3] at hA hval
  obtain ⟨v0, v1, v2, d0, d1, d2, p0, p1, p2, rfl, rfl, rfl, h0, h1, h2⟩ := trodAll_three hA
  obtain ⟨rfl, r0⟩ := reads_plain (n := 5) (t := 3) (by kernel_rfl) h0
  obtain ⟨rfl, r1⟩ := reads_plain (n := 5) (t := 22) (by kernel_rfl) h1
  obtain ⟨rfl, r2⟩ := reads_plain (n := 5) (t := 3) (by kernel_rfl) h2
  obtain ⟨rfl, rfl⟩ := trodVars_none hV
  obtain ⟨x0, rfl, rfl, -, w0⟩ := open_int Try.underlying3 (hval 0 3 _ rfl rfl) h0
  obtain ⟨x1, rfl, rfl, -, w1⟩ := open_int Try.underlying22 (hval 1 22 _ rfl rfl) h1
  obtain ⟨x2, rfl, rfl, -, w2⟩ := open_int Try.underlying3 (hval 2 3 _ rfl rfl) h2
  simp only [List.append_nil] at hW'
  have run := calls_plain (lawOk 0) (ranAlone (S := ⟨[], 0, 0⟩) (nn := x0) (key := x1) (many := x2)) rfl (by simp) W
  refine run.mono fun e W' ⟨he, hb⟩ => ?_
  subst he
  exact ⟨_, rfl, post_of_below (pa := []) (pv := []) hW' (fun _ _ _ => trodAll_cons_mk (shut_bool (by kernel_rfl) _) trodAll_mk0) (fun sp _ => (trodAll_cons_mk (r0 _ _ _ _) (trodAll_cons_mk (r1 _ _ _ _) (trodAll_cons_mk (r2 _ _ _ _) trodAll_mk0)))) (fun _ _ => rfl) rfl hb⟩

theorem proved : Rows.FastAloneSaid :=
  OpenClaim.holds_of_wide 3 Try.f3 rfl rfl rfl rfl rfl rfl rfl ⟨rfl, rfl, rfl, rfl, rfl⟩ rfl rfl rfl rfl rfl (by kernel_rfl) Try.func3 (by kernel_rfl)
    (of_decide_eq_true (by kernel_rfl)) (by unfold Func.isWrapper; first | (rw [if_pos (by decide +kernel)]; kernel_rfl) | (rw [if_neg (by decide +kernel)]; exact ⟨rfl, rfl⟩))
    (fun os started H enc _ => lifted os started H enc)
#print axioms proved
end Go.Proofs.Ytepddcemoofmlaa.FastAlone
