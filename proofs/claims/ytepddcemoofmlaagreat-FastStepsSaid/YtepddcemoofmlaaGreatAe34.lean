/- Arguments that read as data without memory; and slices of whole numbers that came in: what the evaluator's heap says of them. -/
import Derived.Test.YtepddcemoofmlaaGreatAe33
import Derived.OpenShut
import Derived.ChangeShapes
import Derived.ChangeArms
import Derived.ChangeSame
namespace Go.Proofs.YtepddcemoofmlaaGreat.AE
open Go Go.ChangeShapes Go.WideShapes Go.RowKit

section
variable {H : Type} {enc : TypeId × Value → H} {P : Program}

/-- A type of bools, whole numbers and structs of these. -/
def plainTy (P : Program) : Nat → TypeId → Bool
  | 0, _ => false
  | n + 1, t => match P.underlying t with
    | some .bool => true
    | some (.int _) => true
    | some (.struct fs) => fs.toList.all fun f => plainTy P n f.type
    | _ => false

theorem mapM_same {α β : Type} {f g : α → Option (β × List MemPlace)} : ∀ {l : List α} {xs : List (β × List MemPlace)}, l.mapM f = some xs → (∀ a ∈ l, ∀ x, f a = some x → x.2 = [] ∧ g a = some x) → l.mapM g = some xs ∧ xs.flatMap (·.2) = []
  | [], xs, h, _ => by simp_all
  | a :: l, xs, h, hk => by
    simp only [List.mapM_cons, Option.bind_eq_bind, Option.pure_def, Option.bind_eq_some_iff] at h
    obtain ⟨x, hx, ys, hys, e⟩ := h
    simp only [Option.some.injEq] at e
    subst e
    obtain ⟨k1, k2⟩ := hk a (List.mem_cons_self ..) x hx
    obtain ⟨i1, i2⟩ := mapM_same hys fun b hb y hy => hk b (List.mem_cons_of_mem _ hb) y hy
    refine ⟨by simp [List.mapM_cons, k2, i1], by simp [k1, i2]⟩

theorem trod_plain {w w' : World} {base base' : Nat} {spare spare' : Nat → Bool} {held held' : Bool} : ∀ {n fuel : Nat} {t : TypeId} {cs : List Value} {x : DataW H × List MemPlace}, plainTy P n t = true →
    DataW.trod enc P w base spare held fuel t cs = some x → x.2 = [] ∧ DataW.trod enc P w' base' spare' held' fuel t cs = some x
  | 0, _, _, _, _, h, _ => by simp [plainTy] at h
  | n + 1, fuel, t, cs, x, h, hd => by
    simp only [plainTy] at h
    split at h
    · rename_i ht
      obtain ⟨b, rfl, rfl⟩ := DataW.trod_bool ht hd
      cases fuel with
      | zero => simp [DataW.trod] at hd
      | succ m => exact ⟨rfl, by simp [DataW.trod, ht]⟩
    · rename_i ht
      obtain ⟨k, rfl, rfl, hw⟩ := DataW.trod_int ht hd
      cases fuel with
      | zero => simp [DataW.trod] at hd
      | succ m => exact ⟨rfl, by simp [DataW.trod, ht, hw]⟩
    · rename_i fs ht
      cases fuel with
      | zero => simp [DataW.trod] at hd
      | succ m =>
        obtain ⟨hl, xs, hp, rfl⟩ : cs.length = P.cellsOf t ∧ ∃ xs, (fs.toList.mapM fun f => DataW.trod enc P w base spare held m f.type ((cs.drop f.offset).take (P.cellsOf f.type))) = some xs ∧ x = (.agg (xs.map (·.1)), xs.flatMap (·.2)) := by
          unfold DataW.trod at hd
          rw [ht] at hd
          split at hd <;> simp_all
          obtain ⟨hl, xs, hp, rfl⟩ := hd
          exact ⟨xs, hp, rfl⟩
        obtain ⟨i1, i2⟩ := mapM_same (g := fun f => DataW.trod enc P w' base' spare' held' m f.type ((cs.drop f.offset).take (P.cellsOf f.type))) hp fun f hf y hy => trod_plain (List.all_eq_true.1 h f hf) hy
        refine ⟨i2, ?_⟩
        unfold DataW.trod
        rw [ht]
        simp [hl, i1]
    · cases h

theorem reads_plain {w : World} {base : Nat} {spare : Nat → Bool} {held : Bool} {n : Nat} {t : TypeId} {v : Value} {d : DataW H} {ps : List MemPlace} (hp : plainTy P n t = true) (hd : DataW.Trod enc P w base spare held t v d ps) :
    ps = [] ∧ ∀ (w' : World) (base' : Nat) (spare' : Nat → Bool) (held' : Bool), DataW.Trod enc P w' base' spare' held' t v d [] := by
  obtain ⟨fuel, h⟩ := hd
  obtain ⟨h1, h2⟩ := trod_plain (w' := w) (base' := base) (spare' := spare) (held' := held) hp h
  simp only at h1
  subst h1
  exact ⟨rfl, fun w' base' spare' held' => ⟨fuel, (trod_plain hp h).2⟩⟩

/-- A cell of a kind: a whole number that the kind holds, or a bool. -/
def CellIs : Option IntKind → Value → Prop
  | some k, v => ∃ n, v = .int k n ∧ (Lit.int k n).wf = true
  | none, v => ∃ b, v = .bool b

/-- Fields that are cells of these kinds, one behind the other. -/
def kindsOf (P : Program) : List Field → Nat → List (Option IntKind) → Bool
  | [], _, [] => true
  | f :: l, i, k :: ks => f.offset == i && P.cellsOf f.type == 1 && (match P.underlying f.type, k with
    | some .bool, none => true
    | some (.int k), some k' => decide (k = k')
    | _, _ => false) && kindsOf P l (i + 1) ks
  | _, _, _ => false

theorem kindsOf_get : ∀ {l : List Field} {i : Nat} {ks : List (Option IntKind)}, kindsOf P l i ks = true → ∀ j k, ks[j]? = some k → ∃ f, l[j]? = some f ∧ f.offset = i + j ∧ P.cellsOf f.type = 1 ∧
    (match k with | none => P.underlying f.type = some .bool | some k => P.underlying f.type = some (.int k))
  | [], _, [], _, j, k, hj => by simp at hj
  | [], _, _ :: _, h, _, _, _ => by simp [kindsOf] at h
  | _ :: _, _, [], h, _, _, hj => by simp at hj
  | f :: l, i, k0 :: ks, h, j, k, hj => by
    simp only [kindsOf, Bool.and_eq_true, beq_iff_eq] at h
    obtain ⟨⟨⟨h1, h2⟩, h3⟩, h4⟩ := h
    cases j with
    | zero =>
      simp only [List.getElem?_cons_zero, Option.some.injEq] at hj
      subst hj
      refine ⟨f, rfl, by omega, h2, ?_⟩
      split at h3
      · rename_i hu; exact hu
      · rename_i hu; simp only [decide_eq_true_eq] at h3; subst h3; exact hu
      · cases h3
    | succ j =>
      obtain ⟨f', g1, g2, g3, g4⟩ := kindsOf_get h4 j k (by simpa using hj)
      exact ⟨f', by simpa using g1, by omega, g3, g4⟩

theorem cells_struct {w : World} {base : Nat} {spare : Nat → Bool} {held : Bool} {r : Reach} {b0 : Nat} {t : TypeId} {v : Value} {d : DataW H} {ps : List MemPlace} {fs : Array Field} {ks : List (Option IntKind)}
    (ht : P.underlying t = some (.struct fs)) (hc : P.cellsOf t = ks.length) (hk : kindsOf P fs.toList 0 ks = true) (hval : Value.okWide P w r b0 t v) (hd : DataW.Trod enc P w base spare held t v d ps) :
    ∃ cs : List Value, v = .agg cs.toArray ∧ cs.length = ks.length ∧ ∀ (i : Nat) k, ks[i]? = some k → ∃ c, cs[i]? = some c ∧ CellIs k c := by
  obtain ⟨cs, rfl, hn⟩ := okWide_struct ht hval
  obtain ⟨fuel, h⟩ := hd
  obtain ⟨xs, m, rfl, _, hl, hxl, hf⟩ := DataW.trod_struct ht h
  simp only [Value.cells] at hl hf
  refine ⟨cs.toList, by simp, by rw [hl, hc], fun i k hi => ?_⟩
  obtain ⟨f, h1, h2, h3, h4⟩ := kindsOf_get hk i k hi
  have hlt : i < cs.toList.length := by rw [hl, hc]; exact (List.getElem?_eq_some_iff.1 hi).1
  have e : (cs.toList.drop f.offset).take (P.cellsOf f.type) = [cs.toList[i]] := by
    rw [h2, h3, Nat.zero_add, List.drop_eq_getElem_cons hlt]; rfl
  have hx := hf i f (by simpa using h1)
  rw [e] at hx
  have hxi : i < xs.length := by
    rw [hxl]
    have := (List.getElem?_eq_some_iff.1 h1).1
    simpa using this
  rw [List.getElem?_eq_getElem hxi] at hx
  refine ⟨cs.toList[i], List.getElem?_eq_getElem hlt, ?_⟩
  cases k with
  | none =>
    obtain ⟨b, g, _⟩ := DataW.trod_bool h4 hx
    exact ⟨b, by simpa using g⟩
  | some k =>
    obtain ⟨n, g, _, hw⟩ := DataW.trod_int h4 hx
    exact ⟨n, by simpa using g, hw⟩

/-- A call whose arguments bear no reference, and without variables of the program. -/
theorem calls_plain {C : CallS} (hC : CallOK P 0 C) {f : Nat} {args : List Value} {v : Value} {S' : St} {q : Bool} (h : C f args ⟨[], 0, 0⟩ = some (v, S', q)) (hv : refsLt 0 v = true) (ha : ∀ u ∈ args, refsLt 0 u = true) (w : World) :
    Calls P f args.toArray w fun e w' => e = .returned v ∧ Below w.heap.size w w' := by
  have rep : Rep P 0 ⟨fun _ => 0, fun _ => 0, fun _ => 0⟩ (St.m ⟨[], 0, 0⟩) w :=
    ⟨fun b o h => by simp [St.m] at h, fun b o h => by simp [St.m] at h, fun b b' o o' h => by simp [St.m] at h, fun b o h => by simp [St.m] at h, fun g h => absurd h (Nat.not_lt_zero g)⟩
  have e : args.map (ren ⟨fun _ => 0, fun _ => 0, fun _ => 0⟩) = args := by
    conv => rhs; rw [← List.map_id args]
    exact List.map_congr_left fun u hu => ren_of_zero (ha u hu)
  have hr := hC.run f args _ v S' q h _ w rep fun u hu => clo_of_zero (ha u hu)
  rw [e] at hr
  refine Calls.mono hr ?_
  rintro e w' ⟨ρ', he, _, hx, _⟩
  exact ⟨by rw [he, ren_of_zero hv], below_of_ext (fun b o h => by simp [St.m] at h) hx⟩
end

end Go.Proofs.YtepddcemoofmlaaGreat.AE
