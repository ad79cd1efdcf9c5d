/- Writing: the model's step and the evaluator's. -/
import Derived.Test.YtepddcemoofmlaaGreatAe9
namespace Go.Proofs.YtepddcemoofmlaaGreat.AE
set_option linter.unusedSimpArgs false
set_option linter.unusedVariables false
open Go

section
variable {P : Program} {nG : Nat} {Q : FuncId → Bool} {ρ : Rho} {a : Act} {R : List Value} {w : World}

abbrev St.m (S : St) : Nat → Option AObj := fun b => S.blks[b]?

theorem wrote_m {S : St} {b : Nat} {o : AObj} {v : Value} (h : b < S.blks.length) : (S.wrote b o v).m = upM S.m b o := get_set h

/-- The step of an operation that does not call: what it leaves. -/
def Left (P : Program) (nG : Nat) (ρ : Rho) (S : St) (w : World) (r : Result Next) (v : Value) (S' : St) : Prop :=
  ∃ ρ' w', (r = .ok (.value (ren ρ' v)) w' ∨ (r = .ok .skip w' ∧ v = undef)) ∧ Rep P nG ρ' S'.m w' ∧ Ext ρ S.m w ρ' S'.m w' ∧ Clo (fun r => (S'.m r).isSome = true) v

/-- The entries behind an update. -/
theorem setM_entries (k : Int) (v : Value) : ∀ (ents : List MapEntry) (es : List (Int × Value)),
    ents.map (fun x => (x.key, x.val)) = es.map (fun x => (Value.int .i64 x.1, ren ρ x.2)) →
    match idxM k es with
    | some j => ∃ x, ents[j]? = some x ∧ x.key = .int .i64 k ∧
        (ents.modify j fun e => { e with key := .int .i64 k, val := ren ρ v }).map (fun x => (x.key, x.val)) = (setM k v es).map (fun x => (Value.int .i64 x.1, ren ρ x.2))
    | none => (setM k v es).map (fun x => (Value.int .i64 x.1, ren ρ x.2)) = es.map (fun x => (Value.int .i64 x.1, ren ρ x.2)) ++ [(.int .i64 k, ren ρ v)]
  | [], [], _ => by simp [idxM, setM]
  | [], x :: es, h => by simp at h
  | x :: ents, [], h => by simp at h
  | x :: ents, (j, u) :: es, h => by
    simp only [List.map_cons, List.cons.injEq, Prod.mk.injEq] at h
    obtain ⟨⟨h1, h2⟩, h3⟩ := h
    by_cases hk : (k == j) = true
    · have hkj : k = j := by simpa using hk
      subst hkj
      simp [idxM, setM, h1, List.modify_cons, h3]
    · have ih := setM_entries k v ents es h3
      simp only [idxM, hk, setM, Bool.false_eq_true, if_false]
      cases hi : idxM k es with
      | none => simp only [hi] at ih; simp [ih]
      | some i =>
        simp only [hi] at ih
        obtain ⟨y, hy1, hy2, hy3⟩ := ih
        simp only [Option.map_some]
        refine ⟨y, by simpa using hy1, hy2, ?_⟩
        simp [List.modify_cons, h1, h2, hy3]

theorem delM_entries (k : Int) : ∀ (ents : List MapEntry) (es : List (Int × Value)),
    ents.map (fun x => (x.key, x.val)) = es.map (fun x => (Value.int .i64 x.1, ren ρ x.2)) →
    match idxM k es with
    | some j => (ents.eraseIdx j).map (fun x => (x.key, x.val)) = (delM k es).map (fun x => (Value.int .i64 x.1, ren ρ x.2)) ∧ j < ents.length
    | none => delM k es = es
  | [], [], _ => by simp [idxM, delM]
  | [], x :: es, h => by simp at h
  | x :: ents, [], h => by simp at h
  | x :: ents, (j, u) :: es, h => by
    simp only [List.map_cons, List.cons.injEq, Prod.mk.injEq] at h
    obtain ⟨⟨h1, h2⟩, h3⟩ := h
    by_cases hk : (k == j) = true
    · simp [idxM, delM, hk, h3]
    · have ih := delM_entries k ents es h3
      simp only [idxM, hk, delM, Bool.false_eq_true, if_false]
      cases hi : idxM k es with
      | none => simp only [hi] at ih; simp [ih]
      | some i =>
        simp only [hi] at ih
        simp [h1, h2, ih]

theorem setM_mem {k : Int} {v : Value} : ∀ {es : List (Int × Value)} {x : Int × Value}, x ∈ setM k v es → x ∈ es ∨ x.2 = v
  | [], x, h => by simp only [setM, List.mem_singleton] at h; subst h; exact .inr rfl
  | (j, u) :: es, x, h => by
    simp only [setM] at h
    split at h
    · simp only [List.mem_cons] at h
      rcases h with rfl | h
      · exact .inr rfl
      · exact .inl (by simp [h])
    · simp only [List.mem_cons] at h
      rcases h with rfl | h
      · exact .inl (by simp)
      · rcases setM_mem h with h | h
        · exact .inl (by simp [h])
        · exact .inr h

theorem delM_mem {k : Int} : ∀ {es : List (Int × Value)} {x : Int × Value}, x ∈ delM k es → x ∈ es
  | [], x, h => by simp [delM] at h
  | (j, u) :: es, x, h => by
    simp only [delM] at h
    split at h
    · simp [h]
    · simp only [List.mem_cons] at h
      rcases h with rfl | h
      · simp
      · simp [delM_mem h]

theorem sameBits_int (n : Nat) (k : IntKind) (x : Int) : Instr.sameBits n (.int k x) (.int k x) = true := by
  cases n <;> simp [Instr.sameBits]

def mapAt (w : World) (b : Nat) (ents : Array MapEntry) (clock : Nat) : World := { w with heap := w.heap.setIfInBounds b (.map ents clock) }

theorem set_map_world {b : Nat} {ents ents' : Array MapEntry} {clock clock' : Nat} (hh : w.heap[b]? = some (.map ents clock)) :
    (mapAt w b ents' clock').heap[b]? = some (.map ents' clock') ∧ (∀ k, k ≠ b → (mapAt w b ents' clock').heap[k]? = w.heap[k]?) ∧ (mapAt w b ents' clock').heap.size = w.heap.size := by
  have hb : b < w.heap.size := by
    rcases Nat.lt_or_ge b w.heap.size with h | h
    · exact h
    · simp [Array.getElem?_eq_none h] at hh
  refine ⟨?_, ?_, ?_⟩
  · simp [mapAt, hb]
  · intro k hk; simp [mapAt, Array.getElem?_setIfInBounds_ne (Ne.symm hk)]
  · simp [mapAt]

theorem mapSet_run {S : St} (rep : Rep P nG ρ S.m w) {t key el : TypeId} (hu : P.underlying t = some (.map key el)) (hk : intKey P key = true) {r : Nat} {es : List (Int × Value)}
    (hr : S.blks[r]? = some (.amap es)) (k : Int) {v : Value} (hv : Clo (fun r => (S.m r).isSome = true) v) :
    ∃ w', (Instr.mapUpdate t (.map (some (ρ.blk r))) (.int .i64 k) (ren ρ v)).run P w = .ok () w' ∧
      Rep P nG ρ (S.wrote r (.amap (setM k v es)) v).m w' ∧ Ext ρ S.m w ρ (S.wrote r (.amap (setM k v es)) v).m w' := by
  obtain ⟨ents, clock, hh, hes⟩ := rep.obj r _ hr
  have hget := MapKept.run_getObj_map (P := P) hh
  have hkey := intKey_spec hk
  have hent := setM_entries (ρ := ρ) k v ents.toList es hes
  have hfind := findKey_run (ρ := ρ) (P := P) hkey k hes w
  have hif := idx_find k es
  have hclo : (AObj.amap (setM k v es)).Clo (fun r => (S.m r).isSome = true) := by
    intro x hx
    rcases setM_mem hx with h | h
    · exact rep.clo r _ hr x h
    · rw [h]; exact hv
  cases hi : idxM k es with
  | none =>
    rw [hi] at hif
    cases hf : findM k es with
    | some u => simp [hf] at hif
    | none =>
      simp only [hi] at hent
      simp only [hi, hf] at hfind
      obtain ⟨s1, s2, s3⟩ := set_map_world (w := w) (ents' := ents.push { key := .int .i64 k, val := ren ρ v, born := clock }) (clock' := clock + 1) hh
      refine ⟨mapAt w (ρ.blk r) (ents.push { key := .int .i64 k, val := ren ρ v, born := clock }) (clock + 1), ?_, ?_⟩
      rotate_left
      · rw [wrote_m (lt_of_get hr)]
        refine over_rep rep hr rfl rfl rfl rfl s3 s2 ⟨_, _, s1, ?_⟩ hclo
        rw [hent]; simp [hes]
      · simp [Instr.mapUpdate, run_underlying hu, hget, run_checkKey_int hkey, hfind, MapKept.run_setObj_map _ hh, mapAt]
  | some j =>
    rw [hi] at hif
    cases hf : findM k es with
    | none => simp [hf] at hif
    | some u =>
      simp only [hi] at hent
      obtain ⟨y, hy1, hy2, hy3⟩ := hent
      simp only [hi, hf] at hfind
      have hy1' : ents[j]? = some y := by simpa using hy1
      obtain ⟨s1, s2, s3⟩ := set_map_world (w := w) (ents' := ents.modify j fun e => { e with key := .int .i64 k, val := ren ρ v }) (clock' := clock) hh
      refine ⟨mapAt w (ρ.blk r) (ents.modify j fun e => { e with key := .int .i64 k, val := ren ρ v }) (clock), ?_, ?_⟩
      rotate_left
      · rw [wrote_m (lt_of_get hr)]
        refine over_rep rep hr rfl rfl rfl rfl s3 s2 ⟨_, _, s1, ?_⟩ hclo
        rw [← hy3]; simp
      · simp [Instr.mapUpdate, run_underlying hu, hget, run_checkKey_int hkey, hfind, hy1', hy2, Instr.keyThatStays, sameBits_int, MapKept.run_setObj_map _ hh, mapAt]

theorem delete_run {S : St} (rep : Rep P nG ρ S.m w) {t t2 ty key el : TypeId} (hu : P.underlying t = some (.map key el)) (hk : intKey P key = true) {r : Nat} {es : List (Int × Value)}
    (hr : S.blks[r]? = some (.amap es)) (k : Int) :
    ∃ w', (Builtin.delete_ #[t, t2] ty #[.map (some (ρ.blk r)), .int .i64 k]).run P w = .ok (.tuple #[]) w' ∧
      Rep P nG ρ (S.wrote r (.amap (delM k es)) (.tuple #[])).m w' ∧ Ext ρ S.m w ρ (S.wrote r (.amap (delM k es)) (.tuple #[])).m w' := by
  obtain ⟨ents, clock, hh, hes⟩ := rep.obj r _ hr
  have hget := MapKept.run_getObj_map (P := P) hh
  have hkey := intKey_spec hk
  have hent := delM_entries (ρ := ρ) k ents.toList es hes
  have hfind := findKey_run (ρ := ρ) (P := P) hkey k hes w
  have hif := idx_find k es
  have hclo : (AObj.amap (delM k es)).Clo (fun r => (S.m r).isSome = true) := fun x hx => rep.clo r _ hr x (delM_mem hx)
  cases hi : idxM k es with
  | none =>
    rw [hi] at hif
    cases hf : findM k es with
    | some u => simp [hf] at hif
    | none =>
      simp only [hi] at hent
      simp only [hi, hf] at hfind
      obtain ⟨s1, s2, s3⟩ := set_map_world (w := w) (ents' := ents) (clock' := clock) hh
      refine ⟨mapAt w (ρ.blk r) (ents) (clock), ?_, ?_⟩
      rotate_left
      · rw [wrote_m (lt_of_get hr)]
        refine over_rep rep hr rfl rfl rfl rfl s3 s2 ⟨_, _, s1, ?_⟩ hclo
        rw [hent]; exact hes
      · simp [Builtin.delete_, run_underlying hu, hget, run_checkKey_int hkey, hfind, MapKept.run_setObj_map _ hh, mapAt]
  | some j =>
    rw [hi] at hif
    cases hf : findM k es with
    | none => simp [hf] at hif
    | some u =>
      simp only [hi] at hent
      simp only [hi, hf] at hfind
      obtain ⟨s1, s2, s3⟩ := set_map_world (w := w) (ents' := ents.eraseIdxIfInBounds j) (clock' := clock) hh
      refine ⟨mapAt w (ρ.blk r) (ents.eraseIdxIfInBounds j) (clock), ?_, ?_⟩
      rotate_left
      · rw [wrote_m (lt_of_get hr)]
        refine over_rep rep hr rfl rfl rfl rfl s3 s2 ⟨_, _, s1, ?_⟩ hclo
        rw [← hent.1]
        congr 1
        rw [Array.eraseIdxIfInBounds, dif_pos (by simpa using hent.2)]
        simp
      · simp [Builtin.delete_, run_underlying hu, hget, run_checkKey_int hkey, hfind, MapKept.run_setObj_map _ hh, mapAt]

end
end Go.Proofs.YtepddcemoofmlaaGreat.AE
