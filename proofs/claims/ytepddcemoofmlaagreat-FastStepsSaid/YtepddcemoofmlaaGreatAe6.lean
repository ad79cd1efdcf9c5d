/- References: what an operation gives refers only to what its operands, the cells that it reads, or a new block lead to. -/
import Derived.Test.YtepddcemoofmlaaGreatAe5
namespace Go.Proofs.YtepddcemoofmlaaGreat.AE
open Go

def IOp.vals (R : List Value) : IOp → List Value
  | .mv x => [x.ev R]
  | .pick c a b => [c.ev R, a.ev R, b.ev R]
  | .new _ zs => zs
  | .box _ _ x => [x.ev R]
  | .build zs ps => zs ++ ps.map fun p => p.2.2.ev R
  | .buildSlice _ zs _ ps => zs ++ ps.map fun p => p.2.2.ev R
  | .load _ _ x => [x.ev R]
  | .store _ x v => [x.ev R, v.ev R]
  | .nilCheck x => [x.ev R]
  | .bin _ _ x y => [x.ev R, y.ev R]
  | .un _ x => [x.ev R]
  | .conv _ x => [x.ev R]
  | .mkFunc _ f c => f.map (IV.ev R) ++ c.map (IV.ev R)
  | .mkMap => []
  | .mkSlice _ z _ l c => [z, l.ev R, c.ev R]
  | .slice _ x _ _ _ => [x.ev R]
  | .addOff _ x => [x.ev R]
  | .field _ _ _ x => [x.ev R]
  | .idxS _ x i => [x.ev R, i.ev R]
  | .idxA _ _ x i => [x.ev R, i.ev R]
  | .idxV _ _ _ x i => [x.ev R, i.ev R]
  | .lookup z _ m k => [z, m.ev R, k.ev R]
  | .mapSet m k v => [m.ev R, k.ev R, v.ev R]
  | .extract x _ => [x.ev R]
  | .call f args _ => f.ev R :: args.map (IV.ev R)
  | .lenS x => [x.ev R]
  | .lenM x => [x.ev R]
  | .append _ _ _ s x => [s.ev R, x.ev R]
  | .minmax _ x xs => x.ev R :: xs.map (IV.ev R)
  | .delete m k => [m.ev R, k.ev R]

section
variable {P : Program} {nG : Nat} {Q : FuncId → Bool} {R : List Value} {D : Nat → Prop}

theorem cParts_clo (hR : ∀ v ∈ R, Clo D v) (hg : ∀ g, g < nG → D g) {place : Nat → Option (Nat × Nat)} : ∀ {parts : List (Nat × Operand)} {ps : List (Nat × Nat × IV)},
    cParts P nG place parts = some ps → ∀ p ∈ ps, Clo D (p.2.2.ev R)
  | [], ps, h => by simp only [cParts, Option.some.injEq] at h; subst h; simp
  | (i, x) :: l, ps, h => by
    simp only [cParts] at h
    split at h
    · rename_i off sz y r hp hy hr
      simp only [Option.some.injEq] at h
      subst h
      intro p hp
      simp only [List.mem_cons] at hp
      rcases hp with rfl | hp
      · exact clo_iv hR hg hy
      · exact cParts_clo hR hg hr p hp
    · cases h

theorem zs_clo {t : TypeId} {zs : List Value} (h : zsOf P t = some zs) : ∀ v ∈ zs, Clo D v := by
  obtain ⟨z, n, _, _, _, _, h5, _⟩ := zs_spec h
  exact fun v hv => clo_of_zero (h5 v hv)

theorem cop_clo (hR : ∀ v ∈ R, Clo D v) (hg : ∀ g, g < nG → D g) {op : Op} {io : IOp} (hc : cOp P nG Q op = some io) : ∀ v ∈ io.vals R, Clo D v := by
  have iv {x : Operand} {y : IV} (h : cIV nG x = some y) : Clo D (y.ev R) := clo_iv hR hg h
  cases op <;> simp only [cOp] at hc
  case move x => obtain ⟨y, hy, rfl⟩ := Option.map_eq_some_iff.1 hc; simp [IOp.vals, iv hy]
  case assign x => obtain ⟨y, hy, rfl⟩ := Option.map_eq_some_iff.1 hc; simp [IOp.vals, iv hy]
  case pick =>
    split at hc
    · rename_i h1 h2 h3; simp only [Option.some.injEq] at hc; subst hc; simp [IOp.vals, iv h1, iv h2, iv h3]
    · cases hc
  case alloc => obtain ⟨y, hy, rfl⟩ := Option.map_eq_some_iff.1 hc; exact zs_clo hy
  case box =>
    split at hc
    · rename_i h1 h2; simp only [Option.some.injEq] at hc; subst hc; simp [IOp.vals, iv h2]
    · cases hc
  case build =>
    split at hc
    · rename_i h1 h2
      split at hc
      · obtain ⟨y, hy, rfl⟩ := Option.map_eq_some_iff.1 hc
        intro v hv
        simp only [IOp.vals, List.mem_append, List.mem_map] at hv
        rcases hv with hv | ⟨p, hp, rfl⟩
        · exact zs_clo h1 v hv
        · exact cParts_clo hR hg hy p hp
      · cases hc
    · rename_i h1 h2
      split at hc
      · obtain ⟨y, hy, rfl⟩ := Option.map_eq_some_iff.1 hc
        intro v hv
        simp only [IOp.vals, List.mem_append, List.mem_map] at hv
        rcases hv with hv | ⟨p, hp, rfl⟩
        · exact zs_clo h1 v hv
        · exact cParts_clo hR hg hy p hp
      · cases hc
    · cases hc
  case buildSlice =>
    split at hc
    · split at hc
      · rename_i n zs h1 h2
        split at hc
        · obtain ⟨y, hy, rfl⟩ := Option.map_eq_some_iff.1 hc
          intro v hv
          simp only [IOp.vals, List.mem_append, List.mem_map, List.mem_flatten] at hv
          rcases hv with ⟨l, hl, hv⟩ | ⟨p, hp, rfl⟩
          · rw [List.mem_replicate] at hl; obtain ⟨_, rfl⟩ := hl; exact zs_clo h2 v hv
          · exact cParts_clo hR hg hy p hp
        · cases hc
      · cases hc
    · cases hc
  case insert =>
    split at hc
    · rename_i h1 h2 h3 h4
      split at hc
      · simp only [Option.some.injEq] at hc; subst hc; simp [IOp.vals, iv h2, iv h3, iv h4]
      · cases hc
    · cases hc
  case mapUpdate =>
    split at hc
    · rename_i h1 h2 h3 h4
      split at hc
      · simp only [Option.some.injEq] at hc; subst hc; simp [IOp.vals, iv h2, iv h3, iv h4]
      · cases hc
    · cases hc
  case load =>
    split at hc
    · rename_i h1 h2 h3; simp only [Option.some.injEq] at hc; subst hc; simp [IOp.vals, iv h3]
    · cases hc
  case store =>
    split at hc
    · rename_i h1 h2 h3; simp only [Option.some.injEq] at hc; subst hc; simp [IOp.vals, iv h2, iv h3]
    · cases hc
  case nilCheck => obtain ⟨y, hy, rfl⟩ := Option.map_eq_some_iff.1 hc; simp [IOp.vals, iv hy]
  case binOp =>
    split at hc
    · rename_i h1 h2 h3; simp only [Option.some.injEq] at hc; subst hc; simp [IOp.vals, iv h2, iv h3]
    · cases hc
  case unOp => obtain ⟨y, hy, rfl⟩ := Option.map_eq_some_iff.1 hc; simp [IOp.vals, iv hy]
  case convert =>
    split at hc
    · rename_i h1 h2 h3; simp only [Option.some.injEq] at hc; subst hc; simp [IOp.vals, iv h3]
    · cases hc
  case makeFunc fn first captured =>
    cases fn with
    | func f =>
      simp only at hc
      split at hc
      · rename_i h1 h2
        simp only [Option.some.injEq] at hc; subst hc
        intro v hv
        simp only [IOp.vals, List.mem_append] at hv
        rcases hv with hv | hv
        · exact clo_ivs hR hg h1 v hv
        · exact clo_ivs hR hg h2 v hv
      · cases hc
    | _ => simp at hc
  case makeMap t r => cases r <;> simp at hc; subst hc; simp [IOp.vals]
  case makeSlice =>
    split at hc
    · rename_i h1 h2 h3
      split at hc
      · rename_i i z h4 h5
        simp only [Option.some.injEq] at hc; subst hc
        have := zs_clo (D := D) h5
        simp only [List.mem_singleton, forall_eq] at this
        simp [IOp.vals, iv h2, iv h3, this]
      · cases hc
    · cases hc
  case slice =>
    split at hc
    · rename_i h1 h2 h3 h4 h5
      split at hc
      · simp only [Option.some.injEq] at hc; subst hc; simp [IOp.vals, iv h2]
      · cases hc
    · cases hc
  case fieldAddr =>
    split at hc
    · rename_i h1 h2
      split at hc
      · split at hc
        · simp only [Option.some.injEq] at hc; subst hc; simp [IOp.vals, iv h2]
        · cases hc
      · cases hc
    · cases hc
  case field =>
    split at hc
    · rename_i h1 h2
      split at hc
      · split at hc
        · simp only [Option.some.injEq] at hc; subst hc; simp [IOp.vals, iv h2]
        · cases hc
      · cases hc
    · cases hc
  case indexAddr =>
    split at hc
    · rename_i h1 h2 h3; obtain ⟨y, hy, rfl⟩ := Option.map_eq_some_iff.1 hc; simp [IOp.vals, iv h2, iv h3]
    · rename_i h1 h2 h3; obtain ⟨y, hy, rfl⟩ := Option.map_eq_some_iff.1 hc; simp [IOp.vals, iv h2, iv h3]
    · cases hc
  case index =>
    split at hc
    · rename_i h1 h2 h3
      split at hc
      · simp only [Option.some.injEq] at hc; subst hc; simp [IOp.vals, iv h2, iv h3]
      · cases hc
    · cases hc
  case lookup =>
    split at hc
    · rename_i h1 h2 h3
      split at hc
      · split at hc
        · rename_i h4; simp only [Option.some.injEq] at hc; subst hc; simp [IOp.vals, iv h2, iv h3, clo_of_zero h4.2]
        · cases hc
      · cases hc
    · cases hc
  case extract => obtain ⟨y, hy, rfl⟩ := Option.map_eq_some_iff.1 hc; simp [IOp.vals, iv hy]
  case call c =>
    split at hc
    · split at hc
      · rename_i h1 h2
        simp only [Option.some.injEq] at hc; subst hc
        intro v hv
        simp only [IOp.vals, List.mem_cons] at hv
        rcases hv with rfl | hv
        · exact iv h1
        · exact clo_ivs hR hg h2 v hv
      · cases hc
    · unfold cBuiltin at hc
      split at hc
      · split at hc
        · rename_i h1 h2; simp only [Option.some.injEq] at hc; subst hc; simp [IOp.vals, iv h2]
        · rename_i h1 h2; simp only [Option.some.injEq] at hc; subst hc; simp [IOp.vals, iv h2]
        · simp only [Option.some.injEq] at hc; subst hc; simp [IOp.vals, IV.ev, Clo]
        · cases hc
      · split at hc
        · rename_i h1 h2 h3
          split at hc
          · simp only [Option.some.injEq] at hc; subst hc; simp [IOp.vals, iv h2, iv h3]
          · cases hc
        · cases hc
      · split at hc
        · rename_i h1 h2
          simp only [Option.some.injEq] at hc; subst hc
          intro v hv
          simp only [IOp.vals, List.mem_cons] at hv
          rcases hv with rfl | hv
          · exact iv h1
          · exact clo_ivs hR hg h2 v hv
        · cases hc
      · split at hc
        · rename_i h1 h2
          simp only [Option.some.injEq] at hc; subst hc
          intro v hv
          simp only [IOp.vals, List.mem_cons] at hv
          rcases hv with rfl | hv
          · exact iv h1
          · exact clo_ivs hR hg h2 v hv
        · cases hc
      · split at hc
        · rename_i h1 h2 h3
          split at hc
          · simp only [Option.some.injEq] at hc; subst hc; simp [IOp.vals, iv h2, iv h3]
          · cases hc
        · cases hc
      · cases hc
    · cases hc
  all_goals (cases hc)

theorem clo_evFill : ∀ {ps : List (Nat × Nat × Value)} {zs cs : List Value}, (∀ p ∈ ps, Clo D p.2.2) → (∀ v ∈ zs, Clo D v) → evFill ps zs = some cs → ∀ v ∈ cs, Clo D v
  | [], zs, cs, _, hz, he => by simp only [evFill, Option.some.injEq] at he; subst he; exact hz
  | (off, sz, u) :: r, zs, cs, hp, hz, he => by
    simp only [evFill] at he
    split at he
    · refine clo_evFill (fun p hp' => hp p (by simp [hp'])) ?_ he
      intro v hv
      simp only [List.mem_append] at hv
      rcases hv with hv | hv | hv
      · exact hz v (List.mem_of_mem_take hv)
      · exact clo_cells (hp (off, sz, u) (by simp)) v hv
      · exact hz v (List.mem_of_mem_drop hv)
    · cases he

theorem clo_int (k : IntKind) (n : Int) : Clo D (.int k n) := by simp [Clo]
theorem clo_bool (b : Bool) : Clo D (.bool b) := by simp [Clo]

theorem clo_evInt {op : BinOp} {k : IntKind} {x y : Int} {v : Value} (h : evInt op k x y = some v) : Clo D v := by
  unfold evInt at h
  split at h <;> (try split at h) <;> simp only [Option.some.injEq, reduceCtorEq] at h <;> subst h <;> simp [Clo]

theorem clo_evMin (mx : Bool) : ∀ {l : List Value} {x v : Value}, Clo D x → evMin mx x l = some v → Clo D v
  | [], x, v, hx, h => by cases x <;> (simp only [evMin, Option.some.injEq] at h; subst h; exact hx)
  | y :: l, x, v, hx, h => by
    cases x with
    | int k n =>
      cases y with
      | int k' n' => simp only [evMin] at h; exact clo_evMin mx (clo_int _ _) h
      | _ => simp [evMin] at h
    | _ => simp [evMin] at h

theorem clo_pure {io : IOp} {v : Value} (hv : ∀ u ∈ io.vals R, Clo D u) (he : evPure R io = some v) : Clo D v := by
  cases io <;> simp only [evPure, reduceCtorEq] at he
  case mv x => simp only [Option.some.injEq] at he; subst he; exact hv _ (by simp [IOp.vals])
  case pick c a b =>
    split at he <;> simp only [Option.some.injEq, reduceCtorEq] at he <;> subst he <;> exact hv _ (by simp [IOp.vals])
  case build zs ps =>
    obtain ⟨cs, hcs, rfl⟩ := Option.map_eq_some_iff.1 he
    simp only [Clo]
    refine cloA_iff.2 (clo_evFill ?_ ?_ hcs)
    · intro p hp
      obtain ⟨q, hq, rfl⟩ := List.mem_map.1 hp
      exact hv _ (by simp only [IOp.vals, List.mem_append, List.mem_map]; exact .inr ⟨q, hq, rfl⟩)
    · intro u hu; exact hv _ (by simp [IOp.vals, hu])
  case nilCheck x =>
    have hx := hv (x.ev R) (by simp [IOp.vals])
    split at he <;> simp only [Option.some.injEq, reduceCtorEq] at he <;> subst he <;> (rename_i hq; rw [hq] at hx; exact hx)
  case bin op t x y =>
    unfold evBin at he
    split at he
    · split at he
      · unfold evShift at he; split at he; cases he; simp only [Option.some.injEq] at he; subst he; simp [Clo]
      · unfold evShift at he; split at he; cases he; simp only [Option.some.injEq] at he; subst he; simp [Clo]
      · split at he
        · exact clo_evInt he
        · cases he
    · split at he
      · obtain ⟨b, _, rfl⟩ := Option.map_eq_some_iff.1 he; simp [Clo]
      · obtain ⟨b, _, rfl⟩ := Option.map_eq_some_iff.1 he; simp [Clo]
      · cases he
  case un op x =>
    unfold evUn at he
    split at he
    · simp only [Option.some.injEq] at he; subst he; simp [Clo]
    · exact clo_evInt he
    · simp only [Option.some.injEq] at he; subst he; simp [Clo]
    · cases he
  case conv k x => split at he <;> simp only [Option.some.injEq, reduceCtorEq] at he; subst he; simp [Clo]
  case mkFunc f first captured =>
    simp only [Option.some.injEq] at he; subst he
    simp only [Clo]
    exact ⟨cloA_iff.2 fun u hu => hv u (by simp only [IOp.vals, List.mem_append]; exact .inl hu), cloA_iff.2 fun u hu => hv u (by simp only [IOp.vals, List.mem_append]; exact .inr hu)⟩
  case addOff off x =>
    have hx := hv (x.ev R) (by simp [IOp.vals])
    split at he <;> simp only [Option.some.injEq, reduceCtorEq] at he; subst he
    rename_i hq; rw [hq] at hx; simp only [Clo] at hx; simp [Clo, hx.1]
  case field ag off n x =>
    have hx := hv (x.ev R) (by simp [IOp.vals])
    split at he
    · rename_i hq; rw [hq] at hx; simp only [Clo] at hx; exact clo_cut (cloA_iff.1 hx) he
    · cases he
  case idxS sz x i =>
    have hx := hv (x.ev R) (by simp [IOp.vals])
    split at he
    · rename_i hq
      obtain ⟨k, j, e1, e2, e3, rfl⟩ := nth_ren he
      rw [hq] at hx; simp only [Clo] at hx; simp [Clo, hx.1]
    · cases he
  case idxA len sz x i =>
    have hx := hv (x.ev R) (by simp [IOp.vals])
    split at he
    · rename_i hq
      obtain ⟨k, j, e1, e2, e3, rfl⟩ := nth_ren he
      rw [hq] at hx; simp only [Clo] at hx; simp [Clo, hx.1]
    · cases he
  case idxV len ag sz x i =>
    have hx := hv (x.ev R) (by simp [IOp.vals])
    split at he
    · rename_i hq _
      split at he
      · rw [hq] at hx; simp only [Clo] at hx; exact clo_cut (cloA_iff.1 hx) he
      · cases he
    · cases he
  case extract x i =>
    have hx := hv (x.ev R) (by simp [IOp.vals])
    split at he
    · rename_i hq; rw [hq] at hx; simp only [Clo] at hx; exact cloA_iff.1 hx v (List.mem_of_getElem? he)
    · cases he
  case lenS x => split at he <;> simp only [Option.some.injEq, reduceCtorEq] at he; subst he; simp [Clo]
  case minmax mx x xs =>
    split at he
    · exact clo_evMin mx (clo_int _ _) he
    · cases he

end
end Go.Proofs.YtepddcemoofmlaaGreat.AE
