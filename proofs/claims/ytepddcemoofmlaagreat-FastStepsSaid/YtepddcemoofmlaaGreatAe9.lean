/- Writing. -/
import Derived.Test.YtepddcemoofmlaaGreatAe8
import Derived.Laws.CopyRow
import Derived.MapKept
namespace Go.Proofs.YtepddcemoofmlaaGreat.AE
set_option linter.unusedSimpArgs false
set_option linter.unusedVariables false
open Go

section
variable {P : Program} {nG : Nat} {Q : FuncId → Bool} {ρ : Rho} {a : Act} {R : List Value} {m : Nat → Option AObj} {w : World}

theorem one_cell {v : Value} (h : one v = true) : v.oneCell' = true := by
  cases v <;> simp_all [one, Value.oneCell']

/-- A block of the heap's own says something else now. -/
theorem over_rep (rep : Rep P nG ρ m w) {b : Nat} {o o' : AObj} {w' : World} (hb : m b = some o) (hown : o.own = true)
    (hos : w'.os = w.os) (ht : w'.tape = w.tape) (hou : w'.output = w.output) (hsz : w'.heap.size = w.heap.size)
    (hoth : ∀ k, k ≠ ρ.blk b → w'.heap[k]? = w.heap[k]?) (ho : RepObj P ρ b w' o') (hclo : o'.Clo (fun r => (m r).isSome = true)) :
    Rep P nG ρ (upM m b o') w' ∧ Ext ρ m w ρ (upM m b o') w' := by
  have hdom : ∀ x, (upM m b o' x).isSome = (m x).isSome := by
    intro x; unfold upM; split
    · rename_i h; subst h; simp [hb]
    · rfl
  have hlive : o.live = true := by cases o <;> simp_all [AObj.own, AObj.live]
  constructor
  · refine ⟨?_, ?_, ?_, ?_, ?_⟩
    · intro x ox hx
      unfold upM at hx
      split at hx
      · rename_i h; subst h; rw [hsz]; exact rep.size x o hb
      · rw [hsz]; exact rep.size x ox hx
    · intro x ox hx
      unfold upM at hx
      split at hx
      · rename_i h; simp only [Option.some.injEq] at hx; subst hx h; exact ho
      · rename_i h
        by_cases hl : ox.live = true
        · exact (rep.obj x ox hx).carry (hoth _ fun e => rep.sep b x o ox hb hx hown hl (Ne.symm h) e.symm) ⟨rfl, rfl, rfl⟩ ((rep.clo x ox hx).mono fun _ _ => ⟨rfl, rfl, rfl⟩)
        · cases ox <;> simp_all [AObj.live, RepObj]
    · intro x y ox oy hx hy h1 h2 hne
      unfold upM at hx hy
      split at hx
      · rename_i h
        subst h
        split at hy
        · rename_i h'; exact absurd h'.symm hne
        · exact rep.sep x y o oy hb hy hown h2 hne
      · split at hy
        · rename_i h'; subst h'; exact rep.sep x y ox o hx hb h1 hlive hne
        · exact rep.sep x y ox oy hx hy h1 h2 hne
    · intro x ox hx
      have hm : ∀ r, (m r).isSome = true → (upM m b o' r).isSome = true := fun r hr => by rw [hdom]; exact hr
      unfold upM at hx
      split at hx
      · simp only [Option.some.injEq] at hx; subst hx; exact hclo.mono hm
      · exact (rep.clo x ox hx).mono hm
    · intro g hg
      obtain ⟨h1, h2, h3⟩ := rep.glob g hg
      exact ⟨h1, h2, by rw [hdom]; exact h3⟩
  · refine ⟨hos, ht, hou, Nat.le_of_eq hsz.symm, fun _ _ => ⟨rfl, rfl, rfl⟩, fun k _ hk => hoth k fun e => hk b o hb hown e.symm, ?_, fun x hx => by rw [hdom]; exact hx⟩
    intro x ox hx hox
    unfold upM at hx
    split at hx
    · rename_i h; subst h; exact .inr ⟨x, o, hb, AObj.live_of_own hown, fun _ => hown, rfl⟩
    · exact .inr ⟨x, ox, hx, hox, id, rfl⟩

/-- What a block says is forgotten. -/
theorem kill_rep (rep : Rep P nG ρ m w) {b : Nat} {o : AObj} (hb : m b = some o) :
    Rep P nG ρ (upM m b .dead) w ∧ Ext ρ m w ρ (upM m b .dead) w := by
  have hdom : ∀ x, (upM m b .dead x).isSome = (m x).isSome := by
    intro x; unfold upM; split
    · rename_i h; subst h; simp [hb]
    · rfl
  constructor
  · refine ⟨?_, ?_, ?_, ?_, ?_⟩
    · intro x ox hx
      unfold upM at hx
      split at hx
      · rename_i h; subst h; exact rep.size x o hb
      · exact rep.size x ox hx
    · intro x ox hx
      unfold upM at hx
      split at hx
      · simp only [Option.some.injEq] at hx; subst hx; trivial
      · exact rep.obj x ox hx
    · intro x y ox oy hx hy h1 h2 hne
      unfold upM at hx hy
      split at hx
      · simp only [Option.some.injEq] at hx; subst hx; simp [AObj.own] at h1
      · split at hy
        · simp only [Option.some.injEq] at hy; subst hy; simp [AObj.live] at h2
        · exact rep.sep x y ox oy hx hy h1 h2 hne
    · intro x ox hx
      have hm : ∀ r, (m r).isSome = true → (upM m b .dead r).isSome = true := fun r hr => by rw [hdom]; exact hr
      unfold upM at hx
      split at hx
      · simp only [Option.some.injEq] at hx; subst hx; trivial
      · exact (rep.clo x ox hx).mono hm
    · intro g hg
      obtain ⟨h1, h2, h3⟩ := rep.glob g hg
      exact ⟨h1, h2, by rw [hdom]; exact h3⟩
  · refine ⟨rfl, rfl, rfl, Nat.le_refl _, fun _ _ => ⟨rfl, rfl, rfl⟩, fun _ _ _ => rfl, ?_, fun x hx => by rw [hdom]; exact hx⟩
    intro x ox hx hox
    unfold upM at hx
    split at hx
    · simp only [Option.some.injEq] at hx; subst hx; simp [AObj.live] at hox
    · exact .inr ⟨x, ox, hx, hox, id, rfl⟩

/-- A block gets another name, and says something else under it. -/
theorem move_rep (rep : Rep P nG ρ m w) {b N c : Nat} {o o' : AObj} {w' : World} (hb : m b = some o) (hown : o.own = true) (hN : m N = none)
    (hos : w'.os = w.os) (ht : w'.tape = w.tape) (hou : w'.output = w.output) (hsz : w'.heap.size = w.heap.size)
    (hoth : ∀ k, k ≠ ρ.blk b → w'.heap[k]? = w.heap[k]?) (ho : RepObj P (ρ.upd N (ρ.blk b) c) N w' o') (hclo : o'.Clo (fun r => (m r).isSome = true)) :
    Rep P nG (ρ.upd N (ρ.blk b) c) (upM (upM m b .dead) N o') w' ∧ Ext ρ m w (ρ.upd N (ρ.blk b) c) (upM (upM m b .dead) N o') w' := by
  have hbN : b ≠ N := by rintro rfl; simp [hN] at hb
  have hlive : o.live = true := by cases o <;> simp_all [AObj.own, AObj.live]
  have hdom : ∀ x, (m x).isSome = true → (upM (upM m b .dead) N o' x).isSome = true := by
    intro x hx; unfold upM; split
    · rfl
    · split
      · rfl
      · exact hx
  have hag : ∀ x, (m x).isSome = true → Agree ρ (ρ.upd N (ρ.blk b) c) x := fun x hx => agree_upd (by rintro rfl; simp [hN] at hx)
  have hblk : ∀ x, x ≠ N → (ρ.upd N (ρ.blk b) c).blk x = ρ.blk x := fun x hx => by simp [Rho.upd, hx]
  have hblkN : (ρ.upd N (ρ.blk b) c).blk N = ρ.blk b := by simp [Rho.upd]
  have cs : ∀ x ox, upM (upM m b .dead) N o' x = some ox → (x = N ∧ ox = o') ∨ (x ≠ N ∧ x = b ∧ ox = .dead) ∨ (x ≠ N ∧ x ≠ b ∧ m x = some ox) := by
    intro x ox hx
    unfold upM at hx
    split at hx
    · rename_i h; simp only [Option.some.injEq] at hx; exact .inl ⟨h, hx.symm⟩
    · rename_i h
      split at hx
      · rename_i h'; simp only [Option.some.injEq] at hx; exact .inr (.inl ⟨h, h', hx.symm⟩)
      · rename_i h'; exact .inr (.inr ⟨h, h', hx⟩)
  constructor
  · refine ⟨?_, ?_, ?_, ?_, ?_⟩
    · intro x ox hx
      rcases cs x ox hx with ⟨h, _⟩ | ⟨h, h', _⟩ | ⟨h, h', h3⟩
      · rw [h, hblkN, hsz]; exact rep.size b o hb
      · rw [hblk x h, hsz, h']; exact rep.size b o hb
      · rw [hblk x h, hsz]; exact rep.size x ox h3
    · intro x ox hx
      rcases cs x ox hx with ⟨h, h'⟩ | ⟨h, h', h3⟩ | ⟨h, h', h3⟩
      · rw [h, h']; exact ho
      · rw [h3]; trivial
      · by_cases hl : ox.live = true
        · exact (rep.obj x ox h3).carry (hoth _ fun e => rep.sep b x o ox hb h3 hown hl (Ne.symm h') e.symm) (hag x (by simp [h3])) ((rep.clo x ox h3).mono hag)
        · cases ox <;> simp_all [AObj.live, RepObj]
    · intro x y ox oy hx hy h1 h2 hne
      rcases cs x ox hx with ⟨h, h'⟩ | ⟨h, h', h3⟩ | ⟨h, h', h3⟩
      · rcases cs y oy hy with ⟨k, k'⟩ | ⟨k, k', k3⟩ | ⟨k, k', k3⟩
        · exact absurd (h.trans k.symm) hne
        · rw [k3] at h2; simp [AObj.live] at h2
        · rw [h, hblkN, hblk y k]; exact rep.sep b y o oy hb k3 hown h2 (Ne.symm k')
      · rw [h3] at h1; simp [AObj.own] at h1
      · rcases cs y oy hy with ⟨k, k'⟩ | ⟨k, k', k3⟩ | ⟨k, k', k3⟩
        · rw [k, hblkN, hblk x h]; exact rep.sep x b ox o h3 hb h1 hlive h'
        · rw [k3] at h2; simp [AObj.live] at h2
        · rw [hblk x h, hblk y k]; exact rep.sep x y ox oy h3 k3 h1 h2 hne
    · intro x ox hx
      rcases cs x ox hx with ⟨h, h'⟩ | ⟨h, h', h3⟩ | ⟨h, h', h3⟩
      · rw [h']; exact hclo.mono hdom
      · rw [h3]; trivial
      · exact (rep.clo x ox h3).mono hdom
    · intro g hg
      obtain ⟨h1, h2, h3⟩ := rep.glob g hg
      obtain ⟨a1, a2, _⟩ := hag g h3
      exact ⟨a1.trans h1, a2.trans h2, hdom g h3⟩
  · refine ⟨hos, ht, hou, Nat.le_of_eq hsz.symm, hag, fun k _ hk => hoth k fun e => hk b o hb hown e.symm, ?_, hdom⟩
    intro x ox hx hox
    rcases cs x ox hx with ⟨h, h'⟩ | ⟨h, h', h3⟩ | ⟨h, h', h3⟩
    · exact .inr ⟨b, o, hb, AObj.live_of_own hown, fun _ => hown, by rw [h, hblkN]⟩
    · rw [h3] at hox; simp [AObj.live] at hox
    · exact .inr ⟨x, ox, h3, hox, id, (hblk x h).symm⟩

theorem drawn_rep (rep : Rep P nG ρ m w) : Rep P nG ρ m { w with drawn := w.drawn + 1 } := by
  refine ⟨rep.size, ?_, rep.sep, rep.clo, rep.glob⟩
  intro b o hb
  have := rep.obj b o hb
  cases o <;> exact this

theorem drawn_ext : Ext ρ m w ρ m { w with drawn := w.drawn + 1 } :=
  ⟨rfl, rfl, rfl, Nat.le_refl _, fun _ _ => ⟨rfl, rfl, rfl⟩, fun _ _ _ => rfl, fun b o h ho => .inr ⟨b, o, h, ho, id, rfl⟩, fun _ h => h⟩

/-! ### Lists -/
theorem get_set {l : List AObj} {b : Nat} {o : AObj} (h : b < l.length) : (fun x => (l.set b o)[x]?) = upM (fun x => l[x]?) b o := by
  funext x
  unfold upM
  rw [List.getElem?_set]
  split
  · rename_i hx; subst hx; simp [h]
  · rename_i hx; rw [if_neg (fun e => hx e.symm)]

theorem get_push {l : List AObj} {o : AObj} : (fun x => (l ++ [o])[x]?) = upM (fun x => l[x]?) l.length o := by
  funext x
  unfold upM
  split
  · rename_i hx; subst hx; simp
  · rename_i hx
    rw [List.getElem?_append]
    split
    · rfl
    · show _ = l[x]?
      rw [List.getElem?_eq_none (by simp; omega), List.getElem?_eq_none (by omega)]

theorem lt_of_get {l : List AObj} {b : Nat} {o : AObj} (h : l[b]? = some o) : b < l.length := (List.getElem?_eq_some_iff.1 h).1

/-! ### Storing -/
theorem store_run (rep : Rep P nG ρ m w) {t : TypeId} {n : Nat} (hn : szOf P t = some n) {b off : Nat} {e : TypeId} {c vs : List Value} (hb : m b = some (.cells e c))
    {v : Value} (hvs : v.cells.toList = vs) (hl : vs.length = n) (h1 : vs.all one = true) (hfit : off + n ≤ c.length) (hclo : ∀ u ∈ vs, Clo (fun r => (m r).isSome = true) u) :
    ∃ w', (storeVar t ⟨ρ.blk b, ρ.off b + off, none⟩ (ren ρ v)).run P w = .ok () w' ∧
      Rep P nG ρ (upM m b (.cells e (c.take off ++ (vs ++ c.drop (off + n))))) w' ∧ Ext ρ m w ρ (upM m b (.cells e (c.take off ++ (vs ++ c.drop (off + n))))) w' := by
  obtain ⟨h0, junk, hh, hlen⟩ := rep.obj b _ hb
  have hcells : (ren ρ v).cells.toList = vs.map (ren ρ) := by rw [cells_ren, Array.toList_map, hvs]
  have hsize : (ren ρ v).cells.size = n := by rw [← Array.length_toList, hcells]; simpa using hl
  have hst := run_storeCells_at P (ρ.blk b) off e (vs.map (ren ρ)) 0 _ w hh (by simp; omega) (by
    intro u hu
    obtain ⟨u', hu', rfl⟩ := List.mem_map.1 hu
    exact one_cell (by rw [one_ren]; exact List.all_eq_true.1 h1 u' hu'))
  refine ⟨w.setRow (ρ.blk b) (((c.map (ren ρ) ++ junk).toArray.toList.take (off + 0) ++ vs.map (ren ρ) ++ (c.map (ren ρ) ++ junk).toArray.toList.drop (off + 0 + (vs.map (ren ρ)).length))).toArray, ?_, ?_⟩
  · unfold storeVar
    simp only [Sem.run_bind, run_sz hn, Result.andThen_ok, hsize]
    rw [if_neg (by simp)]
    rw [hcells, h0, Nat.zero_add]
    exact hst
  · refine over_rep rep hb rfl rfl rfl rfl (by simp) (fun k hk => setRow_other _ _ _ _ hk) ?_ ?_
    · refine ⟨h0, junk, ?_, ?_⟩
      · rw [setRow_heap _ _ _ _ _ _ hh]
        congr 2
        simp only [Nat.add_zero, List.length_map, hl, List.map_append, List.map_take, List.map_drop]
        rw [List.take_append_of_le_length (by simp; omega), List.drop_append_of_le_length (by simp; omega)]
        simp
      · rw [← hlen]; simp; omega
    · intro u hu
      simp only [List.mem_append] at hu
      have hc := rep.clo b _ hb
      rcases hu with hu | hu | hu
      · exact hc u (List.mem_of_mem_take hu)
      · exact hclo u hu
      · exact hc u (List.mem_of_mem_drop hu)

theorem rowOf_run (rep : Rep P nG ρ m w) {sz n : Nat} {x : Value} {xs : List Value} (h : rowOf m sz x = some (n, xs)) :
    (Builtin.lenOf (ren ρ x)).run P w = .ok n w ∧ (Builtin.firstCells sz n (ren ρ x)).run P w = .ok (xs.map (ren ρ)).toArray w ∧ xs.length = n * sz ∧
      (∀ v ∈ xs, Clo (fun r => (m r).isSome = true) v) ∧ xs.all one = true := by
  unfold rowOf at h
  split at h
  · rename_i n' c
    split at h
    · rename_i hn
      simp only [Option.some.injEq, Prod.mk.injEq] at h
      obtain ⟨rfl, rfl⟩ := h
      subst hn
      simp [ren, Builtin.lenOf, Builtin.firstCells]
    · cases h
  · rename_i ad n' c
    split at h
    · rename_i cs hcs
      split at h
      · rename_i hl
        simp only [Option.some.injEq, Prod.mk.injEq] at h
        obtain ⟨rfl, rfl⟩ := h
        obtain ⟨hl, hone⟩ := hl
        refine ⟨by simp [ren, Builtin.lenOf], ?_, hl, fun v hv => clo_cellsAt rep hcs v (List.mem_of_mem_drop (List.mem_of_mem_take hv)), hone⟩
        simp only [ren, Builtin.firstCells]
        have key := run_loadCells_list (P := P) w (renA ρ ad) (((cs.drop ad.off).take (n' * sz)).map (ren ρ)) (by
          intro j u hu
          unfold renA
          rw [Addr.add_mid]
          rw [List.getElem?_map] at hu
          cases hq : ((cs.drop ad.off).take (n' * sz))[j]? with
          | none => simp [hq] at hu
          | some u' =>
            simp only [hq, Option.map_some, Option.some.injEq] at hu
            subst hu
            have : cs[ad.off + j]? = some u' := by
              have h2 := hq
              rw [List.getElem?_take] at h2
              split at h2
              · rwa [List.getElem?_drop] at h2
              · cases h2
            rw [Nat.add_assoc]
            exact cell_at rep hcs this)
        rw [List.length_map, hl] at key
        exact key
      · cases h
    · cases h
  · cases h

theorem growBy_le (n : Nat) : ∀ (r c : Nat), c ≤ 2 * n + 768 → Builtin.growBy n r c ≤ 2 * n + 768
  | 0, c, h => by simpa [Builtin.growBy] using h
  | r + 1, c, h => by
    simp only [Builtin.growBy]
    split
    · exact h
    · exact growBy_le n r _ (by omega)

theorem nextcap_le {n c : Nat} (h : c < n) : Builtin.nextslicecap n c ≤ 2 * n + 768 := by
  unfold Builtin.nextslicecap
  split
  · omega
  · split
    · omega
    · exact growBy_le n 4 c (by omega)

end
end Go.Proofs.YtepddcemoofmlaaGreat.AE
