/- A slice of whole numbers that came in: opened, and shut behind a call that left it alone. -/
import Derived.Test.YtepddcemoofmlaaGreatAe40
import Derived.ChangeSlices
set_option linter.unusedSimpArgs false
set_option linter.unusedVariables false
namespace Go.Proofs.YtepddcemoofmlaaGreat.AE
open Go Go.RowKit Go.ChangeShapes Go.WideShapes Go.ChangeAt

theorem words_open {H : Type} {enc : TypeId × Value → H} {P : Program} {w : World} {base : Nat} {t e : TypeId} {k : IntKind} {v : Value} {d : DataW H} {ps : List MemPlace}
    (ht : P.underlying t = some (.slice e)) (he : P.underlying e = some (.int k)) (h1 : P.cellsOf e = 1) (hval : Value.okWide P w .any base t v)
    (hd : DataW.Trod enc P w 0 (fun _ => true) true t v d ps) :
    (v = .slice none 0 0 ∧ ps = [] ∧ ∀ (w' : World) (base' : Nat) (sp : Nat → Bool) (hd : Bool), DataW.Trod enc P w' base' sp hd t v d []) ∨
    ∃ (b off len cap : Nat) (zs : List Int), v = .slice (some ⟨b, off, none⟩) len cap ∧ zs.length = cap ∧ len ≤ cap ∧ (∀ n ∈ zs, (Lit.int k n).wf = true) ∧
      (∃ cs e fr, w.heap[b]? = some (.cells cs e fr) ∧ ∀ (i : Nat) (u : Value), (zs.map (Value.int k))[i]? = some u → cs[off + i]? = some u) ∧
      ∀ (w' : World) (sp : Nat → Bool) (hd : Bool), Below w.heap.size w w' → (∀ p ∈ ps, sp p.block = true) → DataW.Trod enc P w' 0 sp hd t v d ps := by
  obtain ⟨p, n, c, rfl⟩ : ∃ p n c, v = .slice p n c := by
    cases v with
    | slice p n c => exact ⟨p, n, c, rfl⟩
    | _ => exact absurd hval (by simp [Value.okWide, Cell.okWide, Cell.ok, ht])
  obtain ⟨fuel, h⟩ := hd
  rcases open_ints ht he h1 h with ⟨hcs, hx⟩ | ⟨a, len, cap, zs, hcs, hb, hl, hm, hz, hx, hcell, hwf⟩
  · simp only [Value.cells, List.cons.injEq, and_true] at hcs
    simp only [Prod.mk.injEq] at hx
    refine .inl ⟨hcs, hx.2, fun w' base' sp hd' => ⟨1, ?_⟩⟩
    rw [hcs, hx.1]
    simp [DataW.trod, ht, Value.cells]
  · simp only [Value.cells, List.cons.injEq, and_true] at hcs
    simp only [Prod.mk.injEq] at hx
    obtain ⟨rfl, rfl⟩ := hx
    rw [hcs] at hval h ⊢
    obtain ⟨b, off, spot⟩ := a
    obtain rfl : spot = none := by
      have : World.has P w .any base ⟨b, off, spot⟩ e cap := by
        have h := hval
        simp only [Value.okWide, Cell.okWide, Cell.ok, ht] at h
        exact h.2.2
      exact this.2.1
    have hblk : ∃ cs e fr, w.heap[b]? = some (.cells cs e fr) := by
      have : World.has P w .any base ⟨b, off, none⟩ e cap := by
        have h := hval
        simp only [Value.okWide, Cell.okWide, Cell.ok, ht] at h
        exact h.2.2
      obtain ⟨_, _, row, cells, hs, _⟩ := this
      unfold World.shape? at hs
      split at hs
      · rename_i c e f h; exact ⟨_, _, _, h⟩
      · cases hs
    obtain ⟨cs, e', fr, hh⟩ := hblk
    have hbs : b < w.heap.size := (Array.getElem?_eq_some_iff.1 hh).1
    simp only [if_true] at hz
    refine .inr ⟨b, off, len, cap, zs, rfl, hz, hl, hwf, ⟨cs, e', fr, hh, fun i u hu => ?_⟩, fun w' sp hd' hbel hsp => ⟨2, ?_⟩⟩
    · rw [List.getElem?_map] at hu
      obtain ⟨x, hx, rfl⟩ := Option.map_eq_some_iff.1 hu
      have hi := (List.getElem?_eq_some_iff.1 hx).1
      have := hcell i hi
      rw [add_plain] at this
      have hc : w.cell? ⟨b, off + i, none⟩ = cs[off + i]? := by simp [World.cell?, hh]
      rw [← hc, this, List.getD_eq_getElem?_getD, hx]; rfl
    · refine shut_ints 0 ht he h1 (Nat.zero_le _) hl hm ?_ (fun i hi => ?_) hwf
      · split
        · exact hz
        · rename_i hs
          by_cases h0 : cap = 0
          · omega
          · exact absurd (hsp _ (MemPlace.mem_row.2 ⟨0, by omega, rfl⟩)) hs
      · rw [← hcell i hi, add_plain]
        simp only [World.cell?, hbel.block b hbs]

end Go.Proofs.YtepddcemoofmlaaGreat.AE
