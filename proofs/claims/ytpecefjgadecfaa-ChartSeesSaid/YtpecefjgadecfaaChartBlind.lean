/- What words say is one thing, and hangs on the words that are named alone. -/
import Derived.Test.YtpecefjgadecfaaChartSee
import Derived.Test.YtpecefjgadecfaaChartLists
import Derived.Test.YtpecefjgadecfaaChartNodesB
import Derived.Test.YtpecefjgadecfaaAe39
import Derived.Test.YtpecefjgadecfaaChartApart
namespace Go.Proofs.Ytpecefjgadecfaa.Chart
open Go Go.Proofs.Ytpecefjgadecfaa.AE
set_option linter.unusedSimpArgs false

theorem LWalk.unique {ws : List Int} {P N O t : Nat} {k obj : Int} {r r' : Option (List Int)} (h : LWalk ws P N O k t obj r) (h' : LWalk ws P N O k t obj r') : r = r' := by
  unfold LWalk at h h'
  split at h
  · rw [if_pos (by assumption)] at h'; exact h.unique h'
  · rw [if_neg (by assumption)] at h'; rw [h, h']

theorem CWalk.unique {g : Int → Option Int} {ws : List Int} {P N : Nat} {seen : List Int} {w : Int} {r r' : Option (List Int)} (h : CWalk g ws P N seen w r) (h' : CWalk g ws P N seen w r') : r = r' := by
  unfold CWalk at h h'
  cases e : startP g N w with
  | none => rw [e] at h h'; rw [h, h']
  | some s => rw [e] at h h'; exact h.unique h'

theorem SlotR.unique {ws : List Int} {P N O cpu : Nat} {k : Int} {r r' : Option SlotP} (h : SlotR ws P N O k cpu r) (h' : SlotR ws P N O k cpu r') : r = r' := by
  unfold SlotR at h h'
  cases e : headOfP (wd ws (4 * cpu)) with
  | none => rw [e] at h h'; rw [h, h']
  | some so =>
    obtain ⟨s, obj⟩ := so
    rw [e] at h h'
    simp only at h h'
    by_cases e0 : s < N
    · rw [if_pos e0] at h h'
      obtain ⟨rl, h1, h2⟩ := h
      obtain ⟨rl', h1', h2'⟩ := h'
      have el : rl = rl' := by
        by_cases e1 : s = -1
        · rw [if_pos e1] at h1 h1'; rw [h1, h1']
        · rw [if_neg e1] at h1 h1'; exact h1.unique h1'
      subst el
      cases rl with
      | none => simp only at h2 h2'; rw [h2, h2']
      | some l =>
        obtain ⟨rp, h3, h4⟩ := h2
        obtain ⟨rp', h3', h4'⟩ := h2'
        obtain rfl := h3.unique h3'
        cases rp with
        | none => simp only at h4 h4'; rw [h4, h4']
        | some ps => simp only at h4 h4'; rw [h4, h4']
    · rw [if_neg e0] at h h'; rw [h, h']

theorem SlabR.unique {ws : List Int} {P N O t : Nat} {k : Int} {r r' : Option SlabP} (h : SlabR ws P N O k t r) (h' : SlabR ws P N O k t r') : r = r' := by
  unfold SlabR at h h'
  cases e : countsP (wd ws (4 * P + 4 + 4 * t + 1)) with
  | none => rw [e] at h h'; rw [h, h']
  | some c =>
    rw [e] at h h'
    simp only at h h'
    by_cases e0 : wd ws (4 * P + 4 + 4 * t) ≤ O
    · rw [if_pos e0] at h h'
      obtain ⟨rl, h1, h2⟩ := h
      obtain ⟨rl', h1', h2'⟩ := h'
      obtain rfl := h1.unique h1'
      rw [h2, h2']
    · rw [if_neg e0] at h h'; rw [h, h']

theorem SeeR.unique {ws : List Int} {P N O : Nat} {k : Int} {r r' : Option CoreP} (h : SeeR ws P N O k r) (h' : SeeR ws P N O k r') : r = r' := by
  have bad : ∀ {x : CoreP}, x.slots.length = P → (∀ i, i < P → SlotR ws P N O k i x.slots[i]?) → CWalk ofShelf ws P N [] (wd ws (4 * P + 1)) (some x.shelf) → x.slabs.length = N → (∀ t, t < N → SlabR ws P N O k t x.slabs[t]?) →
      ((∃ i, i < P ∧ SlotR ws P N O k i none) ∨ CWalk ofShelf ws P N [] (wd ws (4 * P + 1)) none ∨ ∃ t, t < N ∧ SlabR ws P N O k t none) → False := by
    intro x h1 h2 h3 h4 h5 h6
    rcases h6 with ⟨i, hi, h⟩ | h | ⟨t, ht, h⟩
    · have := (h2 i hi).unique h
      rw [List.getElem?_eq_getElem (by omega)] at this; cases this
    · have := h3.unique h; cases this
    · have := (h5 t ht).unique h
      rw [List.getElem?_eq_getElem (by omega)] at this; cases this
  rcases h with ⟨x, rfl, a1, a2, a3, a4, a5, a6⟩ | ⟨rfl, hb⟩ <;> rcases h' with ⟨y, rfl, b1, b2, b3, b4, b5, b6⟩ | ⟨rfl, hb'⟩
  · have e1 : x.slots = y.slots := by
      refine List.ext_getElem? fun i => ?_
      by_cases hi : i < P
      · exact (a2 i hi).unique (b2 i hi)
      · rw [List.getElem?_eq_none (by omega), List.getElem?_eq_none (by omega)]
    have e2 : x.slabs = y.slabs := by
      refine List.ext_getElem? fun i => ?_
      by_cases hi : i < N
      · exact (a6 i hi).unique (b6 i hi)
      · rw [List.getElem?_eq_none (by omega), List.getElem?_eq_none (by omega)]
    have e3 := Option.some.inj (a3.unique b3)
    cases x; cases y
    simp_all
  · exact (bad a1 a2 a3 a5 a6 hb').elim
  · exact (bad b1 b2 b3 b5 b6 hb).elim
  · rfl


/-! ### Named words -/
/-- Is a place named? -/
def Named (P N O i : Nat) : Prop := i < 4 * P + 3 ∨ (∃ t, t < N ∧ (i = 4 * P + 4 + 4 * t ∨ i = 4 * P + 4 + 4 * t + 1 ∨ i = 4 * P + 4 + 4 * t + 2)) ∨ (4 * P + 4 + 4 * N ≤ i ∧ i < 4 * P + 4 + 4 * N + N * O)

theorem Walks.congr {nx nx' : Int → Option Int} {N : Nat} (he : ∀ s, s < (N : Int) → nx s = nx' s) (ho : ∀ s y, nx s = some y → y < N) {seen : List Int} {x : Int} {r : Option (List Int)} (h : Walks nx seen x r) : x < N → Walks nx' seen x r := by
  induction h with
  | stop seen => exact fun _ => .stop seen
  | again h1 h2 => exact fun _ => .again h1 h2
  | lost h1 h2 h3 => exact fun hx => .lost h1 h2 (by rw [← he _ hx]; exact h3)
  | on h1 h2 h3 _ ih => exact fun hx => .on h1 h2 (by rw [← he _ hx]; exact h3) (ih (ho _ _ h3))

theorem startP_lt {N : Nat} {g : Int → Option Int} {w y : Int} (h : startP g N w = some y) : y < N := by
  unfold startP at h
  split at h
  · split at h
    · simp only [Option.some.injEq] at h; omega
    · cases h
  · cases h

section
variable {ws ws' : List Int} {P N O : Nat} {k : Int} (hN : 0 < N) (hag : ∀ i, Named P N O i → ws[i]? = ws'[i]?)
include hag

theorem wd_same {i : Nat} (h : Named P N O i) : wd ws i = wd ws' i := by unfold wd; rw [hag i h]

theorem linkWords_same {t : Nat} (ht : t < N) : linkWords ws P N O t = linkWords ws' P N O t := by
  unfold linkWords
  refine List.ext_getElem? fun j => ?_
  by_cases hj : j < O
  · rw [List.getElem?_take_of_lt hj, List.getElem?_take_of_lt hj, List.getElem?_drop, List.getElem?_drop]
    refine hag _ (.inr (.inr ?_))
    have : t * O + O ≤ N * O := by rw [← Nat.succ_mul]; exact Nat.mul_le_mul_right O ht
    omega
  · rw [List.getElem?_eq_none (by rw [List.length_take]; omega), List.getElem?_eq_none (by rw [List.length_take]; omega)]

theorem LWalk.same {t : Nat} (ht : t < N) {obj : Int} {r : Option (List Int)} (h : LWalk ws P N O k t obj r) : LWalk ws' P N O k t obj r := by
  unfold LWalk at h ⊢
  rwa [← linkWords_same hag ht]

include hN in
theorem CWalk.same {g : Int → Option Int} {seen : List Int} {w : Int} {r : Option (List Int)} (h : CWalk g ws P N seen w r) : CWalk g ws' P N seen w r := by
  unfold CWalk at h ⊢
  cases e : startP g N w with
  | none => rw [e] at h; exact h
  | some s =>
    rw [e] at h
    refine Walks.congr (N := N) (fun x hx => ?_) (fun x y hy => ?_) h (startP_lt e)
    · unfold nextC
      rw [hag (nextAt P x.toNat) (.inr (.inl ⟨x.toNat, by omega, .inr (.inr rfl)⟩))]
    · unfold nextC at hy
      split at hy
      · exact startP_lt hy
      · cases hy

include hN in
theorem SlotR.same {cpu : Nat} (hc : cpu < P) {r : Option SlotP} (h : SlotR ws P N O k cpu r) : SlotR ws' P N O k cpu r := by
  unfold SlotR at h ⊢
  rw [← wd_same hag (i := 4 * cpu) (.inl (by omega)), ← wd_same hag (i := 4 * cpu + 1) (.inl (by omega)), ← wd_same hag (i := 4 * cpu + 2) (.inl (by omega))]
  cases e : headOfP (wd ws (4 * cpu)) with
  | none => rw [e] at h; exact h
  | some so =>
    obtain ⟨s, obj⟩ := so
    rw [e] at h
    simp only at h ⊢
    by_cases e0 : s < N
    · rw [if_pos e0] at h ⊢
      obtain ⟨rl, h1, h2⟩ := h
      refine ⟨rl, ?_, ?_⟩
      · by_cases e1 : s = -1
        · rw [if_pos e1] at h1 ⊢; exact h1
        · rw [if_neg e1] at h1 ⊢; exact h1.same hag (by omega)
      · cases rl with
        | none => exact h2
        | some l =>
          obtain ⟨rp, h3, h4⟩ := h2
          exact ⟨rp, h3.same hN hag, h4⟩
    · rw [if_neg e0] at h ⊢; exact h

theorem SlabR.same {t : Nat} (ht : t < N) {r : Option SlabP} (h : SlabR ws P N O k t r) : SlabR ws' P N O k t r := by
  unfold SlabR at h ⊢
  rw [← wd_same hag (i := 4 * P + 4 + 4 * t + 1) (.inr (.inl ⟨t, ht, .inr (.inl rfl)⟩)), ← wd_same hag (i := 4 * P + 4 + 4 * t) (.inr (.inl ⟨t, ht, .inl rfl⟩))]
  cases e : countsP (wd ws (4 * P + 4 + 4 * t + 1)) with
  | none => rw [e] at h; exact h
  | some c =>
    rw [e] at h
    simp only at h ⊢
    by_cases e0 : wd ws (4 * P + 4 + 4 * t) ≤ O
    · rw [if_pos e0] at h ⊢
      obtain ⟨rl, h1, h2⟩ := h
      exact ⟨rl, h1.same hag ht, h2⟩
    · rw [if_neg e0] at h ⊢; exact h

include hN in
/-- What is seen hangs on named words alone. -/
theorem SeeR.same {r : Option CoreP} (h : SeeR ws P N O k r) : SeeR ws' P N O k r := by
  unfold SeeR at h ⊢
  rw [← wd_same hag (i := 4 * P) (.inl (by omega)), ← wd_same hag (i := 4 * P + 1) (.inl (by omega))]
  rcases h with ⟨x, h1, h2, h3, h4, h5, h6, h7⟩ | ⟨h1, h2⟩
  · exact .inl ⟨x, h1, h2, fun i hi => (h3 i hi).same hN hag hi, h4.same hN hag, h5, h6, fun t ht => (h7 t ht).same hag ht⟩
  · refine .inr ⟨h1, ?_⟩
    rcases h2 with ⟨i, hi, h⟩ | h | ⟨t, ht, h⟩
    · exact .inl ⟨i, hi, h.same hN hag hi⟩
    · exact .inr (.inl (h.same hN hag))
    · exact .inr (.inr ⟨t, ht, h.same hag ht⟩)
end

end Go.Proofs.Ytpecefjgadecfaa.Chart

/- Two cores in the heap that are one: Same says so. -/
namespace Go.Proofs.Ytpecefjgadecfaa.Chart
open Go Go.Proofs.Ytpecefjgadecfaa.AE
set_option maxRecDepth 10000
set_option linter.unusedSimpArgs false

theorem Walks.len {nx : Int → Option Int} {N : Nat} (ho : ∀ s y, nx s = some y → -1 ≤ y ∧ y < N) {seen : List Int} {x : Int} {r : Option (List Int)} (h : Walks nx seen x r) : -1 ≤ x ∧ x < N → ∀ l, r = some l → l.length ≤ seen.length + unmet N seen := by
  induction h with
  | stop seen => intro _ l e; obtain rfl := Option.some.inj e; omega
  | again _ _ => intro _ l e; cases e
  | lost _ _ _ => intro _ l e; cases e
  | on h1 h2 h3 _ ih =>
    intro hx l e
    have := ih (ho _ _ h3) l e
    have h4 := unmet_lt (N := N) (by omega) hx.2 h2
    rw [List.length_append] at this
    simp at this
    omega

theorem Ints.isInts {S : St} {lo : Nat} {v : Value} {l : List Int} (h : Ints S lo v l) : IsInts S.at .i64 v l := by
  rcases h.2 with ⟨h1, _, rfl⟩ | ⟨_, _, b, rfl, _, h5⟩
  · obtain rfl := List.length_eq_zero_iff.1 h1
    exact ⟨none, 0, rfl, fun i x hx => by simp at hx⟩
  · exact isInts_map (by rw [h5]; rfl) rfl

theorem flat_get {α : Type} {sz : Nat} : ∀ {css : List (List α)} {i : Nat} {c : List α}, (∀ c ∈ css, c.length = sz) → css[i]? = some c → (css.flatten.drop (i * sz)).take sz = c
  | [], i, c, _, h => by simp at h
  | d :: l, 0, c, hl, h => by
    simp only [List.getElem?_cons_zero, Option.some.injEq] at h
    subst h
    have := hl d (List.mem_cons_self ..)
    simp [← this]
  | d :: l, i + 1, c, hl, h => by
    have h1 := hl d (List.mem_cons_self ..)
    have h2 := flat_get (sz := sz) (fun c hc => hl c (List.mem_cons_of_mem _ hc)) (by simpa using h : l[i]? = some c)
    rw [List.flatten_cons, Nat.succ_mul, Nat.add_comm, ← List.drop_drop, ← h1, List.drop_left, h1]
    exact h2

theorem AllIs.get {α : Type} {p : List Value → α → Prop} : ∀ {l : List (List Value)} {m : List α} {i : Nat} {x : α}, AllIs p l m → m[i]? = some x → ∃ c, l[i]? = some c ∧ p c x
  | [], [], i, x, _, h => by simp at h
  | c :: l, y :: m, 0, x, h, k => by
    simp only [List.getElem?_cons_zero, Option.some.injEq] at k
    subst k
    exact ⟨c, rfl, h.1⟩
  | c :: l, y :: m, i + 1, x, h, k => by
    obtain ⟨d, h1, h2⟩ := AllIs.get h.2 (by simpa using k : m[i]? = some x)
    exact ⟨d, by simpa using h1, h2⟩
  | [], _ :: _, _, _, h, _ => h.elim
  | _ :: _, [], _, _, h, _ => h.elim
theorem AllIs.mem {α : Type} {p : List Value → α → Prop} {q : List Value → Prop} (k : ∀ c x, p c x → q c) : ∀ {l : List (List Value)} {m : List α}, AllIs p l m → ∀ c ∈ l, q c
  | [], [], _, c, h => by simp at h
  | d :: l, y :: m, h, c, hc => by
    rcases List.mem_cons.1 hc with rfl | hc
    · exact k _ _ h.1
    · exact AllIs.mem k h.2 c hc
  | [], _ :: _, h, _, _ => h.elim
  | _ :: _, [], h, _, _ => h.elim

/-- A slot, as it is read out of its row. -/
theorem SlotsOut.get {S : St} {lo : Nat} {v : Value} {xs : List SlotP} (h : SlotsOut S lo v xs) {i : Nat} {x : SlotP} (hi : xs[i]? = some x) :
    ∃ b c vl vp, v = .slice (some ⟨b, 0, none⟩) xs.length 0 ∧ S.at b = some (.cells 58 c) ∧ (c.drop (i * 4)).take 4 = [.int .i64 x.slab, vl, .int .u64 x.turn, vp] ∧ Ints S lo vl x.list ∧ Ints S lo vp x.parts := by
  obtain ⟨_, css, h2, h3⟩ := h
  have hlt : i < xs.length := (List.getElem?_eq_some_iff.1 hi).1
  obtain ⟨cs, g1, vl, vp, g2, g3, g4⟩ := h2.get hi
  have h4 : ∀ c ∈ css, c.length = 4 := h2.mem fun c x ⟨vl, vp, e, _, _⟩ => by rw [e]; rfl
  rcases h3 with ⟨k1, _, _⟩ | ⟨_, _, b, k3, _, k5⟩
  · omega
  · exact ⟨b, _, vl, vp, k3, k5, by rw [flat_get h4 g1, g2], g3.1, g4.1⟩

theorem SlabsOut.get {S : St} {lo : Nat} {v : Value} {xs : List SlabP} (h : SlabsOut S lo v xs) {i : Nat} {x : SlabP} (hi : xs[i]? = some x) :
    ∃ b c vl, v = .slice (some ⟨b, 0, none⟩) xs.length 0 ∧ S.at b = some (.cells 62 c) ∧ (c.drop (i * 5)).take 5 = [.int .i64 x.counts.inuse, .int .i64 x.counts.objects, .bool x.counts.frozen, .bool x.counts.live, vl] ∧ Ints S lo vl x.first := by
  obtain ⟨_, css, h2, h3⟩ := h
  have hlt : i < xs.length := (List.getElem?_eq_some_iff.1 hi).1
  obtain ⟨cs, g1, vl, g2, g3⟩ := h2.get hi
  have h4 : ∀ c ∈ css, c.length = 5 := h2.mem fun c x ⟨vl, e, _⟩ => by rw [e]; rfl
  rcases h3 with ⟨k1, _, _⟩ | ⟨_, _, b, k3, _, k5⟩
  · omega
  · exact ⟨b, _, vl, k3, k5, by rw [flat_get h4 g1, g2], g3.1⟩

end Go.Proofs.Ytpecefjgadecfaa.Chart

/- Two cores in the heap that are one: the loops of Same. -/
namespace Go.Proofs.Ytpecefjgadecfaa.Chart
open Go Go.Proofs.Ytpecefjgadecfaa.AE
set_option maxRecDepth 10000
set_option linter.unusedSimpArgs false

theorem Ints.sameV {S : St} {lo : Nat} {v : Value} {l : List Int} (h : Ints S lo v l) : AE.sameV v v = true := by
  rcases h.2 with ⟨_, _, rfl⟩ | ⟨_, _, b, rfl, _, _⟩ <;> exact sameV_slice

section
variable {n : Nat} {S : St} {lo lo' : Nat} {vs vh vt us uh ut : Value} {lk : Bool}

set_option maxHeartbeats 8000000 in
theorem sameLoop1 {xs : List SlotP} {R : List Value} {S' : St} (ha : SlotsOut S lo vs xs) (hb : SlotsOut S lo' us xs) (hlen : xs.length ≤ 1000) (hl : ∀ x ∈ xs, x.list.length < 1000 ∧ x.parts.length < 1000)
    (hR : R.length = 121) (r2 : rd R 2 = .pointer (some ⟨S.top, 0, none⟩)) (r3 : rd R 3 = .pointer (some ⟨S.top + 1, 0, none⟩)) (r5 : rd R 5 = .int .i64 0) (hk : Kept S S') (ht : S.top + 1 < S'.top)
    (h2 : S'.at S.top = some (.cells 40 [vs, vh, .bool lk, vt])) (h3 : S'.at (S.top + 1) = some (.cells 40 [us, uh, .bool lk, ut])) :
    Leads (evCode (calls table.find (n + 1)) loop35_0 R S') fun o R' S' => o = .exit 0 ∧ R'.length = 121 ∧ rd R' 2 = .pointer (some ⟨S.top, 0, none⟩) ∧ rd R' 3 = .pointer (some ⟨S.top + 1, 0, none⟩) ∧ Kept S S' ∧ S.top + 1 < S'.top ∧
      S'.at S.top = some (.cells 40 [vs, vh, .bool lk, vt]) ∧ S'.at (S.top + 1) = some (.cells 40 [us, uh, .bool lk, ut]) := by
  rw [eloop35_0]
  refine loop_goes (fun q R S' => ∃ i : Nat, i + q = xs.length ∧ R.length = 121 ∧ rd R 2 = .pointer (some ⟨S.top, 0, none⟩) ∧ rd R 3 = .pointer (some ⟨S.top + 1, 0, none⟩) ∧ rd R 5 = .int .i64 i ∧ Kept S S' ∧ S.top + 1 < S'.top ∧
    S'.at S.top = some (.cells 40 [vs, vh, .bool lk, vt]) ∧ S'.at (S.top + 1) = some (.cells 40 [us, uh, .bool lk, ut])) _ xs.length (by omega) ⟨0, by omega, hR, r2, r3, r5, hk, ht, h2, h3⟩ ?_
  clear hR r2 r3 r5 hk ht h2 h3
  rintro q R S' ⟨i, hq, hR, r2, r3, r5, hk, ht, h2, h3⟩
  obtain ⟨p, cp, hvs⟩ : ∃ p cp, vs = .slice p xs.length cp := by
    obtain ⟨_, _, _, h⟩ := ha
    rcases h with ⟨h1, _, rfl⟩ | ⟨_, _, b, rfl, _⟩
    · exact ⟨none, 0, by rw [h1]⟩
    · exact ⟨_, _, rfl⟩
  cases q with
  | zero =>
    have e1 : ¬ i < xs.length := by omega
    subst hvs
    simp (maxDischargeDepth := 30) [hR, r2, r3, r5, h2, e1]
    exact ⟨hk, ht, h3⟩
  | succ q =>
    have e1 : i < xs.length := by omega
    have e1' : (i : Int) < xs.length := by omega
    have gx : xs[i]? = some xs[i] := List.getElem?_eq_getElem e1
    obtain ⟨l1, l2⟩ := hl xs[i] (List.getElem_mem e1)
    generalize xs[i] = x at gx l1 l2
    obtain ⟨b, c, vl, vp, hv1, hb1, hc1, il, ip⟩ := (ha.move fun b o _ h => hk.same h).get gx
    obtain ⟨b', c', ul, up, hv2, hb2, hc2, jl, jp⟩ := (hb.move fun b o _ h => hk.same h).get gx
    clear hvs
    subst hv1 hv2
    have n1 : min 4 (c.length - i * 4) = 4 := by have := congrArg List.length hc1; simpa using this
    have n2 : min 4 (c'.length - i * 4) = 4 := by have := congrArg List.length hc2; simpa using this
    have w1 : W .i64 ((i : Int) + 1) = (i : Int) + 1 := W_i64 (by omega)
    simp (maxDischargeDepth := 30) [hR, r2, r3, r5, h2, h3, e1, e1', ops_y, ops_x, ops_post, hb1, hb2, hc1, hc2, n1, n2, il.1, ip.1, jl.1, jp.1]
    rw [post_load (i := 6) (d := 53) (h := rfl), post_load (i := 9) (d := 56) (h := rfl), post_nil]
    have sv : AE.sameV (Value.agg ⟨[Value.int IntKind.i64 x.slab, ul, Value.int IntKind.u64 x.turn, up]⟩) (Value.agg ⟨[Value.int IntKind.i64 x.slab, ul, Value.int IntKind.u64 x.turn, up]⟩) = true :=
      sameV_agg fun v hv => by
        simp only [List.mem_cons, List.not_mem_nil, or_false] at hv
        rcases hv with rfl | rfl | rfl | rfl
        · exact sameV_int
        · exact jl.sameV
        · exact sameV_int
        · exact jp.sameV
    simp (maxDischargeDepth := 30) [hR, r2, r3, r5, h2, h3, e1, e1', hb1, hb2, hc1, hc2, n1, n2, sameV_slice, sv, postK_true]
    generalize hTe : St.wrote (St.wrote _ _ _ _) _ _ _ = T
    have z1 : ∀ o o' : AObj, ((S'.push o).push o').at S'.top = some o := fun o o' => by rw [m_push (by rw [m_push_top]; rfl), m_push_top]
    have z2 : ∀ o o' : AObj, ((S'.push o).push o').at (S'.top + 1) = some o' := fun o o' => by rw [← top_push (S := S') (o := o), m_push_top]
    have t1 : T.at S'.top = some (.cells 58 [.int .i64 x.slab, vl, .int .u64 x.turn, vp]) := by rw [← hTe, m_wrote_ne (by rw [top_push]; omega), m_wrote (by rw [z1]; rfl)]
    have t2 : T.at (S'.top + 1) = some (.cells 58 [.int .i64 x.slab, ul, .int .u64 x.turn, up]) := by rw [← hTe, top_push, m_wrote (by rw [m_wrote_ne (by omega), z2]; rfl)]
    have t3 : ∀ b o, S'.at b = some o → T.at b = some o := fun b o h => by
      have := lt_top h
      rw [← hTe, m_wrote_ne (by rw [top_push]; omega), m_wrote_ne (by omega), m_push (by rw [m_push (by simp [h])]; simp [h]), m_push (by simp [h]), h]
    have tk : Kept S T := by
      have := hk.top
      rw [← hTe]; exact (((hk.push _).push _).wrote _ _ (by omega)).wrote _ _ (by rw [top_push]; omega)
    have tt : S'.top ≤ T.top := by rw [← hTe, top_wrote, top_wrote, top_push, top_push]; omega
    clear hTe
    have q1 := eqInts n (il.grown (fun b o _ => t3 b o)).isInts (jl.grown (fun b o _ => t3 b o)).isInts (by omega)
    have q2 := eqInts n (ip.grown (fun b o _ => t3 b o)).isInts (jp.grown (fun b o _ => t3 b o)).isInts (by omega)
    simp (maxDischargeDepth := 30) [hR, r2, r3, r5, t1, t2, top_push, il.1, ip.1, jl.1, jp.1, q1, q2, w1]
    exact ⟨q, by omega, i + 1, by omega, by omega, tk, by omega, t3 _ _ h2, t3 _ _ h3⟩
set_option maxHeartbeats 8000000 in
theorem sameLoop2 {xs : List SlabP} {R : List Value} {S' : St} (ha : SlabsOut S lo vt xs) (hb : SlabsOut S lo' ut xs) (hlen : xs.length ≤ 1000) (hl : ∀ x ∈ xs, x.first.length < 1000)
    (hR : R.length = 121) (r2 : rd R 2 = .pointer (some ⟨S.top, 0, none⟩)) (r3 : rd R 3 = .pointer (some ⟨S.top + 1, 0, none⟩)) (r8 : rd R 8 = .int .i64 0) (hk : Kept S S') (ht : S.top + 1 < S'.top)
    (h2 : S'.at S.top = some (.cells 40 [vs, vh, .bool lk, vt])) (h3 : S'.at (S.top + 1) = some (.cells 40 [us, uh, .bool lk, ut])) :
    Leads (evCode (calls table.find (n + 1)) loop35_1 R S') fun o R' S' => o = .exit 2 ∧ R'.length = 121 ∧ Kept S S' := by
  rw [eloop35_1]
  refine loop_goes (fun q R S' => ∃ i : Nat, i + q = xs.length ∧ R.length = 121 ∧ rd R 2 = .pointer (some ⟨S.top, 0, none⟩) ∧ rd R 3 = .pointer (some ⟨S.top + 1, 0, none⟩) ∧ rd R 8 = .int .i64 i ∧ Kept S S' ∧ S.top + 1 < S'.top ∧
    S'.at S.top = some (.cells 40 [vs, vh, .bool lk, vt]) ∧ S'.at (S.top + 1) = some (.cells 40 [us, uh, .bool lk, ut])) _ xs.length (by omega) ⟨0, by omega, hR, r2, r3, r8, hk, ht, h2, h3⟩ ?_
  clear hR r2 r3 r8 hk ht h2 h3
  rintro q R S' ⟨i, hq, hR, r2, r3, r8, hk, ht, h2, h3⟩
  obtain ⟨p, cp, hvt⟩ : ∃ p cp, vt = .slice p xs.length cp := by
    obtain ⟨_, _, _, h⟩ := ha
    rcases h with ⟨h1, _, rfl⟩ | ⟨_, _, b, rfl, _⟩
    · exact ⟨none, 0, by rw [h1]⟩
    · exact ⟨_, _, rfl⟩
  cases q with
  | zero =>
    have e1 : ¬ i < xs.length := by omega
    subst hvt
    simp (maxDischargeDepth := 30) [hR, r2, r3, r8, h2, e1]
    exact hk
  | succ q =>
    have e1 : i < xs.length := by omega
    have e1' : (i : Int) < xs.length := by omega
    have gx : xs[i]? = some xs[i] := List.getElem?_eq_getElem e1
    have l1 := hl xs[i] (List.getElem_mem e1)
    generalize xs[i] = x at gx l1
    obtain ⟨b, c, vl, hv1, hb1, hc1, il⟩ := (ha.move fun b o _ h => hk.same h).get gx
    obtain ⟨b', c', ul, hv2, hb2, hc2, jl⟩ := (hb.move fun b o _ h => hk.same h).get gx
    clear hvt
    subst hv1 hv2
    have w1 : W .i64 ((i : Int) + 1) = (i : Int) + 1 := W_i64 (by omega)
    have q1 := eqInts n il.isInts jl.isInts (by omega)
    have g : ∀ (c : List Value) (a b d e f : Value), (c.drop (i * 5)).take 5 = [a, b, d, e, f] → (c.drop (i * 5)).take 4 = [a, b, d, e] ∧ c[i * 5 + 4]? = some f := by
      intro c a b d e f h
      constructor
      · have := congrArg (List.take 4) h
        simpa [List.take_take] using this
      · have := congrArg (·[4]?) h
        simpa [List.getElem?_take, List.getElem?_drop] using this
    obtain ⟨f1, f2⟩ := g _ _ _ _ _ _ hc1
    obtain ⟨f3, f4⟩ := g _ _ _ _ _ _ hc2
    have n1 : min 4 (c.length - i * 5) = 4 := by have := congrArg List.length f1; simpa using this
    have n2 : min 4 (c'.length - i * 5) = 4 := by have := congrArg List.length f3; simpa using this
    obtain ⟨k1, k2⟩ := List.getElem?_eq_some_iff.1 f2
    obtain ⟨k3, k4⟩ := List.getElem?_eq_some_iff.1 f4
    simp (maxDischargeDepth := 30) [hR, r2, r3, r8, h2, h3, e1, e1', hb1, hb2, f1, f3, n1, n2, k1, k2, k3, k4, q1, w1, il.1, jl.1]
    exact ⟨q, by omega, i + 1, by omega, by omega, hk⟩
end

theorem CoreOut.zero {S : St} {lo : Nat} {cs : List Value} (h : CoreOut S lo cs none) : CoreOut S lo cs (some ⟨[], [], false, []⟩) :=
  ⟨.slice none 0 0, .slice none 0 0, .slice none 0 0, h, ⟨rfl, [], True.intro, .nil⟩, Ints.nil, ⟨rfl, [], True.intro, .nil⟩⟩

/-- A core that no list of is long. -/
def CoreP.Small (x : CoreP) : Prop := x.slots.length ≤ 1000 ∧ (∀ s ∈ x.slots, s.list.length < 1000 ∧ s.parts.length < 1000) ∧ x.shelf.length < 1000 ∧ x.slabs.length ≤ 1000 ∧ ∀ s ∈ x.slabs, s.first.length < 1000

theorem len_of {S : St} {lo sz : Nat} {e : TypeId} {v : Value} {c : List Value} {n : Nat} (h : OutRow S lo e sz v c n) : ∃ p cp, v = .slice p n cp := by
  rcases h with ⟨h1, _, rfl⟩ | ⟨_, _, b, rfl, _⟩
  · exact ⟨none, 0, by rw [h1]⟩
  · exact ⟨_, _, rfl⟩

set_option maxHeartbeats 8000000 in
theorem sSameOf {n : Nat} {S : St} {lo lo' : Nat} {cs ds : List Value} {x : CoreP} (ha : CoreOut S lo cs (some x)) (hb : CoreOut S lo' ds (some x)) (hx : x.Small) :
    calls table.find (n + 2) 35 [.agg cs.toArray, .agg ds.toArray] S = some (.bool true, S, true) := by
  obtain ⟨x1, x2, x3, x4, x5⟩ := hx
  obtain ⟨vs, vh, vt, rfl, a1, a2, a3⟩ := ha
  obtain ⟨us, uh, ut, rfl, b1, b2, b3⟩ := hb
  refine call_rd (x := fun y => y = _) b35 (by simp) fun R hR hargs => ?_
  have r0 : rd R 0 = .agg [vs, vh, .bool x.locked, vt].toArray := hargs 0 (by simp)
  have r1 : rd R 1 = .agg [us, uh, .bool x.locked, ut].toArray := hargs 1 (by simp)
  clear hargs
  obtain ⟨pvs, cvs, evs⟩ := len_of a1.2.choose_spec.2
  obtain ⟨pus, cus, eus⟩ := len_of b1.2.choose_spec.2
  obtain ⟨pvt, cvt, evt⟩ := len_of a3.2.choose_spec.2
  obtain ⟨put, cut, eut⟩ := len_of b3.2.choose_spec.2
  have ovs := a1.1
  have ous := b1.1
  have ovt := a3.1
  have out' := b3.1
  have ovh := a2.1
  have ouh := b2.1
  have m1 : lenK vs = some (.int .i64 x.slots.length) := by rw [evs]; simp
  have m2 : lenK us = some (.int .i64 x.slots.length) := by rw [eus]; simp
  have m3 : lenK vt = some (.int .i64 x.slabs.length) := by rw [evt]; simp
  have m4 : lenK ut = some (.int .i64 x.slabs.length) := by rw [eut]; simp
  simp (maxDischargeDepth := 30) [hR, r0, r1, ovs, ous, ovt, out', ovh, ouh, top_push]
  generalize hTe : St.push (St.push _ _) _ = T
  have tk : Kept S T := by rw [← hTe]; exact ((Kept.enter S).push _).push _
  have tt : S.top + 1 < T.top := by rw [← hTe, top_push, top_push, top_enter]; omega
  have z1 : ∀ o o' : AObj, ((S.enter.push o).push o').at S.top = some o := fun o o' => by rw [← top_enter (S := S), m_push (by rw [m_push_top]; rfl), m_push_top]
  have z2 : ∀ o o' : AObj, ((S.enter.push o).push o').at (S.top + 1) = some o' := fun o o' => by rw [← top_enter (S := S), ← top_push (S := S.enter) (o := o), m_push_top]
  have t1 : T.at S.top = some (.cells 40 [vs, vh, .bool x.locked, vt]) := by rw [← hTe, z1]
  have t2 : T.at (S.top + 1) = some (.cells 40 [us, uh, .bool x.locked, ut]) := by rw [← hTe, z2]
  clear hTe
  have q1 := eqInts n (a2.grown fun b o _ h => tk.same h).isInts (b2.grown fun b o _ h => tk.same h).isInts (by omega)
  simp (maxDischargeDepth := 30) [hR, r0, r1, ovs, ous, ovt, out', ovh, ouh, top_push, top_enter, m1, m2, m3, m4, t1, t2, q1]
  generalize hR2 : wr (wr _ 39 _) 5 _ = R2
  obtain ⟨o, R3, S3, he, rfl, hR3, g2, g3, gk, gt, w2, w3⟩ := sameLoop1 (n := n) (R := R2) (S' := T) a1 b1 x1 x2 (by simp [← hR2, hR]) (by simp [← hR2, hR]) (by simp [← hR2, hR]) (by simp [← hR2, hR]) tk tt t1 t2
  rw [he]
  simp (maxDischargeDepth := 30) [hR3]
  generalize hR4 : wr R3 8 _ = R4
  obtain ⟨o, R5, S5, he5, rfl, hR5, k5⟩ := sameLoop2 (n := n) (R := R4) (S' := S3) a3 b3 x4 x5 (by simp [← hR4, hR3]) (by simp [← hR4, g2]) (by simp [← hR4, g3]) (by simp [← hR4, hR3]) gk gt w2 w3
  rw [he5]
  simp (maxDischargeDepth := 30) [hR5]
  exact leave_quiet k5.wr rfl

theorem sSame {n : Nat} {S : St} {lo lo' : Nat} {cs ds : List Value} {r : Option CoreP} (ha : CoreOut S lo cs r) (hb : CoreOut S lo' ds r) (hx : ∀ x, r = some x → x.Small) :
    calls table.find (n + 2) 35 [.agg cs.toArray, .agg ds.toArray] S = some (.bool true, S, true) := by
  cases r with
  | some x => exact sSameOf ha hb (hx x rfl)
  | none => exact sSameOf ha.zero hb.zero ⟨by simp, by simp, by simp, by simp, by simp⟩

end Go.Proofs.Ytpecefjgadecfaa.Chart

/- No list of a core is long. -/
namespace Go.Proofs.Ytpecefjgadecfaa.Chart
open Go Go.Proofs.Ytpecefjgadecfaa.AE
set_option maxRecDepth 10000
set_option linter.unusedSimpArgs false

section
variable {ws : List Int} {P N O : Nat} {k : Int} (hw : ∀ x ∈ ws, Word x)
include hw

theorem LWalk.len {t : Nat} {obj : Int} {l : List Int} (hO : O ≤ 16) (ho : -1 ≤ obj) (h : LWalk ws P N O k t obj (some l)) : l.length ≤ 16 := by
  unfold LWalk at h
  split at h
  · have := Walks.len (N := 16) (fun s y hy => by
      unfold nextP at hy
      split at hy
      · rename_i w hw'
        have hm : w ∈ ws := List.mem_of_mem_drop (List.mem_of_mem_take (List.mem_of_getElem? hw'))
        split at hy
        · rename_i z hz
          have := show_range (hw w hm) hz
          split at hy
          · simp only [Option.some.injEq] at hy; omega
          · cases hy
        · cases hy
      · cases hy) h (by omega) l rfl
    have h2 := unmet_le 16 []
    simp at this
    omega
  · cases h

theorem CWalk.len {g : Int → Option Int} {w : Int} {l : List Int} (hg : ∀ w s, Word w → g w = some s → -1 ≤ s) (hN : N ≤ 32) (hww : Word w) (h : CWalk g ws P N [] w (some l)) : l.length ≤ 32 := by
  have hs : ∀ w s, Word w → startP g N w = some s → -1 ≤ s ∧ s < (32 : Nat) := fun w s hw h => by
    unfold startP at h
    split at h
    · rename_i z hz
      have := hg _ _ hw hz
      split at h
      · simp only [Option.some.injEq] at h; omega
      · cases h
    · cases h
  unfold CWalk at h
  cases e : startP g N w with
  | none => rw [e] at h; cases h
  | some s =>
    rw [e] at h
    have := Walks.len (N := 32) (fun s y hy => by
      unfold nextC at hy
      split at hy
      · rename_i w hw'
        exact hs _ _ (hw w (List.mem_of_getElem? hw')) hy
      · cases hy) h (hs _ _ hww e) l rfl
    have h2 := unmet_le 32 []
    simp at this
    omega

theorem wd_word (i : Nat) : Word (wd ws i) := by
  unfold wd
  cases h : ws[i]? with
  | none => exact ⟨by simp, by simp⟩
  | some x => exact hw x (List.mem_of_getElem? h)

theorem SeeR.small {mn cp : Int} {x : CoreP} (hm : may P N O mn cp = true) (h : SeeR ws P N O k (some x)) : x.Small := by
  obtain ⟨m1, m2, m3, _⟩ := may_iff.1 hm
  unfold SeeR at h
  rcases h with ⟨y, h1, h2, h3, h4, h5, h6, h7⟩ | ⟨h1, _⟩
  · obtain rfl := Option.some.inj h1
    refine ⟨by omega, fun s hs => ?_, ?_, by omega, fun s hs => ?_⟩
    · obtain ⟨i, hi, rfl⟩ := List.getElem_of_mem hs
      have := h3 i (by omega)
      rw [List.getElem?_eq_getElem hi] at this
      generalize x.slots[i] = sp at this
      unfold SlotR at this
      split at this
      · cases this
      · rename_i s obj ho
        have hobj : -1 ≤ obj := by
          unfold headOfP at ho
          split at ho
          · simp only [Option.some.injEq, Prod.mk.injEq] at ho; omega
          · split at ho
            · simp only [Option.some.injEq, Prod.mk.injEq] at ho
              have := Int.emod_nonneg (wd ws (4 * i)) (show (64 : Int) ≠ 0 by omega)
              omega
            · cases ho
        split at this
        · obtain ⟨rl, a1, a2⟩ := this
          cases rl with
          | none => cases a2
          | some l =>
            obtain ⟨rp, a3, a4⟩ := a2
            cases rp with
            | none => cases a4
            | some ps =>
              have a4 := Option.some.inj a4
              subst a4
              have b1 := CWalk.len hw tellsPart.low (by omega) (wd_word hw _) a3
              refine ⟨?_, by show ps.length < 1000; omega⟩
              show l.length < 1000
              split at a1
              · have := Option.some.inj a1; subst this; simp
              · have := LWalk.len hw (by omega) hobj a1; omega
        · cases this
    · have := CWalk.len hw tellsShelf.low (by omega) (wd_word hw _) h4
      omega
    · obtain ⟨i, hi, rfl⟩ := List.getElem_of_mem hs
      have := h7 i (by omega)
      rw [List.getElem?_eq_getElem hi] at this
      generalize x.slabs[i] = sp at this
      unfold SlabR at this
      split at this
      · cases this
      · split at this
        · obtain ⟨rl, a1, a2⟩ := this
          cases rl with
          | none => cases a2
          | some l =>
            have a2 := Option.some.inj a2
            subst a2
            have := LWalk.len hw (by omega) (by have := (wd_word hw (4 * P + 4 + 4 * i)).1; omega) a1
            show l.length < 1000
            omega
        · cases this
  · cases h1
end

end Go.Proofs.Ytpecefjgadecfaa.Chart

/- ChartBlind: its three loops. -/
namespace Go.Proofs.Ytpecefjgadecfaa.Chart
open Go Go.Proofs.Ytpecefjgadecfaa.AE
set_option maxRecDepth 10000
set_option linter.unusedSimpArgs false

theorem named_places {P N O i : Nat} (h : Named P N O i) : (i : Int) ∈ placesL P N O := by
  unfold placesL
  rw [List.mem_append, List.mem_append]
  rcases h with h | ⟨t, ht, h⟩ | ⟨h1, h2⟩
  · refine .inl ?_
    by_cases h4 : i < 4 * P
    · exact .inr (mem_heads.2 (by omega))
    · refine .inl ?_
      simp only [frontL, List.mem_cons, List.not_mem_nil, or_false]; omega
  · refine .inr ?_
    rw [slabsL, List.mem_flatMap]
    refine ⟨t, List.mem_range.2 ht, ?_⟩
    rw [List.mem_append]
    refine .inl ?_
    simp only [slabL, List.mem_cons, List.not_mem_nil, or_false]; omega
  · refine .inr ?_
    have hO : 0 < O := by
      rcases Nat.eq_zero_or_pos O with rfl | h
      · simp at h2; omega
      · exact h
    rw [slabsL, List.mem_flatMap]
    obtain ⟨j, hj⟩ : ∃ j, i = 4 * P + 4 + 4 * N + j := ⟨i - (4 * P + 4 + 4 * N), by omega⟩
    have hjn : j < N * O := by omega
    refine ⟨j / O, List.mem_range.2 (Nat.div_lt_of_lt_mul (by rw [Nat.mul_comm]; exact hjn)), ?_⟩
    rw [List.mem_append]
    refine .inr (mem_links.2 ?_)
    have h3 := Nat.div_add_mod j O
    have h4 := Nat.mod_lt j hO
    have h5 : ((j / O : Nat) : Int) * (O : Int) = ((O * (j / O) : Nat) : Int) := by rw [Nat.mul_comm]; simp
    rw [h5]
    omega

/-- The words that were copied, the first i. -/
def inW (w : List Int) (n i : Nat) : List Int := (List.range n).map fun (x : Nat) => if x < i then w[x]?.getD 0 else 0

theorem inW_len {w : List Int} {n i : Nat} : (inW w n i).length = n := by simp [inW]
theorem inW_zero {w : List Int} {n : Nat} : inW w n 0 = List.replicate n 0 := by
  refine List.ext_getElem? fun j => ?_
  by_cases hj : j < n
  · simp [inW, hj]
  · rw [List.getElem?_eq_none (by simp [inW]; omega), List.getElem?_eq_none (by simp; omega)]
theorem inW_set {w : List Int} {n i : Nat} {x : Int} (hx : w[i]? = some x) : (inW w n i).set i x = inW w n (i + 1) := by
  refine List.ext_getElem? fun j => ?_
  by_cases hj : j < n
  · by_cases he : i = j
    · subst he
      rw [List.getElem?_set_self (by simpa [inW] using hj)]
      simp [inW, hj, hx]
    · rw [List.getElem?_set_ne he]
      have e : (j < i + 1) = (j < i) := by simp; omega
      simp [inW, hj, e]
  · rw [List.getElem?_eq_none (by simp [inW]; omega), List.getElem?_eq_none (by simp [inW]; omega)]

theorem IsInts.move {m m' : Nat → Option AObj} {k : IntKind} {v : Value} {xs : List Int} (h : IsInts m k v xs) (hm : ∀ b o, m b = some o → m' b = some o) : IsInts m' k v xs := by
  obtain ⟨p, cp, rfl, hx⟩ := h
  refine ⟨p, cp, rfl, fun i x hi => ?_⟩
  obtain ⟨b, off, c, rfl, hc, hg⟩ := hx i x hi
  refine ⟨b, off, c, rfl, ?_, hg⟩
  cases hb : m b with
  | none => rw [hb] at hc; cases hc
  | some o => rw [hm _ _ hb]; rw [hb] at hc; exact hc

set_option maxHeartbeats 4000000 in
theorem cpLoop {C : CallS} {R : List Value} {S0 S : St} {w : List Int} {n h : Nat} {v u pc : Value} (hR : R.length = 114) (h0 : rd R 0 = v) (h2 : rd R 2 = u) (h4 : rd R 4 = pc) (h7 : rd R 7 = .int .i64 n) (h8 : rd R 8 = .slice (some ⟨h, 0, none⟩) n 0) (h9 : rd R 9 = .int .i64 0)
    (hv : IsInts S0.at .u64 v w) (hk : Kept S0 S) (hh : S.at h = some (.cells 22 ((inW w n 0).map (Value.int .u64)))) (hlo : S0.top ≤ h) (hn : n < 10000) :
    Leads (evCode C loop6_0 R S) fun o R' S' => o = .exit 0 ∧ R'.length = 114 ∧ rd R' 2 = u ∧ rd R' 4 = pc ∧ rd R' 7 = .int .i64 n ∧ rd R' 8 = .slice (some ⟨h, 0, none⟩) n 0 ∧ Kept S0 S' ∧
      S'.at h = some (.cells 22 ((inW w n (min n w.length)).map (Value.int .u64))) ∧ S'.top = S.top ∧ ∀ b, b ≠ h → S'.at b = S.at b := by
  rw [eloop6_0]
  refine loop_goes (fun k R S' => R.length = 114 ∧ rd R 0 = v ∧ rd R 2 = u ∧ rd R 4 = pc ∧ rd R 7 = .int .i64 n ∧ rd R 8 = .slice (some ⟨h, 0, none⟩) n 0 ∧ ∃ i : Nat, i + k = min n w.length ∧ rd R 9 = .int .i64 i ∧ Kept S0 S' ∧
    S'.at h = some (.cells 22 ((inW w n i).map (Value.int .u64))) ∧ S'.top = S.top ∧ ∀ b, b ≠ h → S'.at b = S.at b) _ (min n w.length) (by omega) ⟨hR, h0, h2, h4, h7, h8, 0, by omega, h9, hk, hh, rfl, fun b _ => rfl⟩ ?_
  clear hR h0 h2 h4 h7 h8 h9 hk hh
  rintro k R S' ⟨hR, h0, h2, h4, h7, h8, i, hi, h9, hk, hh, ht, hat⟩
  obtain ⟨p, cp, rfl, hx⟩ := id hv
  cases k with
  | zero =>
    have e0 : i = min n w.length := by omega
    by_cases e1 : i < n
    · have e2 : ¬ i < w.length := by omega
      simp (maxDischargeDepth := 30) [hR, h0, h2, h4, h7, h8, h9, e1, e2]
      exact ⟨hk, by rw [← e0]; exact hh, ht, hat⟩
    · simp (maxDischargeDepth := 30) [hR, h0, h2, h4, h7, h8, h9, e1]
      exact ⟨hk, by rw [← e0]; exact hh, ht, hat⟩
  | succ k =>
    have e1 : i < n := by omega
    have e2 : i < w.length := by omega
    have g1 : w[i]? = some w[i] := List.getElem?_eq_getElem e2
    obtain ⟨b, off, c, rfl, hc, hcx⟩ := hx i _ g1
    have hc' : cellsOf (S'.at b) = some c := by
      cases hb : S0.at b with
      | none => rw [hb] at hc; cases hc
      | some o => rw [hk.same hb]; rw [hb] at hc; exact hc
    have w1 : W .i64 ((i : Int) + 1) = ((i + 1 : Nat) : Int) := by rw [W_i64 (by omega)]; rfl
    have il : (inW w n i).length = n := inW_len
    simp (maxDischargeDepth := 30) [hR, h0, h2, h4, h7, h8, h9, e1, e2, hc', hcx, hh, w1, il]
    refine ⟨k, by omega, i + 1, by omega, by omega, hk.wrote _ _ hlo, ?_, by rw [top_wrote]; exact ht, fun b hb => by rw [m_wrote_ne (fun e => hb e.symm)]; exact hat b hb⟩
    rw [← inW_set g1, List.map_set]

set_option maxHeartbeats 4000000 in
theorem mkLoop {C : CallS} {R : List Value} {S0 S : St} {L : List Int} {n g b : Nat} {v2 v4 v8 v10 v11 : Value} (hR : R.length = 114) (h2 : rd R 2 = v2) (h4 : rd R 4 = v4) (h7 : rd R 7 = .int .i64 n) (h8 : rd R 8 = v8) (h10 : rd R 10 = v10) (h11 : rd R 11 = v11)
    (h12 : rd R 12 = .slice (some ⟨g, 0, none⟩) n 0) (h13 : rd R 13 = .slice (some ⟨b, 0, none⟩) L.length 0) (h14 : rd R 14 = .int .i64 0)
    (hk : Kept S0 S) (hg : S.at g = some (.cells 4 (hadOf L 0 n))) (hb : S.at b = some (.cells 3 (L.map (Value.int .i64)))) (hne : g ≠ b) (hlo : S0.top ≤ g) (hin : ∀ x ∈ L, 0 ≤ x ∧ x < n) (hL : L.length < 1000000) :
    Leads (evCode C loop6_1 R S) fun o R' S' => o = .exit 2 ∧ R'.length = 114 ∧ rd R' 2 = v2 ∧ rd R' 4 = v4 ∧ rd R' 7 = .int .i64 n ∧ rd R' 8 = v8 ∧ rd R' 10 = v10 ∧ rd R' 11 = v11 ∧ rd R' 12 = .slice (some ⟨g, 0, none⟩) n 0 ∧ Kept S0 S' ∧
      S'.at g = some (.cells 4 (hadOf L L.length n)) ∧ S'.top = S.top ∧ ∀ b, b ≠ g → S'.at b = S.at b := by
  rw [eloop6_1]
  refine loop_goes (fun k R S' => R.length = 114 ∧ rd R 2 = v2 ∧ rd R 4 = v4 ∧ rd R 7 = .int .i64 n ∧ rd R 8 = v8 ∧ rd R 10 = v10 ∧ rd R 11 = v11 ∧ rd R 12 = .slice (some ⟨g, 0, none⟩) n 0 ∧ rd R 13 = .slice (some ⟨b, 0, none⟩) L.length 0 ∧
    ∃ i : Nat, i + k = L.length ∧ rd R 14 = .int .i64 i ∧ Kept S0 S' ∧ S'.at g = some (.cells 4 (hadOf L i n)) ∧ S'.top = S.top ∧ ∀ b, b ≠ g → S'.at b = S.at b) _ L.length (by omega)
    ⟨hR, h2, h4, h7, h8, h10, h11, h12, h13, 0, by omega, h14, hk, hg, rfl, fun b _ => rfl⟩ ?_
  clear hR h2 h4 h7 h8 h10 h11 h12 h13 h14 hk hg
  rintro k R S' ⟨hR, h2, h4, h7, h8, h10, h11, h12, h13, i, hi, h14, hk, hg, ht, hat⟩
  have hb' := hb
  rw [← hat b hne.symm] at hb'
  cases k with
  | zero =>
    obtain rfl : i = L.length := by omega
    simp (maxDischargeDepth := 30) [hR, h2, h4, h7, h8, h10, h11, h12, h13, h14]
    exact ⟨hk, hg, ht, hat⟩
  | succ k =>
    have e1 : i < L.length := by omega
    have g1 : L[i]? = some L[i] := List.getElem?_eq_getElem e1
    obtain ⟨x0, x1⟩ := hin L[i] (List.getElem_mem e1)
    obtain ⟨x, hx⟩ : ∃ x : Nat, L[i] = (x : Int) := ⟨L[i].toNat, by omega⟩
    rw [hx] at g1 x0 x1
    have xn : x < n := by omega
    have w1 : W .i64 ((i : Int) + 1) = ((i + 1 : Nat) : Int) := by rw [W_i64 (by omega)]; rfl
    have hl : (hadOf L i n).length = n := by simp (maxDischargeDepth := 30) [hadOf]
    simp (maxDischargeDepth := 30) [hR, h2, h4, h7, h8, h10, h11, h12, h13, h14, hg, hb', e1, hx, xn, w1, hl, x0, hne]
    exact ⟨k, by omega, i + 1, by omega, by omega, hk.wrote _ _ hlo, hadOf_set g1, by rw [top_wrote]; exact ht, fun b hb => by rw [m_wrote_ne (fun e => hb e.symm)]; exact hat b hb⟩

/-- The words, the first i that no place names overwritten. -/
def outW (ws L : List Int) (u : Int) (n i : Nat) : List Int := (List.range n).map fun (x : Nat) => if x < i ∧ ¬ (x : Int) ∈ L then u else ws[x]?.getD 0

theorem outW_len {ws L : List Int} {u : Int} {n i : Nat} : (outW ws L u n i).length = n := by simp [outW]
theorem outW_zero {ws L : List Int} {u : Int} {n : Nat} (h : ws.length = n) : outW ws L u n 0 = ws := by
  refine List.ext_getElem? fun j => ?_
  by_cases hj : j < n
  · simp [outW, hj, h]
  · rw [List.getElem?_eq_none (by simp [outW]; omega), List.getElem?_eq_none (by omega)]
theorem outW_skip {ws L : List Int} {u : Int} {n i : Nat} (hi : (i : Int) ∈ L) : outW ws L u n i = outW ws L u n (i + 1) := by
  refine List.map_congr_left fun x _ => ?_
  by_cases e : x = i
  · subst e; simp [hi]
  · have : x < i + 1 ↔ x < i := by omega
    simp only [this]
theorem outW_set {ws L : List Int} {u : Int} {n i : Nat} (hi : ¬ (i : Int) ∈ L) : (outW ws L u n i).set i u = outW ws L u n (i + 1) := by
  refine List.ext_getElem? fun j => ?_
  by_cases hj : j < n
  · by_cases he : i = j
    · subst he
      rw [List.getElem?_set_self (by simpa [outW] using hj)]
      simp [outW, hj, hi]
    · rw [List.getElem?_set_ne he]
      have e : (j < i + 1) = (j < i) := by simp; omega
      simp [outW, hj, e]
  · rw [List.getElem?_eq_none (by simp [outW]; omega), List.getElem?_eq_none (by simp [outW]; omega)]

set_option maxHeartbeats 4000000 in
theorem owLoop {C : CallS} {R : List Value} {S0 S : St} {ws L : List Int} {u : Int} {n g h : Nat} {v4 v10 v11 : Value} (hR : R.length = 114) (h2 : rd R 2 = .int .u64 u) (h4 : rd R 4 = v4) (h7 : rd R 7 = .int .i64 n) (h8 : rd R 8 = .slice (some ⟨h, 0, none⟩) n 0) (h10 : rd R 10 = v10) (h11 : rd R 11 = v11)
    (h12 : rd R 12 = .slice (some ⟨g, 0, none⟩) n 0) (h15 : rd R 15 = .int .i64 0)
    (hk : Kept S0 S) (hg : S.at g = some (.cells 4 (hadOf L L.length n))) (hh : S.at h = some (.cells 22 (ws.map (Value.int .u64)))) (hws : ws.length = n) (hne : g ≠ h) (hlo : S0.top ≤ h) (hn : n < 10000) :
    Leads (evCode C loop6_2 R S) fun o R' S' => o = .exit 4 ∧ R'.length = 114 ∧ rd R' 4 = v4 ∧ rd R' 8 = .slice (some ⟨h, 0, none⟩) n 0 ∧ rd R' 10 = v10 ∧ rd R' 11 = v11 ∧ Kept S0 S' ∧
      S'.at h = some (.cells 22 ((outW ws L u n n).map (Value.int .u64))) ∧ S'.top = S.top ∧ ∀ b, b ≠ h → S'.at b = S.at b := by
  rw [eloop6_2]
  refine loop_goes (fun k R S' => R.length = 114 ∧ rd R 2 = .int .u64 u ∧ rd R 4 = v4 ∧ rd R 7 = .int .i64 n ∧ rd R 8 = .slice (some ⟨h, 0, none⟩) n 0 ∧ rd R 10 = v10 ∧ rd R 11 = v11 ∧ rd R 12 = .slice (some ⟨g, 0, none⟩) n 0 ∧
    ∃ i : Nat, i + k = n ∧ rd R 15 = .int .i64 i ∧ Kept S0 S' ∧ S'.at h = some (.cells 22 ((outW ws L u n i).map (Value.int .u64))) ∧ S'.top = S.top ∧ ∀ b, b ≠ h → S'.at b = S.at b) _ n (by omega)
    ⟨hR, h2, h4, h7, h8, h10, h11, h12, 0, by omega, h15, hk, by rw [outW_zero hws]; exact hh, rfl, fun b _ => rfl⟩ ?_
  clear hR h2 h4 h7 h8 h10 h11 h12 h15 hk hh
  rintro k R S' ⟨hR, h2, h4, h7, h8, h10, h11, h12, i, hi, h15, hk, hh, ht, hat⟩
  have hg' := hg
  rw [← hat g hne] at hg'
  cases k with
  | zero =>
    obtain rfl : i = n := by omega
    simp (maxDischargeDepth := 30) [hR, h2, h4, h7, h8, h10, h11, h12, h15]
    exact ⟨hk, hh, ht, hat⟩
  | succ k =>
    have e1 : i < n := by omega
    have w1 : W .i64 ((i : Int) + 1) = ((i + 1 : Nat) : Int) := by rw [W_i64 (by omega)]; rfl
    have hl : (hadOf L L.length n).length = n := by simp (maxDischargeDepth := 30) [hadOf]
    have gh2 : ∀ h : i < (hadOf L L.length n).length, (hadOf L L.length n)[i] = .bool (decide ((i : Int) ∈ L)) := fun h => by
      have := (List.getElem?_eq_some_iff.1 (hadOf_get (L := L) (i := L.length) e1)).2
      rw [this, List.take_length]
    have ol : (outW ws L u n i).length = n := outW_len
    by_cases hm : (i : Int) ∈ L
    · simp (maxDischargeDepth := 30) [hR, h2, h4, h7, h8, h10, h11, h12, h15, e1, hg', hl, gh2, hm, w1]
      exact ⟨k, by omega, i + 1, by omega, by omega, hk, by rw [← outW_skip hm]; exact hh, ht, hat⟩
    · simp (maxDischargeDepth := 30) [hR, h2, h4, h7, h8, h10, h11, h12, h15, e1, hg', hl, gh2, hm, w1, hh, ol]
      refine ⟨k, by omega, i + 1, by omega, by omega, hk.wrote _ _ hlo, ?_, by rw [top_wrote]; exact ht, fun b hb => by rw [m_wrote_ne (fun e => hb e.symm)]; exact hat b hb⟩
      rw [← outW_set hm, List.map_set]

end Go.Proofs.Ytpecefjgadecfaa.Chart

/- ChartBlind's own text: what it comes to. -/
namespace Go.Proofs.Ytpecefjgadecfaa.Chart
open Go Go.Proofs.Ytpecefjgadecfaa.AE
set_option maxRecDepth 10000
set_option linter.unusedSimpArgs false

theorem CoreOut.move {S S' : St} {lo : Nat} {cs : List Value} {r : Option CoreP} (h : CoreOut S lo cs r) (k : ∀ b o, lo ≤ b → S.at b = some o → S'.at b = some o) : CoreOut S' lo cs r := by
  cases r with
  | none => exact h
  | some x => obtain ⟨vs, vh, vt, e, a1, a2, a3⟩ := h; exact ⟨vs, vh, vt, e, a1.move k, a2.grown k, a3.move k⟩

theorem named_lt {P N O i : Nat} (h : Named P N O i) : i < nWords P N O := by
  have := places_in (named_places h)
  rw [nWords]
  have e : (N : Int) * O = ((N * O : Nat) : Int) := by simp
  omega

set_option maxHeartbeats 4000000 in
theorem ranBlind {S : St} {v : Value} {w : List Int} {u p s o mn cp k : Int} (hv : IsInts S.at .u64 v w) (hww : ∀ x ∈ w, Word x) (hu : Word u) :
    evFun table.find known 6 [v, chart p s o mn cp k, .int .u64 u] S = some (.bool true, S, true) := by
  have hm := made_may p s o mn cp
  obtain ⟨P, hP⟩ : ∃ P : Nat, 1 + p % 8 = (P : Int) := ⟨(1 + p % 8).toNat, by omega⟩
  obtain ⟨N, hN⟩ : ∃ N : Nat, 1 + s % 32 = (N : Int) := ⟨(1 + s % 32).toNat, by omega⟩
  obtain ⟨O, hO⟩ : ∃ O : Nat, 1 + o % 16 = (O : Int) := ⟨(1 + o % 16).toNat, by omega⟩
  have hmade := fun (S : St) => @sMade 62 S p s o mn cp k
  rw [hP, hN, hO] at hm hmade
  generalize hmn : mn % 33 = mn' at *
  generalize hcp : cp % 33 = cp' at *
  obtain ⟨m1, m2, m3, m4, m5⟩ := may_iff.1 hm
  have hw := fun (S : St) => @vWords 58 P N O mn' cp' k S hm
  have hpl := fun (S : St) => @sPlaces 57 P N O mn' cp' k S hm
  have hno : 0 ≤ (N : Int) * O ∧ (N : Int) * O ≤ 512 := mul_le hm (by omega) (by omega)
  have hwn : 4 * (P : Int) + 4 + 4 * N + (N : Int) * O = ((4 * P + 4 + 4 * N + N * O : Nat) : Int) := by simp
  have hn : 4 * P + 4 + 4 * N + N * O ≤ 4096 := by omega
  rw [hwn] at hw
  have hnW : 4 * P + 4 + 4 * N + N * O = nWords P N O := by rw [nWords]
  obtain ⟨n, hnn⟩ : ∃ n, 4 * P + 4 + 4 * N + N * O = n := ⟨_, rfl⟩
  rw [hnn] at hw hn hnW
  have hlen : (placesL P N O).length < 1000000 := by
    rw [placesL, List.length_append, List.length_append, headsL_len, slabsL_len]
    have : N * (3 + O) ≤ 32 * 19 := Nat.mul_le_mul (by omega) (by omega)
    simp [frontL]; omega
  unfold chart at hmade hw hpl ⊢
  rw [law_step b6]
  have e1 : ¬ (n : Int) < 1 := by omega
  have e2 : ¬ 4096 < (n : Int) := by omega
  have e3 : (n : Int) ≤ 1000000000000000 := by omega
  have e4 : (n : Int) ≤ 281474976710656 := by omega
  have e5 : 8 * (n : Int) ≤ 281474976710656 := by omega
  simp (maxDischargeDepth := 30) [-Array.all_toList, -Array.all_eq_true, -List.all_eq_true, known_cons, hmade, hw, e1, e2, e3, e4, e5]
  generalize hTe : St.push (St.wrote _ _ _ _) (AObj.cells 22 _) = T
  have tk : Kept S T := by rw [← hTe]; exact (((Kept.enter S).push _).wrote _ _ (by rw [top_enter]; omega)).push _
  have tt : T.top = S.top + 2 := by rw [← hTe, top_push, top_wrote, top_push, top_enter]
  have tc : T.at S.top = some (.cells 24 [.int .i64 P, .int .i64 N, .int .i64 O, .int .i64 mn', .int .i64 cp', .int .u64 k]) := by
    rw [← hTe, ← top_enter (S := S), m_push (by rw [m_wrote (by rw [m_push_top]; rfl)]; rfl), m_wrote (by rw [m_push_top]; rfl)]
  have th : T.at (S.top + 1) = some (.cells 22 ((inW w n 0).map (Value.int .u64))) := by
    have z : ∀ (S' : St) (o : AObj), S'.top = S.top + 1 → (S'.push o).at (S.top + 1) = some o := fun S' o h => by rw [← h, m_push_top]
    rw [← hTe, z _ _ (by rw [top_wrote, top_push, top_enter]), inW_zero, List.map_replicate]
  clear hTe
  simp only [top_wrote, top_push, top_enter]
  generalize hR2 : wr (wr _ 8 _) 9 _ = R2
  obtain ⟨o, R3, S3, he, rfl, hR3, r2, r4, r7, r8, k3, h3, t3, at3⟩ := cpLoop (C := known) (R := R2) (S0 := S) (S := T) (w := w) (n := n) (h := S.top + 1) (v := v) (u := .int .u64 u) (pc := .pointer (some ⟨S.top, 0, none⟩))
    (by simp [← hR2]) (by simp [← hR2]) (by simp [← hR2]) (by simp [← hR2]) (by simp [← hR2]) (by simp [← hR2]) (by simp [← hR2]) hv tk th (by omega) (by omega)
  rw [he]
  have c3 := at3 S.top (by omega)
  rw [tc] at c3
  obtain ⟨ws1, hws1⟩ : ∃ ws1, inW w n (min n w.length) = ws1 := ⟨_, rfl⟩
  have l1 : ws1.length = n := by rw [← hws1, inW_len]
  have d1 : ∀ x ∈ ws1, Word x := by
    intro x hx
    rw [← hws1, inW, List.mem_map] at hx
    obtain ⟨y, _, rfl⟩ := hx
    split
    · cases h : w[y]? with
      | none => exact ⟨by simp, by simp⟩
      | some z => exact hww z (List.mem_of_getElem? h)
    · exact ⟨by simp, by simp⟩
  rw [hws1] at h3
  have row : ∀ (S' : St) (ws : List Int), S'.at (S.top + 1) = some (.cells 22 (ws.map (Value.int .u64))) → ws.length = n → WRow S' (.slice (some ⟨S.top + 1, 0, none⟩) n 0) ws := fun S' ws h hl =>
    ⟨S.top + 1, 0, _, by rw [hl], by unfold AE.rowAt; rw [h]; rfl, by simp, fun i x hx => by simp [hx]⟩
  obtain ⟨r1, cs1, S4, hs1, hc1, hg1, ho1⟩ := sSee hm (n := 55) (k := k) (row S3 ws1 h3 l1) d1 (l1.trans hnW)
  unfold chart at hc1
  obtain ⟨x1, vs1, vh1, vt1, ecs1, f1, f2, f3⟩ : ∃ x, CoreOut S4 S3.top cs1 (some x) := by
    cases r1 with
    | none => exact ⟨_, ho1.zero⟩
    | some x => exact ⟨x, ho1⟩
  subst ecs1
  have o1 := f1.1
  have o2 := f2.1
  have o3 := f3.1
  have k4 := hg1.kept S k3
  have c4 := hg1.same c3
  have h4 := hg1.same h3
  have t4 := hg1.top
  simp (maxDischargeDepth := 30) [-Array.all_toList, -Array.all_eq_true, -List.all_eq_true, known_cons, hR3, r2, r4, r7, r8, c3, c4, hc1, o1, o2, o3, e1, e2, e3, e4, e5]
  generalize hUe : St.push (St.wrote _ _ _ _) (AObj.cells 4 _) = U
  have ku : Kept S U := by rw [← hUe]; exact ((k4.push _).wrote _ _ (by have := k4.top; omega)).push _
  have ut : U.top = S4.top + 2 := by rw [← hUe, top_push, top_wrote, top_push]
  have um : U.at S4.top = some (.cells 40 [vs1, vh1, .bool x1.locked, vt1]) := by
    rw [← hUe, m_push (by rw [m_wrote (by rw [m_push_top]; rfl)]; rfl), m_wrote (by rw [m_push_top]; rfl)]
  have ug : U.at (S4.top + 1) = some (.cells 4 (hadOf (placesL P N O) 0 n)) := by
    have z : ∀ (S' : St) (o : AObj), S'.top = S4.top + 1 → (S'.push o).at (S4.top + 1) = some o := fun S' o h => by rw [← h, m_push_top]
    rw [← hUe, z _ _ (by rw [top_wrote, top_push]), hadOf_zero]
  have uo : ∀ b o, S4.at b = some o → U.at b = some o := fun b o h => by
    have := lt_top h
    have e : (S4.push (.cells 40 [.slice none 0 0, .slice none 0 0, .bool false, .slice none 0 0])).at b = some o := by rw [m_push (by rw [h]; rfl)]; exact h
    rw [← hUe, m_push (by rw [m_wrote_ne (by omega), e]; rfl), m_wrote_ne (by omega), e]
  clear hUe
  simp only [top_wrote, top_push]
  obtain ⟨S5, b, hpc, k5, hb5, lb5⟩ := hpl U
  simp (maxDischargeDepth := 30) [-Array.all_toList, -Array.all_eq_true, -List.all_eq_true, known_cons, hR3, hpc]
  generalize hR4 : wr (wr _ 13 _) 14 _ = R4
  have kV := ku.left k5
  have vo : ∀ b o, U.at b = some o → (U.left S5).at b = some o := fun b o h => by rw [at_left]; exact k5.same h
  have vt : (U.left S5).top = S5.top := top_left
  have ltS := k4.top
  obtain ⟨o, R5, S6, he6, rfl, hR5, p2, p4, p7, p8, p10, p11, p12, k6, hg6, t6, at6⟩ := mkLoop (C := known) (R := R4) (S0 := S) (S := U.left S5) (L := placesL P N O) (n := n) (g := S4.top + 1) (b := b) (v2 := .int .u64 u) (v4 := .pointer (some ⟨S.top, 0, none⟩))
    (v8 := .slice (some ⟨S.top + 1, 0, none⟩) n 0) (v10 := .pointer (some ⟨S4.top, 0, none⟩)) (v11 := .int .i64 (if r1.isSome = true then 0 else 150))
    (by simp [← hR4, hR3]) (by simp [← hR4, hR3, r2]) (by simp [← hR4, hR3, r4]) (by simp [← hR4, hR3, r7]) (by simp [← hR4, hR3, r8]) (by simp [← hR4, hR3]) (by simp [← hR4, hR3]) (by simp [← hR4, hR3]) (by simp [← hR4, hR3]) (by simp [← hR4, hR3])
    kV (vo _ _ ug) (by rw [at_left]; exact hb5) (by omega) (by omega) (fun x hx => by have := places_in hx; omega) hlen
  rw [he6]
  simp (maxDischargeDepth := 30) [-Array.all_toList, -Array.all_eq_true, -List.all_eq_true, known_cons, hR5]
  generalize hR6 : wr R5 15 _ = R6
  have lt1 := lt_top h3
  have h6 : S6.at (S.top + 1) = some (.cells 22 (ws1.map (Value.int .u64))) := by
    have := lt_top h4
    rw [at6 _ (by omega)]; exact vo _ _ (uo _ _ h4)
  obtain ⟨o, R7, S7, he7, rfl, hR7, q4, q8, q10, q11, k7, h7, t7, at7⟩ := owLoop (C := known) (R := R6) (S0 := S) (S := S6) (ws := ws1) (L := placesL P N O) (u := u) (n := n) (g := S4.top + 1) (h := S.top + 1) (v4 := .pointer (some ⟨S.top, 0, none⟩)) (v10 := .pointer (some ⟨S4.top, 0, none⟩)) (v11 := .int .i64 (if r1.isSome = true then 0 else 150))
    (by simp [← hR6, hR5]) (by simp [← hR6, hR5, p2]) (by simp [← hR6, hR5, p4]) (by simp [← hR6, hR5, p7]) (by simp [← hR6, hR5, p8]) (by simp [← hR6, hR5, p10]) (by simp [← hR6, hR5, p11]) (by simp [← hR6, hR5, p12]) (by simp [← hR6, hR5])
    k6 hg6 h6 l1 (by omega) (by omega) (by omega)
  rw [he7]
  have lt4 := lt_top h4
  have mv : ∀ b o, S4.at b = some o → b ≠ S.top + 1 → S7.at b = some o := fun b o h hb => by
    have := lt_top h
    rw [at7 _ hb, at6 _ (by omega)]; exact vo _ _ (uo _ _ h)
  have c7 := mv _ _ c4 (by omega)
  have um7 : S7.at S4.top = some (.cells 40 [vs1, vh1, .bool x1.locked, vt1]) := by
    rw [at7 _ (by omega), at6 _ (by omega)]; exact vo _ _ um
  have ho7 : CoreOut S7 S3.top [vs1, vh1, .bool x1.locked, vt1] r1 := ho1.move fun b o hb h => mv _ _ h (by omega)
  obtain ⟨ws2, hws2⟩ : ∃ ws2, outW ws1 (placesL P N O) u n n = ws2 := ⟨_, rfl⟩
  have l2 : ws2.length = n := by rw [← hws2, outW_len]
  have d2 : ∀ x ∈ ws2, Word x := by
    intro x hx
    rw [← hws2, outW, List.mem_map] at hx
    obtain ⟨y, _, rfl⟩ := hx
    split
    · exact hu
    · cases h : ws1[y]? with
      | none => exact ⟨by simp, by simp⟩
      | some z => exact d1 z (List.mem_of_getElem? h)
  have hag : ∀ i, Named P N O i → ws1[i]? = ws2[i]? := fun i hi => by
    have h1 := named_lt hi
    have h2 := named_places hi
    have h3 : i < n := by omega
    rw [← hws2]
    simp [outW, h3, h2, l1]
  rw [hws2] at h7
  obtain ⟨r2, cs2, S8, hs2, hc2, hg2, ho2⟩ := sSee hm (n := 55) (k := k) (row S7 ws2 h7 l2) d2 (l2.trans hnW)
  obtain rfl : r2 = r1 := hs2.unique (SeeR.same (by omega) hag hs1)
  have hsm : ∀ x, r2 = some x → x.Small := fun x e => by subst e; exact SeeR.small d2 hm hs2
  unfold chart at hc2
  obtain ⟨x2, vs2, vh2, vt2, ecs2, w1, w2, w3⟩ : ∃ x, CoreOut S8 S7.top cs2 (some x) := by
    cases r2 with
    | none => exact ⟨_, ho2.zero⟩
    | some x => exact ⟨x, ho2⟩
  subst ecs2
  have o4 := w1.1
  have o5 := w2.1
  have o6 := w3.1
  have k8 := hg2.kept S k7
  have t8 := hg2.top
  have um8 := hg2.same um7
  have ho8 : CoreOut S8 S3.top [vs1, vh1, .bool x1.locked, vt1] r2 := ho7.move fun b o _ h => hg2.same h
  simp (maxDischargeDepth := 30) [-Array.all_toList, -Array.all_eq_true, -List.all_eq_true, known_cons, hR7, q4, q8, q10, q11, c7, hc2, o4, o5, o6, um8]
  generalize hWe : St.wrote (St.push S8 _) _ _ _ = Z
  have kz : Kept S Z := by rw [← hWe]; exact (k8.push _).wrote _ _ (by have := k8.top; omega)
  have zo : ∀ b o, S8.at b = some o → Z.at b = some o := fun b o h => by
    have := lt_top h
    rw [← hWe, m_wrote_ne (by omega), m_push (by rw [h]; rfl)]; exact h
  have hsame := sSame (n := 62) (S := Z) (ho8.move fun b o _ h => zo b o h) (ho2.move fun b o _ h => zo b o h) hsm
  simp (maxDischargeDepth := 30) [-Array.all_toList, -Array.all_eq_true, -List.all_eq_true, known_works, hR7, hsame]
  exact leave_quiet kz.wr rfl

end Go.Proofs.Ytpecefjgadecfaa.Chart
