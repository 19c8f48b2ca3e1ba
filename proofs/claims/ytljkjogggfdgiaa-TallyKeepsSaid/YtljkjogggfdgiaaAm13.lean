/-
  The abstract machine, part 13: append.
-/
import Derived.Test.YtljkjogggfdgiaaAm12
namespace Go.Am
open Go.RowKit

section
variable {P : Program} {F : Frame0} {e : Nat × Nat → Option AV} {σ : Nat → Option Entry} {I : Nat → Nat → Prop} {w : World} {β : Blocks} {lam : Owned} {a : Act} {o : Oper}
  {Q : Exit → Act → World → Prop}

theorem lk_map {α γ : Type} (f : α → γ) (l : List (Nat × α)) (n : Nat) : lk (l.map fun p => (p.1, f p.2)) n = (lk l n).map f := by
  induction l with
  | nil => rfl
  | cons p l ih =>
    simp only [List.map_cons, lk]
    split
    · rfl
    · exact ih

theorem dg_fix {l : Nat} {x : AV} (h : tok1 l x = false) (hn : ∀ sz l' rows, x ≠ .list sz (.own l') rows) : dg l x = x := by
  cases x with
  | list sz m rows => cases m <;> first | rfl | exact absurd rfl (hn _ _ _)
  | us l' sz off len =>
    simp only [tok1, beq_eq_false_iff_ne, ne_eq] at h
    simp [Am.dg, h]
  | up l' sz off len =>
    simp only [tok1, beq_eq_false_iff_ne, ne_eq] at h
    simp [Am.dg, h]
  | fn f caps => cases h
  | tuple cells => cases h
  | _ => rfl

/-- The owner 'l' changes: what held it holds a plain slice. -/
theorem R.dg {l : Nat} {I' : Nat → Nat → Prop} {w' : World} {lam' : Owned} (hI : ∀ b o, I b o → I' b o)
    (hw : ∀ b o v, I b o → w.cell? ⟨b, o, none⟩ = some v → w'.cell? ⟨b, o, none⟩ = some v) (hl : ∀ l', l' ≠ l → lam' l' = lam l') {x : AV} {v : Value}
    (h : R I w β lam x v) : R I' w' β lam' (dg l x) v := by
  induction h with
  | base h =>
    cases h with
    | listNil sz m a cap hm ho => cases m <;> first | exact .base (.listNil _ _ _ _ hm ho) | exact absurd rfl (ho _)
    | list sz m rows b o cap g hcap hm ho hrow hcell hc =>
      cases m <;> first | exact .base (R0.mono hI hw (.list _ _ rows b o cap g hcap hm ho hrow hcell hc)) | exact absurd rfl (ho _)
    | fn f caps vs hs hc =>
      simp only [Am.dg]
      split
      · exact R_undef _
      · exact .base (R0.mono hI hw (.fn f caps vs hs hc))
    | tuple cells vs hs hc =>
      simp only [Am.dg]
      split
      · exact R_undef _
      · exact .base (R0.mono hI hw (.tuple cells vs hs hc))
    | undef => exact .base (.undef _)
    | val => exact .base (.val _)
    | agg cells vs hs h1 hc => exact .base (R0.mono hI hw (.agg cells vs hs h1 hc))
    | ro cells b o g hcell hc => exact .base (R0.mono hI hw (.ro cells b o g hcell hc))
    | iface t x v h => exact .base (R0.mono hI hw (.iface t x v h))
  | ptr k off b h => exact .ptr k off b h
  | eptr k sz i off b h => exact .eptr k sz i off b h
  | sl k sz off len cap b av h hc ha => exact .sl k sz off len cap b av h hc ha
  | own sz l' rows a cap h hl' =>
    simp only [Am.dg]
    split
    · exact .base (h.mono hI hw)
    · rename_i hne
      exact .own sz l' rows a cap (h.mono hI hw) (by rw [hl l' hne]; exact hl')
  | fn f caps vs hs hn _ ih =>
    simp only [Am.dg]
    split
    · exact R_undef _
    · rename_i hany
      refine .fn f caps vs hs hn fun i c hi => ?_
      have := ih i c hi
      have ht := List.any_eq_false.1 (by simpa using hany) c (List.mem_iff_getElem?.2 ⟨i, hi⟩)
      rwa [dg_fix (by simpa using ht) (fun sz l' rows e => hn sz l' rows (by rw [← e]; exact List.mem_iff_getElem?.2 ⟨i, hi⟩))] at this
  | us l' sz off len cap cp a av h hc ho ha =>
    simp only [Am.dg]
    split
    · exact R_undef _
    · rename_i hne
      exact .us l' sz off len cap cp a av (by rw [hl l' hne]; exact h) hc ho ha
  | up l' sz i off cap b o h =>
    simp only [Am.dg]
    split
    · exact R_undef _
    · rename_i hne
      exact .up l' sz i off cap b o (by rw [hl l' hne]; exact h)
  | tuple cells vs hs hn _ ih =>
    simp only [Am.dg]
    split
    · exact R_undef _
    · rename_i hany
      refine .tuple cells vs hs hn fun i c hi => ?_
      have := ih i c hi
      have ht := List.any_eq_false.1 (by simpa using hany) c (List.mem_iff_getElem?.2 ⟨i, hi⟩)
      rwa [dg_fix (by simpa using ht) (fun sz l' rows e => hn sz l' rows (by rw [← e]; exact List.mem_iff_getElem?.2 ⟨i, hi⟩))] at this

theorem dgE_isU {l : Nat} {en : Entry} : (dgE l en).isU = en.isU := by cases en <;> rfl

theorem RE.dg {l : Nat} {I' : Nat → Nat → Prop} {w' : World} {lam' : Owned} (hI : ∀ b o, I b o → I' b o)
    (hw : ∀ b o v, I b o → w.cell? ⟨b, o, none⟩ = some v → w'.cell? ⟨b, o, none⟩ = some v) (hl : ∀ l', l' ≠ l → lam' l' = lam l') {b : Nat}
    (hb : w'.heap[b]? = w.heap[b]?) {en : Entry} (h : RE I w β lam b en) : RE I' w' β lam' b (dgE l en) := by
  have hc : ∀ o, w'.cell? ⟨b, o, none⟩ = w.cell? ⟨b, o, none⟩ := fun o => by simp only [World.cell?, hb]
  have hf : ∀ o, w'.frozen? ⟨b, o, none⟩ = w.frozen? ⟨b, o, none⟩ := fun o => by simp only [World.frozen?, hb]
  cases en with
  | var cells =>
    intro j c hj
    simp only [List.getElem?_map, Option.map_eq_some_iff] at hj
    obtain ⟨c', hj, rfl⟩ := hj
    obtain ⟨v, h1, h2, h3, h4⟩ := h j c' hj
    exact ⟨v, by rw [hc]; exact h1, by rw [hf]; exact h2, h3, h4.dg hI hw hl⟩
  | arr sz rows =>
    refine ⟨h.1, fun i r j c hi hj => ?_⟩
    obtain ⟨v, h1, h2, h3, h4⟩ := h.2 i r j c hi hj
    exact ⟨v, by rw [hc]; exact h1, by rw [hf]; exact h2, h3, h4.mono hI hw⟩
  | uarr sz rows => exact h

theorem RU.dg {l k sz : Nat} {I' : Nat → Nat → Prop} {w' : World} {lam' : Owned} {rows : List (List AV)} (hne : k ≠ l) (hI : ∀ b o, I b o → I' b o)
    (hw : ∀ b o v, I b o → w.cell? ⟨b, o, none⟩ = some v → w'.cell? ⟨b, o, none⟩ = some v) (hl : ∀ l', l' ≠ l → lam' l' = lam l')
    (hb : ∀ b o cap q v, lam k = some (some ⟨b, o, none⟩, 0, cap, sz) → q < cap * sz → w.cell? ⟨b, o + q, none⟩ = some v → w'.cell? ⟨b, o + q, none⟩ = some v) (h : RU I w β lam k sz rows) :
    RU I' w' β lam' k sz (rowsDg l rows) := by
  obtain ⟨a, cap, h1, h2, h3, h4⟩ := h
  have get : ∀ (i : Nat) (r : List AV), (rowsDg l rows)[i]? = some r → ∃ r0, rows[i]? = some r0 ∧ r = r0.map (Am.dg l) := fun i r hi => by
    simp only [rowsDg, List.getElem?_map, Option.map_eq_some_iff] at hi
    obtain ⟨r0, h, rfl⟩ := hi
    exact ⟨r0, h, rfl⟩
  refine ⟨a, cap, by rw [hl k hne]; exact h1, by simpa [rowsDg] using h2, fun i r hi => ?_, fun hnn => ?_⟩
  · obtain ⟨r0, g, rfl⟩ := get i r hi
    rw [List.length_map]; exact h3 i r0 g
  · obtain ⟨b, o, rfl, h5⟩ := h4 (by intro e; subst e; exact hnn rfl)
    refine ⟨b, o, rfl, fun i r j c hi hj => ?_⟩
    obtain ⟨r0, g, rfl⟩ := get i r hi
    simp only [List.getElem?_map, Option.map_eq_some_iff] at hj
    obtain ⟨c0, hj, rfl⟩ := hj
    obtain ⟨v, g1, g2, g3⟩ := h5 i r0 j c0 g hj
    have hil : i < rows.length := (List.getElem?_eq_some_iff.1 g).1
    have hjl : j < sz := by have := (List.getElem?_eq_some_iff.1 hj).1; have := h3 i r0 g; omega
    have hm : (i + 1) * sz ≤ cap * sz := Nat.mul_le_mul_right _ (by omega)
    rw [Nat.add_mul] at hm
    refine ⟨v, ?_, g2, g3.dg hI hw hl⟩
    rw [Nat.add_assoc] at g1 ⊢
    exact hb b o cap _ v h1 (by omega) g1

/-- The owner 'l' is another one from here on. -/
theorem Inv.owner (h : Inv F e σ I β lam a w) (l : Nat) (hσl : σ l = none) {I' : Nat → Nat → Prop} {w' : World} {q : Option Addr × Nat × Nat × Nat}
    (hb : Below F.w0.heap.size w w') (hI : ∀ b o, I b o → I' b o) (hI2 : ∀ b o, I' b o → I b o ∨ (F.w0.heap.size ≤ b ∧ b < w'.heap.size ∧ ∀ k, β k ≠ some b))
    (hw : ∀ b o v, I b o → w.cell? ⟨b, o, none⟩ = some v → w'.cell? ⟨b, o, none⟩ = some v) (hβ : ∀ k b, β k = some b → w'.heap[b]? = w.heap[b]?)
    (hs : ∀ c, q.2.1 * q.2.2.2 ≤ c → c < q.2.2.1 * q.2.2.2 → ∃ b o, q.1 = some ⟨b, o, none⟩ ∧ F.w0.heap.size ≤ b ∧ (∃ v, w'.cell? ⟨b, o + c, none⟩ = some v) ∧
      w'.frozen? ⟨b, o + c, none⟩ = false ∧ ¬ I' b (o + c) ∧ ∀ k, β k ≠ some b)
    (ho : ∀ l' av len cap sz, l' ≠ l → lam l' = some (av, len, cap, sz) → ∀ c, len * sz ≤ c → c < cap * sz → ∀ b o, av = some ⟨b, o, none⟩ →
      w'.heap[b]? = w.heap[b]? ∧ (∀ p, I' b p → I b p) ∧ ∀ o', q.1 = some ⟨b, o', none⟩ → ¬ q.2.1 * q.2.2.2 < q.2.2.1 * q.2.2.2) :
    Inv F (fun t => (e t).map (dg l)) (fun k => (σ k).map (dgE l)) I' β (fun l' => if l' = l then some q else lam l') a w' := by
  have hl : ∀ l', l' ≠ l → (if l' = l then some q else lam l') = lam l' := fun l' h => by rw [if_neg h]
  exact
    { defers := h.defers
      size := h.size
      below := h.below.trans hb
      env := fun t x ht => by
        simp only [Option.map_eq_some_iff] at ht
        obtain ⟨x', ht, rfl⟩ := ht
        obtain ⟨v, h1, h2⟩ := h.env t x' ht
        exact ⟨v, h1, h2.dg hI hw hl⟩
      sto := fun k en hk hu => by
        simp only [Option.map_eq_some_iff] at hk
        obtain ⟨en', hk, rfl⟩ := hk
        rw [dgE_isU] at hu
        obtain ⟨b, hb', hE⟩ := h.sto k en' hk hu
        exact ⟨b, hb', hE.dg hI hw hl (hβ k b hb')⟩
      usto := fun k sz rows hk => by
        simp only [Option.map_eq_some_iff] at hk
        obtain ⟨en', hk, he⟩ := hk
        cases en' with
        | uarr sz' rows' =>
          simp only [dgE, Entry.uarr.injEq] at he
          obtain ⟨rfl, rfl⟩ := he
          have hne : k ≠ l := fun e => by rw [e, hσl] at hk; cases hk
          refine (h.usto k _ _ hk).dg hne hI hw hl (fun b o cap p v hl' hp hv => ?_)
          obtain ⟨g1, _⟩ := ho k _ _ _ _ hne hl' p (by omega) hp b o rfl
          simp only [World.cell?, g1]; exact hv
        | _ => cases he
      bdom := fun k b hk => by
        obtain ⟨en, hk, hu⟩ := h.bdom k b hk
        exact ⟨dgE l en, by rw [hk]; rfl, by rw [dgE_isU]; exact hu⟩
      binj := h.binj
      bnew := fun k b hk => ⟨(h.bnew k b hk).1, Nat.lt_of_lt_of_le (h.bnew k b hk).2.1 hb.size, fun o hi => by
        rcases hI2 b o hi with hi | hi
        · exact (h.bnew k b hk).2.2 o hi
        · exact hi.2.2 k hk⟩
      Isub := fun b o hi => by
        rcases hI2 b o hi with hi | hi
        · exact Nat.lt_of_lt_of_le (h.Isub b o hi) hb.size
        · exact hi.2.1
      I0sub := fun b o hi => hI _ _ (h.I0sub b o hi)
      Inew := fun b o hi => by
        rcases hI2 b o hi with hi | hi
        · exact h.Inew b o hi
        · exact .inr hi.1
      spare := fun l' av len cap sz hl' c h1 h2 => by
        by_cases el : l' = l
        · rw [if_pos el] at hl'
          simp only [Option.some.injEq] at hl'
          subst hl'
          exact hs c h1 h2
        · rw [if_neg el] at hl'
          obtain ⟨b, o, e1, e2, ⟨v, e3⟩, e4, e5, e6⟩ := h.spare l' av len cap sz hl' c h1 h2
          obtain ⟨g1, g2, _⟩ := ho l' av len cap sz el hl' c h1 h2 b o e1
          exact ⟨b, o, e1, e2, ⟨v, by simp only [World.cell?, g1]; exact e3⟩, by simp only [World.frozen?, g1]; exact e4, fun hi => e5 (g2 _ hi), e6⟩
      ldis := fun l1 l2 b o o' len len' cap cap' sz sz' hne h1 h2 h3 h4 => by
        by_cases e1 : l1 = l
        · rw [if_pos e1] at h1
          simp only [Option.some.injEq] at h1
          subst h1
          by_cases e2 : l2 = l
          · exact hne (e1.trans e2.symm)
          · rw [if_neg e2] at h2
            exact (ho l2 _ len' cap' sz' e2 h2 (len' * sz') (Nat.le_refl _) h4 b o' rfl).2.2 o rfl h3
        · rw [if_neg e1] at h1
          by_cases e2 : l2 = l
          · rw [if_pos e2] at h2
            simp only [Option.some.injEq] at h2
            subst h2
            exact (ho l1 _ len cap sz e1 h1 (len * sz) (Nat.le_refl _) h3 b o rfl).2.2 o' rfl h4
          · rw [if_neg e2] at h2
            exact h.ldis l1 l2 b o o' len len' cap cap' sz sz' hne h1 h2 h3 h4 }

/-! ### what is appended -/

theorem rows_flat {sz : Nat} {rows : List (List AV)} {b q : Nat} (hrow : ∀ (i : Nat) (r : List AV), rows[i]? = some r → r.length = sz)
    (hc : ∀ (i : Nat) (r : List AV) j c, rows[i]? = some r → r[j]? = some c → ∃ u, w.cell? ⟨b, q + i * sz + j, none⟩ = some u ∧ single u = true ∧ R0 I w c u) (h0 : 0 < sz) :
    ∃ news : List Value, news.length = rows.length * sz ∧ (∀ j u, news[j]? = some u → w.cell? ⟨b, q + j, none⟩ = some u) ∧ (∀ u ∈ news, u.oneCell' = true) ∧ RowsIn I w sz rows news.toArray := by
  have key : ∀ m, m < rows.length * sz → ∃ u, w.cell? ⟨b, q + m, none⟩ = some u ∧ single u = true := by
    intro m hm
    have hi : m / sz < rows.length := (Nat.div_lt_iff_lt_mul h0).2 hm
    have hj : m % sz < sz := Nat.mod_lt _ h0
    have hr : rows[m / sz]? = some rows[m / sz] := List.getElem?_eq_getElem hi
    have hlen := hrow _ _ hr
    have hj' : m % sz < rows[m / sz].length := by omega
    obtain ⟨u, h1, h2, _⟩ := hc _ _ (m % sz) rows[m / sz][m % sz] hr (List.getElem?_eq_getElem hj')
    refine ⟨u, ?_, h2⟩
    rw [← h1]
    congr 2
    have := Nat.div_add_mod m sz
    rw [Nat.mul_comm] at this
    omega
  refine ⟨(List.range (rows.length * sz)).map fun m => (w.cell? ⟨b, q + m, none⟩).getD undef, by simp, fun j u hj => ?_, fun u hu => ?_, by simp, hrow, fun i r j c hi hj => ?_⟩
  · simp only [List.getElem?_map, Option.map_eq_some_iff] at hj
    obtain ⟨m, hm, rfl⟩ := hj
    have hlt : j < rows.length * sz := by
      have := (List.getElem?_eq_some_iff.1 hm).1
      simpa using this
    have : m = j := by
      rw [List.getElem?_range hlt] at hm
      exact (Option.some.inj hm).symm
    subst this
    obtain ⟨u, h1, _⟩ := key m hlt
    simp [h1]
  · simp only [List.mem_map, List.mem_range] at hu
    obtain ⟨m, hm, rfl⟩ := hu
    obtain ⟨u, h1, h2⟩ := key m hm
    simpa [h1] using h2
  · obtain ⟨u, h1, h2, h3⟩ := hc i r j c hi hj
    have hir : i < rows.length := (List.getElem?_eq_some_iff.1 hi).1
    have hjr : j < sz := by
      have := (List.getElem?_eq_some_iff.1 hj).1
      have := hrow i r hi
      omega
    have h4 : (i + 1) * sz ≤ rows.length * sz := Nat.mul_le_mul_right _ hir
    rw [Nat.add_mul] at h4
    have e : ((List.range (rows.length * sz)).map fun m => (w.cell? ⟨b, q + m, none⟩).getD undef).toArray.getD (i * sz + j) undef = u := by
      have hlt : i * sz + j < rows.length * sz := by omega
      rw [Nat.add_assoc] at h1
      simp [hlt, h1]
    rw [e]
    exact ⟨h3, h2⟩

theorem rows_nil {sz : Nat} : RowsIn I w sz [] #[] := ⟨by simp, by simp, by simp⟩

theorem src_nil {sz : Nat} {tx : TypeId} {av : Option Addr} {cap : Nat} (hk : (∃ e', P.underlying tx = some (.slice e')) ∨ P.underlying tx = some .string) : Src P sz tx (.slice av 0 cap) 0 [] w := by
  refine ⟨hk, fun _ => rfl, ?_, ?_, by simp, by simp⟩
  · cases av with
    | none => exact run_firstCells_none w sz 0 0 cap
    | some a => exact run_firstCells_some w sz 0 a 0 cap [] (by simp) (by simp)
  · cases av with
    | none => exact run_firstCells_none w.drew sz 0 0 cap
    | some a => exact run_firstCells_some w.drew sz 0 a 0 cap [] (by simp) (by simp)

theorem add_src {sz : Nat} {tx : TypeId} {X : AV} {v : Value} {kk : List (List AV) → Prop} (hk : (∃ e', P.underlying tx = some (.slice e')) ∨ P.underlying tx = some .string)
    (h0 : ∀ rows, kk rows → 0 < sz) (hσ : ∀ k en b, σ k = some en → β k = some b → RE I w β lam b en) (hυ : ∀ l sz rows, σ l = some (.uarr sz rows) → RU I w β lam l sz rows) (hX : R I w β lam X v) (h : addRows σ sz X kk) :
    ∃ rows news, kk rows ∧ Src P sz tx v rows.length news w ∧ RowsIn I w sz rows news.toArray := by
  have cells : ∀ {rows : List (List AV)} {b q cap : Nat}, 0 < sz → (∀ (i : Nat) (r : List AV), rows[i]? = some r → r.length = sz) →
      (∀ (i : Nat) (r : List AV) j c, rows[i]? = some r → r[j]? = some c → ∃ u, w.cell? ⟨b, q + i * sz + j, none⟩ = some u ∧ single u = true ∧ R0 I w c u) →
      ∃ news, Src P sz tx (.slice (some ⟨b, q, none⟩) rows.length cap) rows.length news w ∧ RowsIn I w sz rows news.toArray := by
    intro rows b q cap hz hrow hc
    obtain ⟨news, n1, n2, n3, n4⟩ := rows_flat hrow hc hz
    refine ⟨news, ⟨hk, fun _ => rfl, ?_, ?_, n1, n3⟩, n4⟩
    · exact run_firstCells_some w sz _ _ _ _ news n1 (fun j u hj => by rw [addr_add]; exact n2 j u hj)
    · exact run_firstCells_some w.drew sz _ _ _ _ news n1 (fun j u hj => by rw [addr_add]; exact n2 j u hj)
  unfold addRows at h
  split at h
  · rename_i sz' m rows
    obtain ⟨hs, h⟩ := h
    obtain ⟨av, cap, rfl, hcap, _, hne⟩ := hX.list_inv
    by_cases hr : rows = []
    · subst hr
      exact ⟨[], [], h, src_nil hk, rows_nil⟩
    · obtain ⟨b, q, rfl, hrow, hc⟩ := hne hr
      have hs' := hs.resolve_left hr
      subst hs'
      obtain ⟨news, n1, n2⟩ := cells (cap := cap) (h0 _ h) hrow (fun i r j c hi hj => (hc i r j c hi hj).imp fun u hu => ⟨hu.2.1, hu.2.2.1, hu.2.2.2⟩)
      exact ⟨rows, news, h, n1, n2⟩
  · rename_i j sz' off len
    obtain ⟨rfl, h⟩ := h
    split at h
    · rename_i sz'' rows hs
      obtain ⟨rfl, hle, h⟩ := h
      obtain ⟨b, cap, av, hb, rfl, hcap, hav⟩ := hX.sl_inv
      have hE := hσ _ _ _ hs hb
      have hlen : ((rows.drop off).take len).length = len := by simp; omega
      by_cases hz : len = 0
      · have hnil : (rows.drop off).take len = [] := List.eq_nil_of_length_eq_zero (by omega)
        rw [hnil] at h
        rw [hz]
        exact ⟨[], [], h, src_nil hk, rows_nil⟩
      · have hav' := hav hz
        subst hav'
        have hget : ∀ (i : Nat) (r : List AV), ((rows.drop off).take len)[i]? = some r → rows[off + i]? = some r := by
          intro i r hi
          rw [List.getElem?_take] at hi
          split at hi
          · rw [List.getElem?_drop] at hi; exact hi
          · cases hi
        obtain ⟨news, n1, n2⟩ := cells (cap := cap) (b := b) (q := off * sz'') (rows := (rows.drop off).take len) (h0 _ h) (fun i r hi => hE.1 _ _ (hget i r hi)) (fun i r j' c hi hj => by
          obtain ⟨u, e1, _, e3, e4⟩ := hE.2 _ _ _ _ (hget i r hi) hj
          rw [Nat.add_mul] at e1
          exact ⟨u, e1, e3, e4⟩)
        rw [hlen] at n1
        exact ⟨_, news, h, by rw [hlen]; exact n1, n2⟩
    · exact h.elim
  · rename_i j sz' off len
    obtain ⟨rfl, h⟩ := h
    split at h
    · rename_i sz'' rows hs
      obtain ⟨rfl, hle, hrf, h⟩ := h
      obtain ⟨cap, cp, av0, av, hl, rfl, hlc, hoc, hav⟩ := hX.us_inv
      have hU := hυ _ _ _ hs
      have hlen : (rowsSt ((rows.drop off).take len)).length = len := by simp [rowsSt]; omega
      by_cases hz : len = 0
      · have hnil : rowsSt ((rows.drop off).take len) = [] := List.eq_nil_of_length_eq_zero (by omega)
        rw [hnil] at h
        rw [hz]
        exact ⟨[], [], h, src_nil hk, rows_nil⟩
      · obtain ⟨b, q, rfl, rfl⟩ := hav (by omega)
        have hget : ∀ (i : Nat) (r : List AV), (rowsSt ((rows.drop off).take len))[i]? = some r → ∃ r0, rows[off + i]? = some r0 ∧ r = r0.map strip ∧ r0.all rf = true := by
          intro i r hi
          simp only [rowsSt, List.getElem?_map, Option.map_eq_some_iff] at hi
          obtain ⟨r0, hi, rfl⟩ := hi
          have hm := List.all_eq_true.1 hrf r0 (List.mem_iff_getElem?.2 ⟨i, hi⟩)
          rw [List.getElem?_take] at hi
          split at hi
          · rw [List.getElem?_drop] at hi; exact ⟨r0, hi, rfl, hm⟩
          · cases hi
        obtain ⟨news, n1, n2⟩ := cells (cap := cp) (b := b) (q := q + off * sz'') (rows := rowsSt ((rows.drop off).take len)) (h0 _ h) (fun i r hi => by
          obtain ⟨r0, g1, rfl, _⟩ := hget i r hi
          rw [List.length_map]
          exact (hU.row hl g1).1) (fun i r j' c hi hj => by
          obtain ⟨r0, g1, rfl, g3⟩ := hget i r hi
          simp only [List.getElem?_map, Option.map_eq_some_iff] at hj
          obtain ⟨c0, hj, rfl⟩ := hj
          obtain ⟨u, e1, e3, e4⟩ := (hU.row hl g1).2 j' c0 hj
          have hr := List.all_eq_true.1 g3 c0 (List.mem_iff_getElem?.2 ⟨j', hj⟩)
          rw [Nat.add_mul, ← Nat.add_assoc] at e1
          exact ⟨u, e1, e3, e4.to0 hr⟩)
        rw [hlen] at n1
        exact ⟨_, news, h, by rw [hlen]; exact n1, n2⟩
    · exact h.elim
  · rename_i s
    obtain ⟨rfl, h⟩ := h
    have hv := hX.val_eq
    subst hv
    have hl : (s.data.toList.map fun x => [AV.val (.int .u8 x.toNat)]).length = s.size := by
      rw [List.length_map, Array.length_toList]; rfl
    refine ⟨_, byteCells s, h, ⟨hk, fun _ => by rw [hl]; rfl, by rw [hl]; exact firstCells_string s w, by rw [hl]; exact firstCells_string s w.drew, by rw [hl, byteCells_length, Nat.mul_one], fun u hu => ?_⟩, ?_⟩
    · obtain ⟨_, _, rfl⟩ := List.mem_map.1 hu
      rfl
    · refine ⟨by rw [hl]; simp [byteCells_length], fun i r hi => ?_, fun i r j c hi hj => ?_⟩
      · simp only [List.getElem?_map, Option.map_eq_some_iff] at hi
        obtain ⟨u, _, rfl⟩ := hi
        rfl
      · simp only [List.getElem?_map, Option.map_eq_some_iff] at hi
        obtain ⟨u, hu, rfl⟩ := hi
        cases j with
        | zero =>
          simp at hj
          subst hj
          have e : (byteCells s).toArray.getD (i * 1 + 0) undef = .int .u8 u.toNat := by
            simp at hu
            simp [byteCells, hu]
          rw [e]
          exact ⟨.val _, rfl⟩
        | succ j => simp at hj
  · exact h.elim

end
end Go.Am
