/-
  The abstract machine, part 17: dropping, freezing, one operation after the other.
-/
import Derived.Test.YtljkjogggfdgiaaAm16
namespace Go.Am
open Go.RowKit

section
variable {P : Program} {F : Frame0} {e : Nat × Nat → Option AV} {σ : Nat → Option Entry} {I : Nat → Nat → Prop} {w : World} {β : Blocks} {lam : Owned} {a : Act} {o : Oper}
  {Q : Exit → Act → World → Prop}

/-- The blocks without those of 'D'. -/
def without (β : Blocks) (D : List Nat) : Blocks := fun k => if D.elem k = true then none else β k
/-- The owners without those of 'D'. -/
def cutO (lam : Owned) (u : Bool) (D : List Nat) : Owned := fun l => if (u && D.elem l) = true then none else lam l

theorem without_le {D : List Nat} {k b : Nat} (h : without β D k = some b) : β k = some b ∧ D.elem k = false := by
  unfold without at h
  split at h
  · cases h
  · rename_i hn; exact ⟨h, by simpa using hn⟩

theorem cutO_le {D : List Nat} {u : Bool} {l : Nat} {q : Option Addr × Nat × Nat × Nat} (h : cutO lam u D l = some q) : lam l = some q ∧ (u && D.elem l) = false := by
  unfold cutO at h
  split at h
  · cases h
  · rename_i hn; exact ⟨h, by simpa using hn⟩

theorem cutO_false {D : List Nat} : cutO lam false D = lam := by funext l; simp [cutO]

theorem R.unmet {D : List Nat} {u : Bool} {I' : Nat → Nat → Prop} (hI : ∀ b o, I b o → I' b o) {x : AV} {v : Value} (h : R I w β lam x v) (hx : ∀ k, D.elem k = true → refsTo k x = false)
    (ho : u = true → ∀ sz l rows, x = .list sz (.own l) rows → D.elem l = false) : R I' w (without β D) (cutO lam u D) x v := by
  have keep : ∀ {k b : Nat}, β k = some b → D.elem k = false → without β D k = some b := fun {k b} h1 h2 => by
    unfold without; rw [if_neg (by rw [h2]; simp)]; exact h1
  have keepO : ∀ {k : Nat} {q : Option Addr × Nat × Nat × Nat}, lam k = some q → (u = true → D.elem k = false) → cutO lam u D k = some q := fun {k q} h1 h2 => by
    unfold cutO
    rw [if_neg]
    · exact h1
    · intro h
      simp only [Bool.and_eq_true] at h
      have := h2 h.1
      rw [h.2] at this; cases this
  have hD : ∀ k, (D.elem k = true → (k == k) = false) → D.elem k = false := fun k h => by
    cases hk : D.elem k with
    | false => rfl
    | true => have := h hk; simp at this
  have sub : ∀ (cs : List AV) (hn : ∀ sz l rows, AV.list sz (.own l) rows ∉ cs) (hx : ∀ k, D.elem k = true → cs.any (ref1To k) = false) (i : Nat) (c : AV) (hi : cs[i]? = some c),
      (∀ k, D.elem k = true → refsTo k c = false) ∧ ∀ sz l rows, c = .list sz (.own l) rows → D.elem l = false := by
    intro cs hn hx i c hi
    have hm : c ∈ cs := List.mem_iff_getElem?.2 ⟨i, hi⟩
    refine ⟨fun k hk => ?_, fun sz l rows e => absurd (e ▸ hm) (hn sz l rows)⟩
    have := List.any_eq_false.1 (hx k hk) c hm
    cases c <;> first | rfl | (simp [ref1To] at this; done) | (simp only [refsTo]; simp only [ref1To] at this; simpa using this)
  induction h with
  | base h => exact .base (h.mono hI (fun _ _ _ _ h => h))
  | ptr k off b h => exact .ptr k off b (keep h (hD k fun hk => by simpa [refsTo] using hx k hk))
  | eptr k sz i off b h => exact .eptr k sz i off b (keep h (hD k fun hk => by simpa [refsTo] using hx k hk))
  | sl k sz off len cap b av h hc ha => exact .sl k sz off len cap b av (keep h (hD k fun hk => by simpa [refsTo] using hx k hk)) hc ha
  | own sz l rows a cap h hl => exact .own sz l rows a cap (h.mono hI (fun _ _ _ _ h => h)) (keepO hl fun hu => ho hu _ _ _ rfl)
  | us l sz off len cap cp a av h hc hoff ha => exact .us l sz off len cap cp a av (keepO h fun _ => hD l fun hk => by simpa [refsTo] using hx l hk) hc hoff ha
  | up l sz i off cap b o h => exact .up l sz i off cap b o (keepO h fun _ => hD l fun hk => by simpa [refsTo] using hx l hk)
  | fn f caps vs hs hn hc ih =>
    refine .fn f caps vs hs hn fun i c hi => ?_
    obtain ⟨h1, h2⟩ := sub caps hn hx i c hi
    exact ih i c hi h1 (fun _ => h2)
  | tuple cells vs hs hn hc ih =>
    refine .tuple cells vs hs hn fun i c hi => ?_
    obtain ⟨h1, h2⟩ := sub cells hn hx i c hi
    exact ih i c hi h1 (fun _ => h2)

/-- Some variables are forgotten; some cells may be looked at by all from here on. -/
theorem Inv.forget (h : Inv F e σ I β lam a w) {e' : Nat × Nat → Option AV} {σ' : Nat → Option Entry} {I' : Nat → Nat → Prop} {β' : Blocks} {lam' : Owned} (X : Nat → Nat → Prop)
    (hI' : I' = fun b o => I b o ∨ X b o)
    (hβ : ∀ k b, β' k = some b → β k = some b)
    (hl : ∀ l q, lam' l = some q → lam l = some q)
    (hX : ∀ b o, X b o → F.w0.heap.size ≤ b ∧ b < w.heap.size ∧ (∀ k, β' k ≠ some b) ∧ ∀ l o' len cap sz c, lam' l = some (some ⟨b, o', none⟩, len, cap, sz) → o = o' + c → len * sz ≤ c → c < cap * sz → False)
    (he : ∀ t x, e' t = some x → ∃ v, F.val a t = some v ∧ R I' w β' lam' x v)
    (hs : ∀ k en, σ' k = some en → en.isU = false → ∃ b, β' k = some b ∧ RE I' w β' lam' b en)
    (hu : ∀ l sz rows, σ' l = some (.uarr sz rows) → RU I' w β' lam' l sz rows)
    (hd : ∀ k b, β' k = some b → ∃ en, σ' k = some en ∧ en.isU = false) : Inv F e' σ' I' β' lam' a w := by
  subst hI'
  exact
    { defers := h.defers
      size := h.size
      below := h.below
      env := he
      sto := hs
      usto := hu
      bdom := hd
      binj := fun k k' b h1 h2 => h.binj k k' b (hβ _ _ h1) (hβ _ _ h2)
      bnew := fun k b hk => by
        obtain ⟨g1, g2, g3⟩ := h.bnew k b (hβ _ _ hk)
        refine ⟨g1, g2, fun o hi => ?_⟩
        rcases hi with hi | hi
        · exact g3 o hi
        · exact (hX b o hi).2.2.1 k hk
      Isub := fun b o hi => by
        rcases hi with hi | hi
        · exact h.Isub b o hi
        · exact (hX b o hi).2.1
      I0sub := fun b o hi => .inl (h.I0sub b o hi)
      Inew := fun b o hi => by
        rcases hi with hi | hi
        · exact h.Inew b o hi
        · exact .inr (hX b o hi).1
      spare := fun l av len cap sz hl' c h1 h2 => by
        obtain ⟨b, o, e1, e2, e3, e4, e5, e6⟩ := h.spare l av len cap sz (hl _ _ hl') c h1 h2
        refine ⟨b, o, e1, e2, e3, e4, ?_, fun k hk => e6 k (hβ _ _ hk)⟩
        rintro (hi | hi)
        · exact e5 hi
        · subst e1
          exact (hX b _ hi).2.2.2 l o len cap sz c hl' rfl h1 h2
      ldis := fun l l' b o o' len len' cap cap' sz sz' hne h1 h2 => h.ldis l l' b o o' len len' cap cap' sz sz' hne (hl _ _ h1) (hl _ _ h2) }

theorem holds_drop {s : St} {D : List Nat} (h : Holds F s a w) : Holds F (s.drop D) a w := by
  obtain ⟨I, β, lam, h⟩ := h
  refine ⟨I, β, lam, h.env_sub fun t x ht => ?_⟩
  obtain ⟨f, t⟩ := t
  cases f with
  | zero =>
    simp only [St.drop, St.look] at ht ⊢
    rw [lk_del] at ht
    split at ht
    · cases ht
    · exact ht
  | succ f => exact ht

/-- A slot of any frame that is looked at. -/
theorem look_mem {s : St} {t : Nat × Nat} {x : AV} (h : s.look t = some x) : (∃ n, (n, x) ∈ s.env) ∨ ∃ f ∈ s.out, ∃ n, (n, x) ∈ f := by
  obtain ⟨f, t⟩ := t
  cases f with
  | zero => exact .inl ⟨t, lk_mem h⟩
  | succ f =>
    simp only [St.look, Option.bind_eq_some_iff] at h
    obtain ⟨g, hg, ht⟩ := h
    exact .inr ⟨g, List.mem_iff_getElem?.2 ⟨f, hg⟩, t, lk_mem ht⟩

theorem unmet_look {s : St} {k : Nat} (h : s.unmet k = true) {t : Nat × Nat} {x : AV} (hx : s.look t = some x) : refsTo k x = false := by
  simp only [St.unmet, Bool.and_eq_true] at h
  rcases look_mem hx with ⟨n, hm⟩ | ⟨f, hf, n, hm⟩
  · exact noRef_true h.1.1 _ hm
  · exact noRef_true (noRefO_true h.2 f hf) _ hm

theorem unmet_sto {s : St} {k : Nat} (h : s.unmet k = true) {j : Nat} {en : Entry} (hx : lk s.sto j = some en) : refsToE k en = false := by
  simp only [St.unmet, Bool.and_eq_true] at h
  exact noRefS_true h.1.2 _ (lk_mem hx)

theorem RE.unmet {D : List Nat} {b : Nat} {en : Entry} {I' : Nat → Nat → Prop} (hI : ∀ b o, I b o → I' b o) (h : RE I w β lam b en) (hx : ∀ k, D.elem k = true → refsToE k en = false) : RE I' w (without β D) lam b en := by
  cases en with
  | var cells =>
    intro j c hj
    obtain ⟨v, g1, g2, g3, g4⟩ := h j c hj
    have := g4.unmet (u := false) (D := D) hI (fun k hk => anyRef_false (hx k hk) c (List.mem_iff_getElem?.2 ⟨j, hj⟩)) (by intro h; cases h)
    rw [cutO_false] at this
    exact ⟨v, g1, g2, g3, this⟩
  | arr sz rows =>
    refine ⟨h.1, fun i r j c hi hj => ?_⟩
    obtain ⟨v, g1, g2, g3, g4⟩ := h.2 i r j c hi hj
    exact ⟨v, g1, g2, g3, g4.mono hI (fun _ _ _ _ h => h)⟩
  | uarr sz rows => exact h

theorem RU.unmet {D : List Nat} {l sz : Nat} {rows : List (List AV)} {I' : Nat → Nat → Prop} (hI : ∀ b o, I b o → I' b o) (h : RU I w β lam l sz rows) (hx : ∀ k, D.elem k = true → anyRefR k rows = false) : RU I' w (without β D) lam l sz rows := by
  obtain ⟨a, cap, h1, h2, h3, h4⟩ := h
  refine ⟨a, cap, h1, h2, h3, fun hn => ?_⟩
  obtain ⟨b, o, e, h5⟩ := h4 hn
  refine ⟨b, o, e, fun i r j c hi hj => ?_⟩
  obtain ⟨v, g1, g2, g3⟩ := h5 i r j c hi hj
  have := g3.unmet (u := false) (D := D) hI (fun k hk => anyRef_false (anyRefR_false (hx k hk) r (List.mem_iff_getElem?.2 ⟨i, hi⟩)) c (List.mem_iff_getElem?.2 ⟨j, hj⟩)) (by intro h; cases h)
  rw [cutO_false] at this
  exact ⟨v, g1, g2, this⟩

theorem isUO_eq {en : Entry} : isUO (some en) = en.isU := rfl

theorem holds_dropK {s : St} {D : List Nat} {K : St → Prop} (h : Holds F s a w) (hd : dropK s D K) : ∃ s', K s' ∧ Holds F s' a w := by
  obtain ⟨hu, hK⟩ := hd
  obtain ⟨I, β, lam, h⟩ := h
  obtain ⟨N, hN⟩ : ∃ N, s.nm D = N := ⟨_, rfl⟩
  rw [hN] at hu hK
  obtain ⟨D', hD'⟩ : ∃ D', N.filter (fun k => !isUO (lk s.sto k)) = D' := ⟨_, rfl⟩
  have mem : ∀ k, D'.elem k = true ↔ N.elem k = true ∧ isUO (lk s.sto k) = false := fun k => by
    subst hD'
    simp
  have un : ∀ k, D'.elem k = true → St.unmet { s with sto := del N s.sto } k = true := fun k hk => by
    obtain ⟨h1, h2⟩ := (mem k).1 hk
    exact unmetD_true hu k (by simpa using h1) h2
  have inv : ∀ {k : Nat} {en : Entry}, lk (del N s.sto) k = some en → lk s.sto k = some en ∧ N.elem k = false := fun {k en} hk => by
    rw [lk_del] at hk
    split at hk
    · cases hk
    · rename_i hn; exact ⟨hk, by simpa using hn⟩
  have hI : ∀ b o, I b o → I b o ∨ ∃ k, D'.elem k = true ∧ β k = some b := fun b o hi => .inl hi
  refine ⟨_, hK, _, without β D', lam, h.forget (fun b _ => ∃ k, D'.elem k = true ∧ β k = some b) rfl (fun k b hk => (without_le hk).1) (fun l q h => h) ?_ (fun t x ht => ?_) (fun k en hk hU => ?_) (fun l sz rows hk => ?_) (fun k b hk => ?_)⟩
  · rintro b o ⟨k, hk, hb⟩
    obtain ⟨g1, g2, g3⟩ := h.bnew k b hb
    refine ⟨g1, g2, fun k' hk' => ?_, fun l o' len cap sz c hl _ h1 h2 => ?_⟩
    · obtain ⟨q1, q2⟩ := without_le hk'
      have := h.binj k k' b hb q1
      subst this
      rw [q2] at hk; cases hk
    · obtain ⟨b', o'', e1, _, _, _, _, e6⟩ := h.spare l _ len cap sz hl c h1 h2
      simp only [Option.some.injEq, Addr.mk.injEq] at e1
      obtain ⟨rfl, _⟩ := e1
      exact e6 k hb
  · rw [look_sto] at ht
    obtain ⟨v, h1, h2⟩ := h.env t x ht
    have := h2.unmet (u := false) (D := D') hI (fun k hk => unmet_look (un k hk) (t := t) (by rw [look_sto]; exact ht)) (by intro h; cases h)
    rw [cutO_false] at this
    exact ⟨v, h1, this⟩
  · obtain ⟨h1, h2⟩ := inv hk
    obtain ⟨b, hb, hE⟩ := h.sto k en h1 hU
    refine ⟨b, ?_, hE.unmet hI fun j hj => unmet_sto (un j hj) hk⟩
    unfold without
    rw [if_neg]
    · exact hb
    · intro hk'
      have := ((mem k).1 hk').1
      rw [h2] at this; cases this
  · obtain ⟨h1, h2⟩ := inv hk
    exact (h.usto l sz rows h1).unmet hI fun j hj => by simpa [refsToE] using unmet_sto (un j hj) hk
  · obtain ⟨h1, h2⟩ := without_le hk
    obtain ⟨en, hen, hU⟩ := h.bdom k b h1
    refine ⟨en, ?_, hU⟩
    have : N.elem k = false := by
      cases hN : N.elem k with
      | false => rfl
      | true =>
        have := (mem k).2 ⟨hN, by rw [hen]; exact hU⟩
        rw [h2] at this; cases this
    simp only
    rw [lk_del, if_neg (by rw [this]; simp)]
    exact hen

/-- What the frozen variable 'k' shows. -/
structure Frozen (I I' : Nat → Nat → Prop) (w : World) (β : Blocks) (lam : Owned) (k : Nat) (en : Entry) : Prop where
  sub : ∀ b o, I b o → I' b o
  var : en.isU = false → ∃ b, β k = some b ∧ RE I w β lam b en ∧ ∀ o, I' b o
  arr : ∀ sz rows, en = .uarr sz rows → RU I w β lam k sz rows ∧ ∀ b o cap q, lam k = some (some ⟨b, o, none⟩, 0, cap, sz) → q < cap * sz → I' b (o + q)

/-- What led to the variable 'k' leads to cells that nobody writes any more. -/
theorem frz_R {k : Nat} {en : Entry} {I' : Nat → Nat → Prop} (hF : Frozen I I' w β lam k en) {x : AV} {v : Value} (h : R I w β lam x v) (hu : refsTo k (frz k en x) = false) :
    R I' w (without β [k]) (cutO lam en.isU [k]) (frz k en x) v := by
  have plain : (∀ sz l rows, x = .list sz (.own l) rows → en.isU = true → l ≠ k) → frz k en x = x → R I' w (without β [k]) (cutO lam en.isU [k]) (frz k en x) v := by
    intro ho e
    rw [e] at hu ⊢
    refine h.unmet hF.sub (fun j hj => ?_) (fun hU sz l rows hx => ?_)
    · have : j = k := by simpa using hj
      subst this; exact hu
    · have := ho sz l rows hx hU
      simpa using this
  cases x with
  | sl j sz off len =>
    by_cases hjk : j = k
    · subst hjk
      simp only [frz, if_true] at hu ⊢
      split
      · rename_i sz' rows
        split
        · rename_i hc
          obtain ⟨rfl, hle⟩ := hc
          obtain ⟨b, hb, hE, hk⟩ := hF.var rfl
          obtain ⟨b', cap, av, hb', rfl, hcap, hav⟩ := h.sl_inv
          rw [hb] at hb'; cases hb'
          have hlen : ((rows.drop off).take len).length = len := by simp; omega
          by_cases hz : len = 0
          · have hnil : (rows.drop off).take len = [] := List.eq_nil_of_length_eq_zero (by omega)
            rw [hnil, hz]
            exact .base (.listNil _ _ _ _ (by simp) (by simp))
          · rw [hav hz]
            have hget : ∀ (i : Nat) (r : List AV), ((rows.drop off).take len)[i]? = some r → rows[off + i]? = some r := by
              intro i r hi
              rw [List.getElem?_take] at hi
              split at hi
              · rw [List.getElem?_drop] at hi; exact hi
              · cases hi
            have := R0.mk_list (I := I') (w := w) (sz := sz') (m := .plain) (rows := (rows.drop off).take len) (b := b) (q := off * sz') (cap := cap) (by omega) (by simp) (by simp)
              (fun i r hi => hE.1 _ _ (hget i r hi)) (fun i r j' c hi hj => by
                obtain ⟨u, h1, _, h3, h4⟩ := hE.2 _ _ _ _ (hget i r hi) hj
                rw [Nat.add_mul] at h1
                exact ⟨u, hk _, h1, h3, h4.mono hF.sub (fun _ _ _ _ h => h)⟩)
            rw [hlen] at this
            exact .base this
        · exact R_undef _
      · exact R_undef _
    · exact plain (by simp) (by simp [frz, hjk])
  | ptr j off =>
    by_cases hjk : j = k
    · subst hjk
      simp only [frz, if_true] at hu ⊢
      split
      · rename_i cells
        split
        · rename_i hall
          obtain ⟨b, hb, hE, hk⟩ := hF.var rfl
          obtain ⟨b', hb', rfl⟩ := h.ptr_inv
          rw [hb] at hb'; cases hb'
          refine .base (ro_of fun j' c hj => ?_)
          simp only [List.getElem?_map, Option.map_eq_some_iff] at hj
          obtain ⟨c', hj, rfl⟩ := hj
          have hr : rf c' = true := List.all_eq_true.1 hall _ (List.mem_iff_getElem?.2 ⟨j', hj⟩)
          rw [List.getElem?_drop] at hj
          obtain ⟨u, h1, _, h3, h4⟩ := hE _ _ hj
          exact ⟨u, hk _, h1, h3, (h4.to0 hr).mono hF.sub (fun _ _ _ _ h => h)⟩
        · exact R_undef _
      · exact R_undef _
    · exact plain (by simp) (by simp [frz, hjk])
  | eptr j sz i off =>
    by_cases hjk : j = k
    · subst hjk
      simp only [frz, if_true] at hu ⊢
      exact R_undef _
    · exact plain (by simp) (by simp [frz, hjk])
  | up j sz i off =>
    by_cases hjk : j = k
    · subst hjk
      simp only [frz, if_true] at hu ⊢
      exact R_undef _
    · exact plain (by simp) (by simp [frz, hjk])
  | us j sz off len =>
    by_cases hjk : j = k
    · subst hjk
      simp only [frz, if_true] at hu ⊢
      split
      · rename_i sz' rows
        split
        · rename_i hc
          obtain ⟨rfl, hle, hrf⟩ := hc
          obtain ⟨hU, hk⟩ := hF.arr _ _ rfl
          obtain ⟨cap, cp, a, av, hl, rfl, hcp, hoff, hav⟩ := h.us_inv
          have hlen : (rowsSt ((rows.drop off).take len)).length = len := by simp [rowsSt]; omega
          by_cases hz : len = 0
          · have hnil : rowsSt ((rows.drop off).take len) = [] := List.eq_nil_of_length_eq_zero (by omega)
            rw [hnil, hz]
            exact .base (.listNil _ _ _ _ (by simp) (by simp))
          · obtain ⟨b, o, rfl, rfl⟩ := hav (by omega)
            have hget : ∀ (i : Nat) (r : List AV), (rowsSt ((rows.drop off).take len))[i]? = some r → ∃ r0, rows[off + i]? = some r0 ∧ r = r0.map strip ∧ i < len ∧ r0.all rf = true := by
              intro i r hi
              simp only [rowsSt, List.getElem?_map, Option.map_eq_some_iff] at hi
              obtain ⟨r0, hi, rfl⟩ := hi
              have hm := List.all_eq_true.1 hrf r0 (List.mem_iff_getElem?.2 ⟨i, hi⟩)
              rw [List.getElem?_take] at hi
              split at hi
              · rw [List.getElem?_drop] at hi; exact ⟨r0, hi, rfl, by assumption, hm⟩
              · cases hi
            have := R0.mk_list (I := I') (w := w) (sz := sz') (m := .plain) (rows := rowsSt ((rows.drop off).take len)) (b := b) (q := o + off * sz') (cap := cp) (by omega) (by simp) (by simp)
              (fun i r hi => by
                obtain ⟨r0, g1, rfl, _⟩ := hget i r hi
                rw [List.length_map]
                exact (hU.row hl g1).1) (fun i r j' c hi hj => by
                obtain ⟨r0, g1, rfl, hil, hall⟩ := hget i r hi
                simp only [List.getElem?_map, Option.map_eq_some_iff] at hj
                obtain ⟨c', hj, rfl⟩ := hj
                obtain ⟨g2, g3⟩ := hU.row hl g1
                obtain ⟨u, h1, h3, h4⟩ := g3 j' c' hj
                have hjl : j' < sz' := by have := (List.getElem?_eq_some_iff.1 hj).1; omega
                have hm : (off + i + 1) * sz' ≤ cap * sz' := Nat.mul_le_mul_right _ (by omega)
                have e : o + off * sz' + i * sz' + j' = o + ((off + i) * sz' + j') := by rw [Nat.add_mul]; omega
                rw [Nat.add_mul _ 1] at hm
                refine ⟨u, ?_, ?_, h3, (h4.to0 (List.all_eq_true.1 hall _ (List.mem_iff_getElem?.2 ⟨j', hj⟩))).mono hF.sub (fun _ _ _ _ h => h)⟩
                · rw [e]; exact hk b o cap _ hl (by omega)
                · rw [e, ← Nat.add_assoc]; exact h1)
            rw [hlen] at this
            exact .base this
        · exact R_undef _
      · exact R_undef _
    · exact plain (by simp) (by simp [frz, hjk])
  | list sz m rows =>
    cases m with
    | own l =>
      by_cases hc : l = k ∧ en.isU = true
      · simp only [frz, if_pos hc]
        exact .base ((h.to0 rfl).mono hF.sub (fun _ _ _ _ h => h))
      · refine plain (fun sz' l' rows' e hU hk => ?_) (by simp only [frz, if_neg hc])
        simp only [AV.list.injEq, Mode.own.injEq] at e
        exact hc ⟨by rw [e.2.1]; exact hk, hU⟩
    | _ => exact plain (by simp) rfl
  | _ => exact plain (by simp) rfl

theorem anyRef_of {k : Nat} {l : List AV} (h : anyRef k l = false) {j : Nat} {c : AV} (hj : l[j]? = some c) : refsTo k c = false := anyRef_false h c (List.mem_iff_getElem?.2 ⟨j, hj⟩)

theorem frzE_isU {k : Nat} {en en' : Entry} : (frzE k en en').isU = en'.isU := by cases en' <;> rfl

theorem lk_delmap {k j : Nat} {en : Entry} {l : List (Nat × Entry)} {en' : Entry} (h : lk ((del [k] l).map fun p => (p.1, frzE k en p.2)) j = some en') : ∃ en0, lk l j = some en0 ∧ j ≠ k ∧ en' = frzE k en en0 := by
  rw [lk_map, lk_del] at h
  split at h
  · cases h
  · rename_i hn
    simp only [Option.map_eq_some_iff] at h
    obtain ⟨en0, h1, rfl⟩ := h
    exact ⟨en0, h1, by simpa using hn, rfl⟩

theorem holds_freeze {s : St} {k : Nat} {K : St → Prop} (h : Holds F s a w) (hf : eFreeze k s K) : ∃ s', K s' ∧ Holds F s' a w := by
  unfold eFreeze at hf
  split at hf
  · rename_i en hen
    obtain ⟨hu, hK⟩ := hf
    obtain ⟨I, β, lam, h⟩ := h
    have look : ∀ t, (St.look { s with env := s.env.map fun p => (p.1, frz k en p.2), sto := (del [k] s.sto).map fun p => (p.1, frzE k en p.2), out := s.out.map fun f => f.map fun p => (p.1, frz k en p.2) }) t = (s.look t).map (frz k en) := by
      intro t
      obtain ⟨f, t⟩ := t
      cases f with
      | zero => exact lk_map _ _ _
      | succ f =>
        simp only [St.look, List.getElem?_map]
        cases s.out[f]? with
        | none => rfl
        | some q => exact lk_map _ _ _
    have main : ∀ (X : Nat → Nat → Prop), (∀ b o, X b o → F.w0.heap.size ≤ b ∧ b < w.heap.size ∧ (∀ k', without β [k] k' ≠ some b) ∧
          ∀ l o' len cap sz c, cutO lam en.isU [k] l = some (some ⟨b, o', none⟩, len, cap, sz) → o = o' + c → len * sz ≤ c → c < cap * sz → False) →
        Frozen I (fun b o => I b o ∨ X b o) w β lam k en → ∃ s', K s' ∧ Holds F s' a w := by
      intro X hX hF
      refine ⟨_, hK, _, without β [k], cutO lam en.isU [k], h.forget X rfl (fun k b hk => (without_le hk).1) (fun l q hq => (cutO_le hq).1) hX (fun t x ht => ?_) (fun k' en' hk hU => ?_) (fun l sz rows hk => ?_) (fun k' b hk => ?_)⟩
      · have hn := unmet_look hu ht
        rw [look] at ht
        simp only [Option.map_eq_some_iff] at ht
        obtain ⟨x', ht, rfl⟩ := ht
        obtain ⟨v, h1, h2⟩ := h.env t x' ht
        exact ⟨v, h1, frz_R hF h2 hn⟩
      · have hn := unmet_sto hu hk
        obtain ⟨en0, h1, h2, rfl⟩ := lk_delmap hk
        rw [frzE_isU] at hU
        obtain ⟨b, hb, hE⟩ := h.sto k' en0 h1 hU
        refine ⟨b, by unfold without; rw [if_neg (by simpa using h2)]; exact hb, ?_⟩
        cases en0 with
        | var cells =>
          intro j c hj
          have hc := anyRef_of hn hj
          simp only [List.getElem?_map, Option.map_eq_some_iff] at hj
          obtain ⟨c', hj, rfl⟩ := hj
          obtain ⟨v, g1, g2, g3, g4⟩ := hE j c' hj
          exact ⟨v, g1, g2, g3, frz_R hF g4 hc⟩
        | arr sz rows =>
          refine ⟨hE.1, fun i r j c hi hj => ?_⟩
          obtain ⟨v, g1, g2, g3, g4⟩ := hE.2 i r j c hi hj
          exact ⟨v, g1, g2, g3, g4.mono hF.sub (fun _ _ _ _ h => h)⟩
        | uarr sz rows => cases hU
      · have hn := unmet_sto hu hk
        obtain ⟨en0, h1, h2, e⟩ := lk_delmap hk
        cases en0 with
        | var cells => cases e
        | arr sz rows => cases e
        | uarr sz0 rows0 =>
          cases e
          obtain ⟨av, cap, g1, g2, g3, g4⟩ := h.usto l _ _ h1
          refine ⟨av, cap, by unfold cutO; rw [if_neg (by simp [h2])]; exact g1, by simpa using g2, fun i r hi => ?_, fun hne => ?_⟩
          · simp only [List.getElem?_map, Option.map_eq_some_iff] at hi
            obtain ⟨r0, hi, rfl⟩ := hi
            rw [List.length_map]; exact g3 i r0 hi
          · obtain ⟨b, q, rfl, g5⟩ := g4 (by intro e; subst e; exact hne rfl)
            refine ⟨b, q, rfl, fun i r j c hi hj => ?_⟩
            have hc := anyRef_of (anyRefR_false hn r (List.mem_iff_getElem?.2 ⟨i, hi⟩)) hj
            simp only [List.getElem?_map, Option.map_eq_some_iff] at hi
            obtain ⟨r0, hi, rfl⟩ := hi
            simp only [List.getElem?_map, Option.map_eq_some_iff] at hj
            obtain ⟨c', hj, rfl⟩ := hj
            obtain ⟨v, q1, q2, q3⟩ := g5 i r0 j c' hi hj
            exact ⟨v, q1, q2, frz_R hF q3 hc⟩
      · obtain ⟨h1, h2⟩ := without_le hk
        obtain ⟨en', hen', hU⟩ := h.bdom k' b h1
        refine ⟨frzE k en en', ?_, by rw [frzE_isU]; exact hU⟩
        simp only
        rw [lk_map, lk_del, if_neg (by rw [h2]; simp), hen']
        rfl
    cases hU : en.isU with
    | false =>
      obtain ⟨b, hb, hE⟩ := h.sto k en hen hU
      refine main (fun b' _ => b' = b) ?_ ⟨fun b o hi => .inl hi, fun _ => ⟨b, hb, hE, fun o => .inr rfl⟩, fun sz rows e => by subst e; cases hU⟩
      rintro b' o rfl
      obtain ⟨g1, g2, g3⟩ := h.bnew k b' hb
      refine ⟨g1, g2, fun k' hk' => ?_, fun l o' len cap sz c hl _ h1 h2 => ?_⟩
      · obtain ⟨q1, q2⟩ := without_le hk'
        have := h.binj k k' b' hb q1
        subst this
        simp at q2
      · obtain ⟨b2, o'', e1, _, _, _, _, e6⟩ := h.spare l _ len cap sz (cutO_le hl).1 c h1 h2
        simp only [Option.some.injEq, Addr.mk.injEq] at e1
        obtain ⟨rfl, _⟩ := e1
        exact e6 k hb
    | true =>
      cases en with
      | var cells => cases hU
      | arr sz rows => cases hU
      | uarr sz rows =>
        have hR := h.usto k _ _ hen
        refine main (fun b q => ∃ o cap, lam k = some (some ⟨b, o, none⟩, 0, cap, sz) ∧ o ≤ q ∧ q < o + cap * sz) ?_
          ⟨fun b o hi => .inl hi, fun hf => (by cases hf), fun sz' rows' e => by cases e; exact ⟨hR, fun b o cap q hl hq => .inr ⟨o, cap, hl, by omega, by omega⟩⟩⟩
        rintro b q ⟨o, cap, hl, h1, h2⟩
        obtain ⟨g1, g2, g3, _⟩ := h.ublock hl (by omega)
        refine ⟨g1, g2, fun k' hk' => g3 k' (without_le hk').1, fun l o' len cap' sz' c hl' _ q1 q2 => ?_⟩
        obtain ⟨q3, q4⟩ := cutO_le hl'
        have hne : k ≠ l := by
          intro e; subst e
          simp [Entry.isU] at q4
        exact h.ldis k l b o o' 0 len cap cap' sz sz' hne hl q3 (by omega) (by omega)
  · exact hf.elim

/-! ### one operation -/

theorem Inv.opd {s : St} (h : Inv F s.look σ I β lam a w) (x : Operand) : R I w β lam (ev s (trOpd x)) (a.eval x) := by
  cases x with
  | tmp t =>
    simp only [trOpd, ev]
    cases ht : lk s.env t with
    | none => exact R_undef _
    | some y =>
      obtain ⟨v, h1, h2⟩ := h.env (0, t) y ht
      have : a.eval (.tmp t) = v := by
        simp only [Frame0.val] at h1
        simp [Act.eval, h1]
      rw [this]
      exact h2
  | const v => exact R_ofV v
  | global g => exact R_val _
  | func f =>
    simp only [trOpd, ev, Act.eval]
    exact .base (.fn _ _ _ rfl (by simp))

theorem Inv.nodom (h : Inv F e σ I β lam a w) {d : Nat} (hd : σ d = none) : β d = none := by
  cases hb : β d with
  | none => rfl
  | some b => obtain ⟨en, h', _⟩ := h.bdom d b hb; rw [hd] at h'; cases h'

theorem Inv.hlm (h : Inv F e σ I β lam a w) : ∀ l b p cap sz, lam l = some (some ⟨b, p, none⟩, 0, cap, sz) → 0 < cap * sz → b < w.heap.size :=
  fun _ _ _ _ _ hl h0 => (h.ublock hl h0).2.1

theorem look_new {s : St} {d : Option Nat} {x : AV} {en : Option Entry} :
    ((s.put d x).new d en).look = setE s.look (slot d) (some x) ∧ lk ((s.put d x).new d en).sto = setS (lk s.sto) (d.map fun _ => s.base + d.getD 0) en := by
  cases d with
  | none => cases en <;> exact ⟨rfl, rfl⟩
  | some d =>
    have hl := look_put (s := s) (d := some d) (x := x)
    cases en with
    | none => exact ⟨hl, rfl⟩
    | some en => exact ⟨by rw [← hl]; exact look_sto, by simp only [St.new, St.put, Option.map_some, Option.getD_some]; rw [lk_pt_setE]; funext j; simp [setE, setS]⟩

theorem trOper_inv {N : Nat} {ops : Array Oper} {ao : AOper} (h : trOper P N ops o = some ao) :
    trOp P o.type o.op = some (ao.op, ao.xs) ∧ trGuard ops o.guard = some ao.guard ∧ ao.dst = o.dst ∧ dstOk N o.dst = true := by
  unfold trOper at h
  split at h
  · rename_i op xs g h1 h2
    split at h
    · rename_i h3
      simp only [Option.some.injEq] at h
      subst h
      exact ⟨h1, h2, rfl, h3⟩
    · cases h
  · cases h

theorem trCall_shape {c : Call} {ty : TypeId} {op : AOp} {xs : List Opd} (h : trCall P c ty = some (op, xs)) :
    isE op = true ∨ (∃ t u e' sz by_ z, op = .append sz by_ ∧ xs = c.args.toList.map trOpd ∧ c.callee = .builtin .append ∧ c.argTypes = #[t, u] ∧ elT P t = some e' ∧ szT P e' = some sz ∧ byT P e' = some by_ ∧
      zeroT P e' = some z ∧ z.length = sz ∧ (isStrT P u = true ∨ (elT P u).isSome = true)) ∨
    ∃ t u e' sz, op = .copy sz ∧ xs = c.args.toList.map trOpd ∧ c.callee = .builtin .copy ∧ c.argTypes = #[t, u] ∧ elT P t = some e' ∧ szT P e' = some sz ∧ (isStrT P u = true ∨ (elT P u).isSome = true) := by
  have two : ∀ {t u : TypeId}, c.argTypes.size = 2 → c.argTypes[0]? = some t → c.argTypes[1]? = some u → c.argTypes = #[t, u] := by
    intro t u g1 h0 h1
    apply Array.ext
    · simpa using g1
    · intro i hi1 hi2
      have : i = 0 ∨ i = 1 := by simp at hi2; omega
      rcases this with rfl | rfl
      · rw [Array.getElem?_eq_getElem hi1] at h0; simpa using h0
      · rw [Array.getElem?_eq_getElem hi1] at h1; simpa using h1
  unfold trCall at h
  split at h
  · split at h
    · simp only [Option.some.injEq, Prod.mk.injEq] at h; obtain ⟨rfl, _⟩ := h; exact .inl rfl
    · cases h
  · simp only [Option.some.injEq, Prod.mk.injEq] at h; obtain ⟨rfl, _⟩ := h; exact .inl rfl
  · split at h
    · split at h
      · simp only [Option.some.injEq, Prod.mk.injEq] at h; obtain ⟨rfl, _⟩ := h; exact .inl rfl
      · simp only [Option.some.injEq, Prod.mk.injEq] at h; obtain ⟨rfl, _⟩ := h; exact .inl rfl
      · cases h
    · cases h
  · simp only [Option.some.injEq, Prod.mk.injEq] at h; obtain ⟨rfl, _⟩ := h; exact .inl rfl
  · simp only [Option.some.injEq, Prod.mk.injEq] at h; obtain ⟨rfl, _⟩ := h; exact .inl rfl
  · rename_i hc
    split at h
    · rename_i t u h0 h1
      split at h
      · rename_i e' he
        split at h
        · rename_i n by_ z hn hby hz
          split at h
          · rename_i hcond
            obtain ⟨g1, g2, g3⟩ := hcond
            simp only [Option.some.injEq, Prod.mk.injEq] at h
            obtain ⟨rfl, rfl⟩ := h
            exact .inr (.inl ⟨t, u, e', n, by_, z, rfl, rfl, hc, two g1 h0 h1, he, hn, hby, hz, g2, g3⟩)
          · cases h
        · cases h
      · cases h
    · cases h
  · exact .inr (.inr (trCopy_inv h))

theorem trOp_shape {ty : TypeId} {rop : Op} {op : AOp} {xs : List Opd} (h : trOp P ty rop = some (op, xs)) :
    isE op = true ∨ (∃ t x y n, rop = .store t x y ∧ op = .store n ∧ szT P t = some n ∧ xs = [trOpd x, trOpd y]) ∨ (∃ c, rop = .call c ∧ trCall P c ty = some (op, xs)) ∨ (∃ bop t x y t' neg, rop = .binOp bop t x y t' ∧ nilQ P bop t y = some neg ∧ op = .nilS neg ∧ xs = [trOpd x]) := by
  cases rop <;> simp only [trOp, reduceCtorEq, Option.some.injEq, Prod.mk.injEq, Option.map_eq_some_iff] at h
  case store t x y =>
    obtain ⟨n, hn, rfl, rfl⟩ := h
    exact .inr (.inl ⟨t, x, y, n, rfl, rfl, hn, rfl⟩)
  case call c => exact .inr (.inr (.inl ⟨c, rfl, h⟩))
  case binOp bop t x y t' =>
    split at h
    · rename_i neg hq
      simp only [Option.some.injEq, Prod.mk.injEq] at h
      obtain ⟨rfl, rfl⟩ := h
      exact .inr (.inr (.inr ⟨bop, t, x, y, t', neg, rfl, hq, rfl, rfl⟩))
    · simp only [Option.some.injEq, Prod.mk.injEq] at h
      obtain ⟨rfl, _⟩ := h
      exact .inl rfl
  case makeFunc fn first caps =>
    cases fn <;> simp only [reduceCtorEq] at h
    split at h
    · simp only [Option.some.injEq, Prod.mk.injEq] at h; obtain ⟨rfl, _⟩ := h; exact .inl rfl
    · cases h
  all_goals left
  all_goals first
    | (obtain ⟨rfl, _⟩ := h; rfl)
    | (obtain ⟨_, _, rfl, _⟩ := h; rfl)
    | (split at h <;> first
        | (simp only [Option.some.injEq, Prod.mk.injEq] at h; obtain ⟨rfl, _⟩ := h; rfl)
        | (simp only [Option.map_eq_some_iff, Prod.mk.injEq] at h; obtain ⟨_, _, rfl, _⟩ := h; rfl)
        | (cases h; done)
        | (split at h <;> first
            | (simp only [Option.some.injEq, Prod.mk.injEq] at h; obtain ⟨rfl, _⟩ := h; rfl)
            | (simp only [Option.map_eq_some_iff, Prod.mk.injEq] at h; obtain ⟨_, _, rfl, _⟩ := h; rfl)
            | (cases h; done)
            | (split at h <;> first
                | (simp only [Option.some.injEq, Prod.mk.injEq] at h; obtain ⟨rfl, _⟩ := h; rfl)
                | (cases h; done)
                | (split at h <;> first
                    | (simp only [Option.some.injEq, Prod.mk.injEq] at h; obtain ⟨rfl, _⟩ := h; rfl)
                    | (cases h; done)))))

theorem bareOp_cases {draw : Bool} {op op' : AOp} (h : bareOp draw op = op') : op = op' ∨ (∃ sz b, op = .appendU sz b ∧ op' = .append sz b) ∨ (∃ sz n z ps, op = .mksliceU sz n z ps ∧ op' = .mkslice sz n z ps) ∨
    (∃ f, op = .callI f ∧ op' = .call f) ∨ (op = .callvI ∧ op' = .callv) := by
  subst h
  cases op <;> first
    | exact .inl rfl
    | exact .inr (.inl ⟨_, _, rfl, rfl⟩)
    | (cases draw <;> first
        | exact .inl rfl
        | exact .inr (.inr (.inl ⟨_, _, _, _, rfl, rfl⟩))
        | exact .inr (.inr (.inr (.inl ⟨_, rfl, rfl⟩)))
        | exact .inr (.inr (.inr (.inr ⟨rfl, rfl⟩))))

theorem trCall_call {c : Call} {ty : TypeId} {f : FuncId} {xs : List Opd} (h : trCall P c ty = some (.call f, xs)) : c.callee = .value (.func f) ∧ xs = c.args.toList.map trOpd := by
  unfold trCall at h
  split at h
  · rename_i g hc
    split at h
    · simp only [Option.some.injEq, Prod.mk.injEq, AOp.call.injEq] at h
      obtain ⟨rfl, rfl⟩ := h
      exact ⟨hc, rfl⟩
    · cases h
  · simp at h
  · split at h
    · split at h <;> simp at h
    · cases h
  · simp at h
  · simp at h
  · split at h
    · split at h
      · split at h
        · split at h <;> simp at h
        · cases h
      · cases h
    · cases h
  · obtain ⟨_, _, _, _, h, _⟩ := trCopy_inv h; cases h

theorem trCall_callv {c : Call} {ty : TypeId} {xs : List Opd} (h : trCall P c ty = some (.callv, xs)) : ∃ t, c.callee = .value (.tmp t) ∧ xs = .t t :: c.args.toList.map trOpd := by
  unfold trCall at h
  split at h
  · split at h <;> simp at h
  · rename_i t hc
    simp only [Option.some.injEq, Prod.mk.injEq, true_and] at h
    exact ⟨t, hc, h.symm⟩
  · split at h
    · split at h <;> simp at h
    · cases h
  · simp at h
  · simp at h
  · split at h
    · split at h
      · split at h
        · split at h <;> simp at h
        · cases h
      · cases h
    · cases h
  · obtain ⟨_, _, _, _, h, _⟩ := trCopy_inv h; cases h

theorem trOp_special {ty : TypeId} {rop : Op} {op : AOp} {xs : List Opd} (h : trOp P ty rop = some (op, xs)) :
    (∀ f, op = .call f → ∃ c, rop = .call c ∧ c.callee = .value (.func f) ∧ xs = c.args.toList.map trOpd) ∧
    (op = .callv → ∃ c t, rop = .call c ∧ c.callee = .value (.tmp t) ∧ xs = .t t :: c.args.toList.map trOpd) ∧
    (∀ sz n z ps, op = .mkslice sz n z ps → ∃ t parts e, rop = .buildSlice t n parts ∧ elT P t = some e ∧ szT P e = some sz ∧ zeroT P e = some z ∧ n * sz ≤ 16777216 ∧ ps = parts.toList.map (·.1) ∧ xs = parts.toList.map fun p => trOpd p.2) := by
  cases rop <;> simp only [trOp, reduceCtorEq, Option.some.injEq, Prod.mk.injEq, Option.map_eq_some_iff] at h
  case call c =>
    refine ⟨fun f hf => ?_, fun hf => ?_, fun sz n z ps hf => ?_⟩
    · subst hf
      obtain ⟨h1, h2⟩ := trCall_call h
      exact ⟨c, rfl, h1, h2⟩
    · subst hf
      obtain ⟨t, h1, h2⟩ := trCall_callv h
      exact ⟨c, t, rfl, h1, h2⟩
    · subst hf
      exfalso
      unfold trCall at h
      split at h
      · split at h <;> simp at h
      · simp at h
      · split at h
        · split at h <;> simp at h
        · cases h
      · simp at h
      · simp at h
      · split at h
        · split at h
          · split at h
            · split at h <;> simp at h
            · cases h
          · cases h
        · cases h
      · obtain ⟨_, _, _, _, h, _⟩ := trCopy_inv h; cases h
  case buildSlice t n parts =>
    split at h
    · rename_i e he
      split at h
      · rename_i sz z hsz hz
        split at h
        · rename_i hlim
          simp only [Option.some.injEq, Prod.mk.injEq] at h
          obtain ⟨rfl, rfl⟩ := h
          refine ⟨fun f hf => (by cases hf), fun hf => (by cases hf), fun sz' n' z' ps' hf => ?_⟩
          cases hf
          exact ⟨t, parts, e, rfl, he, hsz, hz, hlim, rfl, rfl⟩
        · cases h
      · cases h
    · cases h
  case makeFunc fn first caps =>
    cases fn <;> simp only [reduceCtorEq] at h
    split at h
    · simp only [Option.some.injEq, Prod.mk.injEq] at h; obtain ⟨rfl, _⟩ := h
      exact ⟨fun f hf => (by cases hf), fun hf => (by cases hf), fun sz n z ps hf => (by cases hf)⟩
    · cases h
  all_goals
    have hop : (∀ f, op ≠ .call f) ∧ op ≠ .callv ∧ ∀ sz n z ps, op ≠ .mkslice sz n z ps := by
      first
        | (obtain ⟨rfl, _⟩ := h; simp; done)
        | (obtain ⟨_, _, rfl, _⟩ := h; simp; done)
        | (split at h <;> first
            | (simp only [Option.some.injEq, Prod.mk.injEq] at h; obtain ⟨rfl, _⟩ := h; simp; done)
            | (simp only [Option.map_eq_some_iff, Prod.mk.injEq] at h; obtain ⟨_, _, rfl, _⟩ := h; simp; done)
            | (cases h; done)
            | (split at h <;> first
                | (simp only [Option.some.injEq, Prod.mk.injEq] at h; obtain ⟨rfl, _⟩ := h; simp; done)
                | (simp only [Option.map_eq_some_iff, Prod.mk.injEq] at h; obtain ⟨_, _, rfl, _⟩ := h; simp; done)
                | (cases h; done)
                | (split at h <;> first
                    | (simp only [Option.some.injEq, Prod.mk.injEq] at h; obtain ⟨rfl, _⟩ := h; simp; done)
                    | (cases h; done)
                    | (split at h <;> first
                        | (simp only [Option.some.injEq, Prod.mk.injEq] at h; obtain ⟨rfl, _⟩ := h; simp; done)
                        | (cases h; done)))))
    exact ⟨fun f hf => absurd hf (hop.1 f), fun hf => absurd hf hop.2.1, fun sz n z ps hf => absurd hf (hop.2.2 sz n z ps)⟩

theorem two_of {c : Call} {s : St} {X : List AV → Prop} (h : X ((c.args.toList.map trOpd).map (ev s))) (h2 : ∀ L, X L → ∃ x y, L = [x, y]) : ∃ xs xx, c.args = #[xs, xx] := by
  obtain ⟨X, Y, hXY⟩ := h2 _ h
  obtain ⟨l, hl⟩ : ∃ l, c.args.toList = l := ⟨_, rfl⟩
  rw [hl] at hXY
  match l, hXY with
  | [x, y], _ => exact ⟨x, y, Array.ext' (by simpa using hl)⟩

theorem op_run {draw : Bool} {s : St} {ao : AOper} {ops : Array Oper} {K : St → Prop} {Kr : Act → World → Prop} (htr : trOper P F.N ops o = some (bareO draw ao)) (hH : Holds F s a w) (h : awpOp P ao s K)
    (hk : ∀ s' a' w', K s' → Holds F s' a' w' → Kr a' w') : o.wp P a w Kr Q := by
  obtain ⟨htr', _, hdst, hdok⟩ := trOper_inv htr
  clear htr
  obtain ⟨I, β, lam, hI⟩ := hH
  obtain ⟨dst, op, xs, guard⟩ := ao
  simp only [bareO] at htr' hdst
  have htr := htr'
  clear htr'
  subst hdst
  obtain ⟨op', hop'⟩ : ∃ op', bareOp draw op = op' := ⟨_, rfl⟩
  rw [hop'] at htr
  have efin : isE op = true → evalE P (s.base + o.dst.getD 0) op (xs.map (ev s)) (lk s.sto) (fun x e => K ((s.put o.dst x).new o.dst e)) → op = op' → o.wp P a w Kr Q := by
    rintro hE h rfl
    obtain ⟨x, en, hK, hn, hY⟩ := evalE_post h
    refine simE htr hE (fun x _ => hI.opd x) hI.hread hI.usto hI.nodom hI.Isub (fun k b hk => (hI.bnew k b hk).2.1) hI.hlm hY ?_
    rintro x' en' v w' I' β' ⟨rfl, rfl⟩ hEff
    obtain ⟨β'', hI'⟩ := hI.eff hdok hEff fun h => (hn h).1
    refine hk _ _ _ hK ⟨I', β'', lam, ?_⟩
    obtain ⟨e1, e2⟩ := look_new (s := s) (d := o.dst) (x := x') (en := en')
    rw [e1, e2]
    exact hI'
  rcases bareOp_cases hop' with rfl | ⟨sz, by_, rfl, rfl⟩ | ⟨sz, n, z, ps, rfl, rfl⟩ | ⟨f, rfl, rfl⟩ | ⟨rfl, rfl⟩
  · rcases trOp_shape htr with hE | ⟨t, x, y, n, ho, hop, hn, hxs⟩ | ⟨c, ho, hcall⟩ | ⟨bop, t, x, y, t', neg, ho, hq, hop, hxs⟩
    · refine efin hE ?_ rfl
      unfold awpOp at h
      cases op <;> first | exact h | cases hE
    · unfold awpOp at h
      simp only [hop, hxs] at h
      refine sim_store ho hn hI (hI.opd x) (hI.opd y) h fun s' w' hK hH' => ?_
      exact hk _ _ _ hK hH'
    · rcases trCall_shape hcall with hE | ⟨t, u, e', sz, by_, z, hop, hxs, hc, hts, he, hsz, hby, hz, hzl, hu⟩ | ⟨t, u, e', sz, hop, hxs, hc, hts, he, hsz, hu⟩
      · refine efin hE ?_ rfl
        unfold awpOp at h
        cases op <;> first | exact h | cases hE
      · unfold awpOp at h
        simp only [hop, hxs] at h
        obtain ⟨xs, xx, hargs⟩ := two_of h fun L hL => by
          match L, hL with
          | [X, Y], _ => exact ⟨X, Y, rfl⟩
          | [], hL => exact hL.elim
          | [x], hL => cases x <;> exact hL.elim
          | x :: _ :: _ :: _, hL => cases x <;> exact hL.elim
        rw [hargs] at h
        exact sim_append ho hc hargs hts he hsz hby hz hzl hu hI hdok (hI.opd xs) (hI.opd xx) h hk
      · unfold awpOp at h
        simp only [hop, hxs] at h
        obtain ⟨xs, xx, hargs⟩ := two_of h fun L hL => by
          match L, hL with
          | [X, Y], _ => exact ⟨X, Y, rfl⟩
          | [], hL => exact hL.elim
          | [x], hL => cases x <;> exact hL.elim
          | x :: _ :: _ :: _, hL => cases x <;> exact hL.elim
        rw [hargs] at h
        exact sim_copy ho hc hargs hts he hsz hu hI hdok (hI.opd xs) (hI.opd xx) h hk
    · unfold awpOp at h
      simp only [hop, hxs] at h
      exact sim_nilS ho hq hI hdok (hI.opd x) h hk
  · rcases trOp_shape htr with hE | ⟨t, x, y, n, ho, hop, hn, hxs⟩ | ⟨c, ho, hcall⟩ | ⟨bop, t, x, y, t', neg, ho, hq, hop, hxs⟩
    · cases hE
    · cases hop
    · rcases trCall_shape hcall with hE | ⟨t, u, e', sz, by_, z, hop, hxs, hc, hts, he, hsz, hby, hz, hzl, hu⟩ | ⟨t, u, e', sz, hop, _⟩
      · cases hE
      · cases hop
        unfold awpOp at h
        simp only [hxs] at h
        obtain ⟨xs, xx, hargs⟩ := two_of h fun L hL => by
          match L, hL with
          | [X, Y], _ => exact ⟨X, Y, rfl⟩
          | [], hL => exact hL.elim
          | [x], hL =>
            cases x with
            | list sz m rows => cases m <;> exact hL.elim
            | _ => exact hL.elim
          | x :: _ :: _ :: _, hL =>
            cases x with
            | list sz m rows => cases m <;> exact hL.elim
            | _ => exact hL.elim
        rw [hargs] at h
        exact sim_appendU ho hc hargs hts he hsz hby hz hzl hu hI hdok (hI.opd xs) (hI.opd xx) h hk
      · cases hop
    · cases hop
  · obtain ⟨t, parts, e, ho, he, hsz, hz, hlim, rfl, rfl⟩ := (trOp_special htr).2.2 _ _ _ _ rfl
    unfold awpOp at h
    exact sim_mksliceU ho he hsz hz hlim hI hdok (fun p _ => hI.opd p.2) h hk
  · obtain ⟨c, ho, hc, rfl⟩ := (trOp_special htr).1 _ rfl
    unfold awpOp at h
    exact sim_callI ho hc h.1 (fun x _ => hI.opd x) hI hdok h.2 hk
  · obtain ⟨c, t, ho, hc, rfl⟩ := (trOp_special htr).2.1 rfl
    unfold awpOp at h
    simp only [List.map_cons] at h
    split at h
    · rename_i f caps ys heq
      simp only [List.cons.injEq] at heq
      obtain ⟨hv, rfl⟩ := heq
      refine sim_callvI ho hc h.1 ?_ (fun x _ => hI.opd x) hI hdok h.2 hk
      have := hI.opd (.tmp t)
      simp only [trOpd] at this
      rw [hv] at this
      exact this
    · exact h.elim

end
end Go.Am
