/-
  The abstract machine, part 17: dropping, freezing, one operation after the other.
-/
import Derived.Test.YtljkjogggfdgiaaAm16
namespace Go.Am
open Go.RowKit

section
variable {P : Program} {F : Frame0} {e : Nat → Option AV} {σ : Nat → Option Entry} {I : Nat → Nat → Prop} {w : World} {β : Blocks} {lam : Owned} {a : Act} {o : Oper}
  {Q : Exit → Act → World → Prop}

/-- The blocks without those of 'D'. -/
def without (β : Blocks) (D : List Nat) : Blocks := fun k => if D.elem k = true then none else β k

theorem without_le {D : List Nat} {k b : Nat} (h : without β D k = some b) : β k = some b ∧ D.elem k = false := by
  unfold without at h
  split at h
  · cases h
  · rename_i hn; exact ⟨h, by simpa using hn⟩

theorem R.unmet {D : List Nat} {I' : Nat → Nat → Prop} (hI : ∀ b o, I b o → I' b o) {x : AV} {v : Value} (h : R I w β lam x v) (hx : ∀ k, D.elem k = true → refsTo k x = false) : R I' w (without β D) lam x v := by
  have keep : ∀ {k b : Nat}, β k = some b → D.elem k = false → without β D k = some b := fun {k b} h1 h2 => by
    unfold without; rw [if_neg (by rw [h2]; simp)]; exact h1
  have hD : ∀ k, (D.elem k = true → (k == k) = false) → D.elem k = false := fun k h => by
    cases hk : D.elem k with
    | false => rfl
    | true => have := h hk; simp at this
  induction h with
  | base h => exact .base (h.mono hI (fun _ _ _ _ h => h))
  | ptr k off b h => exact .ptr k off b (keep h (hD k fun hk => by simpa [refsTo] using hx k hk))
  | eptr k sz i off b h => exact .eptr k sz i off b (keep h (hD k fun hk => by simpa [refsTo] using hx k hk))
  | sl k sz off len cap b av h hc ha => exact .sl k sz off len cap b av (keep h (hD k fun hk => by simpa [refsTo] using hx k hk)) hc ha
  | own sz l rows a cap h hl => exact .own sz l rows a cap (h.mono hI (fun _ _ _ _ h => h)) hl
  | fn f caps vs hs hn hc ih =>
    refine .fn f caps vs hs hn fun i c hi => ih i c hi fun k hk => ?_
    have := hx k hk
    simp only [refsTo] at this
    have := List.any_eq_false.1 this c (List.mem_iff_getElem?.2 ⟨i, hi⟩)
    cases c <;> first | rfl | (simp at this; done) | (simp only [refsTo]; simp at this ⊢; exact this)

/-- Variables that are looked at no more are forgotten: their cells may be looked at by all from here on. -/
theorem Inv.forget (h : Inv F e σ I β lam a w) (D : List Nat) {e' : Nat → Option AV} {σ' : Nat → Option Entry} {I' : Nat → Nat → Prop}
    (hI' : I' = fun b o => (I b o ∨ ∃ k, D.elem k = true ∧ β k = some b) ∧ b < w.heap.size)
    (he : ∀ t x, e' t = some x → ∃ v, a.tmps[t]? = some v ∧ R I' w (without β D) lam x v)
    (hs : ∀ k en, σ' k = some en → σ k = some en ∧ D.elem k = false) (hs2 : ∀ k en, σ k = some en → D.elem k = false → σ' k = some en)
    (hu : ∀ k en, σ' k = some en → ∀ d, D.elem d = true → refsToE d en = false) : Inv F e' σ' I' (without β D) lam a w := by
  subst hI'
  have hI : ∀ b o, I b o → (I b o ∨ ∃ k, D.elem k = true ∧ β k = some b) ∧ b < w.heap.size := fun b o hi => ⟨.inl hi, h.Isub b o hi⟩
  refine
    { defers := h.defers
      size := h.size
      below := h.below
      env := he
      sto := fun k en hk => ?_
      bdom := fun k b hk => ?_
      binj := fun k k' b h1 h2 => h.binj k k' b (without_le h1).1 (without_le h2).1
      bnew := fun k b hk => ⟨(h.bnew k b (without_le hk).1).1, (h.bnew k b (without_le hk).1).2.1, fun o hi => ?_⟩
      Isub := fun b o hi => hi.2
      I0sub := fun b o hi => hI _ _ (h.I0sub b o hi)
      Inew := fun b o hi => ?_
      spare := fun l av len cap sz hl c h1 h2 => ?_
      ldis := h.ldis }
  · obtain ⟨h1, h2⟩ := hs k en hk
    obtain ⟨b, hb, hE⟩ := h.sto k en h1
    refine ⟨b, by unfold without; rw [if_neg (by rw [h2]; simp)]; exact hb, ?_⟩
    cases en with
    | var cells =>
      intro j c hj
      obtain ⟨v, g1, g2, g3, g4⟩ := hE j c hj
      refine ⟨v, g1, g2, g3, g4.unmet hI fun d hd => ?_⟩
      have := hu k _ hk d hd
      simp only [refsToE] at this
      exact anyRef_false this c (List.mem_iff_getElem?.2 ⟨j, hj⟩)
    | arr sz rows =>
      refine ⟨hE.1, fun i r j c hi hj => ?_⟩
      obtain ⟨v, g1, g2, g3, g4⟩ := hE.2 i r j c hi hj
      exact ⟨v, g1, g2, g3, g4.mono hI (fun _ _ _ _ h => h)⟩
  · obtain ⟨h1, h2⟩ := without_le hk
    obtain ⟨en, hen⟩ := h.bdom k b h1
    exact ⟨en, hs2 k en hen h2⟩
  · obtain ⟨h1, h2⟩ := without_le hk
    rcases hi.1 with hi | ⟨k', hk', hb'⟩
    · exact (h.bnew k b h1).2.2 o hi
    · have := h.binj k k' b h1 hb'
      subst this
      rw [h2] at hk'
      cases hk'
  · rcases hi.1 with hi | ⟨k', hk', hb'⟩
    · exact h.Inew b o hi
    · exact .inr (h.bnew k' b hb').1
  · obtain ⟨b, o, e1, e2, e3, e4, e5, e6⟩ := h.spare l av len cap sz hl c h1 h2
    refine ⟨b, o, e1, e2, e3, e4, ?_, fun k hk => e6 k (without_le hk).1⟩
    rintro ⟨hi | ⟨k', _, hb'⟩, _⟩
    · exact e5 hi
    · exact e6 k' hb'

theorem holds_drop {s : St} {D : List Nat} (h : Holds F s a w) : Holds F (s.drop D) a w := by
  obtain ⟨I, β, lam, h⟩ := h
  refine ⟨I, β, lam, h.env_sub fun t x ht => ?_⟩
  simp only [St.drop] at ht
  rw [lk_del] at ht
  split at ht
  · cases ht
  · exact ht

theorem holds_dropK {s : St} {D : List Nat} {K : St → Prop} (h : Holds F s a w) (hd : dropK s D K) : ∃ s', K s' ∧ Holds F s' a w := by
  obtain ⟨hu, hK⟩ := hd
  obtain ⟨I, β, lam, h⟩ := h
  refine ⟨_, hK, _, without β D, lam, h.forget D rfl (fun t x ht => ?_) (fun k en hk => ?_) (fun k en hk hd => ?_) (fun k en hk d hd => ?_)⟩
  · simp only at ht
    obtain ⟨v, h1, h2⟩ := h.env t x ht
    refine ⟨v, h1, h2.unmet (fun b o hi => ⟨.inl hi, h.Isub b o hi⟩) fun k hk => ?_⟩
    have := unmetAll_true hu k (by simpa using hk)
    simp only [St.unmet, Bool.and_eq_true] at this
    exact noRef_true this.1 _ (lk_mem ht)
  · simp only at hk
    rw [lk_del] at hk
    split at hk
    · cases hk
    · rename_i hn; exact ⟨hk, by simpa using hn⟩
  · simp only
    rw [lk_del, if_neg (by rw [hd]; simp)]
    exact hk
  · simp only at hk
    have := unmetAll_true hu d (by simpa using hd)
    simp only [St.unmet, Bool.and_eq_true] at this
    exact noRefS_true this.2 _ (lk_mem hk)

/-- What led to the variable 'k' leads to cells that nobody writes any more. -/
theorem frz_R {k b : Nat} {en : Entry} (hb : β k = some b) (hlt : b < w.heap.size) (hI : ∀ b o, I b o → b < w.heap.size) (hE : RE I w β lam b en) {x : AV} {v : Value} (h : R I w β lam x v) (hu : refsTo k (frz k en x) = false) :
    R (fun b o => (I b o ∨ ∃ j, [k].elem j = true ∧ β j = some b) ∧ b < w.heap.size) w (without β [k]) lam (frz k en x) v := by
  have hI' : ∀ b o, I b o → (I b o ∨ ∃ j, [k].elem j = true ∧ β j = some b) ∧ b < w.heap.size := fun b o hi => ⟨.inl hi, hI b o hi⟩
  have hk : ∀ o, (fun b o => (I b o ∨ ∃ j, [k].elem j = true ∧ β j = some b) ∧ b < w.heap.size) b o := fun o => ⟨.inr ⟨k, by simp, hb⟩, hlt⟩
  have plain : frz k en x = x → R (fun b o => (I b o ∨ ∃ j, [k].elem j = true ∧ β j = some b) ∧ b < w.heap.size) w (without β [k]) lam (frz k en x) v := by
    intro e
    rw [e] at hu ⊢
    exact h.unmet hI' fun j hj => by
      have : j = k := by simpa using hj
      subst this; exact hu
  cases x with
  | sl j sz off len =>
    by_cases hjk : j = k
    · subst hjk
      simp only [frz, if_true] at hu ⊢
      split
      · rename_i sz' rows
        split
        · rename_i hc
          obtain ⟨rfl, hle⟩ := hc
          obtain ⟨b', cap, av, hb', rfl, hcap, hav⟩ := h.sl_inv
          rw [hb] at hb'; cases hb'
          have hlen : ((rows.drop off).take len).length = len := by simp; omega
          by_cases hz : len = 0
          · have hnil : (rows.drop off).take len = [] := List.eq_nil_of_length_eq_zero (by omega)
            rw [hnil, hz]
            exact .base (.listNil _ _ _ _ (by simp) (by simp))
          · rw [hav hz]
            have hget : ∀ (i : Nat) (r : List AV), ((rows.drop off).take len)[i]? = some r → rows[off + i]? = some r := by
              intro i r hi
              rw [List.getElem?_take] at hi
              split at hi
              · rw [List.getElem?_drop] at hi; exact hi
              · cases hi
            have := R0.mk_list (I := fun b o => (I b o ∨ ∃ k, [j].elem k = true ∧ β k = some b) ∧ b < w.heap.size) (w := w) (sz := sz') (m := .plain) (rows := (rows.drop off).take len) (b := b) (q := off * sz') (cap := cap) (by omega) (by simp) (by simp)
              (fun i r hi => hE.1 _ _ (hget i r hi)) (fun i r j' c hi hj => by
                obtain ⟨u, h1, _, h3, h4⟩ := hE.2 _ _ _ _ (hget i r hi) hj
                rw [Nat.add_mul] at h1
                exact ⟨u, hk _, h1, h3, h4.mono hI' (fun _ _ _ _ h => h)⟩)
            rw [hlen] at this
            exact .base this
        · exact R_undef _
      · exact R_undef _
    · exact plain (by simp [frz, hjk])
  | ptr j off =>
    by_cases hjk : j = k
    · subst hjk
      simp only [frz, if_true] at hu ⊢
      split
      · rename_i cells
        split
        · rename_i hall
          obtain ⟨b', hb', rfl⟩ := h.ptr_inv
          rw [hb] at hb'; cases hb'
          refine .base (ro_of fun j' c hj => ?_)
          simp only [List.getElem?_map, Option.map_eq_some_iff] at hj
          obtain ⟨c', hj, rfl⟩ := hj
          have hr : rf c' = true := List.all_eq_true.1 hall _ (List.mem_iff_getElem?.2 ⟨j', hj⟩)
          rw [List.getElem?_drop] at hj
          obtain ⟨u, h1, _, h3, h4⟩ := hE _ _ hj
          exact ⟨u, hk _, h1, h3, (h4.to0 hr).mono hI' (fun _ _ _ _ h => h)⟩
        · exact R_undef _
      · exact R_undef _
    · exact plain (by simp [frz, hjk])
  | eptr j sz i off =>
    by_cases hjk : j = k
    · subst hjk
      simp only [frz, if_true] at hu ⊢
      exact R_undef _
    · exact plain (by simp [frz, hjk])
  | _ => exact plain rfl

theorem holds_freeze {s : St} {k : Nat} {K : St → Prop} (h : Holds F s a w) (hf : eFreeze k s K) : ∃ s', K s' ∧ Holds F s' a w := by
  unfold eFreeze at hf
  split at hf
  · rename_i en hen
    obtain ⟨hu, hK⟩ := hf
    obtain ⟨I, β, lam, h⟩ := h
    obtain ⟨b, hb, hE⟩ := h.sto k en hen
    simp only [St.unmet, Bool.and_eq_true] at hu
    refine ⟨_, hK, _, without β [k], lam, h.forget [k] rfl (fun t x ht => ?_) (fun k' en' hk => ?_) (fun k' en' hk hd => ?_) (fun k' en' hk d hd => ?_)⟩
    · have hu1 := noRef_true hu.1 _ (lk_mem ht)
      simp only at ht
      rw [lk_map] at ht
      simp only [Option.map_eq_some_iff] at ht
      obtain ⟨x', ht, rfl⟩ := ht
      obtain ⟨v, h1, h2⟩ := h.env t x' ht
      exact ⟨v, h1, frz_R hb (h.bnew k b hb).2.1 h.Isub hE h2 hu1⟩
    · simp only at hk
      rw [lk_del] at hk
      split at hk
      · cases hk
      · rename_i hn; exact ⟨hk, by simpa using hn⟩
    · simp only
      rw [lk_del, if_neg (by rw [hd]; simp)]
      exact hk
    · have := noRefS_true hu.2 _ (lk_mem hk)
      have hdk : d = k := by simpa using hd
      subst hdk
      exact this
  · exact hf.elim

/-! ### one operation -/

theorem Inv.opd {s : St} (h : Inv F (lk s.env) σ I β lam a w) (x : Operand) : R I w β lam (ev s (trOpd x)) (a.eval x) := by
  cases x with
  | tmp t =>
    simp only [trOpd, ev]
    cases ht : lk s.env t with
    | none => exact R_undef _
    | some y =>
      obtain ⟨v, h1, h2⟩ := h.env t y ht
      have : a.eval (.tmp t) = v := by simp [Act.eval, h1]
      rw [this]
      exact h2
  | const v => exact R_ofV v
  | global g => exact R_val _
  | func f =>
    simp only [trOpd, ev, Act.eval]
    exact .base (.fn _ _ _ rfl (by simp))

theorem Inv.reads (h : Inv F e σ I β lam a w) {k b : Nat} {en : Entry} (h1 : σ k = some en) (h2 : β k = some b) : RE I w β lam b en := by
  obtain ⟨b', hb', hE⟩ := h.sto k en h1
  rw [h2] at hb'; cases hb'
  exact hE

theorem Inv.nodom (h : Inv F e σ I β lam a w) {d : Nat} (hd : σ d = none) : β d = none := by
  cases hb : β d with
  | none => rfl
  | some b => obtain ⟨en, h'⟩ := h.bdom d b hb; rw [hd] at h'; cases h'

theorem lk_new {s : St} {d : Option Nat} {x : AV} {en : Option Entry} :
    lk ((s.put d x).new d en).env = setE (lk s.env) d (some x) ∧ lk ((s.put d x).new d en).sto = setS (lk s.sto) d en := by
  cases d with
  | none => cases en <;> exact ⟨rfl, rfl⟩
  | some d => cases en <;> exact ⟨by simp [St.put, St.new, lk_pt_setE], by simp [St.put, St.new, lk_pt_setE, setS]⟩

theorem trOper_inv {N : Nat} {ops : Array Oper} {ao : AOper} (h : trOper P N ops o = some ao) :
    trOp P o.type o.op = some (ao.op, ao.xs) ∧ trGuard ops o.guard = some ao.guard ∧ ao.dst = o.dst ∧ dstOk N o.dst = true := by
  unfold trOper at h
  split at h
  · rename_i op xs g h1 h2
    split at h
    · rename_i h3
      simp only [Option.some.injEq] at h
      subst h
      exact ⟨h1, h2, rfl, h3⟩
    · cases h
  · cases h

theorem trCall_shape {c : Call} {ty : TypeId} {op : AOp} {xs : List Opd} (h : trCall P c ty = some (op, xs)) :
    isE op = true ∨ ∃ t u e' sz by_ z, op = .append sz by_ ∧ xs = c.args.toList.map trOpd ∧ c.callee = .builtin .append ∧ c.argTypes = #[t, u] ∧ elT P t = some e' ∧ szT P e' = some sz ∧ byT P e' = some by_ ∧
      zeroT P e' = some z ∧ z.length = sz ∧ (isStrT P u = true ∨ (elT P u).isSome = true) := by
  unfold trCall at h
  split at h
  · split at h
    · simp only [Option.some.injEq, Prod.mk.injEq] at h; obtain ⟨rfl, _⟩ := h; exact .inl rfl
    · cases h
  · simp only [Option.some.injEq, Prod.mk.injEq] at h; obtain ⟨rfl, _⟩ := h; exact .inl rfl
  · split at h
    · split at h
      · simp only [Option.some.injEq, Prod.mk.injEq] at h; obtain ⟨rfl, _⟩ := h; exact .inl rfl
      · simp only [Option.some.injEq, Prod.mk.injEq] at h; obtain ⟨rfl, _⟩ := h; exact .inl rfl
      · cases h
    · cases h
  · simp only [Option.some.injEq, Prod.mk.injEq] at h; obtain ⟨rfl, _⟩ := h; exact .inl rfl
  · simp only [Option.some.injEq, Prod.mk.injEq] at h; obtain ⟨rfl, _⟩ := h; exact .inl rfl
  · rename_i hc
    split at h
    · rename_i t u h0 h1
      split at h
      · rename_i e' he
        split at h
        · rename_i n by_ z hn hby hz
          split at h
          · rename_i hcond
            obtain ⟨g1, g2, g3⟩ := hcond
            simp only [Option.some.injEq, Prod.mk.injEq] at h
            obtain ⟨rfl, rfl⟩ := h
            refine .inr ⟨t, u, e', n, by_, z, rfl, rfl, hc, ?_, he, hn, hby, hz, g2, g3⟩
            apply Array.ext
            · simpa using g1
            · intro i hi1 hi2
              have : i = 0 ∨ i = 1 := by simp at hi2; omega
              rcases this with rfl | rfl
              · rw [Array.getElem?_eq_getElem hi1] at h0; simpa using h0
              · rw [Array.getElem?_eq_getElem hi1] at h1; simpa using h1
          · cases h
        · cases h
      · cases h
    · cases h
  · cases h

theorem trOp_shape {ty : TypeId} {rop : Op} {op : AOp} {xs : List Opd} (h : trOp P ty rop = some (op, xs)) :
    isE op = true ∨ (∃ t x y n, rop = .store t x y ∧ op = .store n ∧ szT P t = some n ∧ xs = [trOpd x, trOpd y]) ∨ (∃ c, rop = .call c ∧ trCall P c ty = some (op, xs)) := by
  cases rop <;> simp only [trOp, reduceCtorEq, Option.some.injEq, Prod.mk.injEq, Option.map_eq_some_iff] at h
  case store t x y =>
    obtain ⟨n, hn, rfl, rfl⟩ := h
    exact .inr (.inl ⟨t, x, y, n, rfl, rfl, hn, rfl⟩)
  case call c => exact .inr (.inr ⟨c, rfl, h⟩)
  case makeFunc fn first caps =>
    cases fn <;> simp only [reduceCtorEq] at h
    split at h
    · simp only [Option.some.injEq, Prod.mk.injEq] at h; obtain ⟨rfl, _⟩ := h; exact .inl rfl
    · cases h
  all_goals left
  all_goals first
    | (obtain ⟨rfl, _⟩ := h; rfl)
    | (obtain ⟨_, _, rfl, _⟩ := h; rfl)
    | (split at h <;> first
        | (simp only [Option.some.injEq, Prod.mk.injEq] at h; obtain ⟨rfl, _⟩ := h; rfl)
        | (simp only [Option.map_eq_some_iff, Prod.mk.injEq] at h; obtain ⟨_, _, rfl, _⟩ := h; rfl)
        | (cases h; done)
        | (split at h <;> first
            | (simp only [Option.some.injEq, Prod.mk.injEq] at h; obtain ⟨rfl, _⟩ := h; rfl)
            | (simp only [Option.map_eq_some_iff, Prod.mk.injEq] at h; obtain ⟨_, _, rfl, _⟩ := h; rfl)
            | (cases h; done)
            | (split at h <;> first
                | (simp only [Option.some.injEq, Prod.mk.injEq] at h; obtain ⟨rfl, _⟩ := h; rfl)
                | (cases h; done)
                | (split at h <;> first
                    | (simp only [Option.some.injEq, Prod.mk.injEq] at h; obtain ⟨rfl, _⟩ := h; rfl)
                    | (cases h; done)))))

theorem op_run {s : St} {ao : AOper} {ops : Array Oper} {K : St → Prop} {Kr : Act → World → Prop} (htr : trOper P F.N ops o = some ao) (hH : Holds F s a w) (h : awpOp P ao s K)
    (hk : ∀ s' a' w', K s' → Holds F s' a' w' → Kr a' w') : o.wp P a w Kr Q := by
  obtain ⟨htr, _, hdst, hdok⟩ := trOper_inv htr
  obtain ⟨I, β, lam, hI⟩ := hH
  have efin : isE ao.op = true → evalE P (o.dst.getD 0) ao.op (ao.xs.map (ev s)) (lk s.sto) (fun x e => K ((s.put o.dst x).new o.dst e)) → o.wp P a w Kr Q := by
    intro hE h
    obtain ⟨x, en, hK, hn, hY⟩ := evalE_post h
    refine simE htr hE (fun x _ => hI.opd x) (fun _ _ _ h1 h2 => hI.reads h1 h2) hI.nodom hI.Isub (fun k b hk => (hI.bnew k b hk).2.1) hY ?_
    rintro x' en' v w' I' β' ⟨rfl, rfl⟩ hEff
    obtain ⟨β'', hI'⟩ := hI.eff hdok hEff hn
    refine hk _ _ _ hK ⟨I', β'', lam, ?_⟩
    obtain ⟨e1, e2⟩ := lk_new (s := s) (d := o.dst) (x := x') (en := en')
    rw [e1, e2]
    exact hI'
  rcases trOp_shape htr with hE | ⟨t, x, y, n, ho, hop, hn, hxs⟩ | ⟨c, ho, hcall⟩
  · refine efin hE ?_
    unfold awpOp at h
    rw [hdst] at h
    cases hop : ao.op <;> rw [hop] at h hE <;> first | exact h | cases hE
  · unfold awpOp at h
    rw [hop, hdst, hxs] at h
    refine sim_store ho hn hI (hI.opd x) (hI.opd y) h fun s' w' hK hH' => ?_
    exact hk _ _ _ hK hH'
  · rcases trCall_shape hcall with hE | ⟨t, u, e', sz, by_, z, hop, hxs, hc, hts, he, hsz, hby, hz, hzl, hu⟩
    · refine efin hE ?_
      unfold awpOp at h
      rw [hdst] at h
      cases hop : ao.op <;> rw [hop] at h hE <;> first | exact h | cases hE
    · unfold awpOp at h
      rw [hop, hdst, hxs] at h
      have two : ∃ xs xx, c.args = #[xs, xx] := by
        have : ∃ X Y, (c.args.toList.map trOpd).map (ev s) = [X, Y] := by
          have key : ∀ L : List AV, eAppend sz by_ s o.dst K L → ∃ X Y, L = [X, Y] := by
            intro L hL
            match L, hL with
            | [X, Y], _ => exact ⟨X, Y, rfl⟩
            | [], hL => exact hL.elim
            | [x], hL => cases x <;> exact hL.elim
            | x :: _ :: _ :: _, hL => cases x <;> exact hL.elim
          exact key _ h
        obtain ⟨X, Y, hXY⟩ := this
        obtain ⟨l, hl⟩ : ∃ l, c.args.toList = l := ⟨_, rfl⟩
        rw [hl] at hXY
        match l, hXY with
        | [x, y], _ => exact ⟨x, y, Array.ext' (by simpa using hl)⟩
      obtain ⟨xs, xx, hargs⟩ := two
      rw [hargs] at h
      exact sim_append ho hc hargs hts he hsz hby hz hzl hu hI hdok (hI.opd xs) (hI.opd xx) h hk

end
end Go.Am
