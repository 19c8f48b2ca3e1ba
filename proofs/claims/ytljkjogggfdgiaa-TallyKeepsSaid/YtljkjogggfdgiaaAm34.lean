/-
  The abstract machine, part 34: a region whose order is open, with operations in it that change what was there: one step.
-/
import Derived.Test.YtljkjogggfdgiaaAm33
namespace Go.Am
open Go.RowKit

section
variable {P : Program} {F : Frame0} {Q : Exit → Act → World → Prop} {ops : Array Oper}

/-! ### along a trace -/

theorem new_env0 {s : St} {d : Option Nat} {x : AV} {en : Option Entry} {t : Nat} (h : d ≠ some t) : lk ((s.put d x).new d en).env t = lk s.env t := by
  rw [new_env]
  cases d with
  | none => rfl
  | some d =>
    simp only [setE, slot, Option.map_some]
    rw [if_neg (fun e => h (by simp only [Prod.mk.injEq] at e; rw [e.2]))]
    rfl
theorem new_env1 {s : St} {d : Nat} {x : AV} {en : Option Entry} : lk ((s.put (some d) x).new (some d) en).env d = some x := by
  rw [new_env]
  simp [setE, slot]
theorem new_sto0 {s : St} {d : Option Nat} {x : AV} {en : Option Entry} {k : Nat} (h : ∀ t, d = some t → k ≠ s.base + t) : lk ((s.put d x).new d en).sto k = lk s.sto k := by
  rw [look_new.2]
  cases d with
  | none => cases en <;> rfl
  | some d =>
    cases en with
    | none => rfl
    | some en => simp only [setS, setE, Option.map_some, Option.getD_some]; rw [if_neg (h d rfl)]
theorem new_sto1 {s : St} {d : Nat} {x : AV} {en : Option Entry} (h : en = none → lk s.sto (s.base + d) = none) : lk ((s.put (some d) x).new (some d) en).sto (s.base + d) = en := by
  rw [look_new.2]
  cases en with
  | none => exact h rfl
  | some en => simp [setS, setE]

theorem trace_keepE {l : List AOper} {s s' : St} {tr : List (AV × Option Entry)} (h : Trace P l s tr s') : ∀ {t : Nat}, (∀ ao ∈ l, ao.dst ≠ some t) → lk s'.env t = lk s.env t := by
  induction h with
  | nil s => intro t _; rfl
  | cons h hn ht ih => intro t hd; rw [ih (fun ao h => hd ao (by simp [h])), new_env0 (hd _ (by simp))]
theorem trace_keepS {l : List AOper} {s s' : St} {tr : List (AV × Option Entry)} (h : Trace P l s tr s') : ∀ {k : Nat}, (∀ ao ∈ l, ∀ d, ao.dst = some d → k ≠ s.base + d) → lk s'.sto k = lk s.sto k := by
  induction h with
  | nil s => intro t _; rfl
  | cons h hn ht ih => intro t hd; rw [ih (fun ao h d hd' => by rw [new_base]; exact hd ao (by simp [h]) d hd'), new_sto0 (hd _ (by simp))]
theorem trace_mono {l : List AOper} {s s' : St} {tr : List (AV × Option Entry)} (h : Trace P l s tr s') : ∀ {k : Nat} {e : Entry}, lk s.sto k = some e → lk s'.sto k = some e := by
  induction h with
  | nil s => intro k e h; exact h
  | @cons ao l s s' x en tr h hn ht ih =>
    intro k e hk
    refine ih ?_
    by_cases hen : en = none
    · rw [look_new.2, hen]
      cases ao.dst <;> exact hk
    · rw [new_sto0 (fun t ht e' => ?_)]
      · exact hk
      · have := (hn hen).1
        rw [ht] at this
        rw [e'] at hk
        simp only [Option.getD_some] at this
        rw [this] at hk; cases hk
theorem trace_split : ∀ {l1 l2 : List AOper} {ao : AOper} {s s' : St} {tr : List (AV × Option Entry)}, Trace P (l1 ++ ao :: l2) s tr s' →
    ∃ tr1 si x en tr2, Trace P l1 s tr1 si ∧ Step1 P ao si x en ∧ (en ≠ none → lk si.sto (si.base + ao.dst.getD 0) = none ∧ isUO en = false) ∧ Trace P l2 ((si.put ao.dst x).new ao.dst en) tr2 s' := by
  intro l1
  induction l1 with
  | nil =>
    intro l2 ao s s' tr h
    cases h with
    | cons h hn ht => exact ⟨_, _, _, _, _, .nil s, h, hn, ht⟩
  | cons b l1 ih =>
    intro l2 ao s s' tr h
    cases h with
    | cons h hn ht =>
      obtain ⟨tr1, si, x, en, tr2, h1, h2, h3, h4⟩ := ih ht
      exact ⟨_, si, x, en, tr2, .cons h hn h1, h2, h3, h4⟩

/-! ### one of the operations that change nothing -/

set_option maxHeartbeats 1000000 in
theorem free_step {ao : AOper} {S Z : St} {D D' : List Nat} {d : Nat} {x : AV} {en : Option Entry} {a : Act} {w : World} {o : Oper} {Kr : Act → World → Prop}
    (htr : trOper P F.N ops o = some ao) (hE : isE ao.op = true) (hd : ao.dst = some d) (hH : Holds F (Z.mask D) a w) (hb : S.base = Z.base)
    (hstep : Step1 P ao S x en) (henv : ∀ t, t ∈ o.looksAt ops → lk S.env t = lk Z.env t ∧ D.elem t = false) (hsto : ∀ k e, lk S.sto k = some e → lk Z.sto k = some e)
    (hmem : D.elem d = true) (hD' : ∀ t, D'.elem t = true ↔ D.elem t = true ∧ ao.dst ≠ some t) (hzx : lk Z.env d = some x) (hze : lk Z.sto (Z.base + d) = en)
    (hU : ∀ t, D.elem t = true → isUO (lk Z.sto (Z.base + t)) = false) (hk : ∀ a' w', Holds F (Z.mask D') a' w' → Kr a' w') :
    if Region.wanted o (yielded ops a.tmps) then o.wp P a w Kr Q else Kr (a.put o.dst undef) w := by
  obtain ⟨h1, hg, hdst, hdok⟩ := trOper_inv htr
  have hdo : o.dst = some d := by rw [← hdst]; exact hd
  obtain ⟨I, β, lam, hI⟩ := hH
  have hD0 : D'.elem d = false := by
    cases hc : D'.elem d with
    | false => rfl
    | true => exact absurd hd ((hD' d).1 hc).2
  have hDt : ∀ t, t ≠ d → D'.elem t = D.elem t := fun t ht => by
    rw [Bool.eq_iff_iff, hD' t, hd]
    simp only [ne_eq, Option.some.injEq]
    exact ⟨fun h => h.1, fun h => ⟨h, fun e => ht e.symm⟩⟩
  have hn0 : (Z.nm D).elem (Z.base + d) = true := nm_elem.2 ⟨d, hmem, rfl⟩
  have hσd : lk (Z.mask D).sto (Z.base + d) = none := by rw [mask_sto, hn0]; rfl
  have hsame : ∀ t, t ∈ o.looksAt ops → lk S.env t = (Z.mask D).look (0, t) := fun t ht => by
    obtain ⟨e1, e2⟩ := henv t ht
    rw [mask_look0, e2, e1]; rfl
  have hread : ∀ k en b, lk S.sto k = some en → β k = some b → RE I w β lam b en := by
    intro k en' b hk1 hk2
    obtain ⟨en'', hσ, _⟩ := hI.bdom k b hk2
    have h2 := (mask_keep hσ).1
    rw [hsto k en' hk1] at h2
    cases h2
    exact hI.hread _ _ _ hσ hk2
  have hυ : ∀ k sz rows, lk S.sto k = some (.uarr sz rows) → RU I w β lam k sz rows := by
    intro k sz rows hk1
    have h2 := hsto _ _ hk1
    refine hI.usto k sz rows ?_
    rw [mask_sto, uo_keep hU h2]
    exact h2
  -- behind it
  have after : ∀ {v : Value} {w' : World} {I' : Nat → Nat → Prop} {β' : Blocks}, Inv F (setE (Z.mask D).look (slot o.dst) (some x)) (setS (lk (Z.mask D).sto) (o.dst.map fun _ => Z.base + o.dst.getD 0) en) I' β' lam (a.put o.dst v) w' →
      Holds F (Z.mask D') (a.put o.dst v) w' := by
    intro v w' I' β' hI'
    refine ⟨I', β', lam, ?_⟩
    have e1 : (Z.mask D').look = setE (Z.mask D).look (slot o.dst) (some x) := by
      funext t
      obtain ⟨q, t⟩ := t
      rw [hdo]
      cases q with
      | succ q => simp [setE, slot, mask_look1]
      | zero =>
        simp only [setE, slot, Option.map_some, mask_look0]
        by_cases ht : t = d
        · subst ht; rw [hD0, if_pos rfl]; simpa using hzx
        · have hne : ¬ (((0, t) : Nat × Nat) = (0, d)) := fun e => ht (by simp only [Prod.mk.injEq] at e; exact e.2)
          rw [if_neg hne, hDt t ht]
    have e2 : lk (Z.mask D').sto = setS (lk (Z.mask D).sto) (o.dst.map fun _ => Z.base + o.dst.getD 0) en := by
      funext k
      rw [hdo]
      have hd0 : (Z.nm D').elem (Z.base + d) = false := by
        cases hc : (Z.nm D').elem (Z.base + d) with
        | false => rfl
        | true =>
          obtain ⟨t, h1, h2⟩ := nm_elem.1 hc
          have : t = d := by omega
          subst this
          rw [hD0] at h1; cases h1
      by_cases hkd : k = Z.base + d
      · subst hkd
        rw [mask_sto, hd0]
        cases en with
        | none => simp only [setS, hσd]; simpa using hze
        | some e => simp only [setS, setE, Option.map_some, Option.getD_some, if_true]; simpa using hze
      · have hkk : (Z.nm D').elem k = (Z.nm D).elem k := by
          rw [Bool.eq_iff_iff, nm_elem, nm_elem]
          constructor
          · rintro ⟨t, h1, rfl⟩; exact ⟨t, ((hD' t).1 h1).1, rfl⟩
          · rintro ⟨t, h1, rfl⟩; exact ⟨t, by rw [hDt t (fun e => hkd (by rw [e]))]; exact h1, rfl⟩
        rw [mask_sto, hkk, ← mask_sto]
        cases en with
        | none => rfl
        | some e => simp only [setS, setE, Option.map_some, Option.getD_some]; rw [if_neg hkd]
    rw [e1, e2]
    exact hI'
  have run : Yields P (S.base + ao.dst.getD 0) ao.op (ao.xs.map (ev S)) (lk S.sto) x en → o.wp P a w Kr Q := by
    intro hY
    rw [hdst] at hY
    refine simE h1 hE (fun y hy => ?_) hread hυ (fun _ => ?_) hI.Isub (fun k b hk => (hI.bnew k b hk).2.1) hI.hlm hY ?_
    · cases y with
      | tmp t =>
        have ht : t ∈ o.looksAt ops := by
          unfold Oper.looksAt
          refine List.mem_append_left _ (List.mem_filterMap.2 ⟨.tmp t, hy, rfl⟩)
        simp only [trOpd, ev]
        rw [hsame t ht]
        cases het : (Z.mask D).look (0, t) with
        | none => exact R_undef _
        | some y' =>
          obtain ⟨v, g1, g2⟩ := hI.env (0, t) y' het
          have : a.eval (.tmp t) = v := by
            simp only [Frame0.val] at g1
            simp [Act.eval, g1]
          rw [this]
          exact g2
      | const v => exact R_ofV v
      | global g => exact R_val _
      | func f =>
        simp only [trOpd, ev, Act.eval]
        exact .base (.fn _ _ _ rfl (by simp))
    · rw [hdo, hb]
      exact hI.nodom hσd
    · rintro x' en' v w' I' β' ⟨rfl, rfl⟩ hEff
      obtain ⟨β'', hI'⟩ := hI.eff hdok hEff (fun _ => by rw [hdo, hb]; exact hσd)
      rw [hb] at hI'
      exact hk _ _ (after hI')
  have skip : x = .val undef ∧ en = none → Kr (a.put o.dst undef) w := by
    rintro ⟨hx, hen⟩
    refine hk _ _ (after (I' := I) (β' := β) ?_)
    have := hI.put hdok (x := .val undef) (v := undef) (R_val _)
    rw [hx, hen]
    exact this
  -- the guard
  obtain ⟨g1, g2, g3⟩ := guard_run hg hI
  unfold Step1 at hstep
  cases hgd : ao.guard with
  | none =>
    rw [hgd] at hstep
    rw [g1 hgd]
    exact run hstep
  | some gb =>
    obtain ⟨g, b⟩ := gb
    rw [hgd] at hstep
    have hgl : g ∈ o.looksAt ops := by
      rw [hgd] at hg
      unfold trGuard at hg
      split at hg
      · cases hg
      · rename_i j b' ho'
        split at hg
        · rename_i d hd
          simp only [Option.some.injEq, Prod.mk.injEq] at hg
          obtain ⟨rfl, rfl⟩ := hg
          unfold Oper.looksAt
          refine List.mem_append_right _ ?_
          rw [ho']
          simp [hd]
        · cases hg
    simp only at hstep
    split at hstep
    · rename_i c hc
      have hc' := get_some hc (by simp)
      rw [hsame g hgl] at hc'
      rw [g2 g b c hgd hc']
      by_cases ec : c = b
      · subst ec
        simp only [beq_self_eq_true, if_true]
        exact run (hstep.1 rfl)
      · have : (c == b) = false := by simpa using ec
        rw [this]
        simp only [Bool.false_eq_true, if_false]
        exact skip (hstep.2 (bool_not ec))
    · rename_i v hnb hv
      have hv' := get_some hv (by simp)
      rw [hsame g hgl] at hv'
      rw [g3 g b v hgd hv' (fun c ec => by subst ec; exact hnb c rfl)]
      simp only [Bool.false_eq_true, if_false]
      exact skip hstep
    · exact hstep.elim

end
end Go.Am
