/-
  The abstract machine, part 33: states of which some slots are not looked at yet; operations that change what was there, over them.
-/
import Derived.Test.YtljkjogggfdgiaaAm21
namespace Go.Am
open Go.RowKit

/-- The same slots and the same variables. -/
def Same (s s' : St) : Prop := s.look = s'.look ∧ lk s.sto = lk s'.sto ∧ s.base = s'.base

theorem Same.refl (s : St) : Same s s := ⟨rfl, rfl, rfl⟩
theorem Same.symm {s s' : St} (h : Same s s') : Same s' s := ⟨h.1.symm, h.2.1.symm, h.2.2.symm⟩
theorem Same.trans {s s' s'' : St} (h : Same s s') (h' : Same s' s'') : Same s s'' := ⟨h.1.trans h'.1, h.2.1.trans h'.2.1, h.2.2.trans h'.2.2⟩
theorem Holds.same {F : Frame0} {s s' : St} {a : Act} {w : World} (h : Holds F s a w) (e : Same s s') : Holds F s' a w := by
  obtain ⟨I, β, lam, hI⟩ := h
  exact ⟨I, β, lam, by rw [← e.1, ← e.2.1]; exact hI⟩

/-- The slots of 'D' are not looked at, nor are the variables that are called so. -/
def St.mask (s : St) (D : List Nat) : St := { s with env := del D s.env, sto := del (s.nm D) s.sto }

theorem nm_elem {s : St} {D : List Nat} {k : Nat} : (s.nm D).elem k = true ↔ ∃ d, D.elem d = true ∧ k = s.base + d := by
  simp only [St.nm, List.elem_eq_mem, decide_eq_true_eq, List.mem_map]
  constructor
  · rintro ⟨d, h1, rfl⟩; exact ⟨d, h1, rfl⟩
  · rintro ⟨d, h1, rfl⟩; exact ⟨d, h1, rfl⟩
theorem mask_env {s : St} {D : List Nat} {t : Nat} : lk (s.mask D).env t = if D.elem t = true then none else lk s.env t := lk_del _ _ _
theorem mask_sto {s : St} {D : List Nat} {k : Nat} : lk (s.mask D).sto k = if (s.nm D).elem k = true then none else lk s.sto k := lk_del _ _ _
theorem mask_base {s : St} {D : List Nat} : (s.mask D).base = s.base := rfl
theorem mask_look0 {s : St} {D : List Nat} {t : Nat} : (s.mask D).look (0, t) = if D.elem t = true then none else lk s.env t := mask_env
theorem mask_look1 {s : St} {D : List Nat} {d t : Nat} : (s.mask D).look (d + 1, t) = s.look (d + 1, t) := rfl
theorem mask_keep {s : St} {D : List Nat} {k : Nat} {en : Entry} (h : lk (s.mask D).sto k = some en) : lk s.sto k = some en ∧ (s.nm D).elem k = false := by
  rw [mask_sto] at h
  split at h
  · cases h
  · rename_i h2; exact ⟨h, by simpa using h2⟩

theorem Same.of {s s' : St} (h0 : ∀ t, lk s.env t = lk s'.env t) (h1 : ∀ d t, s.look (d + 1, t) = s'.look (d + 1, t)) (h2 : ∀ k, lk s.sto k = lk s'.sto k) (h3 : s.base = s'.base) : Same s s' := by
  refine ⟨funext fun t => ?_, funext h2, h3⟩
  obtain ⟨d, t⟩ := t
  cases d with
  | zero => exact h0 t
  | succ d => exact h1 d t

theorem look_dg1 {s : St} {l d t : Nat} : (s.dg l).look (d + 1, t) = (s.look (d + 1, t)).map (dg l) := by
  have := congrFun (lk_dg s l).1 (d + 1, t)
  exact this
theorem env_dg {s : St} {l t : Nat} : lk (s.dg l).env t = (lk s.env t).map (dg l) := lk_map _ _ _
theorem sto_dg {s : St} {l k : Nat} : lk (s.dg l).sto k = (lk s.sto k).map (dgE l) := lk_map _ _ _

theorem mask_dg {s : St} {D : List Nat} {l : Nat} : Same ((s.mask D).dg l) ((s.dg l).mask D) := by
  refine .of (fun t => ?_) (fun d t => ?_) (fun k => ?_) rfl
  · rw [env_dg, mask_env, mask_env, env_dg]; split <;> rfl
  · rw [look_dg1, mask_look1, mask_look1, look_dg1]
  · rw [sto_dg, mask_sto, mask_sto, sto_dg]
    show Option.map (dgE l) (if (s.nm D).elem k = true then none else lk s.sto k) = if (s.nm D).elem k = true then none else _
    split <;> rfl

theorem Same.put {s s' : St} (h : Same s s') {d : Option Nat} {x : AV} : Same (s.put d x) (s'.put d x) := by
  refine ⟨by rw [look_put, look_put, h.1], ?_, ?_⟩
  · cases d <;> exact h.2.1
  · cases d <;> exact h.2.2
theorem Same.new {s s' : St} (h : Same s s') {d : Option Nat} {en : Option Entry} : Same (s.new d en) (s'.new d en) := by
  cases d with
  | none => cases en <;> exact h
  | some d => cases en with
    | none => exact h
    | some en =>
      refine ⟨by simp only [St.new]; rw [look_sto, h.1]; exact look_sto.symm, ?_, h.2.2⟩
      funext k
      simp only [St.new, lk_pt, h.2.1, h.2.2]
theorem Same.pt {s s' : St} (h : Same s s') {k : Nat} {en : Entry} : Same { s with sto := pt s.sto k en } { s' with sto := Am.pt s'.sto k en } := by
  refine ⟨by rw [look_sto, h.1]; exact look_sto.symm, ?_, h.2.2⟩
  funext j
  simp only [lk_pt, h.2.1]
theorem Same.dg {s s' : St} (h : Same s s') {l : Nat} : Same (s.dg l) (s'.dg l) := by
  refine ⟨by rw [(lk_dg s l).1, (lk_dg s' l).1, h.1], ?_, h.2.2⟩
  rw [(lk_dg s l).2, (lk_dg s' l).2, h.2.1]

theorem mask_pt {s : St} {D : List Nat} {j : Nat} {en : Entry} (hj : (s.nm D).elem j = false) : Same { (s.mask D) with sto := pt (s.mask D).sto j en } (St.mask { s with sto := pt s.sto j en } D) := by
  refine .of (fun t => rfl) (fun d t => rfl) (fun k => ?_) rfl
  show lk (Am.pt (s.mask D).sto j en) k = lk (del (s.nm D) (Am.pt s.sto j en)) k
  rw [lk_pt, mask_sto, lk_del, lk_pt]
  by_cases h : j = k
  · subst h; rw [if_pos rfl, hj]; simp
  · rw [if_neg h, if_neg h]

/-- A slot that was masked is written, and its variable made. -/
theorem mask_put {s : St} {D D' : List Nat} {d : Nat} {x : AV} {en : Option Entry} (hD : ∀ t, D'.elem t = true ↔ D.elem t = true ∧ t ≠ d) (hf : lk s.sto (s.base + d) = none) :
    Same (((s.mask D).put (some d) x).new (some d) en) (((s.put (some d) x).new (some d) en).mask D') := by
  refine .of (fun t => ?_) (fun q t => ?_) (fun k => ?_) (by cases en <;> rfl)
  · have e1 : lk (((s.mask D).put (some d) x).new (some d) en).env t = if d = t then some x else lk (s.mask D).env t := by
      cases en <;> exact lk_pt _ _ _ _
    have e2 : lk ((s.put (some d) x).new (some d) en).env t = if d = t then some x else lk s.env t := by
      cases en <;> exact lk_pt _ _ _ _
    rw [e1, mask_env, mask_env, e2]
    by_cases h : d = t
    · subst h
      have : D'.elem d = false := by
        cases hd : D'.elem d with
        | false => rfl
        | true => exact absurd rfl ((hD d).1 hd).2
      rw [this]; simp
    · rw [if_neg h, if_neg h]
      have : D'.elem t = D.elem t := by
        rw [Bool.eq_iff_iff, hD t]
        exact ⟨fun h => h.1, fun h' => ⟨h', fun e => h e.symm⟩⟩
      rw [this]
  · cases en <;> rfl
  · have hb : ∀ (s : St), ((s.put (some d) x).new (some d) en).base = s.base := fun s => by cases en <;> rfl
    have e1 : ∀ (s : St), lk ((s.put (some d) x).new (some d) en).sto k = match en with
        | some e => if s.base + d = k then some e else lk s.sto k
        | none => lk s.sto k := fun s => by
      cases en with
      | none => rfl
      | some e => exact lk_pt _ _ _ _
    rw [e1, mask_sto (D := D'), e1]
    have hn : ∀ (D : List Nat), ((s.put (some d) x).new (some d) en).nm D = s.nm D := fun D => by simp only [St.nm, hb]
    rw [hn, mask_base]
    have hk : s.base + d ≠ k → (s.nm D').elem k = (s.nm D).elem k := by
      intro hne
      rw [Bool.eq_iff_iff, nm_elem, nm_elem]
      constructor
      · rintro ⟨t, h1, rfl⟩; exact ⟨t, ((hD t).1 h1).1, rfl⟩
      · rintro ⟨t, h1, rfl⟩; exact ⟨t, (hD t).2 ⟨h1, fun e => hne (by rw [e])⟩, rfl⟩
    have hd0 : (s.nm D').elem (s.base + d) = false := by
      cases hc : (s.nm D').elem (s.base + d) with
      | false => rfl
      | true =>
        obtain ⟨t, h1, h2⟩ := nm_elem.1 hc
        have : t = d := by omega
        subst this
        exact absurd rfl ((hD t).1 h1).2
    by_cases h : s.base + d = k
    · subst h
      rw [hd0, mask_sto]
      cases en with
      | none => simp [hf]
      | some e => simp
    · rw [mask_sto, hk h]
      cases en with
      | none => simp
      | some e => simp only [h, if_false]

section
variable {P : Program} {F : Frame0} {I : Nat → Nat → Prop} {β : Blocks} {lam : Owned} {a : Act} {w : World} {s : St} {D D' : List Nat} {K : St → Prop}

theorem ptr_keep (hI : Inv F (s.mask D).look (lk (s.mask D).sto) I β lam a w) {k b : Nat} (hβ : β k = some b) : (s.nm D).elem k = false := by
  obtain ⟨en, h, _⟩ := hI.bdom k b hβ
  exact (mask_keep h).2

/-- What leads to a variable that is the function's own leads to one that is looked at. -/
theorem leads_keep (hI : Inv F (s.mask D).look (lk (s.mask D).sto) I β lam a w) {x : AV} {v : Value} (h : R I w β lam x v) {k : Nat}
    (hx : (∃ off, x = .ptr k off) ∨ (∃ sz i off, x = .eptr k sz i off) ∨ (∃ sz off len, x = .sl k sz off len)) : (s.nm D).elem k = false := by
  cases h with
  | base h =>
    rcases hx with ⟨_, rfl⟩ | ⟨_, _, _, rfl⟩ | ⟨_, _, _, rfl⟩ <;> cases h
  | ptr k' off b hb =>
    rcases hx with ⟨_, h⟩ | ⟨_, _, _, h⟩ | ⟨_, _, _, h⟩ <;> cases h
    exact ptr_keep hI hb
  | eptr k' sz i off b hb =>
    rcases hx with ⟨_, h⟩ | ⟨_, _, _, h⟩ | ⟨_, _, _, h⟩ <;> cases h
    exact ptr_keep hI hb
  | sl k' sz off len cap b av hb hc ha =>
    rcases hx with ⟨_, h⟩ | ⟨_, _, _, h⟩ | ⟨_, _, _, h⟩ <;> cases h
    exact ptr_keep hI hb
  | own => rcases hx with ⟨_, h⟩ | ⟨_, _, _, h⟩ | ⟨_, _, _, h⟩ <;> cases h
  | fn => rcases hx with ⟨_, h⟩ | ⟨_, _, _, h⟩ | ⟨_, _, _, h⟩ <;> cases h
  | us => rcases hx with ⟨_, h⟩ | ⟨_, _, _, h⟩ | ⟨_, _, _, h⟩ <;> cases h
  | up => rcases hx with ⟨_, h⟩ | ⟨_, _, _, h⟩ | ⟨_, _, _, h⟩ <;> cases h
  | tuple => rcases hx with ⟨_, h⟩ | ⟨_, _, _, h⟩ | ⟨_, _, _, h⟩ <;> cases h

theorem uo_keep (hU : ∀ t, D.elem t = true → isUO (lk s.sto (s.base + t)) = false) {k sz : Nat} {rows : List (List AV)} (h : lk s.sto k = some (.uarr sz rows)) : (s.nm D).elem k = false := by
  cases hc : (s.nm D).elem k with
  | false => rfl
  | true =>
    obtain ⟨t, h1, rfl⟩ := nm_elem.1 hc
    have := hU t h1
    rw [h] at this
    cases this

theorem addRows_keep {σ σ' : Nat → Option Entry} {sz : Nat} {x : AV} {k : List (List AV) → Prop} (h : addRows σ sz x k)
    (hs : ∀ j a b c, x = .sl j a b c → σ' j = σ j) (hu : ∀ j sz rows, σ j = some (.uarr sz rows) → σ' j = σ j) : addRows σ' sz x k := by
  unfold addRows at h ⊢
  split at h
  · exact h
  · rename_i j sz' off len
    rw [hs j _ _ _ rfl]; exact h
  · rename_i j sz' off len
    refine ⟨h.1, ?_⟩
    have h2 := h.2
    split at h2
    · rename_i sz'' rows e
      rw [hu j _ _ e, e]; exact h2
    · exact h2.elim
  · exact h
  · exact h.elim
theorem addRowsU_keep {σ σ' : Nat → Option Entry} {sz : Nat} {x : AV} {k : List (List AV) → Prop} (h : addRowsU σ sz x k)
    (hs : ∀ j a b c, x = .sl j a b c → σ' j = σ j) (hu : ∀ j sz rows, σ j = some (.uarr sz rows) → σ' j = σ j) : addRowsU σ' sz x k := by
  unfold addRowsU at h ⊢
  split at h
  · rename_i j sz' off len
    refine ⟨h.1, ?_⟩
    have h2 := h.2
    split at h2
    · rename_i sz'' rows e
      rw [hu j _ _ e, e]; exact h2
    · exact h2.elim
  · exact addRows_keep h hs hu
theorem addRows_mon {σ : Nat → Option Entry} {sz : Nat} {x : AV} {k k' : List (List AV) → Prop} (hm : ∀ r, k r → k' r) (h : addRows σ sz x k) : addRows σ sz x k' := by
  unfold addRows at h ⊢
  split at h
  · exact ⟨h.1, hm _ h.2⟩
  · refine ⟨h.1, ?_⟩
    have h2 := h.2
    split at h2
    · exact ⟨h2.1, h2.2.1, hm _ h2.2.2⟩
    · exact h2.elim
  · refine ⟨h.1, ?_⟩
    have h2 := h.2
    split at h2
    · exact ⟨h2.1, h2.2.1, h2.2.2.1, hm _ h2.2.2.2⟩
    · exact h2.elim
  · exact ⟨h.1, hm _ h.2⟩
  · exact h.elim
theorem addRowsU_mon {σ : Nat → Option Entry} {sz : Nat} {x : AV} {k k' : List (List AV) → Prop} (hm : ∀ r, k r → k' r) (h : addRowsU σ sz x k) : addRowsU σ sz x k' := by
  unfold addRowsU at h ⊢
  split at h
  · refine ⟨h.1, ?_⟩
    have h2 := h.2
    split at h2
    · exact ⟨h2.1, h2.2.1, hm _ h2.2.2⟩
    · exact h2.elim
  · exact addRows_mon hm h

theorem cpRows_keep {σ σ' : Nat → Option Entry} {sz : Nat} {x : AV} {k k' : List (List AV) → Prop} (h : cpRows σ sz x k)
    (hs : ∀ j a b c, x = .sl j a b c → σ' j = σ j) (hu : ∀ j sz rows, σ j = some (.uarr sz rows) → σ' j = σ j) (hm : ∀ r, k r → k' r) : cpRows σ' sz x k' := by
  cases x <;> first | exact h.elim | (simp only [cpRows] at h ⊢; exact addRows_mon hm (addRows_keep h hs hu))

/-- What an operation has left, where the slots of 'D' were not looked at. -/
def Left (s : St) (dst : Option Nat) (D' : List Nat) (K : St → Prop) (s' : St) : Prop :=
  ∃ A, K A ∧ Same s' (A.mask D') ∧ A.base = s.base ∧ ∀ k, lk s.sto k = none → (∀ d, dst = some d → k ≠ s.base + d) → lk A.sto k = none

def spOk2 : AOp → Bool
  | .appendU _ _ => true
  | op => spOk op

theorem mask_same (h : ∀ t, D'.elem t = D.elem t) : Same (s.mask D) (s.mask D') := by
  refine .of (fun t => ?_) (fun q t => rfl) (fun k => ?_) rfl
  · rw [mask_env, mask_env, h]
  · rw [mask_sto, mask_sto]
    have : (s.nm D').elem k = (s.nm D).elem k := by
      rw [Bool.eq_iff_iff, nm_elem, nm_elem]
      simp only [h]
    rw [this]

theorem left_put {d : Nat} (hD : ∀ t, D'.elem t = true ↔ D.elem t = true ∧ t ≠ d) (hf : lk s.sto (s.base + d) = none) {x : AV} {en : Option Entry} {A : St}
    (hA : ∀ k, lk s.sto k = none → lk A.sto k = none) (hb : A.base = s.base) {m : St} (hm : Same m (A.mask D)) (hK : K ((A.put (some d) x).new (some d) en)) :
    Left s (some d) D' K ((m.put (some d) x).new (some d) en) := by
  refine ⟨_, hK, (hm.put.new).trans (mask_put hD (hA _ (by rw [hb]; exact hf))), by cases en <;> exact hb, fun k hk hne => ?_⟩
  have h1 := hA k hk
  have h2 := hne d rfl
  cases en with
  | none => exact h1
  | some e =>
    show lk (Am.pt A.sto (A.base + d) e) k = none
    rw [lk_pt, if_neg (by rw [hb]; exact fun e => h2 e.symm)]
    exact h1

theorem mem_R {xs : List Opd} (hR : ∀ x ∈ xs, ∃ v, R I w β lam (ev (s.mask D) x) v) (hev : ∀ x ∈ xs, ev (s.mask D) x = ev s x) {x : AV} (h : x ∈ xs.map (ev s)) : ∃ v, R I w β lam x v := by
  obtain ⟨y, h1, rfl⟩ := List.mem_map.1 h
  rw [← hev y h1]
  exact hR y h1

theorem spec_op {ao : AOper} (hI : Inv F (s.mask D).look (lk (s.mask D).sto) I β lam a w)
    (hR : ∀ x ∈ ao.xs, ∃ v, R I w β lam (ev (s.mask D) x) v) (hev : ∀ x ∈ ao.xs, ev (s.mask D) x = ev s x)
    (hD : ∀ t, D'.elem t = true ↔ D.elem t = true ∧ ao.dst ≠ some t) (hU : ∀ t, D.elem t = true → isUO (lk s.sto (s.base + t)) = false)
    (hf : ∀ d, ao.dst = some d → lk s.sto (s.base + d) = none) (hsp : spOk2 ao.op = true) (h : awpOp P ao s K) : awpOp P ao (s.mask D) (Left s ao.dst D' K) := by
  have heq : ao.xs.map (ev (s.mask D)) = ao.xs.map (ev s) := List.map_congr_left hev
  have hmR : ∀ {x : AV}, x ∈ ao.xs.map (ev s) → ∃ v, R I w β lam x v := fun h => mem_R hR hev h
  have hun : ∀ {k : Nat}, (s.nm D).elem k = false → lk (s.mask D).sto k = lk s.sto k := fun h => by rw [mask_sto, h]; rfl
  have huo : ∀ (j sz : Nat) (rows : List (List AV)), lk s.sto j = some (.uarr sz rows) → lk (s.mask D).sto j = lk s.sto j := fun j sz rows h => hun (uo_keep hU h)
  have hsl : ∀ {x : AV}, x ∈ ao.xs.map (ev s) → ∀ (j a b c : Nat), x = .sl j a b c → lk (s.mask D).sto j = lk s.sto j := fun hx j p q r e => by
    obtain ⟨v, hv⟩ := hmR hx
    exact hun (leads_keep hI hv (.inr (.inr ⟨p, q, r, e⟩)))
  have hnone : ∀ {k : Nat}, lk s.sto k = none → lk (s.mask D).sto k = none := fun h => by rw [mask_sto, h]; simp
  have hDs : ∀ {d : Nat}, ao.dst = some d → ∀ t, D'.elem t = true ↔ D.elem t = true ∧ t ≠ d := fun {d} hd t => by
    rw [hD t, hd]
    simp only [ne_eq, Option.some.injEq]
    exact ⟨fun h => ⟨h.1, fun e => h.2 e.symm⟩, fun h => ⟨h.1, fun e => h.2 e.symm⟩⟩
  have hDn : ao.dst = none → ∀ t, D'.elem t = D.elem t := fun hd t => by
    rw [Bool.eq_iff_iff, hD t, hd]
    simp
  -- a variable is written
  have wr : ∀ {j : Nat} {e0 en : Entry}, lk s.sto j = some e0 → (s.nm D).elem j = false → ao.dst = none → K { s with sto := pt s.sto j en } → Left s ao.dst D' K { (s.mask D) with sto := pt (s.mask D).sto j en } := by
    intro j e0 en h0 hj hd hK
    refine ⟨_, hK, (mask_pt hj).trans (mask_same (hDn hd)), rfl, fun k hk _ => ?_⟩
    show lk (Am.pt s.sto j en) k = none
    rw [lk_pt, if_neg (fun e => by subst e; rw [h0] at hk; cases hk)]
    exact hk
  unfold awpOp at h ⊢
  rw [heq]
  cases hop : ao.op <;> rw [hop] at h hsp <;> first | (exfalso; exact Bool.false_ne_true hsp) | skip
  case store n =>
    simp only at h ⊢
    unfold eStore at h ⊢
    split at h
    · rename_i j off x hx
      have hj : (s.nm D).elem j = false := by
        obtain ⟨v, hv⟩ := hmR (x := .ptr j off) (by rw [hx]; simp)
        exact leads_keep hI hv (.inl ⟨_, rfl⟩)
      try simp only [hx]
      split at h
      · rename_i cells cs h1 h2
        obtain ⟨c1, c2, c3, hK⟩ := h
        rw [hun hj, h1, h2]
        exact ⟨c1, c2, c3, wr h1 hj c3 hK⟩
      · exact h.elim
    · rename_i j sz i off x hx
      have hj : (s.nm D).elem j = false := by
        obtain ⟨v, hv⟩ := hmR (x := .eptr j sz i off) (by rw [hx]; simp)
        exact leads_keep hI hv (.inr (.inl ⟨_, _, _, rfl⟩))
      try simp only [hx]
      split at h
      · rename_i sz' rows cs h1 h2
        obtain ⟨c0, c1, c2, c3, c4, c5, hK⟩ := h
        rw [hun hj, h1, h2]
        refine ⟨c0, c1, c2, c3, c4, c5, ?_⟩
        split at hK
        · rename_i r hr
          try simp only [hr]
          exact wr h1 hj c5 hK
        · exact hK.elim
      · exact h.elim
    · rename_i l sz i off x hx
      try simp only [hx]
      split at h
      · rename_i sz' rows cs h1 h2
        obtain ⟨c0, c1, c2, c5, hK⟩ := h
        rw [huo _ _ _ h1, h1, h2]
        refine ⟨c0, c1, c2, c5, ?_⟩
        split at hK
        · rename_i r hr
          try simp only [hr]
          exact wr h1 (uo_keep hU h1) c5 hK
        · exact hK.elim
      · exact h.elim
    · exact h.elim
  case append sz by_ =>
    simp only at h ⊢
    unfold eAppend at h ⊢
    split at h
    · rename_i sz1 m rows1 x hx
      try simp only [hx]
      refine addRows_mon (fun rows2 hk => ?_) (addRows_keep h (hsl (by rw [hx]; simp)) huo)
      obtain ⟨c1, c2, c3, hk⟩ := hk
      refine ⟨c1, c2, c3, ?_⟩
      split at hk
      · rename_i d hd
        obtain ⟨b1, b2, hK⟩ := hk
        rw [hd]
        refine ⟨b1, hnone b2, ?_⟩
        exact left_put (A := s.dg (s.base + d)) (en := none) (hDs hd) b2 (fun k hk => by rw [sto_dg, hk]; rfl) rfl mask_dg hK
      · rename_i l d hd
        obtain ⟨b1, b2, hK⟩ := hk
        rw [hd]
        refine ⟨b1, hnone b2, ?_⟩
        exact left_put (A := s.dg l) (en := none) (hDs hd) (hf d hd) (fun k hk => by rw [sto_dg, hk]; rfl) rfl mask_dg hK
      · exact hk.elim
    · exact h.elim
  case copy sz =>
    simp only at h ⊢
    unfold eCopy at h ⊢
    split at h
    · rename_i j sz1 off len x hx
      try simp only [hx]
      obtain ⟨c0, c1, h⟩ := h
      refine ⟨c0, c1, ?_⟩
      have hj : (s.nm D).elem j = false := by
        obtain ⟨v, hv⟩ := hmR (x := .sl j sz1 off len) (by rw [hx]; simp)
        exact leads_keep hI hv (.inr (.inr ⟨_, _, _, rfl⟩))
      refine cpRows_keep h (hsl (by rw [hx]; simp)) huo fun rows2 hk => ?_
      · skip
        · skip
          split at hk
          · rename_i sz' rows h1
            obtain ⟨b1, b2, b3, hK⟩ := hk
            rw [hun hj, h1]
            refine ⟨b1, b2, b3, ?_⟩
            cases hd : ao.dst with
            | none =>
              rw [hd] at hK
              have := wr h1 hj hd hK
              rw [hd] at this
              exact this
            | some d =>
              rw [hd] at hK
              refine left_put (en := none) (A := { s with sto := pt s.sto j _ }) (hDs hd) (hf d hd) (fun k hk => ?_) rfl (mask_pt hj) hK
              show lk (Am.pt s.sto j _) k = none
              rw [lk_pt, if_neg (fun e => by subst e; rw [h1] at hk; cases hk)]
              exact hk
          · exact hk.elim
    · exact h.elim
  case appendU sz by_ =>
    simp only at h ⊢
    unfold eAppendU at h ⊢
    split at h
    · rename_i sz0 rows1 x hx
      try simp only [hx]
      refine addRowsU_mon (fun rows2 hk => ?_) (addRowsU_keep h (hsl (by rw [hx]; simp)) huo)
      obtain ⟨c1, c2, c3, hk⟩ := hk
      refine ⟨c1, c2, c3, ?_⟩
      split at hk
      · rename_i d hd
        obtain ⟨b1, b2, hK⟩ := hk
        rw [hd]
        refine ⟨b1, hnone b2, ?_⟩
        exact left_put (A := s.dg (s.base + d)) (hDs hd) b2 (fun k hk => by rw [sto_dg, hk]; rfl) rfl mask_dg hK
      · exact hk.elim
    · rename_i l sz1 off len x hx
      try simp only [hx]
      refine addRowsU_mon (fun rows2 hk => ?_) (addRowsU_keep h (hsl (by rw [hx]; simp)) huo)
      obtain ⟨c1, c2, c3, hk⟩ := hk
      refine ⟨c1, c2, c3, ?_⟩
      split at hk
      · rename_i sz' rows1 d h1 hd
        obtain ⟨b1, b2, b3, b4, hK⟩ := hk
        rw [huo _ _ _ h1, h1, hd]
        refine ⟨b1, b2, b3, b4, ?_⟩
        have hj := uo_keep hU h1
        refine left_put (en := none) (A := { (s.dg l) with sto := pt (s.dg l).sto l _ }) (hDs hd) (hf d hd) (fun k hk => ?_) rfl ((mask_dg.pt).trans (mask_pt hj)) hK
        show lk (Am.pt (s.dg l).sto l _) k = none
        rw [lk_pt, if_neg (fun e => by subst e; rw [h1] at hk; cases hk), sto_dg, hk]
        rfl
      · exact hk.elim
    · exact h.elim
  case nilS neg =>
    simp only at h ⊢
    unfold eNilS at h ⊢
    split at h
    · rename_i x hx
      try simp only [hx]
      split at h
      · rename_i n hn
        have pu : ∀ v, K (s.put ao.dst v) → Left s ao.dst D' K ((s.mask D).put ao.dst v) := by
          intro v hK
          cases hd : ao.dst with
          | none =>
            rw [hd] at hK
            exact ⟨_, hK, mask_same (hDn hd), rfl, fun k hk _ => hk⟩
          | some d =>
            rw [hd] at hK
            exact left_put (en := none) (hDs hd) (hf d hd) (fun k hk => hk) rfl (Same.refl _) hK
        exact ⟨fun e => ⟨pu _ (h.1 e).1, pu _ (h.1 e).2⟩, fun e => pu _ (h.2 e)⟩
      · exact h.elim
    · exact h.elim

theorem spec_mask {ao : AOper} (hI : Inv F (s.mask D).look (lk (s.mask D).sto) I β lam a w)
    (hR : ∀ x ∈ ao.xs, ∃ v, R I w β lam (ev (s.mask D) x) v) (hev : ∀ x ∈ ao.xs, ev (s.mask D) x = ev s x) (hg : ∀ g b, ao.guard = some (g, b) → D.elem g = false)
    (hD : ∀ t, D'.elem t = true ↔ D.elem t = true ∧ ao.dst ≠ some t) (hU : ∀ t, D.elem t = true → isUO (lk s.sto (s.base + t)) = false)
    (hf : ∀ d, ao.dst = some d → lk s.sto (s.base + d) = none) (hsp : spOk2 ao.op = true) (h : awpOper P ao s K) : awpOper P ao (s.mask D) (Left s ao.dst D' K) := by
  have run : awpOp P ao s K → awpOp P ao (s.mask D) (Left s ao.dst D' K) := spec_op hI hR hev hD hU hf hsp
  have skip : K (s.put ao.dst (.val undef)) → Left s ao.dst D' K ((s.mask D).put ao.dst (.val undef)) := by
    intro hK
    cases hd : ao.dst with
    | none =>
      rw [hd] at hK
      refine ⟨_, hK, mask_same (fun t => ?_), rfl, fun k hk _ => hk⟩
      rw [Bool.eq_iff_iff, hD t, hd]
      simp
    | some d =>
      rw [hd] at hK
      refine left_put (en := none) (fun t => ?_) (hf d hd) (fun k hk => hk) rfl (Same.refl _) hK
      rw [hD t, hd]
      simp only [ne_eq, Option.some.injEq]
      exact ⟨fun h => ⟨h.1, fun e => h.2 e.symm⟩, fun h => ⟨h.1, fun e => h.2 e.symm⟩⟩
  unfold awpOper at h ⊢
  cases hgd : ao.guard with
  | none => rw [hgd] at h; exact run h
  | some gb =>
    obtain ⟨g, b⟩ := gb
    rw [hgd] at h
    have e : (s.mask D).get g = s.get g := by simp only [St.get, mask_env, hg g b hgd]; rfl
    simp only [e] at h ⊢
    split at h
    · rename_i c hc
      exact ⟨fun e => run (h.1 e), fun e => skip (h.2 e)⟩
    · exact skip h
    · exact h.elim

end
end Go.Am
