/-
  The abstract machine, part 11: what holds between an abstract state and the model's; the store.
-/
import Derived.Test.YtljkjogggfdgiaaAm10
namespace Go.Am
open Go.RowKit

/-- A slot of the innermost frame. -/
def slot : Option Nat → Option (Nat × Nat)
  | some d => some (0, d)
  | none => none

def setE {κ α : Type} [DecidableEq κ] (e : κ → Option α) (d : Option κ) (x : Option α) : κ → Option α :=
  match d with
  | some d => fun t => if t = d then x else e t
  | none => e

def setS (σ : Nat → Option Entry) (d : Option Nat) : Option Entry → Nat → Option Entry
  | some en => setE σ d (some en)
  | none => σ

section
variable {P : Program} {F : Frame0} {e : Nat × Nat → Option AV} {σ : Nat → Option Entry} {I : Nat → Nat → Prop} {w : World} {β : Blocks} {lam : Owned} {a : Act}

theorem Inv.le (h : Inv F e σ I β lam a w) : F.w0.heap.size ≤ w.heap.size := h.below.size

theorem put_get {d t : Nat} {v : Value} (hd : d < a.tmps.size) : (a.put (some d) v).tmps[t]? = if t = d then some v else a.tmps[t]? := by
  simp only [Act.put, Array.getElem?_setIfInBounds]
  by_cases e : d = t
  · subst e; simp [hd]
  · rw [if_neg e, if_neg (fun h => e h.symm)]

theorem val_put {d : Nat} {t : Nat × Nat} {v : Value} (hd : d < a.tmps.size) : F.val (a.put (some d) v) t = if t = (0, d) then some v else F.val a t := by
  obtain ⟨f, t⟩ := t
  cases f with
  | zero =>
    simp only [Frame0.val, put_get hd, Prod.mk.injEq, true_and]
  | succ f => simp [Frame0.val]

theorem put_size {d : Option Nat} {v : Value} : (a.put d v).tmps.size = a.tmps.size := by
  cases d <;> simp [Act.put]

theorem put_defers {d : Option Nat} {v : Value} : (a.put d v).defers = a.defers := by
  cases d <;> rfl

/-- Where no slot is written, or what is known of it is not kept. -/
theorem Inv.env_sub {e' : Nat × Nat → Option AV} (h : Inv F e σ I β lam a w) (hs : ∀ t x, e' t = some x → e t = some x) : Inv F e' σ I β lam a w :=
  { h with env := fun t x ht => h.env t x (hs t x ht) }

/-- A slot takes a value. -/
theorem Inv.put (h : Inv F e σ I β lam a w) {d : Option Nat} (hd : dstOk F.N d = true) {x : AV} {v : Value} (hx : R I w β lam x v) :
    Inv F (setE e (slot d) (some x)) σ I β lam (a.put d v) w := by
  refine { h with defers := by rw [put_defers]; exact h.defers, size := by rw [put_size]; exact h.size, env := fun t y ht => ?_ }
  cases d with
  | none => exact h.env t y ht
  | some d =>
    have hd' : d < a.tmps.size := by
      rw [h.size]
      simpa [dstOk] using hd
    simp only [setE, slot] at ht
    rw [val_put hd']
    split at ht
    · simp only [Option.some.injEq] at ht
      subst ht
      rename_i e
      exact ⟨v, by rw [if_pos e], hx⟩
    · rename_i e
      obtain ⟨u, h1, h2⟩ := h.env t y ht
      exact ⟨u, by rw [if_neg e]; exact h1, h2⟩

/-- Where an array of the function's own lies. -/
theorem Inv.ublock (h : Inv F e σ I β lam a w) {l : Nat} {b o cap sz : Nat} (hl : lam l = some (some ⟨b, o, none⟩, 0, cap, sz)) (h0 : 0 < cap * sz) :
    F.w0.heap.size ≤ b ∧ b < w.heap.size ∧ (∀ k, β k ≠ some b) ∧ ∀ c, c < cap * sz → (∃ v, w.cell? ⟨b, o + c, none⟩ = some v) ∧ w.frozen? ⟨b, o + c, none⟩ = false ∧ ¬ I b (o + c) := by
  have one : ∀ c, c < cap * sz → F.w0.heap.size ≤ b ∧ (∃ v, w.cell? ⟨b, o + c, none⟩ = some v) ∧ w.frozen? ⟨b, o + c, none⟩ = false ∧ ¬ I b (o + c) ∧ ∀ k, β k ≠ some b := fun c hc => by
    obtain ⟨b', o', e1, e2, e3, e4, e5, e6⟩ := h.spare l _ _ _ _ hl c (by omega) hc
    simp only [Option.some.injEq, Addr.mk.injEq] at e1
    obtain ⟨rfl, rfl, _⟩ := e1
    exact ⟨e2, e3, e4, e5, e6⟩
  obtain ⟨g1, ⟨v, g2⟩, _, _, g5⟩ := one 0 h0
  exact ⟨g1, World.block_lt_of_cell? _ _ g2, g5, fun c hc => ⟨(one c hc).2.1, (one c hc).2.2.1, (one c hc).2.2.2.1⟩⟩

/-- The world has grown; what may be looked at has. -/
theorem Inv.grow (h : Inv F e σ I β lam a w) {w' : World} {I' : Nat → Nat → Prop} (hb : Below w.heap.size w w') (hs : ∀ b o, I b o → I' b o)
    (hn : ∀ b o, I' b o → I b o ∨ (w.heap.size ≤ b ∧ b < w'.heap.size)) : Inv F e σ I' β lam a w' := by
  have hcell : ∀ b o, b < w.heap.size → w'.cell? ⟨b, o, none⟩ = w.cell? ⟨b, o, none⟩ := fun b o hlt => hb.cell (p := ⟨b, o, none⟩) hlt
  have hfr : ∀ b o, b < w.heap.size → w'.frozen? ⟨b, o, none⟩ = w.frozen? ⟨b, o, none⟩ := fun b o hlt => hb.frozen (p := ⟨b, o, none⟩) hlt
  have hw : ∀ b o v, I b o → w.cell? ⟨b, o, none⟩ = some v → w'.cell? ⟨b, o, none⟩ = some v := fun b o v hi hv => by rw [hcell _ _ (h.Isub _ _ hi)]; exact hv
  have hle := hb.size
  exact
    { defers := h.defers
      size := h.size
      below := h.below.trans (hb.mono h.le)
      env := fun t x ht => (h.env t x ht).imp fun v hv => ⟨hv.1, hv.2.mono hs hw (fun _ _ h => h) (fun _ _ h => h)⟩
      sto := fun k en hk hu => (h.sto k en hk hu).imp fun b hb' => ⟨hb'.1, hb'.2.mono hs hw (fun _ _ h => h) (fun _ _ h => h) (hb.block b (h.bnew k b hb'.1).2.1)⟩
      usto := fun l sz rows hk => (h.usto l sz rows hk).mono hs hw (fun _ _ h => h) (fun _ _ h => h) (fun b o cap q v hl hq hv => by
        rw [hcell _ _ (h.ublock hl (by omega)).2.1]; exact hv)
      bdom := h.bdom
      binj := h.binj
      bnew := fun k b hk => ⟨(h.bnew k b hk).1, Nat.lt_of_lt_of_le (h.bnew k b hk).2.1 hle, fun o hi => by
        rcases hn b o hi with hi | hi
        · exact (h.bnew k b hk).2.2 o hi
        · exact Nat.lt_irrefl _ (Nat.lt_of_lt_of_le (h.bnew k b hk).2.1 hi.1)⟩
      Isub := fun b o hi => by
        rcases hn b o hi with hi | hi
        · exact Nat.lt_of_lt_of_le (h.Isub b o hi) hle
        · exact hi.2
      I0sub := fun b o hi => hs _ _ (h.I0sub b o hi)
      Inew := fun b o hi => by
        rcases hn b o hi with hi | hi
        · exact h.Inew b o hi
        · exact .inr (Nat.le_trans h.le hi.1)
      spare := fun l av len cap sz hl c h1 h2 => by
        obtain ⟨b, o, e1, e2, ⟨v, e3⟩, e4, e5, e6⟩ := h.spare l av len cap sz hl c h1 h2
        have hlt : b < w.heap.size := World.block_lt_of_cell? _ _ e3
        refine ⟨b, o, e1, e2, ⟨v, by rw [hcell _ _ hlt]; exact e3⟩, by rw [hfr _ _ hlt]; exact e4, fun hi => ?_, e6⟩
        rcases hn _ _ hi with hi | hi
        · exact e5 hi
        · omega
      ldis := h.ldis }

/-- A new variable. -/
theorem Inv.new (h : Inv F e σ I β lam a w) {d nb : Nat} {en : Entry} (hu : en.isU = false) (hd : σ d = none) (h1 : F.w0.heap.size ≤ nb) (h2 : nb < w.heap.size) (h3 : ∀ o, ¬ I nb o)
    (h4 : ∀ k, β k ≠ some nb) (h5 : RE I w (fun k => if k = d then some nb else β k) lam nb en)
    (h6 : ∀ l a len cap sz, lam l = some (a, len, cap, sz) → ∀ c, len * sz ≤ c → c < cap * sz → ∀ b o, a = some ⟨b, o, none⟩ → b ≠ nb) :
    Inv F e (setE σ (some d) (some en)) I (fun k => if k = d then some nb else β k) lam a w := by
  have hdn : β d = none := by
    cases hb : β d with
    | none => rfl
    | some b => obtain ⟨en, h', _⟩ := h.bdom d b hb; rw [hd] at h'; cases h'
  have hβ : ∀ k b, β k = some b → (if k = d then some nb else β k) = some b := fun k b hk => by
    by_cases e : k = d
    · subst e; rw [hdn] at hk; cases hk
    · rw [if_neg e]; exact hk
  refine { h with env := ?_, sto := ?_, usto := ?_, bdom := ?_, binj := ?_, bnew := ?_, spare := ?_ }
  · exact fun t x ht => (h.env t x ht).imp fun v hv => ⟨hv.1, hv.2.mono (fun _ _ h => h) (fun _ _ _ _ h => h) hβ (fun _ _ h => h)⟩
  · intro k en' hk hu'
    simp only [setE] at hk
    split at hk
    · rename_i e
      simp only [Option.some.injEq] at hk
      subst hk
      exact ⟨nb, by rw [if_pos e], h5⟩
    · rename_i e
      obtain ⟨b, hb, hE⟩ := h.sto k en' hk hu'
      exact ⟨b, by rw [if_neg e]; exact hb, hE.mono (fun _ _ h => h) (fun _ _ _ _ h => h) hβ (fun _ _ h => h) rfl⟩
  · intro l sz rows hk
    simp only [setE] at hk
    split at hk
    · simp only [Option.some.injEq] at hk
      subst hk
      cases hu
    · exact (h.usto l sz rows hk).mono (fun _ _ h => h) (fun _ _ _ _ h => h) hβ (fun _ _ h => h) (fun _ _ _ _ _ _ _ h => h)
  · intro k b hk
    simp only [setE]
    by_cases e : k = d
    · exact ⟨en, by rw [if_pos e], hu⟩
    · rw [if_neg e] at hk ⊢
      exact h.bdom k b hk
  · intro k k' b hk hk'
    by_cases e : k = d <;> by_cases e' : k' = d
    · rw [e, e']
    · rw [if_pos e] at hk; rw [if_neg e'] at hk'; cases hk; exact absurd hk' (h4 k')
    · rw [if_neg e] at hk; rw [if_pos e'] at hk'; cases hk'; exact absurd hk (h4 k)
    · rw [if_neg e] at hk; rw [if_neg e'] at hk'; exact h.binj k k' b hk hk'
  · intro k b hk
    by_cases e : k = d
    · rw [if_pos e] at hk; cases hk; exact ⟨h1, h2, h3⟩
    · rw [if_neg e] at hk; exact h.bnew k b hk
  · intro l av len cap sz hl c hc1 hc2
    obtain ⟨b, o, e1, e2, e3, e4, e5, e6⟩ := h.spare l av len cap sz hl c hc1 hc2
    refine ⟨b, o, e1, e2, e3, e4, e5, fun k hk => ?_⟩
    by_cases e : k = d
    · rw [if_pos e] at hk
      simp only [Option.some.injEq] at hk
      exact h6 l av len cap sz hl c hc1 hc2 b o e1 hk.symm
    · rw [if_neg e] at hk; exact e6 k hk

/-- What an operation of the first kind leaves: 'nm' is the name of what is new. -/
theorem Inv.eff (h : Inv F e σ I β lam a w) {dst : Option Nat} {nm : Nat} (hdst : dstOk F.N dst = true) {x : AV} {en : Option Entry} {v : Value} {w' : World} {I' : Nat → Nat → Prop} {β' : Blocks}
    (hE : Eff w I β lam nm x en v w' I' β') (hd : en ≠ none → σ nm = none) :
    ∃ β'', Inv F (setE e (slot dst) (some x)) (setS σ (dst.map fun _ => nm) en) I' β'' lam (a.put dst v) w' := by
  have hg := h.grow hE.below hE.sub hE.new
  cases en with
  | none =>
    have hβ := hE.old rfl
    subst hβ
    exact ⟨β', hg.put hdst hE.val⟩
  | some ed =>
    obtain ⟨nb, h1, h2, h3, h4, h5, h6⟩ := hE.fresh ed rfl
    cases dst with
    | none =>
      refine ⟨β, ?_⟩
      simp only [setE, setS, slot, Option.map_none]
      exact hg
    | some d =>
      subst h5
      have hu : ed.isU = false := by
        cases ed with
        | uarr => exact h6.elim
        | _ => rfl
      refine ⟨_, (hg.new hu (hd (by simp)) (Nat.le_trans h.le h1) h2 h3 (fun k hk => ?_) h6 (fun l av len cap sz hl c hc1 hc2 b o e he => ?_)).put hdst hE.val⟩
      · have := (h.bnew k nb hk).2.1
        omega
      · subst he
        obtain ⟨b', o', e1, _, ⟨u, e3⟩, _⟩ := h.spare l av len cap sz hl c hc1 hc2
        rw [e] at e1
        cases e1
        have : b < w.heap.size := World.block_lt_of_cell? _ _ e3
        omega

/-! ### cells written -/

theorem setCells_heap (b : Nat) : ∀ (vs : List Value) (o : Nat) (w : World), (w.setCells b o vs).heap.size = w.heap.size ∧ (w.setCells b o vs).os = w.os ∧ (w.setCells b o vs).tape = w.tape ∧
    (w.setCells b o vs).output = w.output ∧ ∀ k, k ≠ b → (w.setCells b o vs).heap[k]? = w.heap[k]? := by
  intro vs
  induction vs with
  | nil => intro o w; exact ⟨rfl, rfl, rfl, rfl, fun _ _ => rfl⟩
  | cons v vs ih =>
    intro o w
    simp only [World.setCells]
    obtain ⟨h1, h2, h3, h4, h5⟩ := ih (o + 1) (w.setCell ⟨b, o, none⟩ v)
    exact ⟨by rw [h1]; simp, h2, h3, h4, fun k hk => by rw [h5 k hk, Below.heap_setCell _ _ _ _ hk]⟩

theorem setCells_frozen (b : Nat) : ∀ (vs : List Value) (o : Nat) (w : World) (p : Addr), (w.setCells b o vs).frozen? p = w.frozen? p := by
  intro vs
  induction vs with
  | nil => intro o w p; rfl
  | cons v vs ih =>
    intro o w p
    simp only [World.setCells]
    rw [ih, World.frozen?_setCell]

theorem setCells_cell (b : Nat) : ∀ (vs : List Value) (o : Nat) (w : World), (∀ j, j < vs.length → (w.cell? ⟨b, o + j, none⟩).isSome = true) →
    ∀ q, (w.setCells b o vs).cell? ⟨b, q, none⟩ = if o ≤ q ∧ q < o + vs.length then vs[q - o]? else w.cell? ⟨b, q, none⟩ := by
  intro vs
  induction vs with
  | nil => intro o w _ q; rw [if_neg (by simp)]; rfl
  | cons v vs ih =>
    intro o w hc q
    simp only [World.setCells]
    have h0 := hc 0 (by simp)
    obtain ⟨u, hu⟩ := Option.isSome_iff_exists.1 h0
    rw [ih (o + 1) _ (fun j hj => by
      rw [World.cell?_setCell_other _ _ _ _ (by simp; omega)]
      have := hc (j + 1) (by simp; omega)
      rwa [show o + (j + 1) = o + 1 + j by omega] at this)]
    by_cases hq : q = o
    · subst hq
      rw [if_neg (by omega), if_pos (by simp)]
      rw [World.cell?_setCell_same _ _ _ (u := u) (by simpa using hu)]
      simp
    · by_cases h2 : o ≤ q ∧ q < o + (vs.length + 1)
      · rw [if_pos (by omega), if_pos (by simpa using h2)]
        rw [show q - o = (q - (o + 1)) + 1 by omega]
        simp
      · rw [if_neg (by omega), if_neg (by simpa using h2)]
        rw [World.cell?_setCell_other _ _ _ _ (by simp; omega)]

theorem setCells_other {b : Nat} {vs : List Value} {o : Nat} {w : World} {b' q : Nat} (h : b' ≠ b) : (w.setCells b o vs).cell? ⟨b', q, none⟩ = w.cell? ⟨b', q, none⟩ := by
  simp only [World.cell?, (setCells_heap b vs o w).2.2.2.2 b' h]

theorem run_storeVar_any {t : TypeId} {n b o : Nat} {v : Value} (hn : szT P t = some n) (hs : v.cells.size = n) (hc : ∀ j, j < n → (w.cell? ⟨b, o + j, none⟩).isSome = true)
    (hf : ∀ j, j < n → w.frozen? ⟨b, o + j, none⟩ = false) (h1 : ∀ u ∈ v.cells.toList, u.oneCell' = true) :
    (Instr.storeAt t (.pointer (some ⟨b, o, none⟩)) v).run P w = .ok () (w.setCells b o v.cells.toList) := by
  have := run_storeCells_cells (P := P) b o v.cells.toList 0 w (fun j hj => by simpa using hc j (by simpa [hs] using hj)) (fun j hj => by simpa using hf j (by simpa [hs] using hj)) h1
  simp only [Nat.add_zero] at this
  simp [Instr.storeAt, Instr.sureAddr, storeVar, run_cast hn, hs, this]

end
end Go.Am
