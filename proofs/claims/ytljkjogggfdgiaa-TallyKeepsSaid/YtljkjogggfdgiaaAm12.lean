/-
  The abstract machine, part 12: the store, and append.
-/
import Derived.Test.YtljkjogggfdgiaaAm11
import Derived.Deep.AppendSrc
namespace Go.Am
open Go.RowKit

section
variable {P : Program} {F : Frame0} {e : Nat × Nat → Option AV} {σ : Nat → Option Entry} {I : Nat → Nat → Prop} {w : World} {β : Blocks} {lam : Owned} {a : Act} {o : Oper}
  {Q : Exit → Act → World → Prop}

theorem mem_single {v : Value} (h : ∀ j, j < v.cells.size → single (v.cells.getD j undef) = true) : ∀ u ∈ v.cells.toList, u.oneCell' = true := by
  intro u hu
  obtain ⟨j, hj, rfl⟩ := List.getElem_of_mem hu
  have := h j (by simpa using hj)
  have hj' : j < v.cells.size := by simpa using hj
  simpa [hj'] using this

/-- A variable of the function's own is written. -/
theorem Inv.write (h : Inv F e σ I β lam a w) {j b q : Nat} {vs : List Value} {en : Entry} (hu : en.isU = false) (hj : β j = some b)
    (hE : RE I (w.setCells b q vs) β lam b en) : Inv F e (setE σ (some j) (some en)) I β lam a (w.setCells b q vs) := by
  obtain ⟨h1, h2, h3, h4, h5⟩ := setCells_heap b vs q w
  have hne : ∀ b' o, I b' o → b' ≠ b := fun b' o hi e => (h.bnew j b hj).2.2 o (e ▸ hi)
  have hw : ∀ b' o v, I b' o → w.cell? ⟨b', o, none⟩ = some v → (w.setCells b q vs).cell? ⟨b', o, none⟩ = some v := fun b' o v hi hv => by
    rw [setCells_other (hne _ _ hi)]; exact hv
  exact
    { defers := h.defers
      size := h.size
      below := h.below.trans ⟨h2, h3, h4, by rw [h1]; exact Nat.le_refl _, fun k hk => h5 k (by have := (h.bnew j b hj).1; omega)⟩
      env := fun t x ht => (h.env t x ht).imp fun v hv => ⟨hv.1, hv.2.mono (fun _ _ h => h) hw (fun _ _ h => h) (fun _ _ h => h)⟩
      usto := fun l sz rows hk => by
        simp only [setE] at hk
        split at hk
        · simp only [Option.some.injEq] at hk
          subst hk
          cases hu
        · refine (h.usto l sz rows hk).mono (fun _ _ h => h) hw (fun _ _ h => h) (fun _ _ h => h) (fun b' o cap q v hl hq hv => ?_)
          rw [setCells_other (fun e : b' = b => (h.ublock hl (by omega)).2.2.1 j (e ▸ hj))]
          exact hv
      sto := fun k en' hk hu' => by
        simp only [setE] at hk
        split at hk
        · rename_i ek
          simp only [Option.some.injEq] at hk
          subst hk
          exact ⟨b, by rw [ek]; exact hj, hE⟩
        · rename_i ek
          obtain ⟨b', hb', hE'⟩ := h.sto k en' hk hu'
          have hbb : b' ≠ b := fun e => ek (h.binj k j b' hb' (e ▸ hj))
          exact ⟨b', hb', hE'.mono (fun _ _ h => h) hw (fun _ _ h => h) (fun _ _ h => h) (h5 b' hbb)⟩
      bdom := fun k b' hk => by
        simp only [setE]
        by_cases ek : k = j
        · exact ⟨en, by rw [if_pos ek], hu⟩
        · rw [if_neg ek]; exact h.bdom k b' hk
      binj := h.binj
      bnew := fun k b' hk => ⟨(h.bnew k b' hk).1, by rw [h1]; exact (h.bnew k b' hk).2.1, (h.bnew k b' hk).2.2⟩
      Isub := fun b' o hi => by rw [h1]; exact h.Isub b' o hi
      I0sub := h.I0sub
      Inew := h.Inew
      spare := fun l av len cap sz hl c hc1 hc2 => by
        obtain ⟨b', o, e1, e2, ⟨v, e3⟩, e4, e5, e6⟩ := h.spare l av len cap sz hl c hc1 hc2
        have hbb : b' ≠ b := fun e => e6 j (e ▸ hj)
        exact ⟨b', o, e1, e2, ⟨v, by rw [setCells_other hbb]; exact e3⟩, by rw [setCells_frozen]; exact e4, e5, e6⟩
      ldis := h.ldis }

/-- An array of the function's own is written. -/
theorem Inv.writeU (h : Inv F e σ I β lam a w) {l b o cap sz q : Nat} {vs : List Value} {rows rows' : List (List AV)} (hσl : σ l = some (.uarr sz rows)) (hl : lam l = some (some ⟨b, o, none⟩, 0, cap, sz)) (h0 : 0 < cap * sz)
    (hq : o ≤ q ∧ q + vs.length ≤ o + cap * sz) (hE : RU I (w.setCells b q vs) β lam l sz rows') : Inv F e (setE σ (some l) (some (.uarr sz rows'))) I β lam a (w.setCells b q vs) := by
  obtain ⟨h1, h2, h3, h4, h5⟩ := setCells_heap b vs q w
  obtain ⟨u1, u2, u3, u4⟩ := h.ublock hl h0
  have hc : ∀ j, j < vs.length → (w.cell? ⟨b, q + j, none⟩).isSome = true := fun j hj => by
    obtain ⟨⟨v, hv⟩, _⟩ := u4 (q + j - o) (by omega)
    rw [show o + (q + j - o) = q + j by omega] at hv
    simp [hv]
  have hcell := setCells_cell b vs q w hc
  have hw : ∀ b' p v, I b' p → w.cell? ⟨b', p, none⟩ = some v → (w.setCells b q vs).cell? ⟨b', p, none⟩ = some v := fun b' p v hi hv => by
    by_cases e : b' = b
    · subst e
      rw [hcell, if_neg]
      · exact hv
      · rintro ⟨c1, c2⟩
        refine (u4 (p - o) (by omega)).2.2 ?_
        rwa [show o + (p - o) = p by omega]
    · rw [setCells_other e]; exact hv
  exact
    { defers := h.defers
      size := h.size
      below := h.below.trans ⟨h2, h3, h4, by rw [h1]; exact Nat.le_refl _, fun k hk => h5 k (by omega)⟩
      env := fun t x ht => (h.env t x ht).imp fun v hv => ⟨hv.1, hv.2.mono (fun _ _ h => h) hw (fun _ _ h => h) (fun _ _ h => h)⟩
      usto := fun l' sz' rows'' hk => by
        simp only [setE] at hk
        split at hk
        · rename_i e
          simp only [Option.some.injEq, Entry.uarr.injEq] at hk
          obtain ⟨rfl, rfl⟩ := hk
          rw [e]; exact hE
        · rename_i e
          refine (h.usto l' sz' rows'' hk).mono (fun _ _ h => h) hw (fun _ _ h => h) (fun _ _ h => h) (fun b' o' cap' p v hl' hp hv => ?_)
          rw [setCells_other (fun eb => by subst eb; exact h.ldis l l' _ _ _ _ _ _ _ _ _ (fun e' => e e'.symm) hl hl' (by omega) (by omega))]
          exact hv
      sto := fun k en' hk hu' => by
        simp only [setE] at hk
        split at hk
        · simp only [Option.some.injEq] at hk
          subst hk
          cases hu'
        · obtain ⟨b', hb', hE'⟩ := h.sto k en' hk hu'
          exact ⟨b', hb', hE'.mono (fun _ _ h => h) hw (fun _ _ h => h) (fun _ _ h => h) (h5 b' (fun e => u3 k (e ▸ hb')))⟩
      bdom := fun k b' hk => by
        obtain ⟨en, h1, h2⟩ := h.bdom k b' hk
        refine ⟨en, ?_, h2⟩
        simp only [setE]
        rw [if_neg]
        · exact h1
        · intro e
          rw [e, hσl] at h1
          cases h1
          cases h2
      binj := h.binj
      bnew := fun k b' hk => ⟨(h.bnew k b' hk).1, by rw [h1]; exact (h.bnew k b' hk).2.1, (h.bnew k b' hk).2.2⟩
      Isub := fun b' o hi => by rw [h1]; exact h.Isub b' o hi
      I0sub := h.I0sub
      Inew := h.Inew
      spare := fun l' av len cap' sz' hl' c hc1 hc2 => by
        obtain ⟨b', o', e1, e2, ⟨v, e3⟩, e4, e5, e6⟩ := h.spare l' av len cap' sz' hl' c hc1 hc2
        refine ⟨b', o', e1, e2, ?_, by rw [setCells_frozen]; exact e4, e5, e6⟩
        by_cases eb : b' = b
        · subst eb
          rw [hcell]
          split
          · rename_i c3
            exact ⟨vs[o' + c - q]'(by omega), by simp⟩
          · exact ⟨v, e3⟩
        · exact ⟨v, by rw [setCells_other eb]; exact e3⟩
      ldis := h.ldis }

theorem wp_skipv {w' : World} {K : Act → World → Prop} (h : (execOp a.eval o).run P w = .ok .skip w') (hk : K (a.put o.dst undef) w') : o.wp P a w K Q := by
  unfold Oper.wp
  rw [h]
  exact hk

theorem splice_get {cells cs : List AV} {off : Nat} (hle : off + cs.length ≤ cells.length) {j : Nat} {c : AV} (hj : (splice cells off cs)[j]? = some c) :
    (off ≤ j ∧ j < off + cs.length ∧ cs[j - off]? = some c) ∨ (¬ (off ≤ j ∧ j < off + cs.length) ∧ cells[j]? = some c) := by
  simp only [splice] at hj
  by_cases c1 : j < off
  · rw [List.append_assoc, List.getElem?_append_left (by simp; omega), List.getElem?_take, if_pos c1] at hj
    exact .inr ⟨by omega, hj⟩
  · by_cases c2 : j < off + cs.length
    · rw [List.append_assoc, List.getElem?_append_right (by simp; omega)] at hj
      have ht : (cells.take off).length = off := by simp; omega
      rw [ht, List.getElem?_append_left (by omega)] at hj
      exact .inl ⟨by omega, c2, hj⟩
    · rw [List.getElem?_append_right (by simp; omega)] at hj
      have ht : (cells.take off ++ cs).length = off + cs.length := by simp; omega
      rw [ht, List.getElem?_drop] at hj
      have e : off + cs.length + (j - (off + cs.length)) = j := by omega
      rw [e] at hj
      exact .inr ⟨by omega, hj⟩

/-- An abstract state and the model's. -/
def Holds (F : Frame0) (s : St) (a : Act) (w : World) : Prop := ∃ I β lam, Inv F s.look (lk s.sto) I β lam a w

theorem lk_pt_setE {α : Type} (l : List (Nat × α)) (d : Nat) (x : α) : lk (pt l d x) = setE (lk l) (some d) (some x) := by
  funext m
  rw [lk_pt]
  simp only [setE]
  by_cases h : d = m
  · subst h; simp
  · rw [if_neg h, if_neg (fun e => h e.symm)]

theorem look_put {s : St} {d : Option Nat} {x : AV} : (s.put d x).look = setE s.look (slot d) (some x) := by
  funext t
  obtain ⟨f, t⟩ := t
  cases d with
  | none => rfl
  | some d =>
    cases f with
    | zero =>
      simp only [St.put, St.look, lk_pt, setE, slot, Prod.mk.injEq, true_and]
      by_cases h : d = t
      · subst h; simp
      · rw [if_neg h, if_neg (fun e => h e.symm)]
    | succ f => simp [St.put, St.look, setE, slot]

theorem look_sto {s : St} {σ : List (Nat × Entry)} : St.look { s with sto := σ } = s.look := by
  funext t
  obtain ⟨f, t⟩ := t
  cases f <;> rfl

theorem sim_store {t : TypeId} {x y : Operand} {n : Nat} {X Y : AV} {s : St} {K : St → Prop} {Kr : Act → World → Prop} (ho : o.op = .store t x y) (hn : szT P t = some n)
    (h : Inv F s.look (lk s.sto) I β lam a w) (hx : R I w β lam X (a.eval x)) (hy : R I w β lam Y (a.eval y)) (hst : eStore n s o.dst [X, Y] K)
    (hk : ∀ s' w', K s' → Holds F s' a w' → Kr a w') : o.wp P a w Kr Q := by
  unfold eStore at hst
  split at hst
  · rename_i j off X' heq
    simp only [List.cons.injEq, and_true] at heq
    obtain ⟨rfl, rfl⟩ := heq
    split at hst
    · rename_i cells cs hs hcs
      obtain ⟨hl, hle, hdst, hst⟩ := hst
      obtain ⟨b, hb, hv⟩ := hx.ptr_inv
      obtain ⟨b', hb', hE⟩ := h.sto _ _ hs rfl
      rw [hb] at hb'; cases hb'
      obtain ⟨g1, g2⟩ := cells_R hcs hy
      have hvl : (a.eval y).cells.toList.length = cs.length := by simpa using g1
      have hex : ∀ i, i < cells.length → ∃ v, w.cell? ⟨b, i, none⟩ = some v ∧ w.frozen? ⟨b, i, none⟩ = false := fun i hi => by
        obtain ⟨v, e1, e2, _⟩ := hE i cells[i] (by simp [hi])
        exact ⟨v, e1, e2⟩
      have hc : ∀ i, i < (a.eval y).cells.toList.length → (w.cell? ⟨b, off + i, none⟩).isSome = true := fun i hi => by
        obtain ⟨v, e1, _⟩ := hex (off + i) (by omega)
        simp [e1]
      have hrun : (execOp a.eval o).run P w = .ok .skip (w.setCells b off (a.eval y).cells.toList) := by
        simp only [execOp, ho, hv]
        refine run_bindu (run_storeVar_any hn (by omega) (fun i hi => hc i (by omega)) (fun i hi => (hex (off + i) (by omega)).elim fun v hv => hv.2) (mem_single fun i hi => ?_))
        obtain ⟨c, hc'⟩ : ∃ c, cs[i]? = some c := ⟨cs[i]'(by omega), by simp [show i < cs.length by omega]⟩
        exact (g2 i c hc').2
      refine wp_skipv hrun ?_
      rw [hdst]
      refine hk _ _ hst ⟨I, β, lam, ?_⟩
      simp only [look_sto]
      rw [lk_pt_setE]
      have hw : ∀ b' o v, I b' o → w.cell? ⟨b', o, none⟩ = some v → (w.setCells b off (a.eval y).cells.toList).cell? ⟨b', o, none⟩ = some v := fun b' q v hi hv => by
        rw [setCells_other (fun e => by rw [e] at hi; exact (h.bnew j b hb).2.2 q hi)]; exact hv
      refine h.write rfl hb fun i c hi => ?_
      rcases splice_get (by omega) hi with ⟨c1, c2, c3⟩ | ⟨c1, c2⟩
      · obtain ⟨r1, r2⟩ := g2 _ c c3
        have hlt : i - off < (a.eval y).cells.size := by omega
        refine ⟨(a.eval y).cells.getD (i - off) undef, ?_, ?_, r2, r1.mono (fun _ _ h => h) hw (fun _ _ h => h) (fun _ _ h => h)⟩
        · rw [setCells_cell b _ off w hc, if_pos ⟨c1, by omega⟩]
          simp [hlt]
        · rw [setCells_frozen]
          exact (hex i (by omega)).elim fun v hv => hv.2
      · obtain ⟨v, e1, e2, e3, e4⟩ := hE i c c2
        refine ⟨v, ?_, by rw [setCells_frozen]; exact e2, e3, e4.mono (fun _ _ h => h) hw (fun _ _ h => h) (fun _ _ h => h)⟩
        rw [setCells_cell b _ off w hc, if_neg (by rw [hvl]; exact c1)]
        exact e1
    · exact hst.elim
  · rename_i j sz i off X' heq
    simp only [List.cons.injEq, and_true] at heq
    obtain ⟨rfl, rfl⟩ := heq
    split at hst
    · rename_i sz' rows cs hs hcs
      obtain ⟨rfl, hl, hle, hir, hrf, hdst, hst⟩ := hst
      split at hst
      · rename_i r hr
        obtain ⟨b, hb, hv⟩ := hx.eptr_inv
        obtain ⟨b', hb', hE⟩ := h.sto _ _ hs rfl
        rw [hb] at hb'; cases hb'
        obtain ⟨g1, g2⟩ := part_cells hcs hy hrf
        have hrl : r.length = sz' := hE.1 i r hr
        have hvl : (a.eval y).cells.toList.length = (cs.map strip).length := by simpa using g1
        have hml : (cs.map strip).length = n := by simpa using hl
        have hex : ∀ q, q < sz' → ∃ v, w.cell? ⟨b, i * sz' + q, none⟩ = some v ∧ w.frozen? ⟨b, i * sz' + q, none⟩ = false := fun q hq => by
          obtain ⟨v, e1, e2, _⟩ := hE.2 i r q r[q] hr (by simp [hrl, hq])
          exact ⟨v, e1, e2⟩
        have hc : ∀ q, q < (a.eval y).cells.toList.length → (w.cell? ⟨b, i * sz' + off + q, none⟩).isSome = true := fun q hq => by
          obtain ⟨v, e1, _⟩ := hex (off + q) (by omega)
          rw [Nat.add_assoc]
          simp [e1]
        have hrun : (execOp a.eval o).run P w = .ok .skip (w.setCells b (i * sz' + off) (a.eval y).cells.toList) := by
          simp only [execOp, ho, hv]
          refine run_bindu (run_storeVar_any hn (by omega) (fun q hq => hc q (by omega)) (fun q hq => ?_) (mem_single fun q hq => ?_))
          · rw [Nat.add_assoc]
            exact (hex (off + q) (by omega)).elim fun v hv => hv.2
          · obtain ⟨c, hc'⟩ : ∃ c, (cs.map strip)[q]? = some c := ⟨(cs.map strip)[q]'(by omega), List.getElem?_eq_getElem _⟩
            exact (g2 q c hc').2
        refine wp_skipv hrun ?_
        rw [hdst]
        refine hk _ _ hst ⟨I, β, lam, ?_⟩
        simp only [look_sto]
        rw [lk_pt_setE]
        have hw : ∀ b' o v, I b' o → w.cell? ⟨b', o, none⟩ = some v → (w.setCells b (i * sz' + off) (a.eval y).cells.toList).cell? ⟨b', o, none⟩ = some v := fun b' q v hi hv => by
          rw [setCells_other (fun e => by rw [e] at hi; exact (h.bnew j b hb).2.2 q hi)]; exact hv
        refine h.write rfl hb ⟨fun m r' hm => ?_, fun m r' q c hm hq => ?_⟩
        · by_cases em : i = m
          · subst em
            rw [List.getElem?_set_self hir] at hm
            simp only [Option.some.injEq] at hm
            subst hm
            simp [splice]
            omega
          · rw [List.getElem?_set_ne em] at hm
            exact hE.1 m r' hm
        · by_cases em : i = m
          · subst em
            rw [List.getElem?_set_self hir] at hm
            simp only [Option.some.injEq] at hm
            subst hm
            rcases splice_get (by omega) hq with ⟨c1, c2, c3⟩ | ⟨c1, c2⟩
            · obtain ⟨r1, r2⟩ := g2 _ c c3
              have hlt : q - off < (a.eval y).cells.size := by omega
              refine ⟨(a.eval y).cells.getD (q - off) undef, ?_, ?_, r2, r1.mono (fun _ _ h => h) hw⟩
              · rw [setCells_cell b _ _ w hc, if_pos ⟨by omega, by omega⟩]
                rw [show i * sz' + q - (i * sz' + off) = q - off by omega]
                simp [hlt]
              · rw [setCells_frozen]
                exact (hex q (by omega)).elim fun v hv => hv.2
            · obtain ⟨v, e1, e2, e3, e4⟩ := hE.2 i r q c hr c2
              refine ⟨v, ?_, by rw [setCells_frozen]; exact e2, e3, e4.mono (fun _ _ h => h) hw⟩
              rw [setCells_cell b _ _ w hc, if_neg (by rw [hvl]; omega)]
              exact e1
          · rw [List.getElem?_set_ne em] at hm
            obtain ⟨v, e1, e2, e3, e4⟩ := hE.2 m r' q c hm hq
            have hql : q < sz' := by
              have := hE.1 m r' hm
              have := (List.getElem?_eq_some_iff.1 hq).1
              omega
            refine ⟨v, ?_, by rw [setCells_frozen]; exact e2, e3, e4.mono (fun _ _ h => h) hw⟩
            rw [setCells_cell b _ _ w hc, if_neg]
            · exact e1
            · rw [hvl]
              rcases Nat.lt_or_gt_of_ne em with em | em
              · have : (i + 1) * sz' ≤ m * sz' := Nat.mul_le_mul_right _ em
                rw [Nat.add_mul] at this
                omega
              · have : (m + 1) * sz' ≤ i * sz' := Nat.mul_le_mul_right _ em
                rw [Nat.add_mul] at this
                omega
      · exact hst.elim
    · exact hst.elim
  · rename_i l sz i off X' heq
    simp only [List.cons.injEq, and_true] at heq
    obtain ⟨rfl, rfl⟩ := heq
    split at hst
    · rename_i sz' rows cs hs hcs
      obtain ⟨rfl, hlen, hle, hdst, hst⟩ := hst
      split at hst
      · rename_i r hr
        obtain ⟨cap, b, q, hl, hv⟩ := hx.up_inv
        have hU := h.usto _ _ _ hs
        obtain ⟨g1, g2⟩ := cells_R hcs hy
        have hrl : r.length = sz' := (hU.row hl hr).1
        have hcl : rows.length ≤ cap := by
          obtain ⟨a', cap', k1, k2, _⟩ := hU
          rw [hl] at k1
          cases k1
          exact k2
        have hil : i < rows.length := (List.getElem?_eq_some_iff.1 hr).1
        have hvl : (a.eval y).cells.toList.length = cs.length := by simpa using g1
        have hm : (i + 1) * sz' ≤ cap * sz' := Nat.mul_le_mul_right _ (by omega)
        rw [Nat.add_mul] at hm
        by_cases hn0 : n = 0
        · -- nothing is written
          have hnil : (a.eval y).cells.toList = [] := List.eq_nil_of_length_eq_zero (by omega)
          have hrun : (execOp a.eval o).run P w = .ok .skip (w.setCells b (q + i * sz' + off) (a.eval y).cells.toList) := by
            simp only [execOp, ho, hv]
            refine run_bindu (run_storeVar_any hn (by omega) (fun i hi => by omega) (fun i hi => by omega) (mem_single fun i hi => ?_))
            have : (a.eval y).cells.size = 0 := by simpa using congrArg List.length hnil
            omega
          refine wp_skipv hrun ?_
          rw [hdst, hnil]
          refine hk _ _ hst ⟨I, β, lam, ?_⟩
          simp only [look_sto]
          rw [lk_pt_setE]
          have hcs0 : cs = [] := List.eq_nil_of_length_eq_zero (by omega)
          have he : rows.set i (splice r off cs) = rows := by
            rw [hcs0]
            simp only [splice, List.length_nil, Nat.add_zero, List.append_nil, List.take_append_drop]
            refine List.ext_getElem? fun m => ?_
            rw [List.getElem?_set]
            split
            · rename_i e; subst e; exact hr.symm
            · rfl
          rw [he]
          have : setE (lk s.sto) (some l) (some (.uarr sz' rows)) = lk s.sto := by
            funext k
            simp only [setE]
            split
            · rename_i e; rw [e]; exact hs.symm
            · rfl
          rw [this]
          exact h
        · have h0 : 0 < cap * sz' := Nat.mul_pos (by omega) (by omega)
          obtain ⟨u1, u2, u3, u4⟩ := h.ublock hl h0
          have hex : ∀ j, j < sz' → (∃ v, w.cell? ⟨b, q + i * sz' + j, none⟩ = some v) ∧ w.frozen? ⟨b, q + i * sz' + j, none⟩ = false := fun j hj => by
            obtain ⟨h1, h2, _⟩ := u4 (i * sz' + j) (by omega)
            rw [← Nat.add_assoc] at h1 h2
            exact ⟨h1, h2⟩
          have hc : ∀ j, j < (a.eval y).cells.toList.length → (w.cell? ⟨b, q + i * sz' + off + j, none⟩).isSome = true := fun j hj => by
            obtain ⟨⟨v, hv⟩, _⟩ := hex (off + j) (by omega)
            rw [← Nat.add_assoc] at hv
            simp [hv]
          have hrun : (execOp a.eval o).run P w = .ok .skip (w.setCells b (q + i * sz' + off) (a.eval y).cells.toList) := by
            simp only [execOp, ho, hv]
            refine run_bindu (run_storeVar_any hn (by omega) (fun j hj => hc j (by omega)) (fun j hj => ?_) (mem_single fun j hj => ?_))
            · have := (hex (off + j) (by omega)).2
              rw [← Nat.add_assoc] at this
              exact this
            · obtain ⟨c, hc'⟩ : ∃ c, cs[j]? = some c := ⟨cs[j]'(by omega), by simp [show j < cs.length by omega]⟩
              exact (g2 j c hc').2
          refine wp_skipv hrun ?_
          rw [hdst]
          refine hk _ _ hst ⟨I, β, lam, ?_⟩
          simp only [look_sto]
          rw [lk_pt_setE]
          have hcell := setCells_cell b (a.eval y).cells.toList (q + i * sz' + off) w hc
          have hw : ∀ b' p v, I b' p → w.cell? ⟨b', p, none⟩ = some v → (w.setCells b (q + i * sz' + off) (a.eval y).cells.toList).cell? ⟨b', p, none⟩ = some v := fun b' p v hi hcv => by
            by_cases e : b' = b
            · subst e
              rw [hcell, if_neg]
              · exact hcv
              · rintro ⟨c1, c2⟩
                refine (u4 (p - q) (by omega)).2.2 ?_
                rwa [show q + (p - q) = p by omega]
            · rw [setCells_other e]; exact hcv
          refine h.writeU hs hl h0 (by omega) ⟨some ⟨b, q, none⟩, cap, hl, by simpa using hcl, fun m r' hm' => ?_, fun _ => ⟨b, q, rfl, fun m r' p c hm' hp => ?_⟩⟩
          · by_cases em : i = m
            · subst em
              rw [List.getElem?_set_self hil] at hm'
              simp only [Option.some.injEq] at hm'
              subst hm'
              simp [splice]
              omega
            · rw [List.getElem?_set_ne em] at hm'
              exact (hU.row hl hm').1
          · by_cases em : i = m
            · subst em
              rw [List.getElem?_set_self hil] at hm'
              simp only [Option.some.injEq] at hm'
              subst hm'
              rcases splice_get (by omega) hp with ⟨c1, c2, c3⟩ | ⟨c1, c2⟩
              · obtain ⟨r1, r2⟩ := g2 _ c c3
                have hlt : p - off < (a.eval y).cells.size := by omega
                refine ⟨(a.eval y).cells.getD (p - off) undef, ?_, r2, r1.mono (fun _ _ h => h) hw (fun _ _ h => h) (fun _ _ h => h)⟩
                rw [hcell, if_pos ⟨by omega, by omega⟩, show q + i * sz' + p - (q + i * sz' + off) = p - off by omega]
                simp [hlt]
              · obtain ⟨v, e1, e3, e4⟩ := (hU.row hl hr).2 p c c2
                refine ⟨v, ?_, e3, e4.mono (fun _ _ h => h) hw (fun _ _ h => h) (fun _ _ h => h)⟩
                rw [hcell, if_neg (by rw [hvl]; omega)]
                exact e1
            · rw [List.getElem?_set_ne em] at hm'
              obtain ⟨k1, k2⟩ := hU.row hl hm'
              obtain ⟨v, e1, e3, e4⟩ := k2 p c hp
              have hpl : p < sz' := by
                have := (List.getElem?_eq_some_iff.1 hp).1
                omega
              refine ⟨v, ?_, e3, e4.mono (fun _ _ h => h) hw (fun _ _ h => h) (fun _ _ h => h)⟩
              rw [hcell, if_neg]
              · exact e1
              · rw [hvl]
                rcases Nat.lt_or_gt_of_ne em with em | em
                · have : (i + 1) * sz' ≤ m * sz' := Nat.mul_le_mul_right _ em
                  rw [Nat.add_mul] at this
                  omega
                · have : (m + 1) * sz' ≤ i * sz' := Nat.mul_le_mul_right _ em
                  rw [Nat.add_mul] at this
                  omega
      · exact hst.elim
    · exact hst.elim
  · exact hst.elim

end
end Go.Am
