/-
  The abstract machine, part 12: the store, and append.
-/
import Derived.Test.YtljkjogggfdgiaaAm11
import Derived.Deep.AppendSrc
namespace Go.Am
open Go.RowKit

section
variable {P : Program} {F : Frame0} {e : Nat → Option AV} {σ : Nat → Option Entry} {I : Nat → Nat → Prop} {w : World} {β : Blocks} {lam : Owned} {a : Act} {o : Oper}
  {Q : Exit → Act → World → Prop}

theorem mem_single {v : Value} (h : ∀ j, j < v.cells.size → single (v.cells.getD j undef) = true) : ∀ u ∈ v.cells.toList, u.oneCell' = true := by
  intro u hu
  obtain ⟨j, hj, rfl⟩ := List.getElem_of_mem hu
  have := h j (by simpa using hj)
  have hj' : j < v.cells.size := by simpa using hj
  simpa [hj'] using this

/-- A variable of the function's own is written. -/
theorem Inv.write (h : Inv F e σ I β lam a w) {j b q : Nat} {vs : List Value} {en : Entry} (hj : β j = some b)
    (hE : RE I (w.setCells b q vs) β lam b en) : Inv F e (setE σ (some j) (some en)) I β lam a (w.setCells b q vs) := by
  obtain ⟨h1, h2, h3, h4, h5⟩ := setCells_heap b vs q w
  have hne : ∀ b' o, I b' o → b' ≠ b := fun b' o hi e => (h.bnew j b hj).2.2 o (e ▸ hi)
  have hw : ∀ b' o v, I b' o → w.cell? ⟨b', o, none⟩ = some v → (w.setCells b q vs).cell? ⟨b', o, none⟩ = some v := fun b' o v hi hv => by
    rw [setCells_other (hne _ _ hi)]; exact hv
  exact
    { defers := h.defers
      size := h.size
      below := h.below.trans ⟨h2, h3, h4, by rw [h1]; exact Nat.le_refl _, fun k hk => h5 k (by have := (h.bnew j b hj).1; omega)⟩
      env := fun t x ht => (h.env t x ht).imp fun v hv => ⟨hv.1, hv.2.mono (fun _ _ h => h) hw (fun _ _ h => h) (fun _ _ h => h)⟩
      sto := fun k en' hk => by
        simp only [setE] at hk
        split at hk
        · rename_i ek
          simp only [Option.some.injEq] at hk
          subst hk
          exact ⟨b, by rw [ek]; exact hj, hE⟩
        · rename_i ek
          obtain ⟨b', hb', hE'⟩ := h.sto k en' hk
          have hbb : b' ≠ b := fun e => ek (h.binj k j b' hb' (e ▸ hj))
          exact ⟨b', hb', hE'.mono (fun _ _ h => h) hw (fun _ _ h => h) (fun _ _ h => h) (h5 b' hbb)⟩
      bdom := fun k b' hk => by
        simp only [setE]
        by_cases ek : k = j
        · exact ⟨en, by rw [if_pos ek]⟩
        · rw [if_neg ek]; exact h.bdom k b' hk
      binj := h.binj
      bnew := fun k b' hk => ⟨(h.bnew k b' hk).1, by rw [h1]; exact (h.bnew k b' hk).2.1, (h.bnew k b' hk).2.2⟩
      Isub := fun b' o hi => by rw [h1]; exact h.Isub b' o hi
      I0sub := h.I0sub
      Inew := h.Inew
      spare := fun l av len cap sz hl c hc1 hc2 => by
        obtain ⟨b', o, e1, e2, ⟨v, e3⟩, e4, e5, e6⟩ := h.spare l av len cap sz hl c hc1 hc2
        have hbb : b' ≠ b := fun e => e6 j (e ▸ hj)
        exact ⟨b', o, e1, e2, ⟨v, by rw [setCells_other hbb]; exact e3⟩, by rw [setCells_frozen]; exact e4, e5, e6⟩
      ldis := h.ldis }

theorem wp_skipv {w' : World} {K : Act → World → Prop} (h : (execOp a.eval o).run P w = .ok .skip w') (hk : K (a.put o.dst undef) w') : o.wp P a w K Q := by
  unfold Oper.wp
  rw [h]
  exact hk

theorem splice_get {cells cs : List AV} {off : Nat} (hle : off + cs.length ≤ cells.length) {j : Nat} {c : AV} (hj : (splice cells off cs)[j]? = some c) :
    (off ≤ j ∧ j < off + cs.length ∧ cs[j - off]? = some c) ∨ (¬ (off ≤ j ∧ j < off + cs.length) ∧ cells[j]? = some c) := by
  simp only [splice] at hj
  by_cases c1 : j < off
  · rw [List.append_assoc, List.getElem?_append_left (by simp; omega), List.getElem?_take, if_pos c1] at hj
    exact .inr ⟨by omega, hj⟩
  · by_cases c2 : j < off + cs.length
    · rw [List.append_assoc, List.getElem?_append_right (by simp; omega)] at hj
      have ht : (cells.take off).length = off := by simp; omega
      rw [ht, List.getElem?_append_left (by omega)] at hj
      exact .inl ⟨by omega, c2, hj⟩
    · rw [List.getElem?_append_right (by simp; omega)] at hj
      have ht : (cells.take off ++ cs).length = off + cs.length := by simp; omega
      rw [ht, List.getElem?_drop] at hj
      have e : off + cs.length + (j - (off + cs.length)) = j := by omega
      rw [e] at hj
      exact .inr ⟨by omega, hj⟩

/-- An abstract state and the model's. -/
def Holds (F : Frame0) (s : St) (a : Act) (w : World) : Prop := ∃ I β lam, Inv F (lk s.env) (lk s.sto) I β lam a w

theorem lk_pt_setE {α : Type} (l : List (Nat × α)) (d : Nat) (x : α) : lk (pt l d x) = setE (lk l) (some d) (some x) := by
  funext m
  rw [lk_pt]
  simp only [setE]
  by_cases h : d = m
  · subst h; simp
  · rw [if_neg h, if_neg (fun e => h e.symm)]

theorem sim_store {t : TypeId} {x y : Operand} {n : Nat} {X Y : AV} {s : St} {K : St → Prop} {Kr : Act → World → Prop} (ho : o.op = .store t x y) (hn : szT P t = some n)
    (h : Inv F (lk s.env) (lk s.sto) I β lam a w) (hx : R I w β lam X (a.eval x)) (hy : R I w β lam Y (a.eval y)) (hst : eStore n s o.dst [X, Y] K)
    (hk : ∀ s' w', K s' → Holds F s' a w' → Kr a w') : o.wp P a w Kr Q := by
  unfold eStore at hst
  split at hst
  · rename_i j off X' heq
    simp only [List.cons.injEq, and_true] at heq
    obtain ⟨rfl, rfl⟩ := heq
    split at hst
    · rename_i cells cs hs hcs
      obtain ⟨hl, hle, hdst, hst⟩ := hst
      obtain ⟨b, hb, hv⟩ := hx.ptr_inv
      obtain ⟨b', hb', hE⟩ := h.sto _ _ hs
      rw [hb] at hb'; cases hb'
      obtain ⟨g1, g2⟩ := cells_R hcs hy
      have hvl : (a.eval y).cells.toList.length = cs.length := by simpa using g1
      have hex : ∀ i, i < cells.length → ∃ v, w.cell? ⟨b, i, none⟩ = some v ∧ w.frozen? ⟨b, i, none⟩ = false := fun i hi => by
        obtain ⟨v, e1, e2, _⟩ := hE i cells[i] (by simp [hi])
        exact ⟨v, e1, e2⟩
      have hc : ∀ i, i < (a.eval y).cells.toList.length → (w.cell? ⟨b, off + i, none⟩).isSome = true := fun i hi => by
        obtain ⟨v, e1, _⟩ := hex (off + i) (by omega)
        simp [e1]
      have hrun : (execOp a.eval o).run P w = .ok .skip (w.setCells b off (a.eval y).cells.toList) := by
        simp only [execOp, ho, hv]
        refine run_bindu (run_storeVar_any hn (by omega) (fun i hi => hc i (by omega)) (fun i hi => (hex (off + i) (by omega)).elim fun v hv => hv.2) (mem_single fun i hi => ?_))
        obtain ⟨c, hc'⟩ : ∃ c, cs[i]? = some c := ⟨cs[i]'(by omega), by simp [show i < cs.length by omega]⟩
        exact (g2 i c hc').2
      refine wp_skipv hrun ?_
      rw [hdst]
      refine hk _ _ hst ⟨I, β, lam, ?_⟩
      simp only
      rw [lk_pt_setE]
      have hw : ∀ b' o v, I b' o → w.cell? ⟨b', o, none⟩ = some v → (w.setCells b off (a.eval y).cells.toList).cell? ⟨b', o, none⟩ = some v := fun b' q v hi hv => by
        rw [setCells_other (fun e => by rw [e] at hi; exact (h.bnew j b hb).2.2 q hi)]; exact hv
      refine h.write hb fun i c hi => ?_
      rcases splice_get (by omega) hi with ⟨c1, c2, c3⟩ | ⟨c1, c2⟩
      · obtain ⟨r1, r2⟩ := g2 _ c c3
        have hlt : i - off < (a.eval y).cells.size := by omega
        refine ⟨(a.eval y).cells.getD (i - off) undef, ?_, ?_, r2, r1.mono (fun _ _ h => h) hw (fun _ _ h => h) (fun _ _ h => h)⟩
        · rw [setCells_cell b _ off w hc, if_pos ⟨c1, by omega⟩]
          simp [hlt]
        · rw [setCells_frozen]
          exact (hex i (by omega)).elim fun v hv => hv.2
      · obtain ⟨v, e1, e2, e3, e4⟩ := hE i c c2
        refine ⟨v, ?_, by rw [setCells_frozen]; exact e2, e3, e4.mono (fun _ _ h => h) hw (fun _ _ h => h) (fun _ _ h => h)⟩
        rw [setCells_cell b _ off w hc, if_neg (by rw [hvl]; exact c1)]
        exact e1
    · exact hst.elim
  · rename_i j sz i off X' heq
    simp only [List.cons.injEq, and_true] at heq
    obtain ⟨rfl, rfl⟩ := heq
    split at hst
    · rename_i sz' rows cs hs hcs
      obtain ⟨rfl, hl, hle, hir, hrf, hdst, hst⟩ := hst
      split at hst
      · rename_i r hr
        obtain ⟨b, hb, hv⟩ := hx.eptr_inv
        obtain ⟨b', hb', hE⟩ := h.sto _ _ hs
        rw [hb] at hb'; cases hb'
        obtain ⟨g1, g2⟩ := part_cells hcs hy hrf
        have hrl : r.length = sz' := hE.1 i r hr
        have hvl : (a.eval y).cells.toList.length = (cs.map strip).length := by simpa using g1
        have hml : (cs.map strip).length = n := by simpa using hl
        have hex : ∀ q, q < sz' → ∃ v, w.cell? ⟨b, i * sz' + q, none⟩ = some v ∧ w.frozen? ⟨b, i * sz' + q, none⟩ = false := fun q hq => by
          obtain ⟨v, e1, e2, _⟩ := hE.2 i r q r[q] hr (by simp [hrl, hq])
          exact ⟨v, e1, e2⟩
        have hc : ∀ q, q < (a.eval y).cells.toList.length → (w.cell? ⟨b, i * sz' + off + q, none⟩).isSome = true := fun q hq => by
          obtain ⟨v, e1, _⟩ := hex (off + q) (by omega)
          rw [Nat.add_assoc]
          simp [e1]
        have hrun : (execOp a.eval o).run P w = .ok .skip (w.setCells b (i * sz' + off) (a.eval y).cells.toList) := by
          simp only [execOp, ho, hv]
          refine run_bindu (run_storeVar_any hn (by omega) (fun q hq => hc q (by omega)) (fun q hq => ?_) (mem_single fun q hq => ?_))
          · rw [Nat.add_assoc]
            exact (hex (off + q) (by omega)).elim fun v hv => hv.2
          · obtain ⟨c, hc'⟩ : ∃ c, (cs.map strip)[q]? = some c := ⟨(cs.map strip)[q]'(by omega), List.getElem?_eq_getElem _⟩
            exact (g2 q c hc').2
        refine wp_skipv hrun ?_
        rw [hdst]
        refine hk _ _ hst ⟨I, β, lam, ?_⟩
        simp only
        rw [lk_pt_setE]
        have hw : ∀ b' o v, I b' o → w.cell? ⟨b', o, none⟩ = some v → (w.setCells b (i * sz' + off) (a.eval y).cells.toList).cell? ⟨b', o, none⟩ = some v := fun b' q v hi hv => by
          rw [setCells_other (fun e => by rw [e] at hi; exact (h.bnew j b hb).2.2 q hi)]; exact hv
        refine h.write hb ⟨fun m r' hm => ?_, fun m r' q c hm hq => ?_⟩
        · by_cases em : i = m
          · subst em
            rw [List.getElem?_set_self hir] at hm
            simp only [Option.some.injEq] at hm
            subst hm
            simp [splice]
            omega
          · rw [List.getElem?_set_ne em] at hm
            exact hE.1 m r' hm
        · by_cases em : i = m
          · subst em
            rw [List.getElem?_set_self hir] at hm
            simp only [Option.some.injEq] at hm
            subst hm
            rcases splice_get (by omega) hq with ⟨c1, c2, c3⟩ | ⟨c1, c2⟩
            · obtain ⟨r1, r2⟩ := g2 _ c c3
              have hlt : q - off < (a.eval y).cells.size := by omega
              refine ⟨(a.eval y).cells.getD (q - off) undef, ?_, ?_, r2, r1.mono (fun _ _ h => h) hw⟩
              · rw [setCells_cell b _ _ w hc, if_pos ⟨by omega, by omega⟩]
                rw [show i * sz' + q - (i * sz' + off) = q - off by omega]
                simp [hlt]
              · rw [setCells_frozen]
                exact (hex q (by omega)).elim fun v hv => hv.2
            · obtain ⟨v, e1, e2, e3, e4⟩ := hE.2 i r q c hr c2
              refine ⟨v, ?_, by rw [setCells_frozen]; exact e2, e3, e4.mono (fun _ _ h => h) hw⟩
              rw [setCells_cell b _ _ w hc, if_neg (by rw [hvl]; omega)]
              exact e1
          · rw [List.getElem?_set_ne em] at hm
            obtain ⟨v, e1, e2, e3, e4⟩ := hE.2 m r' q c hm hq
            have hql : q < sz' := by
              have := hE.1 m r' hm
              have := (List.getElem?_eq_some_iff.1 hq).1
              omega
            refine ⟨v, ?_, by rw [setCells_frozen]; exact e2, e3, e4.mono (fun _ _ h => h) hw⟩
            rw [setCells_cell b _ _ w hc, if_neg]
            · exact e1
            · rw [hvl]
              rcases Nat.lt_or_gt_of_ne em with em | em
              · have : (i + 1) * sz' ≤ m * sz' := Nat.mul_le_mul_right _ em
                rw [Nat.add_mul] at this
                omega
              · have : (m + 1) * sz' ≤ i * sz' := Nat.mul_le_mul_right _ em
                rw [Nat.add_mul] at this
                omega
      · exact hst.elim
    · exact hst.elim
  · exact hst.elim

end
end Go.Am
