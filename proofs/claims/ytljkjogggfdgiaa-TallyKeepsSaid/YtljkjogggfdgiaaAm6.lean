/-
  The abstract machine, part 6: literals, slices, calls.
-/
import Derived.Test.YtljkjogggfdgiaaAm5
namespace Go.Am
open Go.RowKit

section
variable {P : Program} {I : Nat → Nat → Prop} {w : World} {β : Blocks} {lam : Owned} {o : Oper} {a : Act} {K : Act → World → Prop}
  {Q : Exit → Act → World → Prop} {d : Nat} {k : AV → Option Entry → Prop}

/-! ### composite literals -/

theorem foldl_set (off : Nat) : ∀ (l : List Value) (s : Nat) (cells : Array Value),
    ((l.zipIdx s).foldl (fun cs p => cs.setIfInBounds (off + p.2) p.1) cells).size = cells.size ∧
    ∀ m, ((l.zipIdx s).foldl (fun cs p => cs.setIfInBounds (off + p.2) p.1) cells)[m]? =
      if off + s ≤ m ∧ m < off + s + l.length ∧ m < cells.size then l[m - (off + s)]? else cells[m]? := by
  intro l
  induction l with
  | nil => intro s cells; simp; intro m h1 h2; omega
  | cons x l ih =>
    intro s cells
    simp only [List.zipIdx_cons, List.foldl_cons]
    obtain ⟨h1, h2⟩ := ih (s + 1) (cells.setIfInBounds (off + s) x)
    refine ⟨by rw [h1]; simp, fun m => ?_⟩
    rw [h2 m]
    simp only [Array.size_setIfInBounds, List.length_cons]
    by_cases e : m = off + s
    · subst e
      by_cases hlt : off + s < cells.size
      · rw [if_neg (by omega), if_pos (by omega)]
        simp [hlt]
      · rw [if_neg (by omega), if_neg (by omega)]
        simp [hlt]
    · by_cases hc : off + s ≤ m ∧ m < off + s + (l.length + 1) ∧ m < cells.size
      · rw [if_pos (by omega), if_pos hc]
        have : m - (off + s) = (m - (off + (s + 1))) + 1 := by omega
        rw [this]
        simp
      · rw [if_neg (by omega), if_neg hc]
        rw [Array.getElem?_setIfInBounds, if_neg (fun h => e h.symm)]

theorem fill_size (vs : Array Value) (off : Nat) (cells : Array Value) :
    (vs.zipIdx.foldl (fun cs (c, j) => cs.setIfInBounds (off + j) c) cells).size = cells.size ∧
    ∀ m, (vs.zipIdx.foldl (fun cs (c, j) => cs.setIfInBounds (off + j) c) cells)[m]? =
      if off ≤ m ∧ m < off + vs.size ∧ m < cells.size then vs[m - off]? else cells[m]? := by
  have := foldl_set off vs.toList 0 cells
  rw [← Array.foldl_toList]
  simpa using this

/-- The cells of a literal: what the model fills is what 'fillA' fills. -/
theorem fill_one {zero cs : List AV} {cells : Array Value} {v : Value} {off : Nat}
    (hz : cells.size = zero.length) (hc : ∀ j c, zero[j]? = some c → R0 I w c (cells.getD j undef) ∧ single (cells.getD j undef) = true)
    (hs : v.cells.size = cs.length) (hv : ∀ j c, cs[j]? = some c → R0 I w c (v.cells.getD j undef) ∧ single (v.cells.getD j undef) = true)
    (hle : off + cs.length ≤ zero.length) :
    (v.cells.zipIdx.foldl (fun cs (c, j) => cs.setIfInBounds (off + j) c) cells).size = (splice zero off cs).length ∧
    ∀ j c, (splice zero off cs)[j]? = some c → R0 I w c ((v.cells.zipIdx.foldl (fun cs (c, j) => cs.setIfInBounds (off + j) c) cells).getD j undef) ∧
      single ((v.cells.zipIdx.foldl (fun cs (c, j) => cs.setIfInBounds (off + j) c) cells).getD j undef) = true := by
  obtain ⟨h1, h2⟩ := fill_size v.cells off cells
  generalize v.cells.zipIdx.foldl (fun cs (c, j) => cs.setIfInBounds (off + j) c) cells = A at *
  have hget : ∀ m, A.getD m undef = (A[m]?).getD undef := fun m => by simp
  refine ⟨by rw [h1, hz]; simp [splice]; omega, fun j c hj => ?_⟩
  rw [hget, h2 j]
  have hjl : j < zero.length := by
    have := (List.getElem?_eq_some_iff.1 hj).1
    simp [splice] at this; omega
  simp only [splice] at hj
  by_cases c1 : j < off
  · rw [List.append_assoc, List.getElem?_append_left (by simp; omega)] at hj
    rw [List.getElem?_take, if_pos c1] at hj
    rw [if_neg (by omega)]
    have := hc j c hj
    simpa using this
  · by_cases c2 : j < off + cs.length
    · rw [List.append_assoc, List.getElem?_append_right (by simp; omega)] at hj
      have ht : (zero.take off).length = off := by simp; omega
      rw [ht, List.getElem?_append_left (by omega)] at hj
      rw [if_pos (by omega)]
      have := hv (j - off) c hj
      simpa using this
    · rw [List.getElem?_append_right (by simp; omega)] at hj
      have ht : (zero.take off ++ cs).length = off + cs.length := by simp; omega
      rw [ht, List.getElem?_drop] at hj
      rw [if_neg (by omega)]
      have e : off + cs.length + (j - (off + cs.length)) = j := by omega
      rw [e] at hj
      have := hc j c hj
      simpa using this

/-- The parts of a literal, without their marks. -/
theorem part_cells {X : AV} {v : Value} {cs : List AV} (hX : cellsOf X = some cs) (h : R I w β lam X v) (hr : cs.all rf = true) :
    v.cells.size = (cs.map strip).length ∧ ∀ j c, (cs.map strip)[j]? = some c → R0 I w c (v.cells.getD j undef) ∧ single (v.cells.getD j undef) = true := by
  obtain ⟨h1, h2⟩ := cells_R hX h
  refine ⟨by simpa using h1, fun j c hj => ?_⟩
  simp only [List.getElem?_map, Option.map_eq_some_iff] at hj
  obtain ⟨c', hj, rfl⟩ := hj
  refine ⟨(h2 j c' hj).1.to0 (List.all_eq_true.1 hr _ (List.mem_iff_getElem?.2 ⟨j, hj⟩)), (h2 j c' hj).2⟩

theorem fill_sim {pl : Nat → Option (Nat × Nat)} : ∀ (parts : List (Nat × Value)) (ps : List (Nat × Nat)) (xs zero cs : List AV) (cells : Array Value),
    (∀ (j i : Nat) (v : Value), parts[j]? = some (i, v) → ∃ (p : Nat × Nat) (X : AV), ps[j]? = some p ∧ pl i = some p ∧ xs[j]? = some X ∧ R I w β lam X v) → parts.length = xs.length →
    fillA zero ps xs = some cs → cells.size = zero.length →
    (∀ j c, zero[j]? = some c → R0 I w c (cells.getD j undef) ∧ single (cells.getD j undef) = true) →
    ∃ cells', Instr.fill pl cells parts = some cells' ∧ cells'.size = cs.length ∧
      ∀ j c, cs[j]? = some c → R0 I w c (cells'.getD j undef) ∧ single (cells'.getD j undef) = true := by
  intro parts
  induction parts with
  | nil =>
    intro ps xs zero cs cells _ hl hf hz hc
    have : xs = [] := List.eq_nil_of_length_eq_zero (by simpa using hl.symm)
    subst this
    cases ps with
    | nil => simp only [fillA, Option.some.injEq] at hf; subst hf; exact ⟨cells, rfl, hz, hc⟩
    | cons p ps => simp [fillA] at hf
  | cons q parts ih =>
    intro ps xs zero cs cells hp hl hf hz hc
    obtain ⟨i, v⟩ := q
    obtain ⟨p, X, h1, h2, h3, h4⟩ := hp 0 i v rfl
    cases ps with
    | nil => simp at h1
    | cons p' ps =>
      cases xs with
      | nil => simp at h3
      | cons X' xs =>
        simp only [List.getElem?_cons_zero, Option.some.injEq] at h1 h3
        subst h1 h3
        obtain ⟨off, n⟩ := p'
        simp only [fillA] at hf
        split at hf
        · rename_i cs' hX
          split at hf
          · rename_i hcond
            obtain ⟨hn, hle, hr⟩ := hcond
            obtain ⟨g1, g2⟩ := part_cells hX h4 hr
            have hlen : (cs'.map strip).length = n := by simpa using hn
            obtain ⟨f1, f2⟩ := fill_one (off := off) hz hc g1 g2 (by omega)
            obtain ⟨cells', e1, e2, e3⟩ := ih ps xs _ cs _ (fun j i v hj => by
              obtain ⟨p, X, a1, a2, a3, a4⟩ := hp (j + 1) i v (by simpa using hj)
              exact ⟨p, X, by simpa using a1, a2, by simpa using a3, a4⟩) (by simpa using hl) hf f1 f2
            refine ⟨cells', ?_, e2, e3⟩
            simp only [Instr.fill, h2]
            rw [if_neg]
            · exact e1
            · have : cells.size = zero.length := hz
              simp; omega
          · cases hf
        · cases hf

theorem run_places : ∀ (fs : List Field), (fs.all fun f => (szT P f.type).isSome) = true →
    (fs.mapM fun f => do pure (f.offset, ← sizeOf f.type) : Sem (List (Nat × Nat))).run P w = .ok (fs.map fun f => (f.offset, (szT P f.type).getD 0)) w := by
  intro fs
  induction fs with
  | nil => intro _; rfl
  | cons f fs ih =>
    intro h
    simp only [List.all_cons, Bool.and_eq_true] at h
    obtain ⟨n, hn⟩ := Option.isSome_iff_exists.1 h.1
    rw [List.mapM_cons, Sem.run_bind, Sem.run_bind, run_cast hn]
    simp only [Result.andThen_ok, Sem.run_pure, Sem.run_bind, ih h.2, List.map_cons, hn, Option.getD_some]

theorem placesT_struct {t : TypeId} {fs : Array Field} (hu : P.underlying t = some (.struct fs)) : ∀ (is : List Nat) (ps : List (Nat × Nat)), placesT P t is = some ps →
    ps.length = is.length ∧ ∀ (j i : Nat), is[j]? = some i → ∃ (f : Field) (n : Nat), fs[i]? = some f ∧ szT P f.type = some n ∧ ps[j]? = some (f.offset, n) := by
  intro is
  have hf : fieldsT P t = some fs := by simp [fieldsT, hu]
  induction is with
  | nil => intro ps h; simp [placesT] at h; subst h; simp
  | cons i is ih =>
    intro ps h
    simp only [placesT, hf] at h
    split at h
    · rename_i f hfi
      split at h
      · rename_i n ps' hn hps
        simp only [Option.some.injEq] at h
        subst h
        obtain ⟨g1, g2⟩ := ih ps' hps
        refine ⟨by simp [g1], fun j i' hj => ?_⟩
        cases j with
        | zero => simp at hj; subst hj; exact ⟨f, n, hfi, hn, rfl⟩
        | succ j => simp at hj; obtain ⟨f', n', a1, a2, a3⟩ := g2 j i' hj; exact ⟨f', n', a1, a2, by simpa using a3⟩
      · cases h
    · cases h

theorem placesT_array {t e : TypeId} {len s : Nat} (hu : P.underlying t = some (.array len e)) (hs : szT P e = some s) : ∀ (is : List Nat) (ps : List (Nat × Nat)), placesT P t is = some ps →
    ps.length = is.length ∧ ∀ (j i : Nat), is[j]? = some i → ps[j]? = some (i * s, s) := by
  intro is
  have hf : fieldsT P t = none := by simp [fieldsT, hu]
  have ha : arrT P t = some (len, e) := by simp [arrT, hu]
  induction is with
  | nil => intro ps h; simp [placesT] at h; subst h; simp
  | cons i is ih =>
    intro ps h
    simp only [placesT, hf, ha, hs] at h
    split at h
    · rename_i n ps' hn hps
      simp only [Option.some.injEq] at hn h
      subst hn h
      obtain ⟨g1, g2⟩ := ih ps' hps
      refine ⟨by simp [g1], fun j i' hj => ?_⟩
      cases j with
      | zero => simp at hj; subst hj; rfl
      | succ j => simp at hj; simpa using g2 j i' hj
    · cases h

theorem allOne {cells : Array Value} (h : ∀ j, j < cells.size → single (cells.getD j undef) = true) : cells.all (·.oneCell') = true := by
  refine Array.all_eq_true.2 fun i hi => ?_
  have := h i hi
  simpa [hi] using this

theorem sim_build {t : TypeId} {parts : Array (Nat × Operand)} {z : List AV} {ps : List (Nat × Nat)} {e : Opd → AV} {cs : List AV} (ho : o.op = .build t parts)
    (hz : zeroT P t = some z) (hp : placesT P t (parts.toList.map (·.1)) = some ps) (hok : fieldsOk P t = true)
    (hx : ∀ p ∈ parts.toList, R I w β lam (e (trOpd p.2)) (a.eval p.2)) (hf : fillA z ps ((parts.toList.map fun p => trOpd p.2).map e) = some cs) (h : k (.agg cs) none)
    (hk : Keeps w I β lam d k a o.dst K) : o.wp P a w K Q := by
  obtain ⟨v, hv, h1, rfl⟩ := zeroT_inv (w := w) hz
  obtain ⟨hs, hc⟩ := zero_cells (I := I) (w := w) v h1
  have hpts : ∀ (j i : Nat) (u : Value), (parts.toList.map fun p => (p.1, a.eval p.2))[j]? = some (i, u) → ∃ X, ((parts.toList.map fun p => trOpd p.2).map e)[j]? = some X ∧ R I w β lam X u ∧ (parts.toList.map (·.1))[j]? = some i := by
    intro j i u hj
    simp only [List.getElem?_map, Option.map_eq_some_iff] at hj
    obtain ⟨p, hp', he⟩ := hj
    simp only [Prod.mk.injEq] at he
    obtain ⟨rfl, rfl⟩ := he
    exact ⟨e (trOpd p.2), by simp [hp'], hx p (List.mem_iff_getElem?.2 ⟨j, hp'⟩), by simp [hp']⟩
  have hpl : (parts.map fun (i, x) => (i, a.eval x)).toList = parts.toList.map fun p => (p.1, a.eval p.2) := by simp
  have fin : ∀ pl : Nat → Option (Nat × Nat), (∀ (j i : Nat) (u : Value), (parts.toList.map fun p => (p.1, a.eval p.2))[j]? = some (i, u) → ∃ p, ps[j]? = some p ∧ pl i = some p) →
      ∃ cells', Instr.fill pl v.cells (parts.toList.map fun p => (p.1, a.eval p.2)) = some cells' ∧ R I w β lam (.agg cs) (.agg cells') := by
    intro pl hpl'
    obtain ⟨cells', e1, e2, e3⟩ := fill_sim (β := β) (lam := lam) (pl := pl) _ ps _ _ cs v.cells (fun j i u hj => by
      obtain ⟨X, a1, a2, _⟩ := hpts j i u hj
      obtain ⟨p, b1, b2⟩ := hpl' j i u hj
      exact ⟨p, X, b1, b2, a1, a2⟩) (by simp) hf hs hc
    refine ⟨cells', e1, .base (.agg _ _ e2 (allOne fun j hj => ?_) fun i c hi => (e3 i c hi).1)⟩
    obtain ⟨c, hc'⟩ : ∃ c, cs[j]? = some c := ⟨cs[j]'(by omega), by simp [show j < cs.length by omega]⟩
    exact (e3 j c hc').2
  unfold fieldsOk at hok
  split at hok
  · rename_i fs hu
    obtain ⟨g1, g2⟩ := placesT_struct hu _ _ hp
    obtain ⟨cells', e1, e2⟩ := fin ((fs.map fun f => (f.offset, (szT P f.type).getD 0))[·]?) (fun j i u hj => by
      obtain ⟨_, _, _, a3⟩ := hpts j i u hj
      obtain ⟨f, n, b1, b2, b3⟩ := g2 j i a3
      exact ⟨_, b3, by simp [b1, b2]⟩)
    have hm : (fs.mapM fun f => do pure (f.offset, ← sizeOf f.type) : Sem (Array (Nat × Nat))).run P w = .ok (fs.map fun f => (f.offset, (szT P f.type).getD 0)) w := by
      rw [Array.mapM_eq_mapM_toList, Sem.run_map, run_places fs.toList hok]
      simp only [Result.andThen_ok, Result.ok.injEq, and_true]
      apply Array.ext'
      simp
    refine same_val (v := .agg cells') ?_ e2 h hk
    simp only [execOp, ho]
    refine run_bindv ?_
    simp only [Instr.build, Sem.run_bind, hv, Result.andThen_ok, run_underlying hu, hm, hpl]
    rw [e1]
    rfl
  · rename_i n el hu
    obtain ⟨s, hs'⟩ := Option.isSome_iff_exists.1 hok
    obtain ⟨g1, g2⟩ := placesT_array hu hs' _ _ hp
    obtain ⟨cells', e1, e2⟩ := fin (fun i => some (i * s, s)) (fun j i u hj => by
      obtain ⟨_, _, _, a3⟩ := hpts j i u hj
      exact ⟨_, g2 j i a3, rfl⟩)
    refine same_val (v := .agg cells') ?_ e2 h hk
    simp only [execOp, ho]
    refine run_bindv ?_
    simp only [Instr.build, Sem.run_bind, hv, Result.andThen_ok, run_underlying hu, run_cast hs', hpl]
    rw [e1]
    rfl
  · cases hok

end
end Go.Am
