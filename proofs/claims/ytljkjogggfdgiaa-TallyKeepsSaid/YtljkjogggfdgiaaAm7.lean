/-
  The abstract machine, part 7: slices.
-/
import Derived.Test.YtljkjogggfdgiaaAm6
namespace Go.Am
open Go.RowKit

section
variable {P : Program} {I : Nat → Nat → Prop} {w : World} {β : Blocks} {lam : Owned} {o : Oper} {a : Act} {K : Act → World → Prop}
  {Q : Exit → Act → World → Prop} {d : Nat} {k : AV → Option Entry → Prop}

/-- The cells 'A', one behind the other, hold these rows. -/
def RowsIn (I : Nat → Nat → Prop) (w : World) (sz : Nat) (rows : List (List AV)) (A : Array Value) : Prop :=
  A.size = rows.length * sz ∧ (∀ (i : Nat) (r : List AV), rows[i]? = some r → r.length = sz) ∧
    ∀ (i : Nat) (r : List AV) (j : Nat) (c : AV), rows[i]? = some r → r[j]? = some c → R0 I w c (A.getD (i * sz + j) undef) ∧ single (A.getD (i * sz + j) undef) = true

theorem RowsIn.get {sz : Nat} {rows : List (List AV)} {A : Array Value} (h : RowsIn I w sz rows A) {i j : Nat} {r : List AV} {c : AV} (hi : rows[i]? = some r) (hj : r[j]? = some c) :
    i * sz + j < A.size := by
  have h1 := h.2.1 i r hi
  have h2 : i < rows.length := (List.getElem?_eq_some_iff.1 hi).1
  have h3 : j < r.length := (List.getElem?_eq_some_iff.1 hj).1
  have h4 : (i + 1) * sz ≤ rows.length * sz := Nat.mul_le_mul_right _ h2
  rw [Nat.add_mul] at h4
  rw [h.1]
  omega

theorem eff_rows {sz : Nat} {rows : List (List AV)} {A : Array Value} {e : TypeId} (hI : ∀ b o, I b o → b < w.heap.size) (h : RowsIn I w sz rows A) :
    Eff w I β lam d (.list sz .full rows) none (.slice (some ⟨w.heap.size, 0, none⟩) rows.length rows.length) (w.alloc (.cells A e))
      (fun b o => I b o ∨ b = w.heap.size) β := by
  have hb : Below w.heap.size w (w.alloc (.cells A e)) := (Below.refl _ _).alloc (Nat.le_refl _) _
  refine ⟨hb, fun _ _ h => .inl h, fun b o h => ?_, fun _ => rfl, (fun _ h => by cases h), ?_⟩
  · rcases h with h | h
    · exact .inl h
    · exact .inr ⟨by omega, by simp [h]⟩
  · refine .base (.list sz .full rows w.heap.size 0 rows.length (fun i j => A.getD (i * sz + j) undef) (Nat.le_refl _) (fun _ => rfl) (by simp) h.2.1 (fun i r j c hi hj => ?_) fun i r j c hi hj => ?_)
    · have hlt := h.get hi hj
      refine ⟨.inr rfl, ?_, (h.2.2 i r j c hi hj).2⟩
      rw [World.cell?_alloc_new, Nat.zero_add]
      simp [hlt]
    · exact (h.2.2 i r j c hi hj).1.later hI hb (fun _ _ h => .inl h)

theorem RowsIn.set {sz : Nat} {rows : List (List AV)} {A : Array Value} (h : RowsIn I w sz rows A) {i : Nat} {cs : List AV} {v : Value} (hi : i < rows.length)
    (hs : v.cells.size = cs.length) (hl : cs.length = sz) (hv : ∀ j c, cs[j]? = some c → R0 I w c (v.cells.getD j undef) ∧ single (v.cells.getD j undef) = true) :
    RowsIn I w sz (rows.set i cs) (v.cells.zipIdx.foldl (fun cs (c, j) => cs.setIfInBounds (i * sz + j) c) A) := by
  obtain ⟨h1, h2⟩ := fill_size v.cells (i * sz) A
  generalize v.cells.zipIdx.foldl (fun cs (c, j) => cs.setIfInBounds (i * sz + j) c) A = B at *
  have hget : ∀ m, B.getD m undef = (B[m]?).getD undef := fun m => by simp
  refine ⟨by rw [h1, h.1]; simp, fun m r hm => ?_, fun m r j c hm hj => ?_⟩
  · rw [List.getElem?_set] at hm
    split at hm
    · simp only [hi, if_true, Option.some.injEq] at hm
      rw [← hm]; exact hl
    · exact h.2.1 m r hm
  · rw [List.getElem?_set] at hm
    rw [hget, h2]
    split at hm
    · rename_i e
      subst e
      simp only [hi, if_true, Option.some.injEq] at hm
      subst hm
      have hjl : j < cs.length := (List.getElem?_eq_some_iff.1 hj).1
      have h4 : (i + 1) * sz ≤ rows.length * sz := Nat.mul_le_mul_right _ hi
      rw [Nat.add_mul] at h4
      rw [if_pos (by rw [h.1]; omega)]
      have := hv j c hj
      simpa using this
    · rename_i e
      have hjl : j < r.length := (List.getElem?_eq_some_iff.1 hj).1
      rw [h.2.1 m r hm] at hjl
      rw [if_neg]
      · have := h.2.2 m r j c hm hj
        simpa using this
      · rintro ⟨a1, a2, _⟩
        rcases Nat.lt_or_gt_of_ne e with e | e
        · have : (i + 1) * sz ≤ m * sz := Nat.mul_le_mul_right _ e
          rw [Nat.add_mul] at this
          omega
        · have : (m + 1) * sz ≤ i * sz := Nat.mul_le_mul_right _ e
          rw [Nat.add_mul] at this
          omega

theorem rows_sim {sz : Nat} : ∀ (parts : List (Nat × Value)) (xs : List AV) (rows rows' : List (List AV)) (A : Array Value),
    (∀ (j i : Nat) (v : Value), parts[j]? = some (i, v) → ∃ X : AV, xs[j]? = some X ∧ R I w β lam X v) → parts.length = xs.length →
    rowsA sz rows (parts.map (·.1)) xs = some rows' → RowsIn I w sz rows A →
    ∃ A', Instr.fill (fun i => some (i * sz, sz)) A parts = some A' ∧ RowsIn I w sz rows' A' := by
  intro parts
  induction parts with
  | nil =>
    intro xs rows rows' A _ hl hf hA
    have : xs = [] := List.eq_nil_of_length_eq_zero (by simpa using hl.symm)
    subst this
    simp only [List.map_nil, rowsA, Option.some.injEq] at hf
    subst hf
    exact ⟨A, rfl, hA⟩
  | cons q parts ih =>
    intro xs rows rows' A hp hl hf hA
    obtain ⟨i, v⟩ := q
    obtain ⟨X, h3, h4⟩ := hp 0 i v rfl
    cases xs with
    | nil => simp at h3
    | cons X' xs =>
      simp only [List.getElem?_cons_zero, Option.some.injEq] at h3
      subst h3
      simp only [List.map_cons, rowsA] at hf
      split at hf
      · rename_i cs hX
        split at hf
        · rename_i hcond
          obtain ⟨hn, hle, hr⟩ := hcond
          obtain ⟨g1, g2⟩ := part_cells hX h4 hr
          have hA' := hA.set hle g1 (by simpa using hn) g2
          obtain ⟨A', e1, e2⟩ := ih xs _ rows' _ (fun j i v hj => by
            obtain ⟨X, a3, a4⟩ := hp (j + 1) i v (by simpa using hj)
            exact ⟨X, by simpa using a3, a4⟩) (by simpa using hl) hf hA'
          refine ⟨A', ?_, e2⟩
          simp only [Instr.fill]
          rw [if_neg]
          · exact e1
          · have h4 : (i + 1) * sz ≤ rows.length * sz := Nat.mul_le_mul_right _ hle
            rw [Nat.add_mul] at h4
            have := hA.1
            have h5 : v.cells.size = sz := by rw [g1]; simpa using hn
            simp [h5]
            omega
        · cases hf
      · cases hf

theorem zero_rows {e : TypeId} {z : List AV} {n sz : Nat} (hz : zeroT P e = some z) (hl : z.length = sz) :
    ∃ v : Value, (zeroValue e).run P w = .ok v w ∧ v.cells.size = sz ∧
      RowsIn I w sz (List.replicate n z) ((Array.range (n * sz)).map fun i => v.cells[i % v.cells.size]!) := by
  obtain ⟨v, hv, h1, rfl⟩ := zeroT_inv (w := w) hz
  obtain ⟨hs, hc⟩ := zero_cells (I := I) (w := w) v h1
  have hsz : v.cells.size = sz := by rw [hs]; exact hl
  refine ⟨v, hv, hsz, by simp, fun i r hi => ?_, fun i r j c hi hj => ?_⟩
  · rw [List.getElem?_replicate] at hi
    split at hi
    · simp only [Option.some.injEq] at hi; rw [← hi]; exact hl
    · cases hi
  · rw [List.getElem?_replicate] at hi
    split at hi
    · rename_i hin
      simp only [Option.some.injEq] at hi
      subst hi
      have hj' : j < sz := by
        have := (List.getElem?_eq_some_iff.1 hj).1
        omega
      have h4 : (i + 1) * sz ≤ n * sz := Nat.mul_le_mul_right _ hin
      rw [Nat.add_mul] at h4
      have hm : (i * sz + j) % v.cells.size = j := by rw [hsz, Nat.mul_comm, Nat.mul_add_mod, Nat.mod_eq_of_lt hj']
      have : ((Array.range (n * sz)).map fun i => v.cells[i % v.cells.size]!).getD (i * sz + j) undef = v.cells.getD j undef := by
        have h5 : i * sz + j < n * sz := by omega
        have h6 : j < v.cells.size := by omega
        simp [h5, hm, h6]
      rw [this]
      exact hc j c hj
    · cases hi

theorem sim_mkslice {t e : TypeId} {n sz : Nat} {parts : Array (Nat × Operand)} {z : List AV} {f : Opd → AV} {rows : List (List AV)} (ho : o.op = .buildSlice t n parts)
    (he : elT P t = some e) (hsz : szT P e = some sz) (hz : zeroT P e = some z) (hlim : n * sz ≤ 16777216) (hzl : z.length = sz) (h0 : 0 < sz)
    (hI : ∀ b o, I b o → b < w.heap.size) (hx : ∀ p ∈ parts.toList, R I w β lam (f (trOpd p.2)) (a.eval p.2))
    (hf : rowsA sz (List.replicate n z) (parts.toList.map (·.1)) ((parts.toList.map fun p => trOpd p.2).map f) = some rows) (h : k (.list sz .full rows) none)
    (hk : Keeps w I β lam d k a o.dst K) : o.wp P a w K Q := by
  obtain ⟨v, hv, hvs, hA⟩ := zero_rows (P := P) (I := I) (w := w) (n := n) hz hzl
  have hu : P.underlying t = some (.slice e) := by
    unfold elT at he
    split at he <;> simp_all
  have hpl : (parts.map fun (i, x) => (i, a.eval x)).toList = parts.toList.map fun p => (p.1, a.eval p.2) := by simp
  obtain ⟨A', e1, e2⟩ := rows_sim (β := β) (lam := lam) (parts.toList.map fun p => (p.1, a.eval p.2)) ((parts.toList.map fun p => trOpd p.2).map f) _ rows _ (fun j i u hj => by
      simp only [List.getElem?_map, Option.map_eq_some_iff] at hj
      obtain ⟨p, hp', he⟩ := hj
      simp only [Prod.mk.injEq] at he
      obtain ⟨rfl, rfl⟩ := he
      exact ⟨f (trOpd p.2), by simp [hp'], hx p (List.mem_iff_getElem?.2 ⟨j, hp'⟩)⟩) (by simp) (by simpa [Function.comp_def] using hf) hA
  have hrl : rows.length = n := by
    have : ∀ (is : List Nat) (xs : List AV) (rows rows' : List (List AV)), rowsA sz rows is xs = some rows' → rows'.length = rows.length := by
      intro is
      induction is with
      | nil =>
        intro xs rows rows' h
        cases xs <;> simp [rowsA] at h
        rw [h]
      | cons i is ih =>
        intro xs rows rows' h
        cases xs with
        | nil => simp [rowsA] at h
        | cons x xs =>
          simp only [rowsA] at h
          split at h
          · split at h
            · have := ih _ _ _ h
              simpa using this
            · cases h
          · cases h
    have := this _ _ _ _ hf
    simpa using this
  have hr : (execOp a.eval o).run P w = .ok (.value (.slice (some ⟨w.heap.size, 0, none⟩) rows.length rows.length)) (w.alloc (.cells A' e)) := by
    simp only [execOp, ho]
    have : (Instr.buildSlice t n (parts.map fun (i, x) => (i, a.eval x))).run P w = .ok (.slice (some ⟨w.heap.size, 0, none⟩) rows.length rows.length) (w.alloc (.cells A' e)) := by
      unfold Instr.buildSlice
      simp only [Sem.run_bind, run_underlying hu, Result.andThen_ok, run_cast hsz]
      rw [if_neg (by simpa using hlim)]
      by_cases hn : n * sz = 0
      · have hn0 : n = 0 := by
          rcases Nat.mul_eq_zero.1 hn with h | h <;> omega
        subst hn0
        have hz1 : ∀ g : Nat → Value, (Array.range 0).map g = #[] := fun g => by simp
        rw [Nat.zero_mul, hz1] at e1
        simp only [Nat.zero_mul, if_true, Sem.run_bind, Sem.run_pure, Result.andThen_ok, hpl, hz1]
        rw [e1, hrl]
        simp [newRow]
      · simp only [hn, if_false, Sem.run_bind, hv, Result.andThen_ok, Sem.run_pure, hpl]
        rw [e1, hrl]
        simp [newRow]
    exact run_bindv this
  exact wp_val hr (hk _ _ _ _ _ _ h (eff_rows hI e2))

theorem sim_mk {t e : TypeId} {l c : Operand} {sz by_ : Nat} {z : List AV} {X Y : AV} {σ : Nat → Option Entry} (ho : o.op = .makeSlice t l c) (he : elT P t = some e) (hsz : szT P e = some sz) (hby : byT P e = some by_)
    (hz : zeroT P e = some z) (hI : ∀ b o, I b o → b < w.heap.size) (hd : σ d = none → β d = none) (hx : R I w β lam X (a.eval l)) (hy : R I w β lam Y (a.eval c))
    (h : eMk sz by_ z d σ [X, Y] k) (hk : Keeps w I β lam d k a o.dst K) : o.wp P a w K Q := by
  unfold eMk at h
  split at h
  · rename_i k1 n k2 c' heq
    simp only [List.cons.injEq, and_true] at heq
    obtain ⟨rfl, rfl⟩ := heq
    obtain ⟨rfl, h0, h1, h2, hzl, hs0, hdd, h⟩ := h
    have hd := hd hdd
    obtain ⟨m, rfl⟩ := Int.eq_ofNat_of_zero_le h0
    obtain ⟨v, hv, hvs, hA⟩ := zero_rows (P := P) (I := I) (w := w) (n := m) hz hzl
    have hu : P.underlying t = some (.slice e) := by
      unfold elT at he
      split at he <;> simp_all
    have hbytes : ∃ i, P.info? e = some i ∧ i.bytes = by_ := by
      unfold byT at hby
      simpa using hby
    obtain ⟨i, hi, hib⟩ := hbytes
    have hti : (typeInfo e).run P w = .ok i w := by simp [typeInfo, hi]
    have hwr : IntKind.i64.wrap (m : Int) = m := IntWalk.i64_in _ ⟨by omega, h2⟩
    have hsmall : ¬ ((by_ : Int) * m > 281474976710656) := by
      rw [Int.mul_comm]; omega
    have hr : (execOp a.eval o).run P w = .ok (.value (.slice (some ⟨w.heap.size, 0, none⟩) m m))
        (w.alloc (.cells ((Array.range (m * sz)).map fun i => v.cells[i % v.cells.size]!) e)) := by
      simp only [execOp, ho]
      refine run_bindv ?_
      unfold Instr.makeSlice
      simp only [Sem.run_bind, run_underlying hu, Result.andThen_ok, hx.val_eq, hy.val_eq, asInt, asIntOf, Sem.run_pure, hti, hib, hwr]
      have hc1 : (decide ((m : Int) < 0) || decide ((by_ : Int) * (m : Int) > 2 ^ 48)) = false := by
        simp only [Bool.or_eq_false_iff, decide_eq_false_iff_not]
        exact ⟨by omega, hsmall⟩
      have hc2 : decide ((m : Int) < 0) = false := by simp
      have hc3 : decide ((m : Int) > (m : Int)) = false := by simp
      rw [hc1, hc2, hc3]
      simp only [Bool.or_false, Bool.false_eq_true, if_false, Sem.run_bind, run_askRoom, Result.andThen_ok, run_cast hsz, Int.toNat_natCast]
      by_cases hn : m * sz = 0
      · have hn0 : m = 0 := by
          rcases Nat.mul_eq_zero.1 hn with h | h <;> omega
        subst hn0
        have hz1 : ∀ g : Nat → Value, (Array.range 0).map g = #[] := fun g => by simp
        simp [newRow]
        simp only [hz1]
      · rw [if_neg hn]
        simp [newRow, hv]
    refine wp_val hr (hk _ _ _ _ I (fun k => if k = d then some w.heap.size else β k) h ?_)
    have hb : Below w.heap.size w (w.alloc (.cells ((Array.range (m * sz)).map fun i => v.cells[i % v.cells.size]!) e)) := (Below.refl _ _).alloc (Nat.le_refl _) _
    refine ⟨hb, fun _ _ h => h, fun _ _ h => .inl h, (fun h => by cases h), fun ed hed => ?_, ?_⟩
    · simp only [Option.some.injEq] at hed
      subst hed
      refine ⟨w.heap.size, Nat.le_refl _, by simp, fun o h => Nat.lt_irrefl _ (hI _ _ h), hd, rfl, hA.2.1, fun i r j c hi hj => ?_⟩
      simp only [Int.toNat_natCast] at hi
      have hlt := hA.get hi hj
      refine ⟨_, ?_, World.frozen?_alloc_new _ _ _ _, (hA.2.2 i r j c hi hj).2, (hA.2.2 i r j c hi hj).1.later hI hb (fun _ _ h => h)⟩
      rw [World.cell?_alloc_new]
      generalize ((Array.range (m * sz)).map fun i => v.cells[i % v.cells.size]!) = A at *
      simp [hlt]
    · have := R.sl (I := I) (w := w.alloc (.cells ((Array.range (m * sz)).map fun i => v.cells[i % v.cells.size]!) e)) (β := fun k => if k = d then some w.heap.size else β k) (lam := lam) d sz 0 m m w.heap.size (some ⟨w.heap.size, 0, none⟩) (by simp) (Nat.le_refl _) (fun _ => by simp)
      simpa using this
  · exact h.elim

/-- A slice that is read: what is known of it. -/
theorem R.list_inv {sz : Nat} {m : Mode} {rows : List (List AV)} {v : Value} (h : R I w β lam (.list sz m rows) v) :
    ∃ a cap, v = .slice a rows.length cap ∧ rows.length ≤ cap ∧ (m = .full → cap = rows.length) ∧
      (rows ≠ [] → ∃ b q, a = some ⟨b, q, none⟩ ∧ (∀ (i : Nat) (r : List AV), rows[i]? = some r → r.length = sz) ∧
        ∀ (i : Nat) (r : List AV) j c, rows[i]? = some r → r[j]? = some c → ∃ u, I b (q + i * sz + j) ∧ w.cell? ⟨b, q + i * sz + j, none⟩ = some u ∧ single u = true ∧ R0 I w c u) := by
  have base : ∀ {m : Mode} {v : Value}, R0 I w (.list sz m rows) v → ∃ a cap, v = .slice a rows.length cap ∧ rows.length ≤ cap ∧ (m = .full → cap = rows.length) ∧
      (rows ≠ [] → ∃ b q, a = some ⟨b, q, none⟩ ∧ (∀ (i : Nat) (r : List AV), rows[i]? = some r → r.length = sz) ∧
        ∀ (i : Nat) (r : List AV) j c, rows[i]? = some r → r[j]? = some c → ∃ u, I b (q + i * sz + j) ∧ w.cell? ⟨b, q + i * sz + j, none⟩ = some u ∧ single u = true ∧ R0 I w c u) := by
    intro m v h
    cases h with
    | listNil _ _ a cap hm ho => exact ⟨a, cap, rfl, Nat.zero_le _, hm, fun h => absurd rfl h⟩
    | list _ _ _ b q cap g hcap hm ho hrow hcell hc =>
      exact ⟨_, cap, rfl, hcap, hm, fun _ => ⟨b, q, rfl, hrow, fun i r j c hi hj => ⟨g i j, (hcell i r j c hi hj).1, (hcell i r j c hi hj).2.1, (hcell i r j c hi hj).2.2, hc i r j c hi hj⟩⟩⟩
  cases h with
  | base h => exact base h
  | own _ l _ a cap h hl =>
    obtain ⟨a', cap', hv, h1, _, h3⟩ := base h
    cases hv
    exact ⟨_, _, rfl, h1, by simp, h3⟩

/-- A plain slice out of what is known of its cells. -/
theorem R0.mk_list {sz : Nat} {m : Mode} {rows : List (List AV)} {b q cap : Nat} (hcap : rows.length ≤ cap) (hm : m = .full → cap = rows.length) (ho : ∀ l, m ≠ .own l)
    (hrow : ∀ (i : Nat) (r : List AV), rows[i]? = some r → r.length = sz)
    (hc : ∀ (i : Nat) (r : List AV) j c, rows[i]? = some r → r[j]? = some c → ∃ u, I b (q + i * sz + j) ∧ w.cell? ⟨b, q + i * sz + j, none⟩ = some u ∧ single u = true ∧ R0 I w c u) :
    R0 I w (.list sz m rows) (.slice (some ⟨b, q, none⟩) rows.length cap) := by
  refine .list sz m rows b q cap (fun i j => (w.cell? ⟨b, q + i * sz + j, none⟩).getD Go.undef) hcap hm ho hrow (fun i r j c hi hj => ?_) (fun i r j c hi hj => ?_)
  · obtain ⟨u, h1, h2, h3, _⟩ := hc i r j c hi hj
    exact ⟨h1, by simp [h2], by simp [h2, h3]⟩
  · obtain ⟨u, _, h2, _, h4⟩ := hc i r j c hi hj
    simpa [h2] using h4

theorem sim_iaddrS {t e : TypeId} {esz : Nat} {x i : Operand} {X Y : AV} (ho : o.op = .indexAddr t x i) (hel : elT P t = some e) (he : szT P e = some esz)
    (hx : R I w β lam X (a.eval x)) (hi : R I w β lam Y (a.eval i)) (h : eIaddrS esz [X, Y] k) (hk : Keeps w I β lam d k a o.dst K) : o.wp P a w K Q := by
  have hu : P.underlying t = some (.slice e) := by
    unfold elT at hel
    split at hel <;> simp_all
  have run : ∀ b q (len cap : Nat) (ik : IntKind) (j : Int), a.eval x = .slice (some ⟨b, q, none⟩) len cap → a.eval i = .int ik j → 0 ≤ j → j < len →
      (execOp a.eval o).run P w = .ok (.value (.pointer (some ⟨b, q + j.toNat * esz, none⟩))) w := by
    intro b q len cap ik j hv hj h0 h1
    simp [execOp, ho, hv, hj, Instr.indexAt, asIntOf, run_underlying hu, h0, h1, run_cast he, addr_add]
  unfold eIaddrS at h
  split at h
  · rename_i sz' m rows ik n heq
    simp only [List.cons.injEq, and_true] at heq
    obtain ⟨rfl, rfl⟩ := heq
    obtain ⟨h0, h1, rfl, h⟩ := h
    obtain ⟨av, cap, hv, hcap, _, hne⟩ := hx.list_inv
    obtain ⟨b, q, rfl, hrow, hc⟩ := hne (by intro e; subst e; simp at h1; omega)
    split at h
    · rename_i r hr
      refine same_val (run _ _ _ _ _ _ hv hi.val_eq h0 h1) ?_ h hk
      have := R.ro_drop (β := β) (lam := lam) (b := b) (q := q + n.toNat * sz') (cells := r) (fun j c hj => hc _ r j c hr hj) 0
      simpa using this
    · exact h.elim
  · rename_i j sz' off len ik n heq
    simp only [List.cons.injEq, and_true] at heq
    obtain ⟨rfl, rfl⟩ := heq
    obtain ⟨h0, h1, rfl, h⟩ := h
    obtain ⟨b, cap, av, hb, hv, _, hav⟩ := hx.sl_inv
    rw [hav (by omega)] at hv
    refine same_val (run _ _ _ _ _ _ hv hi.val_eq h0 h1) ?_ h hk
    have := R.eptr (I := I) (w := w) (lam := lam) j sz' (off + n.toNat) 0 b hb
    rw [Nat.add_mul] at this
    simpa using this
  · rename_i j sz' off len ik n heq
    simp only [List.cons.injEq, and_true] at heq
    obtain ⟨rfl, rfl⟩ := heq
    obtain ⟨h0, h1, rfl, h⟩ := h
    obtain ⟨cap, cp, av0, av, hl, hv, hlc, _, hav⟩ := hx.us_inv
    obtain ⟨b, q, rfl, rfl⟩ := hav (by omega)
    refine same_val (run _ _ _ _ _ _ hv hi.val_eq h0 h1) ?_ h hk
    have := R.up (I := I) (w := w) (β := β) (lam := lam) j sz' (off + n.toNat) 0 cap b q hl
    rw [Nat.add_mul] at this
    simpa [Nat.add_assoc] using this
  · exact h.elim

end
end Go.Am
