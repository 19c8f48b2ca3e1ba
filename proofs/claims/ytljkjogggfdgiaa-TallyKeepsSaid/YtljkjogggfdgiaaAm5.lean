/-
  The abstract machine, part 5: each operation that changes nothing that was there, held against the model's.
-/
import Derived.Test.YtljkjogggfdgiaaAm4
namespace Go.Am
open Go.RowKit

section
variable {P : Program} {I : Nat → Nat → Prop} {w : World} {β : Blocks} {lam : Owned} {o : Oper} {a : Act} {K : Act → World → Prop}
  {Q : Exit → Act → World → Prop} {d : Nat} {k : AV → Option Entry → Prop}

abbrev Keeps (w : World) (I : Nat → Nat → Prop) (β : Blocks) (lam : Owned) (d : Nat) (k : AV → Option Entry → Prop) (a : Act) (dst : Option Nat) (K : Act → World → Prop) : Prop :=
  ∀ x en v w' I' β', k x en → Eff w I β lam d x en v w' I' β' → K (a.put dst v) w'

theorem R.later {I' : Nat → Nat → Prop} {w' : World} {β' : Blocks} (hI : ∀ b o, I b o → b < w.heap.size) (hb : Below w.heap.size w w')
    (hs : ∀ b o, I b o → I' b o) (hβ : ∀ k b, β k = some b → β' k = some b) {x : AV} {v : Value} (h : R I w β lam x v) : R I' w' β' lam x v :=
  h.mono hs (fun b o v hi hv => by rw [hb.cell (p := ⟨b, o, none⟩) (hI _ _ hi)]; exact hv) hβ (fun _ _ h => h)

theorem R0.later {I' : Nat → Nat → Prop} {w' : World} (hI : ∀ b o, I b o → b < w.heap.size) (hb : Below w.heap.size w w')
    (hs : ∀ b o, I b o → I' b o) {x : AV} {v : Value} (h : R0 I w x v) : R0 I' w' x v :=
  h.mono hs (fun b o v hi hv => by rw [hb.cell (p := ⟨b, o, none⟩) (hI _ _ hi)]; exact hv)

theorem same_val {x : AV} {v : Value} (hr : (execOp a.eval o).run P w = .ok (.value v) w) (hR : R I w β lam x v) (h : k x none)
    (hk : Keeps w I β lam d k a o.dst K) : o.wp P a w K Q := wp_val hr (hk _ _ _ _ _ _ h (.same hR))

/-- A new variable. -/
theorem eff_var {cs : List AV} {vs : Array Value} {t : TypeId} (hI : ∀ b o, I b o → b < w.heap.size) (hd : β d = none)
    (hs : vs.size = cs.length) (hc : ∀ j c, cs[j]? = some c → R I w β lam c (vs.getD j undef) ∧ single (vs.getD j undef) = true) :
    Eff w I β lam d (.ptr d 0) (some (.var cs)) (.pointer (some ⟨w.heap.size, 0, none⟩)) (w.alloc (.cells vs t)) I
      (fun k => if k = d then some w.heap.size else β k) := by
  have hb : Below w.heap.size w (w.alloc (.cells vs t)) := (Below.refl _ _).alloc (Nat.le_refl _) _
  have hβ : ∀ k b, β k = some b → (if k = d then some w.heap.size else β k) = some b := fun k b h => by
    by_cases e : k = d
    · subst e; rw [hd] at h; cases h
    · rw [if_neg e]; exact h
  refine ⟨hb, fun _ _ h => h, fun _ _ h => .inl h, (fun h => by cases h), fun ed he => ?_, .ptr d 0 _ (by simp)⟩
  simp only [Option.some.injEq] at he
  subst he
  refine ⟨w.heap.size, Nat.le_refl _, by simp, fun o h => Nat.lt_irrefl _ (hI _ _ h), hd, rfl, fun j c hj => ?_⟩
  obtain ⟨h1, h2⟩ := hc j c hj
  have hlt : j < vs.size := by
    have := (List.getElem?_eq_some_iff.1 hj).1
    omega
  refine ⟨vs.getD j undef, ?_, ?_, h2, h1.later hI hb (fun _ _ h => h) hβ⟩
  · rw [World.cell?_alloc_new]
    simp [hlt]
  · rw [World.frozen?_alloc_new]

theorem run_zero {t : TypeId} {v : Value} (h : (P.info? t).bind (·.zero) = some v) : (zeroValue t).run P w = .ok v w := by
  cases hi : P.info? t with
  | none => simp [hi] at h
  | some i =>
    simp [hi] at h
    simp [zeroValue, typeInfo, hi, h]

theorem zeroT_inv {t : TypeId} {z : List AV} (h : zeroT P t = some z) : ∃ v : Value, (zeroValue t).run P w = .ok v w ∧ v.cells.all (·.oneCell') = true ∧ z = v.cells.toList.map ofV1 := by
  unfold zeroT at h
  cases hz : (P.info? t).bind (·.zero) with
  | none => simp [hz] at h
  | some v =>
    simp only [hz, Option.bind_some] at h
    split at h
    · rename_i h1
      simp only [Option.some.injEq] at h
      exact ⟨v, run_zero hz, h1, h.symm⟩
    · cases h

theorem zero_cells (v : Value) (h1 : v.cells.all (·.oneCell') = true) :
    (v.cells.size = (v.cells.toList.map ofV1).length) ∧ ∀ j c, (v.cells.toList.map ofV1)[j]? = some c → R0 I w c (v.cells.getD j undef) ∧ single (v.cells.getD j undef) = true := by
  refine ⟨by simp, fun j c hj => ?_⟩
  simp only [List.getElem?_map, Option.map_eq_some_iff] at hj
  obtain ⟨u, hu, rfl⟩ := hj
  have hj' : j < v.cells.size := by simpa using (List.getElem?_eq_some_iff.1 hu).1
  have : v.cells.getD j undef = u := by simp at hu; simp [hu]
  refine ⟨by rw [this]; exact R0_ofV1 u, getD_one h1 hj'⟩

theorem sim_alloc {t : TypeId} {z : List AV} (ho : o.op = .alloc t) (hz : zeroT P t = some z) (hI : ∀ b o, I b o → b < w.heap.size) (hd : β d = none)
    (h : k (.ptr d 0) (some (.var z))) (hk : Keeps w I β lam d k a o.dst K) : o.wp P a w K Q := by
  obtain ⟨v, hv, h1, rfl⟩ := zeroT_inv (w := w) hz
  obtain ⟨hs, hc⟩ := zero_cells (I := I) (w := w) v h1
  have hr : (execOp a.eval o).run P w = .ok (.value (.pointer (some ⟨w.heap.size, 0, none⟩))) (w.alloc (.cells v.cells t)) := by
    simp [execOp, ho, Instr.alloc, hv, newVar, newRow]
  exact wp_val hr (hk _ _ _ _ _ _ h (eff_var hI hd hs fun j c hj => ⟨.base (hc j c hj).1, (hc j c hj).2⟩))

theorem sim_box {t : TypeId} {x : Operand} {X : AV} {cs : List AV} (ho : o.op = .box t x) (hx : R I w β lam X (a.eval x)) (hX : cellsOf X = some cs)
    (hI : ∀ b o, I b o → b < w.heap.size) (hd : β d = none) (h : k (.ptr d 0) (some (.var cs))) (hk : Keeps w I β lam d k a o.dst K) : o.wp P a w K Q := by
  obtain ⟨hs, hc⟩ := cells_R hX hx
  have hr : (execOp a.eval o).run P w = .ok (.value (.pointer (some ⟨w.heap.size, 0, none⟩))) (w.alloc (.cells (a.eval x).cells t)) := by
    simp [execOp, ho, Instr.box, newVar, newRow]
  exact wp_val hr (hk _ _ _ _ _ _ h (eff_var hI hd hs hc))

theorem sim_mov {x : Operand} {X : AV} (ho : o.op = .move x ∨ o.op = .assign x) (hx : R I w β lam X (a.eval x)) (h : k X none)
    (hk : Keeps w I β lam d k a o.dst K) : o.wp P a w K Q :=
  same_val (v := a.eval x) (by rcases ho with ho | ho <;> simp [execOp, ho]) hx h hk

theorem sim_pick {c x y : Operand} {t : Bool} {X Y : AV} (ho : o.op = .pick c x y) (hc : R I w β lam (.val (.bool t)) (a.eval c)) (hx : R I w β lam X (a.eval x))
    (hy : R I w β lam Y (a.eval y)) (h1 : t = true → k X none) (h2 : t = false → k Y none) (hk : Keeps w I β lam d k a o.dst K) : o.wp P a w K Q := by
  have hc' := hc.val_eq
  cases t with
  | true => exact same_val (v := a.eval x) (by simp [execOp, ho, hc', asBool]) hx (h1 rfl) hk
  | false => exact same_val (v := a.eval y) (by simp [execOp, ho, hc', asBool]) hy (h2 rfl) hk

theorem sim_optV {s : Sem Value} (hr : (execOp a.eval o).run P w = (do pure (Next.value (← s)) : Sem Next).run P w) (h : optV (semPure P s) k)
    (hk : Keeps w I β lam d k a o.dst K) : o.wp P a w K Q := by
  cases hs : semPure P s with
  | none => simp [hs, optV] at h
  | some v =>
    simp only [hs, optV] at h
    exact same_val (v := v) (by rw [hr, run_bindv (semPure_run hs w)]) (R_ofV v) h hk

theorem sim_bin {op : BinOp} {t t' : TypeId} {x y : Operand} {X Y : AV} (ho : o.op = .binOp op t x y t') (hx : R I w β lam X (a.eval x)) (hy : R I w β lam Y (a.eval y))
    (h : eBin P op t x y [X, Y] k) (hk : Keeps w I β lam d k a o.dst K) : o.wp P a w K Q := by
  simp only [eBin] at h
  split at h
  · rename_i u v hu hv
    refine sim_optV (s := do eqGuard op t x y u v; binOp op t u v) ?_ h hk
    simp only [execOp, ho, toV_eq hu hx, toV_eq hv hy]
  · exact h.elim

theorem sim_un {op : UnOp} {t : TypeId} {x : Operand} {u : Value} (ho : o.op = .unOp op t x) (hx : R I w β lam (.val u) (a.eval x))
    (h : optV (semPure P (Op.unary op u)) k) (hk : Keeps w I β lam d k a o.dst K) : o.wp P a w K Q :=
  sim_optV (s := Op.unary op u) (by simp only [execOp, ho, hx.val_eq]) h hk

theorem sim_conv {s t : TypeId} {x : Operand} {u : Value} (ho : o.op = .convert s t x) (hx : R I w β lam (.val u) (a.eval x))
    (h : optV (semPure P (convert s t u)) k) (hk : Keeps w I β lam d k a o.dst K) : o.wp P a w K Q :=
  sim_optV (s := convert s t u) (by simp only [execOp, ho, hx.val_eq]) h hk

theorem sim_idxV {t : TypeId} {x i : Operand} {X : AV} {u v : Value} (ho : o.op = .index t x i) (hx : R I w β lam X (a.eval x)) (hX : toV X = some u) (hi : R I w β lam (.val v) (a.eval i))
    (h : optV (semPure P (Instr.index t u v)) k) (hk : Keeps w I β lam d k a o.dst K) : o.wp P a w K Q :=
  sim_optV (s := Instr.index t u v) (by simp only [execOp, ho, toV_eq hX hx, hi.val_eq]) h hk

theorem run_cast {t : TypeId} {n : Nat} (h : szT P t = some n) : (sizeOf t).run P w = .ok n w := by
  unfold szT at h
  cases hi : P.info? t with
  | none => simp [hi] at h
  | some i => simp [hi] at h; simp [sizeOf, typeInfo, hi, h]

theorem run_isAgg {t : TypeId} {d : TypeDesc} (hu : P.underlying t = some d) : (isAgg t).run P w = .ok d.isRow w := by
  unfold isAgg
  rw [Sem.run_bind, run_underlying hu w]
  cases d <;> rfl

/-- A part of a struct's or an array's cells. -/
theorem part_run {t : TypeId} {n : Option Nat} {cells : List AV} {vs : Array Value} {off : Nat} {x : AV} (ht : ldT P t = some n) (hp : partA cells off n = some x)
    (hs : vs.size = cells.length) (h1 : vs.all (·.oneCell') = true) (hc : ∀ i c, cells[i]? = some c → R0 I w c (vs.getD i undef)) :
    ∃ v, (part t vs off).run P w = .ok v w ∧ R0 I w x v := by
  have agg : ∀ {d : TypeDesc} {s : Nat}, P.underlying t = some d → d.isRow = true → szT P t = some s → partA cells off (some s) = some x →
      ∃ v, (part t vs off).run P w = .ok v w ∧ R0 I w x v := by
    intro d s hu hd hsz hp
    simp only [partA] at hp
    split at hp
    · rename_i hle
      simp only [Option.some.injEq] at hp
      subst hp
      refine ⟨.agg (vs.extract off (off + s)), by simp [part, run_isAgg hu, hd, run_cast hsz], .agg _ _ (by simp; omega) ?_ fun i c hi => ?_⟩
      · refine Array.all_eq_true.2 fun i hi => ?_
        have hi' : off + i < vs.size := by simp at hi; omega
        have := Array.all_eq_true.1 h1 (off + i) hi'
        simpa using this
      · rw [List.getElem?_take] at hi
        split at hi
        · rename_i hlt
          rw [List.getElem?_drop] at hi
          have := hc (off + i) c hi
          have hi' : off + i < vs.size := by
            have := (List.getElem?_eq_some_iff.1 hi).1
            omega
          have e : (vs.extract off (off + s)).getD i undef = vs.getD (off + i) undef := by
            have h3 : i < min (off + s) vs.size - off := by omega
            simp [hi', h3]
          rw [e]; exact this
        · cases hi
    · cases hp
  unfold ldT at ht
  split at ht
  · cases ht
  · rename_i fs hu
    simp only [Option.map_eq_some_iff] at ht
    obtain ⟨s, hs', rfl⟩ := ht
    exact agg hu rfl hs' hp
  · rename_i n' e hu
    simp only [Option.map_eq_some_iff] at ht
    obtain ⟨s, hs', rfl⟩ := ht
    exact agg hu rfl hs' hp
  · rename_i d hns hna hu
    simp only [Option.some.injEq] at ht
    subst ht
    simp only [partA] at hp
    have hlt : off < vs.size := by
      have := (List.getElem?_eq_some_iff.1 hp).1
      omega
    have hrow : d.isRow = false := by
      cases d with
      | struct fs => exact absurd rfl (hns fs)
      | array n e => exact absurd rfl (hna n e)
      | _ => rfl
    refine ⟨vs.getD off undef, ?_, hc off x hp⟩
    simp [part, run_isAgg hu, hrow, hlt]

theorem sim_field {t : TypeId} {x : Operand} {i : Nat} {fs : Array Field} {f : Field} {n : Option Nat} {cells : List AV} (ho : o.op = .field t x i) (hf : fieldsT P t = some fs) (hi : fs[i]? = some f)
    (hn : ldT P f.type = some n) (hx : R I w β lam (.agg cells) (a.eval x)) (h : optA (partA cells f.offset n) k) (hk : Keeps w I β lam d k a o.dst K) : o.wp P a w K Q := by
  obtain ⟨vs, hv, hs, h1, hc⟩ := hx.agg_inv
  cases hp : partA cells f.offset n with
  | none => simp [hp, optA] at h
  | some y =>
    simp only [hp, optA] at h
    obtain ⟨v, hr, hR⟩ := part_run (I := I) (w := w) hn hp hs h1 hc
    have hu : P.underlying t = some (.struct fs) := by
      unfold fieldsT at hf
      split at hf <;> simp_all
    refine same_val (v := v) ?_ (.base hR) h hk
    simp [execOp, ho, hv, Instr.field, run_underlying hu, hi, asAgg, hr]

theorem sim_idxA {t e : TypeId} {len esz : Nat} {x i : Operand} {n : Option Nat} {cells : List AV} {ik : IntKind} {j : Int} (ho : o.op = .index t x i) (ha : arrT P t = some (len, e)) (he : szT P e = some esz)
    (hn : ldT P e = some n) (hx : R I w β lam (.agg cells) (a.eval x)) (hi : R I w β lam (.val (.int ik j)) (a.eval i)) (h0 : 0 ≤ j) (h1 : j < len)
    (h : optA (partA cells (j.toNat * esz) n) k) (hk : Keeps w I β lam d k a o.dst K) : o.wp P a w K Q := by
  obtain ⟨vs, hv, hs, h1', hc⟩ := hx.agg_inv
  cases hp : partA cells (j.toNat * esz) n with
  | none => simp [hp, optA] at h
  | some y =>
    simp only [hp, optA] at h
    obtain ⟨v, hr, hR⟩ := part_run (I := I) (w := w) hn hp hs h1' hc
    have hu : P.underlying t = some (.array len e) := by
      unfold arrT at ha
      split at ha <;> simp_all
    refine same_val (v := v) ?_ (.base hR) h hk
    simp [execOp, ho, hv, hi.val_eq, Instr.index, asIntOf, run_underlying hu, h0, h1, run_cast he, hr]

theorem sim_extract {x : Operand} {i : Nat} {cells : List AV} (ho : o.op = .extract x i) (hx : R I w β lam (.tuple cells) (a.eval x)) (h : optA cells[i]? k)
    (hk : Keeps w I β lam d k a o.dst K) : o.wp P a w K Q := by
  obtain ⟨vs, hv, hs, hc⟩ := hx.tuple_inv
  cases hp : cells[i]? with
  | none => simp [hp, optA] at h
  | some y =>
    simp only [hp, optA] at h
    have hlt : i < vs.size := by
      have := (List.getElem?_eq_some_iff.1 hp).1
      omega
    refine same_val (v := vs.getD i undef) ?_ (hc i y hp) h hk
    simp [execOp, ho, hv, Instr.extract, hlt]

theorem R.fn_inv {f : Fn} {caps : List AV} {v : Value} (h : R I w β lam (.fn f caps) v) :
    ∃ vs : Array Value, v = .func f #[] vs ∧ vs.size = caps.length ∧ ∀ i c, caps[i]? = some c → R I w β lam c (vs.getD i Go.undef) := by
  cases h with
  | base h => cases h with
    | fn _ _ vs hs hc => exact ⟨vs, rfl, hs, fun i c hi => .base (hc i c hi)⟩
  | fn _ _ vs hs _ hc => exact ⟨vs, rfl, hs, hc⟩

theorem R.ptr_inv {j off : Nat} {v : Value} (h : R I w β lam (.ptr j off) v) : ∃ b, β j = some b ∧ v = .pointer (some ⟨b, off, none⟩) := by
  cases h with
  | base h => cases h
  | ptr _ _ b h => exact ⟨b, h, rfl⟩

theorem R.eptr_inv {j sz i off : Nat} {v : Value} (h : R I w β lam (.eptr j sz i off) v) : ∃ b, β j = some b ∧ v = .pointer (some ⟨b, i * sz + off, none⟩) := by
  cases h with
  | base h => cases h
  | eptr _ _ _ _ b h => exact ⟨b, h, rfl⟩

theorem R.sl_inv {j sz off len : Nat} {v : Value} (h : R I w β lam (.sl j sz off len) v) :
    ∃ b cap av, β j = some b ∧ v = .slice av len cap ∧ len ≤ cap ∧ (len ≠ 0 → av = some ⟨b, off * sz, none⟩) := by
  cases h with
  | base h => cases h
  | sl _ _ _ _ cap b av h hc ha => exact ⟨b, cap, av, h, rfl, hc, ha⟩

theorem R.us_inv {l sz off len : Nat} {v : Value} (h : R I w β lam (.us l sz off len) v) :
    ∃ cap cp a av, lam l = some (a, 0, cap, sz) ∧ v = .slice av len cp ∧ len ≤ cp ∧ off + cp ≤ cap ∧ (cp ≠ 0 → ∃ b o, a = some ⟨b, o, none⟩ ∧ av = some ⟨b, o + off * sz, none⟩) := by
  cases h with
  | base h => cases h
  | us _ _ _ _ cap cp a av h hc ho ha => exact ⟨cap, cp, a, av, h, rfl, hc, ho, ha⟩

theorem R.up_inv {l sz i off : Nat} {v : Value} (h : R I w β lam (.up l sz i off) v) :
    ∃ cap b o, lam l = some (some ⟨b, o, none⟩, 0, cap, sz) ∧ v = .pointer (some ⟨b, o + i * sz + off, none⟩) := by
  cases h with
  | base h => cases h
  | up _ _ _ _ cap b o h => exact ⟨cap, b, o, h, rfl⟩

/-- A row of an array of the function's own, where its owner's mark says. -/
theorem RU.row {l sz : Nat} {rows : List (List AV)} (h : RU I w β lam l sz rows) {cap b o : Nat} (hl : lam l = some (some ⟨b, o, none⟩, 0, cap, sz)) {i : Nat} {r : List AV} (hi : rows[i]? = some r) :
    r.length = sz ∧ ∀ j c, r[j]? = some c → ∃ v, w.cell? ⟨b, o + i * sz + j, none⟩ = some v ∧ single v = true ∧ R I w β lam c v := by
  obtain ⟨a, cap', h1, h2, h3, h4⟩ := h
  rw [hl] at h1
  cases h1
  refine ⟨h3 i r hi, fun j c hj => ?_⟩
  obtain ⟨b', o', e, h5⟩ := h4 (by intro e; subst e; simp at hi)
  cases e
  exact h5 i r j c hi hj

theorem R.ro_inv {cells : List AV} {v : Value} (h : R I w β lam (.ro cells) v) :
    ∃ b o, v = .pointer (some ⟨b, o, none⟩) ∧ ∀ j c, cells[j]? = some c → ∃ u, I b (o + j) ∧ w.cell? ⟨b, o + j, none⟩ = some u ∧ single u = true ∧ R0 I w c u := by
  cases h with
  | base h => cases h with
    | ro _ b o g hcell hc => exact ⟨b, o, rfl, fun j c hj => ⟨g j, (hcell j c hj).1, (hcell j c hj).2.1, (hcell j c hj).2.2, hc j c hj⟩⟩

/-- A pointer that only reads, further on. -/
theorem R.ro_drop {cells : List AV} {b q : Nat} (h : ∀ j c, cells[j]? = some c → ∃ u, I b (q + j) ∧ w.cell? ⟨b, q + j, none⟩ = some u ∧ single u = true ∧ R0 I w c u) (n : Nat) :
    R I w β lam (.ro (cells.drop n)) (.pointer (some ⟨b, q + n, none⟩)) := by
  refine .base (.ro _ b (q + n) (fun j => (w.cell? ⟨b, q + n + j, none⟩).getD undef) (fun j c hj => ?_) (fun j c hj => ?_))
  · rw [List.getElem?_drop] at hj
    obtain ⟨u, h1, h2, h3, _⟩ := h _ _ hj
    rw [← Nat.add_assoc] at h1 h2
    exact ⟨h1, by simp [h2], by simp [h2, h3]⟩
  · rw [List.getElem?_drop] at hj
    obtain ⟨u, _, h2, _, h4⟩ := h _ _ hj
    rw [← Nat.add_assoc] at h2
    simpa [h2] using h4

theorem sim_nilChk {x : Operand} {X : AV} (ho : o.op = .nilCheck x) (hx : R I w β lam X (a.eval x))
    (hX : (∃ j off, X = .ptr j off) ∨ (∃ j sz i off, X = .eptr j sz i off) ∨ (∃ cells, X = .ro cells) ∨ (∃ f caps, X = .fn (.func f) caps) ∨ (∃ j sz i off, X = .up j sz i off)) (h : k X none)
    (hk : Keeps w I β lam d k a o.dst K) : o.wp P a w K Q := by
  refine same_val (v := a.eval x) ?_ hx h hk
  rcases hX with ⟨j, off, rfl⟩ | ⟨j, sz, i, off, rfl⟩ | ⟨cells, rfl⟩ | ⟨f, caps, rfl⟩ | ⟨j, sz, i, off, rfl⟩
  · obtain ⟨b, _, hv⟩ := hx.ptr_inv
    simp [execOp, ho, hv]
  · obtain ⟨b, _, hv⟩ := hx.eptr_inv
    simp [execOp, ho, hv]
  · obtain ⟨b, q, hv, _⟩ := hx.ro_inv
    simp [execOp, ho, hv]
  · obtain ⟨vs, hv, _⟩ := hx.fn_inv
    simp [execOp, ho, hv]
  · obtain ⟨_, b, _, _, hv⟩ := hx.up_inv
    simp [execOp, ho, hv]

theorem sim_load {t : TypeId} {x : Operand} {n : Option Nat} {X : AV} {σ : Nat → Option Entry} (ho : o.op = .load t x) (hn : ldT P t = some n) (hx : R I w β lam X (a.eval x))
    (hσ : ∀ k en b, σ k = some en → β k = some b → RE I w β lam b en) (hυ : ∀ l sz rows, σ l = some (.uarr sz rows) → RU I w β lam l sz rows) (h : eLoad σ n [X] k) (hk : Keeps w I β lam d k a o.dst K) : o.wp P a w K Q := by
  have fin : ∀ {cells : List AV} {off b q : Nat}, a.eval x = .pointer (some ⟨b, q + off, none⟩) → optA (goLoad cells off n) k →
      (∀ j c, cells[j]? = some c → ∃ v, w.cell? ⟨b, q + j, none⟩ = some v ∧ single v = true ∧ R I w β lam c v) → o.wp P a w K Q := by
    intro cells off b q hv h hc
    cases hl : goLoad cells off n with
    | none => simp [hl, optA] at h
    | some y =>
      simp only [hl, optA] at h
      obtain ⟨v, hr, hR⟩ := load_run hn hl hc
      refine same_val (v := v) ?_ hR h hk
      simp only [execOp, ho, hv]
      exact run_bindv hr
  unfold eLoad at h
  split at h
  · rename_i j off heq
    simp only [List.cons.injEq, and_true] at heq
    subst heq
    obtain ⟨b, hb, hv⟩ := hx.ptr_inv
    split at h
    · rename_i cells hs
      refine fin (q := 0) (by rw [hv, Nat.zero_add]) h fun j c hj => ?_
      obtain ⟨v, h1, _, h3, h4⟩ := hσ _ _ _ hs hb j c hj
      exact ⟨v, by rw [Nat.zero_add]; exact h1, h3, h4⟩
    · exact h.elim
  · rename_i j sz i off heq
    simp only [List.cons.injEq, and_true] at heq
    subst heq
    obtain ⟨b, hb, hv⟩ := hx.eptr_inv
    split at h
    · rename_i sz' rows hs
      obtain ⟨rfl, h⟩ := h
      split at h
      · rename_i r hr
        refine fin hv h fun j c hj => ?_
        obtain ⟨v, h1, _, h3, h4⟩ := (hσ _ _ _ hs hb).2 i r j c hr hj
        exact ⟨v, h1, h3, .base h4⟩
      · exact h.elim
    · exact h.elim
  · rename_i cells heq
    simp only [List.cons.injEq, and_true] at heq
    subst heq
    obtain ⟨b, q, hv, hc⟩ := hx.ro_inv
    refine fin (q := q) (by rw [hv, Nat.add_zero]) h fun j c hj => ?_
    obtain ⟨u, _, h2, h3, h4⟩ := hc j c hj
    exact ⟨u, h2, h3, .base h4⟩
  · rename_i l sz i off heq
    simp only [List.cons.injEq, and_true] at heq
    subst heq
    obtain ⟨cap, b, q, hl, hv⟩ := hx.up_inv
    split at h
    · rename_i sz' rows hs
      obtain ⟨rfl, h⟩ := h
      split at h
      · rename_i r hr
        exact fin hv h ((hυ _ _ _ hs).row hl hr).2
      · exact h.elim
    · exact h.elim
  · exact h.elim

theorem sim_faddr {t : TypeId} {x : Operand} {i n : Nat} {fs : Array Field} {f : Field} {X : AV} (ho : o.op = .fieldAddr t x i) (hf : fieldsT P t = some fs) (hi : fs[i]? = some f)
    (hn : szT P f.type = some n) (h0 : n ≠ 0) (hx : R I w β lam X (a.eval x))
    (h : match [X] with | [.ptr j q] => k (.ptr j (q + f.offset)) none | [.eptr j sz i q] => k (.eptr j sz i (q + f.offset)) none | [.up j sz i q] => k (.up j sz i (q + f.offset)) none | [.ro cells] => k (.ro (cells.drop f.offset)) none | _ => False)
    (hk : Keeps w I β lam d k a o.dst K) : o.wp P a w K Q := by
  have hu : P.underlying t = some (.struct fs) := by
    unfold fieldsT at hf
    split at hf <;> simp_all
  have run : ∀ b q, a.eval x = .pointer (some ⟨b, q, none⟩) → (execOp a.eval o).run P w = .ok (.value (.pointer (some ⟨b, q + f.offset, none⟩))) w := by
    intro b q hv
    simp [execOp, ho, hv, Instr.fieldAt, run_underlying hu, hi, Instr.sureAddr, fieldPlace, run_cast hn, h0, addr_add]
  split at h
  · rename_i j q heq
    simp only [List.cons.injEq, and_true] at heq
    subst heq
    obtain ⟨b, hb, hv⟩ := hx.ptr_inv
    exact same_val (run _ _ hv) (.ptr _ _ _ hb) h hk
  · rename_i j sz i' q heq
    simp only [List.cons.injEq, and_true] at heq
    subst heq
    obtain ⟨b, hb, hv⟩ := hx.eptr_inv
    exact same_val (run _ _ hv) (by rw [Nat.add_assoc]; exact .eptr _ _ _ _ _ hb) h hk
  · rename_i j sz i' q heq
    simp only [List.cons.injEq, and_true] at heq
    subst heq
    obtain ⟨cap, b, q', hl, hv⟩ := hx.up_inv
    exact same_val (run _ _ hv) (by rw [Nat.add_assoc]; exact .up _ _ _ _ _ _ _ hl) h hk
  · rename_i cells heq
    simp only [List.cons.injEq, and_true] at heq
    subst heq
    obtain ⟨b, q, hv, hc⟩ := hx.ro_inv
    exact same_val (run _ _ hv) (R.ro_drop hc _) h hk
  · exact h.elim

theorem sim_iaddrA {t e : TypeId} {len esz : Nat} {x i : Operand} {X Y : AV} (ho : o.op = .indexAddr t x i) (ha : arrT P t = some (len, e)) (he : szT P e = some esz)
    (hx : R I w β lam X (a.eval x)) (hi : R I w β lam Y (a.eval i)) (h : eIaddrA len esz [X, Y] k) (hk : Keeps w I β lam d k a o.dst K) : o.wp P a w K Q := by
  have hu : P.underlying t = some (.array len e) := by
    unfold arrT at ha
    split at ha <;> simp_all
  have run : ∀ b q (ik : IntKind) (j : Int), a.eval x = .pointer (some ⟨b, q, none⟩) → a.eval i = .int ik j → 0 ≤ j → j < len →
      (execOp a.eval o).run P w = .ok (.value (.pointer (some ⟨b, q + j.toNat * esz, none⟩))) w := by
    intro b q ik j hv hj h0 h1
    simp [execOp, ho, hv, hj, Instr.indexAt, asIntOf, run_underlying hu, Instr.sureAddr, h0, h1, run_cast he, addr_add]
  unfold eIaddrA at h
  split at h
  · rename_i j q ik n heq
    simp only [List.cons.injEq, and_true] at heq
    obtain ⟨rfl, rfl⟩ := heq
    obtain ⟨b, hb, hv⟩ := hx.ptr_inv
    obtain ⟨h0, h1, h⟩ := h
    exact same_val (run _ _ _ _ hv hi.val_eq h0 h1) (.ptr _ _ _ hb) h hk
  · rename_i j sz i' q ik n heq
    simp only [List.cons.injEq, and_true] at heq
    obtain ⟨rfl, rfl⟩ := heq
    obtain ⟨b, hb, hv⟩ := hx.eptr_inv
    obtain ⟨h0, h1, h⟩ := h
    exact same_val (run _ _ _ _ hv hi.val_eq h0 h1) (by rw [Nat.add_assoc]; exact .eptr _ _ _ _ _ hb) h hk
  · rename_i cells ik n heq
    simp only [List.cons.injEq, and_true] at heq
    obtain ⟨rfl, rfl⟩ := heq
    obtain ⟨b, q, hv, hc⟩ := hx.ro_inv
    obtain ⟨h0, h1, h⟩ := h
    exact same_val (run _ _ _ _ hv hi.val_eq h0 h1) (R.ro_drop hc _) h hk
  · rename_i j sz i' q ik n heq
    simp only [List.cons.injEq, and_true] at heq
    obtain ⟨rfl, rfl⟩ := heq
    obtain ⟨cap, b, q', hl, hv⟩ := hx.up_inv
    obtain ⟨h0, h1, h⟩ := h
    exact same_val (run _ _ _ _ hv hi.val_eq h0 h1) (by rw [Nat.add_assoc]; exact .up _ _ _ _ _ _ _ hl) h hk
  · exact h.elim

end
end Go.Am
