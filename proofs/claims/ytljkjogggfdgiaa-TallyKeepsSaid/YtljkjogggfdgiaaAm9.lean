/-
  The abstract machine, part 9: calls; all the operations that change nothing that was there.
-/
import Derived.Test.YtljkjogggfdgiaaAm8
namespace Go.Am
open Go.RowKit

section
variable {P : Program} {I : Nat → Nat → Prop} {w : World} {β : Blocks} {lam : Owned} {o : Oper} {a : Act} {K : Act → World → Prop}
  {Q : Exit → Act → World → Prop} {d : Nat} {k : AV → Option Entry → Prop}

theorem sim_sliceV {t : TypeId} {x : Operand} {lo hi mx : Option Operand} {f : Opd → AV} {s : ByteArray} (ho : o.op = .slice t x lo hi mx) (ht : isStrT P t = true)
    (hx : R I w β lam (.val (.string s)) (a.eval x)) (hR : ∀ y, lo = some y ∨ hi = some y ∨ mx = some y → R I w β lam (f (trOpd y)) (a.eval y))
    (h : bnds s.size lo.isSome hi.isSome mx.isSome ((optL lo ++ optL hi ++ optL mx).map f) fun l h _ => mx.isSome = false ∧ k (.val (.string (s.extract l h))) none)
    (hk : Keeps w I β lam d k a o.dst K) : o.wp P a w K Q := by
  have hu : P.underlying t = some .string := by
    unfold isStrT at ht
    split at ht <;> simp_all
  obtain ⟨l, h', fl, m, ⟨hm, hkk⟩, h1, h2, h3, h4, h5, hb⟩ := bnds_run (P := P) (I := I) (w := w) (β := β) (lam := lam) (a := a) false h (Nat.le_refl _) hR
  have hmx : mx = none := by cases mx <;> simp_all
  subst hmx
  refine same_val (v := .string (s.extract l h')) ?_ (R_val _) hkk hk
  simp only [Option.map_none] at hb
  simp [execOp, ho, hx.val_eq, Instr.sliceAt, Instr.slice, run_underlying hu, hb]

theorem sim_len {c : Call} {str : Bool} {t : TypeId} {x : Operand} {X : AV} (ho : o.op = .call c) (hc : c.callee = .builtin .len) (hargs : c.args = #[x]) (ht : c.argTypes[0]? = some t)
    (hs : if str = true then P.underlying t = some .string else ∃ e, P.underlying t = some (.slice e)) (hx : R I w β lam X (a.eval x)) (h : eLen str [X] k)
    (hk : Keeps w I β lam d k a o.dst K) : o.wp P a w K Q := by
  have run : ∀ {n : Nat}, (Builtin.len_ c.argTypes o.type #[a.eval x]).run P w = .ok (goInt n) w → (execOp a.eval o).run P w = .ok (.value (.int .i64 n)) w := by
    intro n hr
    simp [execOp, ho, resolve, hc, hargs, invoke, builtin, hr, goInt]
  simp only [eLen] at h
  unfold eLen1 at h
  split at h
  · rename_i sz m rows
    obtain ⟨rfl, h⟩ := h
    obtain ⟨e, hu⟩ : ∃ e, P.underlying t = some (.slice e) := by simpa using hs
    obtain ⟨av, cap, hv, _⟩ := hx.list_inv
    exact same_val (run (by simp [Builtin.len_, ht, hv, run_underlying hu])) (R_val _) h hk
  · rename_i j sz off len
    obtain ⟨rfl, h⟩ := h
    obtain ⟨e, hu⟩ : ∃ e, P.underlying t = some (.slice e) := by simpa using hs
    obtain ⟨b, cap, av, _, hv, _⟩ := hx.sl_inv
    exact same_val (run (by simp [Builtin.len_, ht, hv, run_underlying hu])) (R_val _) h hk
  · rename_i j sz off len
    obtain ⟨rfl, h⟩ := h
    obtain ⟨e, hu⟩ : ∃ e, P.underlying t = some (.slice e) := by simpa using hs
    obtain ⟨cap0, cp, av0, av, _, hv, _⟩ := hx.us_inv
    exact same_val (run (by simp [Builtin.len_, ht, hv, run_underlying hu])) (R_val _) h hk
  · rename_i s
    obtain ⟨rfl, h⟩ := h
    have hu : P.underlying t = some .string := by simpa using hs
    exact same_val (run (by simp [Builtin.len_, ht, hx.val_eq, run_underlying hu])) (R_val _) h hk
  · exact h.elim

theorem toVs_args {f : Opd → AV} : ∀ (l : List Operand) (vs : List Value), toVs ((l.map trOpd).map f) = some vs → (∀ x ∈ l, R I w β lam (f (trOpd x)) (a.eval x)) → l.map a.eval = vs := by
  intro l
  induction l with
  | nil => intro vs h _; simp [toVs] at h; simp [h]
  | cons x l ih =>
    intro vs h hR
    simp only [List.map_cons] at h
    cases hX : f (trOpd x) <;> rw [hX] at h <;> simp only [toVs, reduceCtorEq, Option.map_eq_some_iff] at h
    obtain ⟨vs', h', rfl⟩ := h
    have hx := hR x (by simp)
    rw [hX] at hx
    rw [List.map_cons, hx.val_eq, ih vs' h' (fun y hy => hR y (by simp [hy]))]

theorem sim_mm {c : Call} {b : Builtin} {f : Opd → AV} {vs : List Value} (ho : o.op = .call c) (hc : c.callee = .builtin b) (hb : b = .max ∨ b = .min)
    (hv : toVs ((c.args.toList.map trOpd).map f) = some vs) (hR : ∀ x ∈ c.args.toList, R I w β lam (f (trOpd x)) (a.eval x))
    (h : optV (semPure P (if b = .max then Builtin.max_ c.argTypes o.type vs.toArray else Builtin.min_ c.argTypes o.type vs.toArray)) k)
    (hk : Keeps w I β lam d k a o.dst K) : o.wp P a w K Q := by
  have hargs : c.args.map a.eval = vs.toArray := by
    apply Array.ext'
    rw [Array.toList_map, toVs_args _ _ hv hR]
  refine sim_optV ?_ h hk
  rcases hb with rfl | rfl
  · simp [execOp, ho, resolve, hc, invoke, builtin, hargs]
  · simp [execOp, ho, resolve, hc, invoke, builtin, hargs]

theorem sim_mkfn {fid : FuncId} {first caps : Array Operand} {f : Opd → AV} (ho : o.op = .makeFunc (.func fid) first caps) (h0 : first.size = 0)
    (hR : ∀ x ∈ caps.toList, R I w β lam (f (trOpd x)) (a.eval x)) (h : k (.fn (.func fid) (((caps.toList.map trOpd).map f).map strip)) none) (hk : Keeps w I β lam d k a o.dst K) : o.wp P a w K Q := by
  have hf : first = #[] := by simpa using h0
  subst hf
  refine same_val (v := .func (.func fid) #[] (caps.map a.eval)) (by simp [execOp, ho, Instr.makeFunc]) (.fn _ _ _ (by simp) (fun sz l rows hm => ?_) fun i c hi => ?_) h hk
  · obtain ⟨u, _, hu⟩ := List.mem_map.1 hm
    have := strip_strip u
    rw [hu] at this
    simp [strip] at this
  simp only [List.getElem?_map, Option.map_eq_some_iff] at hi
  obtain ⟨u', ⟨u, ⟨x, hx, rfl⟩, rfl⟩, rfl⟩ := hi
  have := hR x (List.mem_iff_getElem?.2 ⟨i, hx⟩)
  have e : (caps.map a.eval).getD i undef = a.eval x := by
    simp at hx
    simp [hx]
  rw [e]
  exact this.strip

/-! ### calls -/

/-- All that a callee may look at: what is written no more, and the function's own variables as they stand. -/
def Seen (I : Nat → Nat → Prop) (β : Blocks) (lam : Owned) : Nat → Nat → Prop := fun b o => I b o ∨ (∃ k, β k = some b) ∨ ∃ l p cap sz, lam l = some (some ⟨b, p, none⟩, 0, cap, sz) ∧ 0 < cap * sz

theorem R0.seen {x : AV} {v : Value} (h : R0 I w x v) : R0 (Seen I β lam) w x v := h.mono (fun _ _ h => .inl h) (fun _ _ _ _ h => h)

theorem ro_of {I' : Nat → Nat → Prop} {cells : List AV} {b q : Nat}
    (h : ∀ j c, cells[j]? = some c → ∃ u, I' b (q + j) ∧ w.cell? ⟨b, q + j, none⟩ = some u ∧ single u = true ∧ R0 I' w c u) :
    R0 I' w (.ro cells) (.pointer (some ⟨b, q, none⟩)) := by
  refine .ro _ b q (fun j => (w.cell? ⟨b, q + j, none⟩).getD undef) (fun j c hj => ?_) (fun j c hj => ?_)
  · obtain ⟨u, h1, h2, h3, _⟩ := h _ _ hj
    exact ⟨h1, by simp [h2], by simp [h2, h3]⟩
  · obtain ⟨u, _, h2, _, h4⟩ := h _ _ hj
    simpa [h2] using h4

theorem snap1_R0 {σ : Nat → Option Entry} {x y : AV} {v : Value} (hσ : ∀ k en b, σ k = some en → β k = some b → RE I w β lam b en) (hυ : ∀ l sz rows, σ l = some (.uarr sz rows) → RU I w β lam l sz rows)
    (hy : snap1 σ x = some y) (h : R I w β lam x v) : R0 (Seen I β lam) w y v ∧ (ref1 x = false → R0 I w y v) := by
  have plain : ∀ {x : AV}, rf x = true → R I w β lam x v → y = strip x → R0 (Seen I β lam) w y v ∧ (ref1 x = false → R0 I w y v) := by
    intro x hr h e
    subst e
    exact ⟨(h.to0 hr).seen, fun _ => h.to0 hr⟩
  cases x with
  | ptr j off =>
    refine ⟨?_, by simp [ref1]⟩
    simp only [snap1] at hy
    split at hy
    · rename_i cells hs
      split at hy
      · rename_i hall
        simp only [Option.some.injEq] at hy
        subst hy
        obtain ⟨b, hb, rfl⟩ := h.ptr_inv
        have hE := hσ _ _ _ hs hb
        refine ro_of fun j' c hj => ?_
        simp only [List.getElem?_map, Option.map_eq_some_iff] at hj
        obtain ⟨c', hj, rfl⟩ := hj
        have hr : rf c' = true := List.all_eq_true.1 hall _ (List.mem_iff_getElem?.2 ⟨j', hj⟩)
        rw [List.getElem?_drop] at hj
        obtain ⟨u, h1, _, h3, h4⟩ := hE _ _ hj
        exact ⟨u, .inr (.inl ⟨j, hb⟩), h1, h3, (h4.to0 hr).seen⟩
      · cases hy
    · cases hy
  | eptr j sz i off =>
    refine ⟨?_, by simp [ref1]⟩
    simp only [snap1] at hy
    split at hy
    · rename_i sz' rows hs
      split at hy
      · rename_i e
        subst e
        simp only [Option.map_eq_some_iff] at hy
        obtain ⟨r, hr, rfl⟩ := hy
        obtain ⟨b, hb, rfl⟩ := h.eptr_inv
        have hE := hσ _ _ _ hs hb
        refine ro_of fun j' c hj => ?_
        rw [List.getElem?_drop] at hj
        obtain ⟨u, h1, _, h3, h4⟩ := hE.2 _ _ _ _ hr hj
        exact ⟨u, .inr (.inl ⟨j, hb⟩), by rw [Nat.add_assoc]; exact h1, h3, h4.seen⟩
      · cases hy
    · cases hy
  | sl j sz off len =>
    refine ⟨?_, by simp [ref1]⟩
    simp only [snap1] at hy
    split at hy
    · rename_i sz' rows hs
      split at hy
      · rename_i e
        obtain ⟨rfl, hle⟩ := e
        simp only [Option.some.injEq] at hy
        subst hy
        obtain ⟨b, cap, av, hb, rfl, hcap, hav⟩ := h.sl_inv
        have hE := hσ _ _ _ hs hb
        have hlen : ((rows.drop off).take len).length = len := by simp; omega
        by_cases hz : len = 0
        · have hnil : (rows.drop off).take len = [] := List.eq_nil_of_length_eq_zero (by omega)
          rw [hnil, hz]
          exact .listNil _ _ _ _ (by simp) (by simp)
        · rw [hav hz]
          have hget : ∀ (i : Nat) (r : List AV), ((rows.drop off).take len)[i]? = some r → rows[off + i]? = some r := by
            intro i r hi
            rw [List.getElem?_take] at hi
            split at hi
            · rw [List.getElem?_drop] at hi; exact hi
            · cases hi
          have := R0.mk_list (I := Seen I β lam) (w := w) (sz := sz') (m := .plain) (rows := (rows.drop off).take len) (b := b) (q := off * sz') (cap := cap) (by omega) (by simp) (by simp)
            (fun i r hi => hE.1 _ _ (hget i r hi)) (fun i r j' c hi hj => by
              obtain ⟨u, h1, _, h3, h4⟩ := hE.2 _ _ _ _ (hget i r hi) hj
              rw [Nat.add_mul] at h1
              exact ⟨u, .inr (.inl ⟨j, hb⟩), h1, h3, h4.seen⟩)
          rw [hlen] at this
          exact this
      · cases hy
    · cases hy
  | us l sz off len =>
    refine ⟨?_, by simp [ref1]⟩
    simp only [snap1] at hy
    split at hy
    · rename_i sz' rows hs
      split at hy
      · rename_i e
        obtain ⟨rfl, hle, hrf⟩ := e
        simp only [Option.some.injEq] at hy
        subst hy
        obtain ⟨cap, cp, av0, av, hl, rfl, hlc, hoc, hav⟩ := h.us_inv
        have hU := hυ _ _ _ hs
        have hlen : (rowsSt ((rows.drop off).take len)).length = len := by simp [rowsSt]; omega
        by_cases hz : len = 0
        · have hnil : rowsSt ((rows.drop off).take len) = [] := List.eq_nil_of_length_eq_zero (by omega)
          rw [hnil, hz]
          exact .listNil _ _ _ _ (by simp) (by simp)
        · obtain ⟨b, q, rfl, rfl⟩ := hav (by omega)
          have hget : ∀ (i : Nat) (r : List AV), (rowsSt ((rows.drop off).take len))[i]? = some r → ∃ r0, rows[off + i]? = some r0 ∧ r = r0.map strip ∧ r0.all rf = true := by
            intro i r hi
            simp only [rowsSt, List.getElem?_map, Option.map_eq_some_iff] at hi
            obtain ⟨r0, hi, rfl⟩ := hi
            have hm := List.all_eq_true.1 hrf r0 (List.mem_iff_getElem?.2 ⟨i, hi⟩)
            rw [List.getElem?_take] at hi
            split at hi
            · rw [List.getElem?_drop] at hi; exact ⟨r0, hi, rfl, hm⟩
            · cases hi
          have := R0.mk_list (I := Seen I β lam) (w := w) (sz := sz') (m := .plain) (rows := rowsSt ((rows.drop off).take len)) (b := b) (q := q + off * sz') (cap := cp) (by omega) (by simp) (by simp)
            (fun i r hi => by
              obtain ⟨r0, g1, rfl, _⟩ := hget i r hi
              rw [List.length_map]
              exact (hU.row hl g1).1) (fun i r j' c hi hj => by
              obtain ⟨r0, g1, rfl, g3⟩ := hget i r hi
              simp only [List.getElem?_map, Option.map_eq_some_iff] at hj
              obtain ⟨c0, hj, rfl⟩ := hj
              obtain ⟨g4, g5⟩ := hU.row hl g1
              obtain ⟨u, h1, h3, h4⟩ := g5 j' c0 hj
              have hr := List.all_eq_true.1 g3 c0 (List.mem_iff_getElem?.2 ⟨j', hj⟩)
              have hjl : j' < sz' := by have := (List.getElem?_eq_some_iff.1 hj).1; omega
              rw [Nat.add_mul, ← Nat.add_assoc] at h1
              refine ⟨u, .inr (.inr ⟨l, q, cap, sz', hl, Nat.mul_pos ?_ ?_⟩), h1, h3, (h4.to0 hr).seen⟩ <;> omega)
          rw [hlen] at this
          exact this
      · cases hy
    · cases hy
  | up l sz i off =>
    refine ⟨?_, by simp [ref1]⟩
    simp only [snap1] at hy
    split at hy
    · rename_i sz' rows hs
      split at hy
      · rename_i r hr
        split at hy
        · rename_i e
          obtain ⟨rfl, hall⟩ := e
          simp only [Option.some.injEq] at hy
          subst hy
          obtain ⟨cap, b, q, hl, rfl⟩ := h.up_inv
          obtain ⟨g4, g5⟩ := (hυ _ _ _ hs).row hl hr
          have hcl : rows.length ≤ cap := by
            obtain ⟨a', cap', k1, k2, _⟩ := hυ _ _ _ hs
            rw [hl] at k1
            cases k1
            exact k2
          have hil : i < rows.length := (List.getElem?_eq_some_iff.1 hr).1
          refine ro_of fun j' c hj => ?_
          simp only [List.getElem?_map, Option.map_eq_some_iff] at hj
          obtain ⟨c', hj, rfl⟩ := hj
          have hrr : rf c' = true := List.all_eq_true.1 hall _ (List.mem_iff_getElem?.2 ⟨j', hj⟩)
          rw [List.getElem?_drop] at hj
          have hjl : off + j' < sz' := by have := (List.getElem?_eq_some_iff.1 hj).1; omega
          obtain ⟨u, h1, h3, h4⟩ := g5 _ _ hj
          rw [← Nat.add_assoc] at h1
          exact ⟨u, .inr (.inr ⟨l, q, cap, sz', hl, Nat.mul_pos (by omega) (by omega)⟩), h1, h3, (h4.to0 hrr).seen⟩
        · cases hy
      · cases hy
    · cases hy
  | fn f caps => simp [snap1] at hy
  | undef => simp only [snap1, Option.some.injEq] at hy; exact plain rfl h hy.symm
  | val u => simp only [snap1, Option.some.injEq] at hy; exact plain rfl h hy.symm
  | agg cells => simp only [snap1, Option.some.injEq] at hy; exact plain rfl h hy.symm
  | tuple cells => simp [snap1] at hy
  | iface t x => simp only [snap1, Option.some.injEq] at hy; exact plain rfl h hy.symm
  | list sz m rows => simp only [snap1, Option.some.injEq] at hy; exact plain rfl h hy.symm
  | ro cells => simp only [snap1, Option.some.injEq] at hy; exact plain rfl h hy.symm

theorem mapO_get {α γ : Type} {f : α → Option γ} : ∀ {l : List α} {l' : List γ}, mapO f l = some l' → l'.length = l.length ∧ ∀ (i : Nat) (y : γ), l'[i]? = some y → ∃ x, l[i]? = some x ∧ f x = some y := by
  intro l
  induction l with
  | nil => intro l' h; simp only [mapO, Option.some.injEq] at h; subst h; simp
  | cons x l ih =>
    intro l' h
    simp only [mapO] at h
    split at h
    · rename_i y hy
      simp only [Option.map_eq_some_iff] at h
      obtain ⟨l'', h, rfl⟩ := h
      obtain ⟨h1, h2⟩ := ih h
      refine ⟨by simp [h1], fun i z hi => ?_⟩
      cases i with
      | zero => simp at hi; subst hi; exact ⟨x, rfl, hy⟩
      | succ i => simp at hi; simpa using h2 i z hi
    · cases h

theorem snap_R0 {σ : Nat → Option Entry} {x y : AV} {v : Value} (hσ : ∀ k en b, σ k = some en → β k = some b → RE I w β lam b en) (hυ : ∀ l sz rows, σ l = some (.uarr sz rows) → RU I w β lam l sz rows)
    (hy : snap σ x = some y) (h : R I w β lam x v) : R0 (Seen I β lam) w y v ∧ (hasRef x = false → R0 I w y v) := by
  cases x with
  | fn f caps =>
    simp only [snap, Option.map_eq_some_iff] at hy
    obtain ⟨caps', hc, rfl⟩ := hy
    obtain ⟨vs, rfl, hs, hR⟩ := h.fn_inv
    obtain ⟨hl, hg⟩ := mapO_get hc
    refine ⟨.fn f caps' vs (by omega) fun i c hi => ?_, fun hno => .fn f caps' vs (by omega) fun i c hi => ?_⟩
    · obtain ⟨x, hx, hxc⟩ := hg i c hi
      exact (snap1_R0 hσ hυ hxc (hR i x hx)).1
    · obtain ⟨x, hx, hxc⟩ := hg i c hi
      refine (snap1_R0 hσ hυ hxc (hR i x hx)).2 ?_
      simp only [hasRef] at hno
      have := List.any_eq_false.1 hno x (List.mem_iff_getElem?.2 ⟨i, hx⟩)
      simpa using this
  | tuple cells =>
    simp only [snap] at hy
    split at hy
    · rename_i hall
      simp only [Option.some.injEq] at hy
      subst hy
      obtain ⟨vs, rfl, hs, hR⟩ := h.tuple_inv
      have key : R0 I w (.tuple (cells.map strip)) (.tuple vs) := .tuple _ vs (by simpa using hs) fun i c hi => by
        simp only [List.getElem?_map, Option.map_eq_some_iff] at hi
        obtain ⟨c0, hi, rfl⟩ := hi
        exact (hR i c0 hi).to0 (List.all_eq_true.1 hall _ (List.mem_iff_getElem?.2 ⟨i, hi⟩))
      exact ⟨key.seen, fun _ => key⟩
    · cases hy
  | _ => simp only [snap] at hy; exact snap1_R0 hσ hυ hy h

theorem pf1_R0 {I' : Nat → Nat → Prop} {w' : World} {r : AV} {v : Value} (h : R0 I w r v) (hp : pf1 r = true) : R0 I' w' r v := by
  cases r <;> simp only [pf1, Bool.false_eq_true] at hp
  · rw [h.val_eq]; exact .val _
  · obtain ⟨vs, rfl, hs, h1, hc⟩ := h.agg_inv
    refine .agg _ vs hs h1 fun i c hi => ?_
    have := List.all_eq_true.1 hp c (List.mem_iff_getElem?.2 ⟨i, hi⟩)
    cases c <;> simp only [isVal, Bool.false_eq_true] at this
    rw [(hc i _ hi).val_eq]
    exact .val _

theorem pf_R0 {I' : Nat → Nat → Prop} {w' : World} {r : AV} {v : Value} (h : R0 I w r v) (hp : pf r = true) : R0 I' w' r v := by
  cases r with
  | tuple vs =>
    cases h with
    | tuple _ us hs hc =>
      refine .tuple _ us hs fun i c hi => ?_
      simp only [pf] at hp
      exact pf1_R0 (hc i c hi) (List.all_eq_true.1 hp c (List.mem_iff_getElem?.2 ⟨i, hi⟩))
  | _ => exact pf1_R0 h hp

theorem call_wp {f : FuncId} {vs : Array Value} {xs : List AV} {σ : Nat → Option Entry} (hrun : (execOp a.eval o).run P w = .ok (.enter f vs) w) (hs : vs.size = xs.length)
    (hR : ∀ i x, xs[i]? = some x → R I w β lam x (vs.getD i undef)) (hσ : ∀ k en b, σ k = some en → β k = some b → RE I w β lam b en) (hυ : ∀ l sz rows, σ l = some (.uarr sz rows) → RU I w β lam l sz rows)
    (hI : ∀ b o, I b o → b < w.heap.size) (hβ : ∀ k b, β k = some b → b < w.heap.size) (hlm : ∀ l b p cap sz, lam l = some (some ⟨b, p, none⟩, 0, cap, sz) → 0 < cap * sz → b < w.heap.size) (h : eCall P f σ xs k) (hk : Keeps w I β lam d k a o.dst K) : o.wp P a w K Q := by
  unfold eCall at h
  split at h
  · rename_i args hargs
    obtain ⟨r, hsc, hpf, h⟩ := h
    obtain ⟨hl, hg⟩ := mapO_get hargs
    have done : ∀ (J : Nat → Nat → Prop), (∀ b o, J b o → b < w.heap.size) → (∀ i x, args[i]? = some x → R0 J w x (vs.getD i undef)) →
        (∀ (w' : World) (v : Value), R0 (fun b o => (J b o ∨ w.heap.size ≤ b) ∧ b < w'.heap.size) w' r v → w.heap.size ≤ w'.heap.size → R0 (fun b o => I b o ∨ (w.heap.size ≤ b ∧ b < w'.heap.size)) w' r v) → o.wp P a w K Q := by
      intro J hJ hJR hres
      have hcall := hsc J vs w hJ (by omega) hJR
      unfold Oper.wp
      rw [hrun]
      refine hcall.mono fun e w' ⟨v, he, hb, hr⟩ => ?_
      subst he
      exact hk _ _ _ _ (fun b o => I b o ∨ (w.heap.size ≤ b ∧ b < w'.heap.size)) β h ⟨hb, fun _ _ h => .inl h, fun _ _ h => h, fun _ => rfl, (fun _ h => by cases h), .base (hres w' v hr hb.size)⟩
    by_cases href : xs.any hasRef = true
    · refine done (Seen I β lam) (fun b o h => ?_) (fun i x hi => ?_) (fun w' v hr _ => pf_R0 hr (hpf href))
      · rcases h with h | h
        · exact hI _ _ h
        · rcases h with ⟨k, h⟩ | ⟨l, p, cap, sz, h, h0⟩
          · exact hβ _ _ h
          · exact hlm _ _ _ _ _ h h0
      · obtain ⟨x', hx', hsn⟩ := hg i x hi
        exact (snap_R0 hσ hυ hsn (hR i x' hx')).1
    · refine done I hI (fun i x hi => ?_) (fun w' v hr hle => hr.mono (fun b o hb => ?_) (fun _ _ _ _ h => h))
      · obtain ⟨x', hx', hsn⟩ := hg i x hi
        refine (snap_R0 hσ hυ hsn (hR i x' hx')).2 ?_
        have := List.any_eq_false.1 (by simpa using href) x' (List.mem_iff_getElem?.2 ⟨i, hx'⟩)
        simpa using this
      · rcases hb.1 with h | h
        · exact .inl h
        · exact .inr ⟨h, hb.2⟩
  · exact h.elim

theorem run_callFunc {f : FuncId} {vs : Array Value} (h : okFn P f = true) : (callFunc f vs).run P w = .ok (.enter f vs) w := by
  unfold okFn at h
  split at h
  · cases h
  · rename_i fn hf
    simp only [Bool.and_eq_true, Bool.not_eq_true'] at h
    have h2 : fn.body.isNone = false := by
      cases hb : fn.body with
      | none => simp [hb] at h
      | some _ => rfl
    unfold callFunc
    simp only [Sem.run_bind, run_program, Result.andThen_ok, hf]
    rw [if_neg (by rw [h.2]; simp), if_neg (by rw [h2]; simp)]
    rfl

theorem args_R {f : Opd → AV} {l : List Operand} (hR : ∀ x ∈ l, R I w β lam (f (trOpd x)) (a.eval x)) :
    ∀ i x, ((l.map trOpd).map f)[i]? = some x → R I w β lam x ((l.map a.eval).toArray.getD i undef) := by
  intro i x hi
  simp only [List.getElem?_map, Option.map_eq_some_iff] at hi
  obtain ⟨u, ⟨y, hy, rfl⟩, rfl⟩ := hi
  have := hR y (List.mem_iff_getElem?.2 ⟨i, hy⟩)
  have e : ((l.map a.eval).toArray).getD i undef = a.eval y := by simp [hy]
  rw [e]
  exact this

theorem sim_call {c : Call} {fid : FuncId} {f : Opd → AV} {σ : Nat → Option Entry} (ho : o.op = .call c) (hc : c.callee = .value (.func fid)) (hok : okFn P fid = true)
    (hR : ∀ x ∈ c.args.toList, R I w β lam (f (trOpd x)) (a.eval x)) (hσ : ∀ k en b, σ k = some en → β k = some b → RE I w β lam b en) (hυ : ∀ l sz rows, σ l = some (.uarr sz rows) → RU I w β lam l sz rows)
    (hI : ∀ b o, I b o → b < w.heap.size) (hβ : ∀ k b, β k = some b → b < w.heap.size) (hlm : ∀ l b p cap sz, lam l = some (some ⟨b, p, none⟩, 0, cap, sz) → 0 < cap * sz → b < w.heap.size) (h : eCall P fid σ ((c.args.toList.map trOpd).map f) k)
    (hk : Keeps w I β lam d k a o.dst K) : o.wp P a w K Q := by
  refine call_wp (vs := (c.args.toList.map a.eval).toArray) ?_ (by simp) (args_R hR) hσ hυ hI hβ hlm h hk
  have hargs : c.args.map a.eval = (c.args.toList.map a.eval).toArray := by apply Array.ext'; simp
  have := run_callFunc (w := w) (vs := (c.args.toList.map a.eval).toArray) hok
  simp only [execOp, ho, resolve, hc, hargs, Act.eval, Deferred.ofValue]
  simp [invoke, this]

theorem sim_callv {c : Call} {fv : Operand} {fid : FuncId} {caps : List AV} {f : Opd → AV} {σ : Nat → Option Entry} (ho : o.op = .call c) (hc : c.callee = .value fv) (hok : okFn P fid = true)
    (hv : R I w β lam (.fn (.func fid) caps) (a.eval fv))
    (hR : ∀ x ∈ c.args.toList, R I w β lam (f (trOpd x)) (a.eval x)) (hσ : ∀ k en b, σ k = some en → β k = some b → RE I w β lam b en) (hυ : ∀ l sz rows, σ l = some (.uarr sz rows) → RU I w β lam l sz rows)
    (hI : ∀ b o, I b o → b < w.heap.size) (hβ : ∀ k b, β k = some b → b < w.heap.size) (hlm : ∀ l b p cap sz, lam l = some (some ⟨b, p, none⟩, 0, cap, sz) → 0 < cap * sz → b < w.heap.size) (h : eCall P fid σ ((c.args.toList.map trOpd).map f ++ caps) k)
    (hk : Keeps w I β lam d k a o.dst K) : o.wp P a w K Q := by
  obtain ⟨us, hv', hs, hcR⟩ := hv.fn_inv
  refine call_wp (vs := (c.args.toList.map a.eval).toArray ++ us) ?_ (by simp [hs]) (fun i x hi => ?_) hσ hυ hI hβ hlm h hk
  · have hargs : c.args.map a.eval = (c.args.toList.map a.eval).toArray := by apply Array.ext'; simp
    simp only [execOp, ho, resolve, hc, hargs, hv', Deferred.ofValue]
    simp [invoke, run_callFunc hok]
  · by_cases hlt : i < c.args.toList.length
    · rw [List.getElem?_append_left (by simpa using hlt)] at hi
      have := args_R hR i x hi
      have e : ((c.args.toList.map a.eval).toArray ++ us).getD i undef = (c.args.toList.map a.eval).toArray.getD i undef := by
        have : i < c.args.size := by simpa using hlt
        simp [Array.getElem?_append, this]
      rw [e]
      exact this
    · rw [List.getElem?_append_right (by simpa using hlt)] at hi
      simp only [List.length_map] at hi
      have := hcR _ x hi
      have e : ((c.args.toList.map a.eval).toArray ++ us).getD i undef = us.getD (i - c.args.toList.length) undef := by
        have : ¬ i < c.args.size := by simpa using hlt
        simp [Array.getElem?_append, this]
      rw [e]
      exact this

end
end Go.Am
