/-
  The abstract machine, part 4: the operations that change nothing that was there.
-/
import Derived.Test.YtljkjogggfdgiaaAm3
namespace Go.Am
open Go.RowKit

section
variable {P : Program} {I : Nat → Nat → Prop} {w : World} {β : Blocks} {lam : Owned}

/-! ### small facts -/

theorem addr_add (b o j : Nat) : (⟨b, o, none⟩ : Addr).add j = ⟨b, o + j, none⟩ := by
  unfold Addr.add
  split <;> simp_all

theorem R0_ofV1 (v : Value) : R0 I w (ofV1 v) v := by
  unfold ofV1
  split
  · exact .listNil 0 .full none 0 (fun _ => rfl) (by simp)
  · exact .val _

theorem R0_ofV (v : Value) : R0 I w (ofV v) v := by
  cases v with
  | agg cs =>
    simp only [ofV]
    split
    · rename_i h1
      refine .agg _ cs (by simp) h1 fun i c hc => ?_
      simp only [List.getElem?_map, Option.map_eq_some_iff] at hc
      obtain ⟨u, hu, rfl⟩ := hc
      have : cs.getD i undef = u := by simp at hu; simp [hu]
      rw [this]
      exact R0_ofV1 u
    · exact .undef _
  | tuple vs => exact .val _
  | _ => simp only [ofV]; exact R0_ofV1 _

theorem R_ofV (v : Value) : R I w β lam (ofV v) v := .base (R0_ofV v)

theorem R_undef (v : Value) : R I w β lam .undef v := .base (.undef v)

theorem R_val (v : Value) : R I w β lam (.val v) v := .base (.val v)

theorem R0.val_eq {u v : Value} (h : R0 I w (.val u) v) : v = u := by
  cases h; rfl

theorem R.val_eq {u v : Value} (h : R I w β lam (.val u) v) : v = u := by
  cases h with
  | base h => exact h.val_eq

theorem R0.agg_inv {cells : List AV} {v : Value} (h : R0 I w (.agg cells) v) :
    ∃ vs : Array Value, v = .agg vs ∧ vs.size = cells.length ∧ vs.all (·.oneCell') = true ∧ ∀ i c, cells[i]? = some c → R0 I w c (vs.getD i Go.undef) := by
  cases h with
  | agg _ vs hs h1 hc => exact ⟨vs, rfl, hs, h1, hc⟩

theorem R.agg_inv {cells : List AV} {v : Value} (h : R I w β lam (.agg cells) v) :
    ∃ vs : Array Value, v = .agg vs ∧ vs.size = cells.length ∧ vs.all (·.oneCell') = true ∧ ∀ i c, cells[i]? = some c → R0 I w c (vs.getD i undef) := by
  cases h with
  | base h => exact h.agg_inv

theorem R.tuple_inv {cells : List AV} {v : Value} (h : R I w β lam (.tuple cells) v) :
    ∃ vs : Array Value, v = .tuple vs ∧ vs.size = cells.length ∧ ∀ i c, cells[i]? = some c → R I w β lam c (vs.getD i undef) := by
  cases h with
  | base h => cases h with
    | tuple _ vs hs hc => exact ⟨vs, rfl, hs, fun i c hi => .base (hc i c hi)⟩
  | tuple _ vs hs _ hc => exact ⟨vs, rfl, hs, hc⟩

theorem R0.strip_eq {x : AV} {v : Value} (h : R0 I w x v) : strip x = x := by
  cases h with
  | listNil sz m a cap hm ho => cases m <;> first | rfl | exact absurd rfl (ho _)
  | list sz m rows b o cap g hcap hm ho => cases m <;> first | rfl | exact absurd rfl (ho _)
  | _ => rfl

/-- Where nothing of the function's own is met, the base relation holds of the value without its mark. -/
theorem R.to0 {x : AV} {v : Value} (h : R I w β lam x v) (hr : rf x = true) : R0 I w (strip x) v := by
  cases h with
  | base h => rw [h.strip_eq]; exact h
  | own sz l rows a cap h hl => exact h
  | ptr => simp [rf] at hr
  | eptr => simp [rf] at hr
  | sl => simp [rf] at hr
  | fn => simp [rf] at hr
  | us => simp [rf] at hr
  | up => simp [rf] at hr
  | tuple => simp [rf] at hr

theorem strip_strip (x : AV) : strip (strip x) = strip x := by
  cases x <;> try rfl
  rename_i sz m rows
  cases m <;> rfl

theorem R.strip {x : AV} {v : Value} (h : R I w β lam x v) : R I w β lam (strip x) v := by
  cases h with
  | base h => rw [h.strip_eq]; exact .base h
  | own sz l rows a cap h hl => exact .base h
  | ptr k off b h => exact .ptr k off b h
  | eptr k sz i off b h => exact .eptr k sz i off b h
  | sl k sz off len cap b av h hc ha => exact .sl k sz off len cap b av h hc ha
  | fn f caps vs hs hn hc => exact .fn f caps vs hs hn hc
  | us l sz off len cap cp a av h hc ho ha => exact .us l sz off len cap cp a av h hc ho ha
  | up l sz i off cap b o h => exact .up l sz i off cap b o h
  | tuple cells vs hs hn hc => exact .tuple cells vs hs hn hc

theorem getD_one {vs : Array Value} (h : vs.all (·.oneCell') = true) {i : Nat} (hi : i < vs.size) : single (vs.getD i undef) = true := by
  have := Array.all_eq_true.1 h i hi
  simpa [hi] using this

/-- The cells of a value. -/
theorem cells_R {x : AV} {cs : List AV} {v : Value} (hx : cellsOf x = some cs) (h : R I w β lam x v) :
    v.cells.size = cs.length ∧ ∀ j c, cs[j]? = some c → R I w β lam c (v.cells.getD j undef) ∧ single (v.cells.getD j undef) = true := by
  have one : ∀ {y : AV}, cs = [y] → R I w β lam y v → single v = true →
      v.cells.size = cs.length ∧ ∀ j c, cs[j]? = some c → R I w β lam c (v.cells.getD j undef) ∧ single (v.cells.getD j undef) = true := by
    intro y e hy h1
    subst e
    have hv : v.cells = #[v] := by cases v <;> first | rfl | simp [single, Value.oneCell'] at h1
    rw [hv]
    refine ⟨rfl, fun j c hj => ?_⟩
    cases j with
    | zero => simp at hj; subst hj; exact ⟨hy, h1⟩
    | succ j => simp at hj
  cases x <;> simp only [cellsOf, reduceCtorEq, Option.some.injEq] at hx
  · rename_i u
    split at hx
    · rename_i h1
      simp only [Option.some.injEq] at hx
      exact one hx.symm h (by rw [h.val_eq]; exact h1)
    · simp at hx
  · subst hx
    obtain ⟨vs, rfl, hs, h1, hc⟩ := h.agg_inv
    refine ⟨hs, fun j c hj => ⟨.base (hc j c hj), getD_one h1 ?_⟩⟩
    have := (List.getElem?_eq_some_iff.1 hj).1
    omega
  all_goals
    refine one hx.symm h ?_
    cases h with
    | base h => cases h <;> rfl
    | _ => rfl

theorem toVs_eq : ∀ {cells : List AV} {l : List Value} {vs : Array Value} (_ : toVs cells = some l) (_ : vs.size = cells.length)
    (_ : ∀ i c, cells[i]? = some c → R0 I w c (vs.getD i undef)), vs.toList = l := by
  intro cells
  induction cells with
  | nil =>
    intro l vs h hs _
    simp [toVs] at h
    subst h
    simpa using hs
  | cons x cells ih =>
    intro l vs h hs hc
    cases x <;> simp only [toVs, reduceCtorEq, Option.map_eq_some_iff] at h
    rename_i v
    obtain ⟨l', hl', rfl⟩ := h
    obtain ⟨vl⟩ := vs
    cases vl with
    | nil => simp at hs
    | cons y vl =>
      have h0 := (hc 0 _ rfl).val_eq
      simp at h0
      subst h0
      have := ih (vs := ⟨vl⟩) hl' (by simpa using hs) (fun i c hi => by simpa using hc (i + 1) c (by simpa using hi))
      simp at this
      simp [this]

theorem toV_eq {x : AV} {u v : Value} (h : toV x = some u) (hR : R I w β lam x v) : v = u := by
  cases x <;> simp only [toV, reduceCtorEq, Option.some.injEq, Option.map_eq_some_iff] at h
  · subst h; exact hR.val_eq
  · obtain ⟨l, hl, rfl⟩ := h
    obtain ⟨vs, rfl, hs, _, hc⟩ := hR.agg_inv
    rw [← toVs_eq hl hs hc]

/-! ### what an operation leaves -/

structure Eff (w : World) (I : Nat → Nat → Prop) (β : Blocks) (lam : Owned) (d : Nat) (x : AV) (en : Option Entry) (v : Value) (w' : World)
    (I' : Nat → Nat → Prop) (β' : Blocks) : Prop where
  below : Below w.heap.size w w'
  sub : ∀ b o, I b o → I' b o
  new : ∀ b o, I' b o → I b o ∨ (w.heap.size ≤ b ∧ b < w'.heap.size)
  old : en = none → β' = β
  fresh : ∀ ed, en = some ed → ∃ nb, w.heap.size ≤ nb ∧ nb < w'.heap.size ∧ (∀ o, ¬ I' nb o) ∧ β d = none ∧
    β' = (fun k => if k = d then some nb else β k) ∧ RE I' w' β' lam nb ed
  val : R I' w' β' lam x v

theorem Eff.same {d : Nat} {x : AV} {v : Value} (h : R I w β lam x v) : Eff w I β lam d x none v w I β :=
  ⟨Below.refl _ _, fun _ _ h => h, fun _ _ h => .inl h, fun _ => rfl, fun _ h => by simp at h, h⟩

variable {o : Oper} {a : Act} {K : Act → World → Prop} {Q : Exit → Act → World → Prop}

theorem wp_val {v : Value} {w' : World} (h : (execOp a.eval o).run P w = .ok (.value v) w') (hk : K (a.put o.dst v) w') : o.wp P a w K Q := by
  unfold Oper.wp
  rw [h]
  exact hk

theorem run_bindv {s : Sem Value} {v : Value} {w' : World} (h : s.run P w = .ok v w') :
    (do pure (Next.value (← s)) : Sem Next).run P w = .ok (.value v) w' := by
  rw [Sem.run_bind, h]; rfl

theorem run_bindu {s : Sem Unit} {w' : World} (h : s.run P w = .ok () w') :
    (do s; pure Next.skip : Sem Next).run P w = .ok .skip w' := by
  rw [Sem.run_bind, h]; rfl

theorem loadAgg_run {t : TypeId} {s : Nat} {d : TypeDesc} {cells : List AV} {off b o : Nat} {x : AV} (hu : P.underlying t = some d) (hd : d.isRow = true)
    (hs : szT P t = some s) (hl : goLoad cells off (some s) = some x)
    (hc : ∀ j c, cells[j]? = some c → ∃ v, w.cell? ⟨b, o + j, none⟩ = some v ∧ single v = true ∧ R I w β lam c v) :
    ∃ v, (Instr.loadAt t (.pointer (some ⟨b, o + off, none⟩))).run P w = .ok v w ∧ R I w β lam x v := by
  simp only [goLoad] at hl
  split at hl
  · rename_i hcond
    simp only [Option.some.injEq] at hl
    subst hl
    have key : ∀ j, j < s → ∃ v, w.cell? ⟨b, o + off + j, none⟩ = some v ∧ single v = true ∧ ∃ c, ((cells.drop off).take s)[j]? = some c ∧ R0 I w (strip c) v := by
      intro j hj
      have hlt : off + j < cells.length := by omega
      obtain ⟨v, h1, h1', h2⟩ := hc (off + j) cells[off + j] (by simp [hlt])
      refine ⟨v, by rw [← h1]; congr 2; omega, h1', cells[off + j], by simp [hj, hlt], h2.to0 ?_⟩
      exact List.all_eq_true.1 hcond.2 _ (List.mem_iff_getElem?.2 ⟨j, by simp [hj, hlt]⟩)
    have hex : ∃ cs : List Value, cs.length = s ∧ ∀ j, j < s → w.cell? ⟨b, o + off + j, none⟩ = some (cs.getD j undef) := by
      refine ⟨(List.range s).map fun j => (w.cell? ⟨b, o + off + j, none⟩).getD undef, by simp, fun j hj => ?_⟩
      obtain ⟨v, h1, _⟩ := key j hj
      simp [hj, h1]
    obtain ⟨cs, hlen, hcs⟩ := hex
    refine ⟨.agg cs.toArray, run_loadAt_mid w b (o + off) t cs d (fun j v hj => ?_) hu hd (by rw [hlen]; exact hs), ?_⟩
    · have hj' : j < cs.length := (List.getElem?_eq_some_iff.1 hj).1
      rw [hcs j (by omega)]
      simp [hj]
    · refine .base (.agg _ _ (by simp [hlen]; omega) ?_ fun i c hi => ?_)
      · refine Array.all_eq_true.2 fun i hi => ?_
        have hi' : i < s := by simpa [hlen] using hi
        obtain ⟨v, h1, h1', _⟩ := key i hi'
        rw [hcs i hi'] at h1
        have hi2 : i < cs.length := by omega
        simp [hi2] at h1
        simpa [h1] using h1'
      · simp only [List.getElem?_map, Option.map_eq_some_iff] at hi
        obtain ⟨c', hi, rfl⟩ := hi
        have his : i < s := by
          have := (List.getElem?_eq_some_iff.1 hi).1
          simp at this; omega
        obtain ⟨v, h1, h1', c2, h2, h3⟩ := key i his
        rw [hcs i his] at h1
        rw [hi] at h2
        simp at h1 h2
        subst h2
        simpa [h1] using h3
  · simp at hl

/-- How 'goLoad' reads cells that lie in memory. -/
theorem load_run {t : TypeId} {n : Option Nat} {cells : List AV} {off b o : Nat} {x : AV} (ht : ldT P t = some n) (hl : goLoad cells off n = some x)
    (hc : ∀ j c, cells[j]? = some c → ∃ v, w.cell? ⟨b, o + j, none⟩ = some v ∧ single v = true ∧ R I w β lam c v) :
    ∃ v, (Instr.loadAt t (.pointer (some ⟨b, o + off, none⟩))).run P w = .ok v w ∧ R I w β lam x v := by
  unfold ldT at ht
  split at ht
  · simp at ht
  · rename_i fs hu
    simp only [Option.map_eq_some_iff] at ht
    obtain ⟨s, hs, rfl⟩ := ht
    exact loadAgg_run hu rfl hs hl hc
  · rename_i n' e hu
    simp only [Option.map_eq_some_iff] at ht
    obtain ⟨s, hs, rfl⟩ := ht
    exact loadAgg_run hu rfl hs hl hc
  · rename_i d hns hna hu
    simp only [Option.some.injEq] at ht
    subst ht
    simp only [goLoad] at hl
    obtain ⟨v, h1, _, h2⟩ := hc off x hl
    refine ⟨v, ?_, h2⟩
    have hagg : (isAgg t).run P w = .ok false w := by
      unfold isAgg
      rw [Sem.run_bind, run_underlying hu w]
      cases d with
      | struct fs => exact absurd rfl (hns fs)
      | array n e => exact absurd rfl (hna n e)
      | _ => rfl
    simp [Instr.loadAt, Instr.sureAddr, loadVar, Sem.run_bind, hagg, h1]

end
end Go.Am
