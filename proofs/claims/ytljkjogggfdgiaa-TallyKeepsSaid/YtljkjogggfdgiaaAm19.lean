/-
  The abstract machine, part 19: a region whose order is open.
-/
import Derived.Test.YtljkjogggfdgiaaAm18
namespace Go.Am
open Go.RowKit

section
variable {P : Program} {F : Frame0} {Q : Exit → Act → World → Prop}

/-- What one operation of the first kind leaves in its slot, guard and all. -/
def Step1 (P : Program) (ao : AOper) (s : St) (x : AV) (en : Option Entry) : Prop :=
  match ao.guard with
  | none => Yields P (s.base + ao.dst.getD 0) ao.op (ao.xs.map (ev s)) (lk s.sto) x en
  | some (g, b) => match s.get g with
    | .val (.bool c) => (c = b → Yields P (s.base + ao.dst.getD 0) ao.op (ao.xs.map (ev s)) (lk s.sto) x en) ∧ (c = !b → x = .val undef ∧ en = none)
    | .val _ => x = .val undef ∧ en = none
    | _ => False

theorem awpOp_E {ao : AOper} {s : St} {K : St → Prop} (hE : isE ao.op = true) (h : awpOp P ao s K) :
    evalE P (s.base + ao.dst.getD 0) ao.op (ao.xs.map (ev s)) (lk s.sto) (fun x e => K ((s.put ao.dst x).new ao.dst e)) := by
  unfold awpOp at h
  cases hop : ao.op <;> rw [hop] at h hE <;> first | exact h | cases hE

theorem step1_of {ao : AOper} {s : St} {K : St → Prop} (hE : isE ao.op = true) (h : awpOper P ao s K) :
    ∃ x en, Step1 P ao s x en ∧ (en ≠ none → lk s.sto (s.base + ao.dst.getD 0) = none ∧ isUO en = false) ∧ K ((s.put ao.dst x).new ao.dst en) := by
  have run : awpOp P ao s K → ∃ x en, Yields P (s.base + ao.dst.getD 0) ao.op (ao.xs.map (ev s)) (lk s.sto) x en ∧ (en ≠ none → lk s.sto (s.base + ao.dst.getD 0) = none ∧ isUO en = false) ∧ K ((s.put ao.dst x).new ao.dst en) := by
    intro h
    obtain ⟨x, en, h1, h2, h3⟩ := evalE_post (awpOp_E hE h)
    exact ⟨x, en, h3, h2, h1⟩
  have skip : K (s.put ao.dst (.val undef)) → K ((s.put ao.dst (.val undef)).new ao.dst none) := by
    intro h
    have : (s.put ao.dst (.val undef)).new ao.dst none = s.put ao.dst (.val undef) := by cases ao.dst <;> rfl
    rw [this]; exact h
  unfold awpOper at h
  unfold Step1
  cases hg : ao.guard with
  | none => rw [hg] at h; exact run h
  | some gb =>
    obtain ⟨g, b⟩ := gb
    rw [hg] at h
    simp only at h ⊢
    split at h
    · rename_i c hc
      rw [hc]
      simp only
      by_cases e : c = b
      · obtain ⟨x, en, h1, h2, h3⟩ := run (h.1 e)
        exact ⟨x, en, ⟨fun _ => h1, fun h => by subst e; cases c <;> cases h⟩, h2, h3⟩
      · have e' : c = !b := by cases c <;> cases b <;> simp_all
        exact ⟨.val undef, none, ⟨fun h => absurd h e, fun _ => ⟨rfl, rfl⟩⟩, fun h => absurd rfl h, skip (h.2 e')⟩
    · rename_i v hnb hv
      rw [hv]
      refine ⟨.val undef, none, ?_, fun h => absurd rfl h, skip h⟩
      cases v <;> first | exact ⟨rfl, rfl⟩ | exact absurd rfl (hnb _)
    · exact h.elim

/-- The states along the text, and what each of the first operations leaves. -/
inductive Trace (P : Program) : List AOper → St → List (AV × Option Entry) → St → Prop where
  | nil (s : St) : Trace P [] s [] s
  | cons {ao : AOper} {l : List AOper} {s s' : St} {x : AV} {en : Option Entry} {tr : List (AV × Option Entry)} (h : Step1 P ao s x en) (hn : en ≠ none → lk s.sto (s.base + ao.dst.getD 0) = none ∧ isUO en = false)
      (ht : Trace P l ((s.put ao.dst x).new ao.dst en) tr s') : Trace P (ao :: l) s ((x, en) :: tr) s'

theorem trace_of : ∀ (l l2 : List AOper) {s : St} {K : St → Prop}, (∀ ao ∈ l, isE ao.op = true) → awpOps P (l ++ l2) s K → ∃ tr s', Trace P l s tr s' ∧ awpOps P l2 s' K := by
  intro l
  induction l with
  | nil => intro l2 s K _ h; exact ⟨[], s, .nil s, h⟩
  | cons ao l ih =>
    intro l2 s K hE h
    simp only [List.cons_append, awpOps] at h
    obtain ⟨x, en, h1, h2, h3⟩ := step1_of (hE ao (by simp)) h
    obtain ⟨tr, s', h4, h5⟩ := ih l2 (fun ao h => hE ao (by simp [h])) h3
    exact ⟨_, s', .cons h1 h2 h4, h5⟩

/-- The state before operation i of a trace. -/
theorem trace_at : ∀ {l : List AOper} {s s' : St} {tr : List (AV × Option Entry)}, Trace P l s tr s' → tr.length = l.length ∧
    ∀ i ao, l[i]? = some ao → ∃ si x en, tr[i]? = some (x, en) ∧ Step1 P ao si x en ∧ (en ≠ none → lk si.sto (si.base + ao.dst.getD 0) = none ∧ isUO en = false) ∧ Trace P (l.take i) s (tr.take i) si := by
  intro l s s' tr h
  induction h with
  | nil s => exact ⟨rfl, fun i ao h => by simp at h⟩
  | @cons ao l s s' x en tr h hn ht ih =>
    obtain ⟨h1, h2⟩ := ih
    refine ⟨by simp [h1], fun i ao' hi => ?_⟩
    cases i with
    | zero =>
      simp at hi
      subst hi
      exact ⟨s, x, en, rfl, h, hn, .nil s⟩
    | succ i =>
      simp at hi
      obtain ⟨si, x', en', g1, g2, g3, g4⟩ := h2 i ao' hi
      exact ⟨si, x', en', by simpa using g1, g2, g3, by simpa using Trace.cons h hn g4⟩

theorem new_base {s : St} {d : Option Nat} {x : AV} {en : Option Entry} : ((s.put d x).new d en).base = s.base := by cases d <;> cases en <;> rfl

theorem trace_base {l : List AOper} {s s' : St} {tr : List (AV × Option Entry)} (h : Trace P l s tr s') : s'.base = s.base := by
  induction h with
  | nil s => rfl
  | cons h hn ht ih => rw [ih, new_base]

theorem new_out {s : St} {d : Option Nat} {x : AV} {en : Option Entry} : ((s.put d x).new d en).out = s.out := by cases d <;> cases en <;> rfl

theorem trace_out {l : List AOper} {s s' : St} {tr : List (AV × Option Entry)} (h : Trace P l s tr s') : s'.out = s.out := by
  induction h with
  | nil s => rfl
  | cons h hn ht ih => rw [ih, new_out]

theorem new_env {s : St} {d : Option Nat} {x : AV} {en : Option Entry} : lk ((s.put d x).new d en).env = fun t => setE s.look (slot d) (some x) (0, t) := by
  funext t
  have := congrFun (look_new (s := s) (d := d) (x := x) (en := en)).1 (0, t)
  exact this

/-- What the slots and variables hold behind a trace, where no slot is written twice. -/
theorem trace_env : ∀ {l : List AOper} {s s' : St} {tr : List (AV × Option Entry)}, Trace P l s tr s' → (∀ (i j : Nat) (x y : AOper) (t : Nat), l[i]? = some x → l[j]? = some y → x.dst = some t → y.dst = some t → i = j) →
    (∀ t, (∃ (i : Nat) (ao : AOper) (x : AV) (en : Option Entry), l[i]? = some ao ∧ tr[i]? = some (x, en) ∧ ao.dst = some t ∧ lk s'.env t = some x) ∨ ((∀ (i : Nat) (ao : AOper), l[i]? = some ao → ao.dst ≠ some t) ∧ lk s'.env t = lk s.env t)) ∧
    (∀ k, (∃ (i : Nat) (ao : AOper) (x : AV) (en : Entry) (d : Nat), l[i]? = some ao ∧ tr[i]? = some (x, some en) ∧ ao.dst = some d ∧ k = s.base + d ∧ lk s'.sto k = some en ∧ lk s.sto k = none) ∨
      ((∀ (i : Nat) (ao : AOper) (x : AV) (en : Option Entry) (d : Nat), l[i]? = some ao → tr[i]? = some (x, en) → ao.dst = some d → k = s.base + d → en = none) ∧ lk s'.sto k = lk s.sto k)) := by
  intro l s s' tr h
  induction h with
  | nil s => exact fun _ => ⟨fun t => .inr ⟨fun i ao h => by simp at h, rfl⟩, fun k => .inr ⟨fun i ao x en d h => by simp at h, rfl⟩⟩
  | @cons ao l s s' x en tr h hn ht ih =>
    intro hu
    have hu' : ∀ (i j : Nat) (x y : AOper) (t : Nat), l[i]? = some x → l[j]? = some y → x.dst = some t → y.dst = some t → i = j := fun i j x y t h1 h2 h3 h4 => by
      have := hu (i + 1) (j + 1) x y t (by simpa using h1) (by simpa using h2) h3 h4
      omega
    have hne : ∀ (i : Nat) (y : AOper) (t : Nat), l[i]? = some y → y.dst = some t → ao.dst ≠ some t := fun i y t h1 h2 h3 => by
      have := hu 0 (i + 1) ao y t rfl (by simpa using h1) h3 h2
      omega
    obtain ⟨g1, g2⟩ := ih hu'
    have e1 := new_env (s := s) (d := ao.dst) (x := x) (en := en)
    obtain ⟨_, e2⟩ := look_new (s := s) (d := ao.dst) (x := x) (en := en)
    have e3 := new_base (s := s) (d := ao.dst) (x := x) (en := en)
    refine ⟨fun t => ?_, fun k => ?_⟩
    · rcases g1 t with ⟨i, ao', x', en', a1, a2, a3, a4⟩ | ⟨a1, a2⟩
      · exact .inl ⟨i + 1, ao', x', en', by simpa using a1, by simpa using a2, a3, a4⟩
      · rw [e1] at a2
        by_cases hd : ao.dst = some t
        · refine .inl ⟨0, ao, x, en, rfl, rfl, hd, ?_⟩
          rw [a2, hd]
          simp [setE, slot]
        · refine .inr ⟨fun i y hi => ?_, ?_⟩
          · cases i with
            | zero => simp at hi; subst hi; exact hd
            | succ i => simp at hi; exact a1 i y hi
          · rw [a2]
            cases hda : ao.dst with
            | none => rfl
            | some d =>
              simp only [setE, slot, Option.map_some]
              rw [if_neg (fun e => hd (by rw [hda]; simp only [Prod.mk.injEq] at e; rw [e.2]))]
              rfl
    · rcases g2 k with ⟨i, ao', x', en', d', a1, a2, a3, a3', a4, a5⟩ | ⟨a1, a2⟩
      · refine .inl ⟨i + 1, ao', x', en', d', by simpa using a1, by simpa using a2, a3, by rw [a3', e3], a4, ?_⟩
        have hd := hne i ao' d' a1 a3
        rw [e2] at a5
        cases en with
        | none => exact a5
        | some en0 =>
          cases hda : ao.dst with
          | none => rw [hda] at a5; exact a5
          | some d =>
            rw [hda] at a5
            simp only [setS, setE, Option.map_some, Option.getD_some] at a5
            split at a5
            · cases a5
            · exact a5
      · rw [e2] at a2
        by_cases hd : (∃ d, ao.dst = some d ∧ k = s.base + d) ∧ en ≠ none
        · obtain ⟨⟨d, hd, hk⟩, hen⟩ := hd
          cases en with
          | none => exact absurd rfl hen
          | some en0 =>
            refine .inl ⟨0, ao, x, en0, d, rfl, rfl, hd, hk, ?_, ?_⟩
            · rw [a2, hd]; simp [setS, setE, hk]
            · have := (hn (by simp)).1
              rw [hd] at this
              rw [hk]
              exact this
        · refine .inr ⟨fun i y x' en' d hi ht' hdy hk => ?_, ?_⟩
          · cases i with
            | zero =>
              simp at hi ht'
              subst hi
              obtain ⟨_, rfl⟩ := ht'
              cases hen : en with
              | none => rfl
              | some en0 => exact absurd ⟨⟨d, hdy, hk⟩, by rw [hen]; simp⟩ hd
            | succ i => simp at hi ht'; exact a1 i y x' en' d hi ht' hdy (by rw [e3]; exact hk)
          · rw [a2]
            cases en with
            | none => rfl
            | some en0 =>
              cases hda : ao.dst with
              | none => rfl
              | some d =>
                simp only [setS, setE, Option.map_some, Option.getD_some]
                rw [if_neg (fun e => hd ⟨⟨d, hda, e⟩, by simp⟩)]

end
end Go.Am
