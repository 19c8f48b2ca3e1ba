/-
  The abstract machine, part 20: a region whose order is open, continued.
-/
import Derived.Test.YtljkjogggfdgiaaAm19
namespace Go.Am
open Go.RowKit

section
variable {P : Program} {F : Frame0} {Q : Exit → Act → World → Prop} {ops : Array Oper}

theorem trOpers_get {N : Nat} : ∀ (rl : List Oper) (l : List AOper), trOpers P N ops rl = some l → l.length = rl.length ∧ ∀ (i : Nat) (o : Oper), rl[i]? = some o → ∃ ao, l[i]? = some ao ∧ trOper P N ops o = some ao := by
  intro rl
  induction rl with
  | nil => intro l h; simp only [trOpers, Option.some.injEq] at h; subst h; simp
  | cons o rl ih =>
    intro l h
    simp only [trOpers] at h
    split at h
    · rename_i x y hx hy
      simp only [Option.some.injEq] at h
      subst h
      obtain ⟨h1, h2⟩ := ih y hy
      refine ⟨by simp [h1], fun i o' hi => ?_⟩
      cases i with
      | zero => simp at hi; subst hi; exact ⟨x, rfl, hx⟩
      | succ i => simp at hi; simpa using h2 i o' hi
    · cases h

/-- What is known where the operations of 'L' have come up. -/
def Part (F : Frame0) (l : List AOper) (n : Nat) (tr : List (AV × Option Entry)) (s : St) (L : Array Bool) (a : Act) (w : World) : Prop :=
  ∃ I β lam e σ, Inv F e σ I β lam a w ∧
    (∀ t, (∃ (i : Nat) (ao : AOper) (x : AV) (en : Option Entry), i < n ∧ l[i]? = some ao ∧ tr[i]? = some (x, en) ∧ ao.dst = some t ∧ Ld L i ∧ e (0, t) = some x) ∨
      ((∀ (i : Nat) (ao : AOper), i < n → l[i]? = some ao → Ld L i → ao.dst ≠ some t) ∧ e (0, t) = lk s.env t)) ∧ (∀ d t, e (d + 1, t) = s.look (d + 1, t)) ∧
    (∀ k, (∃ (i : Nat) (ao : AOper) (x : AV) (en : Entry) (d : Nat), i < n ∧ l[i]? = some ao ∧ tr[i]? = some (x, some en) ∧ ao.dst = some d ∧ k = s.base + d ∧ Ld L i ∧ σ k = some en) ∨
      ((∀ (i : Nat) (ao : AOper) (x : AV) (en : Option Entry) (d : Nat), i < n → l[i]? = some ao → tr[i]? = some (x, en) → Ld L i → ao.dst = some d → k = s.base + d → en = none) ∧ σ k = lk s.sto k))

theorem ld_set {L : Array Bool} {i j : Nat} (hi : i < L.size) : Ld (L.setIfInBounds i true) j ↔ Ld L j ∨ j = i := by
  unfold Ld
  by_cases e : i = j
  · subst e; simp [hi]
  · simp [Array.getElem?_setIfInBounds, e, Ne.symm e]

theorem freeOk_inv {n i : Nat} (h : freeOk P ops n i = true) : ∃ o op xs, ops[i]? = some o ∧ trOp P o.type o.op = some (op, xs) ∧ (isE op = true ∧ ∃ d, o.dst = some d) ∧
    (∀ (d j : Nat) (q : Oper), o.dst = some d → j < n → ops[j]? = some q → q.dst = some d → j = i) ∧
    (∀ (t j : Nat) (q : Oper), t ∈ o.looksAt ops → j < n → ops[j]? = some q → q.dst = some t → j < i ∧ ∃ e ∈ o.after.toList, e.on = j ∧ Region.binds .any e = true) := by
  unfold freeOk at h
  split at h
  · cases h
  · rename_i o ho
    simp only [Bool.and_eq_true] at h
    obtain ⟨⟨h1, h2⟩, h3⟩ := h
    split at h1
    · rename_i op xs htr
      refine ⟨o, op, xs, ho, htr, ⟨h1, by cases hd : o.dst with | none => rw [hd] at h2; cases h2 | some d => exact ⟨d, rfl⟩⟩, fun d j q hd hj hq hqd => ?_, fun t j q ht hj hq hqd => ?_⟩
      · rw [hd] at h2
        have := List.all_eq_true.1 h2 j (by simpa using hj)
        simp only [hq, Option.map_some, Option.getD_some, hqd, bne_self_eq_false, Bool.or_false, beq_iff_eq] at this
        exact this
      · have := List.all_eq_true.1 (List.all_eq_true.1 h3 t ht) j (by simpa using hj)
        simp only [hq, Option.map_some, Option.getD_some, hqd, bne_self_eq_false, Bool.false_or, Bool.and_eq_true, decide_eq_true_eq] at this
        refine ⟨this.1, ?_⟩
        obtain ⟨e, he, heq⟩ := Array.any_eq_true'.1 this.2
        simp only [Bool.and_eq_true, beq_iff_eq] at heq
        exact ⟨e, by simpa using he, heq.1, heq.2⟩
    · cases h1

theorem bool_not {c b : Bool} (h : c ≠ b) : c = !b := by
  cases c <;> cases b <;> first | rfl | exact absurd rfl h

set_option maxHeartbeats 1000000 in
/-- An operation comes up among those whose order is open. -/
theorem part_step {l : List AOper} {n : Nat} {tr : List (AV × Option Entry)} {s sn : St} {L : Array Bool} {a : Act} {w : World} {i : Nat} {o : Oper} {Kr : Act → World → Prop}
    (hl : trOpers P F.N ops ops.toList = some (l.map (bareO true))) (hfree : ∀ j, j < n → freeOk P ops n j = true) (htr : Trace P (l.take n) s tr sn) (hsz : L.size = ops.size)
    (hi : i < n) (ho : ops[i]? = some o) (hLi : ¬ Ld L i) (hdep : ∀ e ∈ o.after.toList, Region.binds .any e = true → Ld L e.on) (hP : Part F l n tr s L a w)
    (hk : ∀ a' w', Part F l n tr s (L.setIfInBounds i true) a' w' → Kr a' w') : if Region.wanted o (yielded ops a.tmps) then o.wp P a w Kr Q else Kr (a.put o.dst undef) w := by
  obtain ⟨hlen, hget⟩ := trOpers_get _ _ hl
  rw [List.length_map] at hlen
  have hget' : ∀ (i : Nat) (o : Oper), ops[i]? = some o → ∃ ao, l[i]? = some ao ∧ trOper P F.N ops o = some (bareO true ao) := fun i o h => by
    obtain ⟨ao, h1, h2⟩ := hget i o (by simpa using h)
    simp only [List.getElem?_map, Option.map_eq_some_iff] at h1
    obtain ⟨ao', h1, rfl⟩ := h1
    exact ⟨ao', h1, h2⟩
  have hget2 : ∀ (i : Nat) (ao : AOper), l[i]? = some ao → ∃ o, ops[i]? = some o ∧ trOper P F.N ops o = some (bareO true ao) := fun i ao h => by
    have hlt : i < ops.size := by
      have := (List.getElem?_eq_some_iff.1 h).1
      simpa [hlen] using this
    obtain ⟨ao', h1, h2⟩ := hget' i ops[i] (by simp [hlt])
    rw [h] at h1
    cases h1
    exact ⟨ops[i], by simp [hlt], h2⟩
  obtain ⟨ao, hao, htro⟩ := hget' i o ho
  obtain ⟨h1, hg, hdst, hdok⟩ := trOper_inv htro
  have hdst : ao.dst = o.dst := hdst
  have hg : trGuard ops o.guard = some ao.guard := hg
  have hdst2 : ∀ {q : Oper} {z : AOper}, trOper P F.N ops q = some (bareO true z) → z.dst = q.dst := fun {q z} h => (trOper_inv h).2.2.1
  obtain ⟨o', op, xs, ho', htrop, ⟨hE, d0, hd0⟩, huniq, hlook⟩ := freeOk_inv (hfree i hi)
  rw [ho] at ho'
  cases ho'
  rw [h1] at htrop
  simp only [Option.some.injEq, Prod.mk.injEq] at htrop
  obtain ⟨hop, hxs⟩ := htrop
  have hE0 : isE (bareO true ao).op = true := by rw [hop]; exact hE
  have hbare : (bareO true ao).op = ao.op := by
    simp only [bareO] at hE0 ⊢
    cases hao2 : ao.op <;> rw [hao2] at hE0 <;> first | rfl | cases hE0
  have hE' : isE ao.op = true := by rw [← hbare]; exact hE0
  rw [hbare] at h1
  have h1 : trOp P o.type o.op = some (ao.op, ao.xs) := h1
  -- the state of the text before it
  obtain ⟨htl, hat⟩ := trace_at htr
  have htake : (l.take n)[i]? = some ao := by rw [List.getElem?_take, if_pos hi]; exact hao
  obtain ⟨si, x, en, hxi, hstep, hnone, hti⟩ := hat i ao htake
  have huq : ∀ (i' j : Nat) (x y : AOper) (t : Nat), ((l.take n).take i)[i']? = some x → ((l.take n).take i)[j]? = some y → x.dst = some t → y.dst = some t → i' = j := by
    intro i' j x y t h1 h2 h3 h4
    have g : ∀ {q : Nat} {z : AOper}, ((l.take n).take i)[q]? = some z → q < i ∧ q < n ∧ l[q]? = some z := by
      intro q z hq
      rw [List.getElem?_take] at hq
      split at hq
      · rename_i hqi
        rw [List.getElem?_take] at hq
        split at hq
        · rename_i hqn; exact ⟨hqi, hqn, hq⟩
        · cases hq
      · cases hq
    obtain ⟨_, a2, a3⟩ := g h1
    obtain ⟨_, b2, b3⟩ := g h2
    obtain ⟨o1, c1, c2⟩ := hget2 _ _ a3
    obtain ⟨o2, d1, d2⟩ := hget2 _ _ b3
    have c3 := hdst2 c2
    have d3 := hdst2 d2
    obtain ⟨o3, _, _, e1, _, _, e2, _⟩ := freeOk_inv (hfree j b2)
    rw [d1] at e1
    cases e1
    exact e2 t i' o1 (by rw [← d3]; exact h4) a2 c1 (by rw [← c3]; exact h3)
  obtain ⟨henv, hsto⟩ := trace_env hti huq
  have pre : ∀ {q : Nat} {z : AOper}, ((l.take n).take i)[q]? = some z → q < i ∧ q < n ∧ l[q]? = some z := by
    intro q z hq
    rw [List.getElem?_take] at hq
    split at hq
    · rename_i hqi
      rw [List.getElem?_take] at hq
      split at hq
      · rename_i hqn; exact ⟨hqi, hqn, hq⟩
      · cases hq
    · cases hq
  have pre2 : ∀ {q : Nat} {z : AV × Option Entry}, (tr.take i)[q]? = some z → tr[q]? = some z := by
    intro q z hq
    rw [List.getElem?_take] at hq
    split at hq
    · exact hq
    · cases hq
  have mk1 : ∀ {q : Nat} {z : AOper}, q < i → l[q]? = some z → ((l.take n).take i)[q]? = some z := fun {q z} hq hz => by
    rw [List.getElem?_take, if_pos hq, List.getElem?_take, if_pos (by omega)]; exact hz
  have mk2 : ∀ {q : Nat} {z : AV × Option Entry}, q < i → tr[q]? = some z → (tr.take i)[q]? = some z := fun {q z} hq hz => by
    rw [List.getElem?_take, if_pos hq]; exact hz
  have dstOf : ∀ {q : Nat} {z : AOper}, l[q]? = some z → ∃ oq, ops[q]? = some oq ∧ z.dst = oq.dst := fun {q z} hz => by
    obtain ⟨oq, c1, c2⟩ := hget2 _ _ hz
    exact ⟨oq, c1, hdst2 c2⟩
  have uniqd : ∀ {q q' : Nat} {z z' : AOper} {t : Nat}, q < n → q' < n → l[q]? = some z → l[q']? = some z' → z.dst = some t → z'.dst = some t → q = q' := by
    intro q q' z z' t hq hq' hz hz' hd hd'
    obtain ⟨o1, c1, c2⟩ := dstOf hz
    obtain ⟨o2, d1, d2⟩ := dstOf hz'
    obtain ⟨o3, _, _, e1, _, _, e2, _⟩ := freeOk_inv (hfree q' hq')
    rw [d1] at e1
    cases e1
    exact e2 t q o1 (by rw [← d2]; exact hd') hq c1 (by rw [← c2]; exact hd)
  obtain ⟨I, β, lam, e, σ, hI, hPe, hPo, hPs⟩ := hP
  have hbase := trace_base hti
  -- the slots that it looks at hold what they hold in the text's order
  have hsame : ∀ t, t ∈ o.looksAt ops → lk si.env t = e (0, t) := by
    intro t ht
    rcases henv t with ⟨q, z, x', en', a1, a2, a3, a4⟩ | ⟨a1, a2⟩
    · obtain ⟨hqi, hqn, hzq⟩ := pre a1
      obtain ⟨oq, c1, c2⟩ := dstOf hzq
      obtain ⟨_, ed, hed, heq, hbd⟩ := hlook t q oq ht hqn c1 (by rw [← c2]; exact a3)
      have hLq : Ld L q := by rw [← heq]; exact hdep ed hed hbd
      rcases hPe t with ⟨q', z', x'', en'', b0, b1, b2, b3, b4, b5⟩ | ⟨b1, b2⟩
      · have := uniqd hqn b0 hzq b1 a3 b3
        subst this
        rw [pre2 a2] at b2
        cases b2
        rw [a4, b5]
      · exact absurd a3 (b1 q z hqn hzq hLq)
    · rcases hPe t with ⟨q', z', x'', en'', b0, b1, b2, b3, b4, b5⟩ | ⟨b1, b2⟩
      · obtain ⟨oq, c1, c2⟩ := dstOf b1
        obtain ⟨hlt, _⟩ := hlook t q' oq ht b0 c1 (by rw [← c2]; exact b3)
        exact absurd b3 (a1 q' z' (mk1 hlt b1))
      · rw [a2, b2]
  -- its variables
  have agree : ∀ k en' en'', lk si.sto k = some en' → σ k = some en'' → en'' = en' := by
    intro k en' en'' hk1 hσ
    rcases hPs k with ⟨q, z, x', en1, d, b0, b1, b2, b3, bk, b4, b5⟩ | ⟨b1, b2⟩
    · rw [hσ] at b5
      cases b5
      -- the variable is one of the region's own
      obtain ⟨sq, xq, enq, q1, _, q3, q4⟩ := hat q z (by rw [List.getElem?_take, if_pos b0]; exact b1)
      rw [b2] at q1
      cases q1
      have hfreeq : lk s.sto k = none := by
        have h0 := (q3 (by simp)).1
        rw [b3, trace_base q4] at h0
        simp only [Option.getD_some] at h0
        rw [← bk] at h0
        have huq' : ∀ (i' j : Nat) (x y : AOper) (t : Nat), ((l.take n).take q)[i']? = some x → ((l.take n).take q)[j]? = some y → x.dst = some t → y.dst = some t → i' = j := by
          intro i' j x y t h1 h2 h3 h4
          have g : ∀ {p : Nat} {z : AOper}, ((l.take n).take q)[p]? = some z → p < n ∧ l[p]? = some z := by
            intro p z hp
            rw [List.getElem?_take] at hp
            split at hp
            · rw [List.getElem?_take] at hp
              split at hp
              · rename_i hpn; exact ⟨hpn, hp⟩
              · cases hp
            · cases hp
          exact uniqd (g h1).1 (g h2).1 (g h1).2 (g h2).2 h3 h4
        rcases (trace_env q4 huq').2 k with ⟨p, zp, xp, enp, dp, p1, _, p3, _, p4, _⟩ | ⟨_, p2⟩
        · rw [h0] at p4; cases p4
        · rw [← p2]; exact h0
      rcases hsto k with ⟨p, zp, xp, enp, dp, p1, p2, p3, pk, p4, p5⟩ | ⟨_, p2⟩
      · obtain ⟨hpi, hpn, hzp⟩ := pre p1
        have hdd : dp = d := by omega
        subst hdd
        have := uniqd hpn b0 hzp b1 p3 b3
        subst this
        rw [pre2 p2] at b2
        cases b2
        rw [p4] at hk1
        cases hk1
        rfl
      · rw [p2, hfreeq] at hk1
        cases hk1
    · rcases hsto k with ⟨p, zp, xp, enp, dp, p1, p2, p3, pk, p4, p5⟩ | ⟨_, p2⟩
      · rw [b2, p5] at hσ
        cases hσ
      · rw [p2, ← b2, hσ] at hk1
        cases hk1
        rfl
  have hread : ∀ k en b, lk si.sto k = some en → β k = some b → RE I w β lam b en := by
    intro k en' b hk1 hk2
    obtain ⟨en'', hσ, _⟩ := hI.bdom k b hk2
    have := agree k en' en'' hk1 hσ
    subst this
    exact hI.hread _ _ _ hσ hk2
  have hυ : ∀ k sz rows, lk si.sto k = some (.uarr sz rows) → RU I w β lam k sz rows := by
    intro k sz rows hk1
    have : ∃ en'', σ k = some en'' := by
      rcases hPs k with ⟨q, z, x', en1, d, b0, b1, b2, b3, bk, b4, b5⟩ | ⟨b1, b2⟩
      · exact ⟨_, b5⟩
      · rcases hsto k with ⟨p, zp, xp, enp, dp, p1, p2, p3, pk, p4, p5⟩ | ⟨_, p2⟩
        · exfalso
          rw [p4] at hk1
          cases hk1
          obtain ⟨hpi, hpn, hzp⟩ := pre p1
          obtain ⟨sp, xp', enp', q1, _, q3, _⟩ := hat p zp (by rw [List.getElem?_take, if_pos hpn]; exact hzp)
          rw [pre2 p2] at q1
          cases q1
          have := (q3 (by simp)).2
          cases this
        · exact ⟨_, by rw [b2, ← p2]; exact hk1⟩
    obtain ⟨en'', hσ⟩ := this
    have := agree k _ en'' hk1 hσ
    subst this
    exact hI.usto _ _ _ hσ
  have hnew : ∀ d, o.dst = some d → lk si.sto (si.base + d) = none → σ (si.base + d) = none := by
    intro d hd hn
    rcases hPs (si.base + d) with ⟨q, z, x', en1, d', b0, b1, b2, b3, bk, b4, b5⟩ | ⟨b1, b2⟩
    · have hdd : d' = d := by omega
      subst hdd
      have := uniqd b0 hi b1 hao b3 (by rw [hdst]; exact hd)
      subst this
      exact absurd b4 hLi
    · rcases hsto (si.base + d) with ⟨p, zp, xp, enp, dp, p1, p2, p3, pk, p4, p5⟩ | ⟨_, p2⟩
      · rw [hn] at p4; cases p4
      · rw [b2, ← p2]; exact hn
  have hils : i < L.size := by
    rw [hsz]
    exact (Array.getElem?_eq_some_iff.1 ho).1
  -- behind it
  have after : ∀ {v : Value} {w' : World} {I' : Nat → Nat → Prop} {β' : Blocks}, Inv F (setE e (slot o.dst) (some x)) (setS σ (o.dst.map fun _ => s.base + o.dst.getD 0) en) I' β' lam (a.put o.dst v) w' →
      Part F l n tr s (L.setIfInBounds i true) (a.put o.dst v) w' := by
    intro v w' I' β' hI'
    refine ⟨I', β', lam, _, _, hI', fun t => ?_, fun d t => ?_, fun k => ?_⟩
    · by_cases hd : o.dst = some t
      · refine .inl ⟨i, ao, x, en, hi, hao, hxi, by rw [hdst]; exact hd, (ld_set hils).2 (.inr rfl), ?_⟩
        rw [hd]; simp [setE, slot]
      · have e1 : setE e (slot o.dst) (some x) (0, t) = e (0, t) := by
          cases hdo : o.dst with
          | none => rfl
          | some d =>
            simp only [setE, slot, Option.map_some]
            rw [if_neg (fun h => hd (by rw [hdo]; simp only [Prod.mk.injEq] at h; rw [h.2]))]
        rw [e1]
        rcases hPe t with ⟨q', z', x'', en'', b0, b1, b2, b3, b4, b5⟩ | ⟨b1, b2⟩
        · exact .inl ⟨q', z', x'', en'', b0, b1, b2, b3, (ld_set hils).2 (.inl b4), b5⟩
        · refine .inr ⟨fun q z hq hz hLq => ?_, b2⟩
          rcases (ld_set hils).1 hLq with hLq | rfl
          · exact b1 q z hq hz hLq
          · rw [hao] at hz
            cases hz
            rw [hdst]; exact hd
    · rw [← hPo d t]
      cases o.dst with
      | none => rfl
      | some d' => simp [setE, slot]
    · by_cases hd : (∃ d, o.dst = some d ∧ k = s.base + d) ∧ en ≠ none
      · obtain ⟨⟨d, hd, hk'⟩, hen⟩ := hd
        cases hen' : en with
        | none => exact absurd hen' hen
        | some en0 =>
          refine .inl ⟨i, ao, x, en0, d, hi, hao, by rw [hxi, hen'], by rw [hdst]; exact hd, hk', (ld_set hils).2 (.inr rfl), ?_⟩
          rw [hd]; simp [setS, setE, hk']
      · have e1 : (setS σ (o.dst.map fun _ => s.base + o.dst.getD 0) en) k = σ k := by
          cases hen' : en with
          | none => rfl
          | some en0 =>
            cases hdo : o.dst with
            | none => rfl
            | some d =>
              simp only [setS, setE, Option.map_some, Option.getD_some]
              rw [if_neg (fun h => hd ⟨⟨d, hdo, h⟩, by rw [hen']; simp⟩)]
        rw [e1]
        rcases hPs k with ⟨q', z', x'', en'', d', b0, b1, b2, b3, bk, b4, b5⟩ | ⟨b1, b2⟩
        · exact .inl ⟨q', z', x'', en'', d', b0, b1, b2, b3, bk, (ld_set hils).2 (.inl b4), b5⟩
        · refine .inr ⟨fun q z x' en' d' hq hz ht' hLq hdz hk' => ?_, b2⟩
          rcases (ld_set hils).1 hLq with hLq | rfl
          · exact b1 q z x' en' d' hq hz ht' hLq hdz hk'
          · rw [hao] at hz
            cases hz
            rw [hxi] at ht'
            cases ht'
            cases hen' : en with
            | none => rfl
            | some en0 => exact absurd ⟨⟨d', by rw [← hdst]; exact hdz, hk'⟩, by rw [hen']; simp⟩ hd
  have run : Yields P (si.base + ao.dst.getD 0) ao.op (ao.xs.map (ev si)) (lk si.sto) x en → o.wp P a w Kr Q := by
    intro hY
    rw [hdst] at hY
    refine simE h1 hE' (fun y hy => ?_) hread hυ (fun hn => ?_) hI.Isub (fun k b hk => (hI.bnew k b hk).2.1) hI.hlm hY ?_
    · cases y with
      | tmp t =>
        have ht : t ∈ o.looksAt ops := by
          unfold Oper.looksAt
          refine List.mem_append_left _ (List.mem_filterMap.2 ⟨.tmp t, hy, rfl⟩)
        simp only [trOpd, ev]
        rw [hsame t ht]
        cases het : e (0, t) with
        | none => exact R_undef _
        | some y' =>
          obtain ⟨v, g1, g2⟩ := hI.env (0, t) y' het
          have : a.eval (.tmp t) = v := by
            simp only [Frame0.val] at g1
            simp [Act.eval, g1]
          rw [this]
          exact g2
      | const v => exact R_ofV v
      | global g => exact R_val _
      | func f =>
        simp only [trOpd, ev, Act.eval]
        exact .base (.fn _ _ _ rfl (by simp))
    · rw [hd0] at hn
      rw [hd0]
      exact hI.nodom (hnew d0 hd0 hn)
    · rintro x' en' v w' I' β' ⟨rfl, rfl⟩ hEff
      obtain ⟨β'', hI'⟩ := hI.eff hdok hEff (fun hen => by
        have hn := (hnone hen).1
        rw [hdst] at hn
        rw [hd0] at hn ⊢
        exact hnew d0 hd0 hn)
      rw [hbase] at hI'
      exact hk _ _ (after hI')
  have skip : x = .val undef ∧ en = none → Kr (a.put o.dst undef) w := by
    rintro ⟨hx, hen⟩
    refine hk _ _ (after (I' := I) (β' := β) ?_)
    have := hI.put hdok (x := .val undef) (v := undef) (R_val _)
    rw [hx, hen]
    exact this
  -- the guard
  obtain ⟨g1, g2, g3⟩ := guard_run hg hI
  unfold Step1 at hstep
  cases hgd : ao.guard with
  | none =>
    rw [hgd] at hstep
    rw [g1 hgd]
    exact run hstep
  | some gb =>
    obtain ⟨g, b⟩ := gb
    rw [hgd] at hstep
    have hgl : g ∈ o.looksAt ops := by
      rw [hgd] at hg
      unfold trGuard at hg
      split at hg
      · cases hg
      · rename_i j b' ho'
        split at hg
        · rename_i d hd
          simp only [Option.some.injEq, Prod.mk.injEq] at hg
          obtain ⟨rfl, rfl⟩ := hg
          unfold Oper.looksAt
          refine List.mem_append_right _ ?_
          rw [ho']
          simp [hd]
        · cases hg
    simp only at hstep
    split at hstep
    · rename_i c hc
      have hc' := get_some hc (by simp)
      rw [hsame g hgl] at hc'
      rw [g2 g b c hgd hc']
      by_cases ec : c = b
      · subst ec
        simp only [beq_self_eq_true, if_true]
        exact run (hstep.1 rfl)
      · have : (c == b) = false := by simpa using ec
        rw [this]
        simp only [Bool.false_eq_true, if_false]
        exact skip (hstep.2 (bool_not ec))
    · rename_i v hnb hv
      have hv' := get_some hv (by simp)
      rw [hsame g hgl] at hv'
      rw [g3 g b v hgd hv' (fun c ec => by subst ec; exact hnb c rfl)]
      simp only [Bool.false_eq_true, if_false]
      exact skip hstep
    · exact hstep.elim

end
end Go.Am
