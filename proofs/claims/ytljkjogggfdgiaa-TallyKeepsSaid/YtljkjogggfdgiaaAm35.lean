/-
  The abstract machine, part 35: a region whose order is open, with operations in it that change what was there.
-/
import Derived.Test.YtljkjogggfdgiaaAm34
namespace Go.Am
open Go.RowKit

section
variable {P : Program} {F : Frame0} {Q : Exit → Act → World → Prop} {ops : Array Oper} {l : List AOper} {n : Nat} {B : Array Nat} {sp0 : List Nat}

theorem lookOk_inv {n i : Nat} (h : lookOk ops n i = true) : ∃ o, ops[i]? = some o ∧
    (∀ (d j : Nat) (q : Oper), o.dst = some d → j < n → ops[j]? = some q → q.dst = some d → j = i) ∧
    (∀ (t j : Nat) (q : Oper), t ∈ o.looksAt ops → j < n → ops[j]? = some q → q.dst = some t → j < i ∧ ∃ e ∈ o.after.toList, e.on = j ∧ Region.binds .any e = true) := by
  unfold lookOk at h
  split at h
  · cases h
  · rename_i o ho
    simp only [Bool.and_eq_true] at h
    obtain ⟨h2, h3⟩ := h
    refine ⟨o, ho, fun d j q hd hj hq hqd => ?_, fun t j q ht hj hq hqd => ?_⟩
    · rw [hd] at h2
      have := List.all_eq_true.1 h2 j (by simpa using hj)
      simp only [hq, Option.map_some, Option.getD_some, hqd, bne_self_eq_false, Bool.or_false, beq_iff_eq] at this
      exact this
    · have := List.all_eq_true.1 (List.all_eq_true.1 h3 t ht) j (by simpa using hj)
      simp only [hq, Option.map_some, Option.getD_some, hqd, bne_self_eq_false, Bool.false_or, Bool.and_eq_true, decide_eq_true_eq] at this
      refine ⟨this.1, ?_⟩
      obtain ⟨e, he, heq⟩ := Array.any_eq_true'.1 this.2
      simp only [Bool.and_eq_true, beq_iff_eq] at heq
      exact ⟨e, by simpa using he, heq.1, heq.2⟩

structure Mix (P : Program) (N : Nat) (ops : Array Oper) (l : List AOper) (n : Nat) (B : Array Nat) (sp0 : List Nat) : Prop where
  hl : trOpers P N ops ops.toList = some l
  hn : n ≤ ops.size
  hB : B = Region.before ops
  hs : sp0 = spAll l n
  hb : edgesBack ops = true
  hph : phOk ops B sp0 n = true
  hlook : ∀ i, i < n → lookOk ops n i = true
  hfree : ∀ i, i < n → freeMix (opAt l i) = true
  hsp : ∀ p ∈ sp0, spOk (opAt l p).op = true
  hseq : spSeq B sp0 0 sp0 = true
  hchk : chksGo B sp0 l n 0 sp0 = true

variable (M : Mix P F.N ops l n B sp0)
include M

theorem Mix.at {i : Nat} {o : Oper} (ho : ops[i]? = some o) : trOper P F.N ops o = some (opAt l i) ∧ l[i]? = some (opAt l i) := by
  obtain ⟨hlen, hget⟩ := trOpers_get _ _ M.hl
  obtain ⟨ao, h1, h2⟩ := hget i o (by simpa using ho)
  have : opAt l i = ao := by simp [opAt, h1]
  rw [this]
  exact ⟨h2, h1⟩
theorem Mix.op {i : Nat} (hi : i < n) : ∃ o, ops[i]? = some o ∧ trOper P F.N ops o = some (opAt l i) ∧ (opAt l i).dst = o.dst := by
  have hlt : i < ops.size := Nat.lt_of_lt_of_le hi M.hn
  have ho : ops[i]? = some ops[i] := by simp [hlt]
  obtain ⟨h1, _⟩ := M.at ho
  exact ⟨_, ho, h1, (trOper_inv h1).2.2.1⟩
theorem Mix.len : l.length = ops.size := by
  obtain ⟨hlen, _⟩ := trOpers_get _ _ M.hl
  simpa using hlen
theorem Mix.uniq {i j t : Nat} (hi : i < n) (hj : j < n) (h1 : (opAt l i).dst = some t) (h2 : (opAt l j).dst = some t) : i = j := by
  obtain ⟨oi, a1, _, a3⟩ := M.op hi
  obtain ⟨oj, b1, _, b3⟩ := M.op hj
  obtain ⟨o, c1, c2, _⟩ := lookOk_inv (M.hlook j hj)
  rw [b1] at c1
  cases c1
  exact c2 t i oi (by rw [← b3]; exact h2) hi a1 (by rw [← a3]; exact h1)
theorem Mix.look {i j t : Nat} {o : Oper} (hi : i < n) (hj : j < n) (ho : ops[i]? = some o) (ht : t ∈ o.looksAt ops) (hd : (opAt l j).dst = some t) :
    j < i ∧ ∃ e ∈ o.after.toList, e.on = j ∧ Region.binds .any e = true := by
  obtain ⟨oj, b1, _, b3⟩ := M.op hj
  obtain ⟨o', c1, _, c3⟩ := lookOk_inv (M.hlook i hi)
  rw [ho] at c1
  cases c1
  exact c3 t j oj ht hj b1 (by rw [← b3]; exact hd)
theorem Mix.ph {i : Nat} {o : Oper} (hi : i < n) (ho : ops[i]? = some o) {e : Edge} (he : e ∈ o.after.toList) (hb : Region.binds .any e = true) : phase B sp0 e.on ≤ phase B sp0 i := by
  have h := M.hph
  unfold phOk at h
  have := List.all_eq_true.1 h i (by simpa using hi)
  simp only [ho] at this
  have := Array.all_eq_true'.1 this e (by simpa using he)
  simpa [hb] using this
theorem Mix.mem_sp {p : Nat} : p ∈ sp0 ↔ p < n ∧ isE (opAt l p).op = false := by
  rw [M.hs]
  simp [spAll]
theorem Mix.bits {L : Array Bool} (hc : Closed ops L) {i : Nat} {o : Oper} (ho : ops[i]? = some o) (hr : ∀ e ∈ o.after.toList, Region.binds .any e = true → Ld L e.on) {j : Nat}
    (hj : (B.getD i 0).testBit j = true) : Ld L j := waits_spec hc ho hr (by rw [← M.hB]; exact hj)
theorem Mix.bitsL {L : Array Bool} (hc : Closed ops L) {i : Nat} (hi : i < n) (hL : Ld L i) {j : Nat} (hj : (B.getD i 0).testBit j = true) : Ld L j := by
  obtain ⟨o, ho, _⟩ := M.op hi
  exact M.bits hc ho (hc i o ho hL) hj
omit M

theorem phase_le {done rest : List Nat} {L : Array Bool} {i : Nat} (hs : sp0 = done ++ rest) (hrest : ∀ p ∈ rest, ¬ Ld L p) (bits : ∀ j, (B.getD i 0).testBit j = true → Ld L j) : phase B sp0 i ≤ done.length := by
  unfold phase
  rw [hs, List.filter_append]
  have : rest.filter (fun p => (B.getD i 0).testBit p) = [] := List.filter_eq_nil_iff.2 fun p hp hb => hrest p hp (bits p hb)
  rw [this, List.append_nil]
  exact List.length_filter_le _ _

theorem spSeq_at : ∀ {l1 l2 : List Nat} {k p : Nat}, spSeq B sp0 k (l1 ++ p :: l2) = true → phase B sp0 p = k + l1.length := by
  intro l1
  induction l1 with
  | nil => intro l2 k p h; simp only [List.nil_append, spSeq, Bool.and_eq_true, beq_iff_eq] at h; simpa using h.1
  | cons q l1 ih =>
    intro l2 k p h
    simp only [List.cons_append, spSeq, Bool.and_eq_true] at h
    rw [ih h.2]
    simp; omega
theorem chksGo_at : ∀ {l1 l2 : List Nat} {k p : Nat}, chksGo B sp0 l n k (l1 ++ p :: l2) = true → ∀ i ∈ chksAt B sp0 l n (k + l1.length + 1) p, (opAt l i).guard = none := by
  intro l1
  induction l1 with
  | nil =>
    intro l2 k p h i hi
    simp only [List.nil_append, chksGo, Bool.and_eq_true] at h
    have := List.all_eq_true.1 h.1 i hi
    simpa using this
  | cons q l1 ih =>
    intro l2 k p h i hi
    simp only [List.cons_append, chksGo, Bool.and_eq_true] at h
    exact ih h.2 i (by simpa [Nat.add_assoc, Nat.add_comm, Nat.add_left_comm] using hi)

/-- The slots that are not written yet. -/
def unD (l : List AOper) (n : Nat) (L : Array Bool) : List Nat := (List.range n).filterMap fun i => if L.getD i false = true then none else (opAt l i).dst
theorem unD_mem {L : Array Bool} {t : Nat} : (unD l n L).elem t = true ↔ ∃ i, i < n ∧ ¬ Ld L i ∧ (opAt l i).dst = some t := by
  simp only [unD, List.elem_eq_mem, decide_eq_true_eq, List.mem_filterMap, List.mem_range]
  constructor
  · rintro ⟨i, h1, h2⟩
    split at h2
    · cases h2
    · rename_i h3; exact ⟨i, h1, h3, h2⟩
  · rintro ⟨i, h1, h2, h3⟩
    have h2' : ¬ (L.getD i false = true) := h2
    exact ⟨i, h1, by rw [if_neg h2']; exact h3⟩
include M in
theorem unD_set {L : Array Bool} {i : Nat} (hi : i < n) (hs : i < L.size) : ∀ t, (unD l n (L.setIfInBounds i true)).elem t = true ↔ (unD l n L).elem t = true ∧ (opAt l i).dst ≠ some t := by
  intro t
  rw [unD_mem, unD_mem]
  constructor
  · rintro ⟨j, h1, h2, h3⟩
    rw [ld_set hs, not_or] at h2
    exact ⟨⟨j, h1, h2.1, h3⟩, fun e => h2.2 (M.uniq h1 hi h3 e)⟩
  · rintro ⟨⟨j, h1, h2, h3⟩, h4⟩
    refine ⟨j, h1, ?_, h3⟩
    rw [ld_set hs, not_or]
    exact ⟨h2, fun e => h4 (by rw [← e]; exact h3)⟩

/-- Operation 'ao' has come up, and would yield the same now. -/
def ChkAt (P : Program) (A : St) (ao : AOper) : Prop :=
  ∃ d x en, ao.guard = none ∧ ao.dst = some d ∧ lk A.env d = some x ∧ lk A.sto (A.base + d) = en ∧ isUO en = false ∧ Yields P (A.base + d) ao.op (ao.xs.map (ev A)) (lk (del [A.base + d] A.sto)) x en

theorem chks_of {rst : List AOper} {A : St} {K : St → Prop} : ∀ (is : List Nat), (∀ i ∈ is, (opAt l i).guard = none) → awpOps P (is.map (fun i => chkOf (opAt l i)) ++ rst) A K →
    (∀ i ∈ is, ChkAt P A (opAt l i)) ∧ awpOps P rst A K := by
  intro is
  induction is with
  | nil => intro _ h; exact ⟨by simp, h⟩
  | cons i is ih =>
    intro hg h
    simp only [List.map_cons, List.cons_append, awpOps] at h
    have hgi := hg i (by simp)
    unfold awpOper at h
    simp only [chkOf, hgi] at h
    unfold awpOp at h
    simp only at h
    unfold eChk at h
    split at h
    · rename_i d hd
      obtain ⟨x, en, ⟨h1, h2, h3⟩, h4, h5⟩ := evalE_post h
      obtain ⟨h6, h7⟩ := ih (fun i h => hg i (by simp [h])) h3
      refine ⟨fun j hj => ?_, h7⟩
      rcases List.mem_cons.1 hj with rfl | hj
      · refine ⟨d, x, en, hgi, hd, h1, h2, ?_, h5⟩
        by_cases e : en = none
        · rw [e]; rfl
        · exact (h4 e).2
      · exact h6 j hj
    · exact h.elim

def tailOf (B : Array Nat) (sp0 : List Nat) (l : List AOper) (n k : Nat) : List Nat → List AOper
  | [] => l.drop n
  | p :: sp => opAt l p :: ((chksAt B sp0 l n (k + 1) p).map (fun i => chkOf (opAt l i)) ++ planFrom B sp0 l n (k + 1) sp)
theorem planFrom_eq {k : Nat} {sp : List Nat} : planFrom B sp0 l n k sp = (runsAt B sp0 l n k).map (opAt l) ++ tailOf B sp0 l n k sp := by cases sp <;> rfl

/-- What holds in phase 'done.length', in which the operations of 'L' have come up. -/
structure MPI (P : Program) (F : Frame0) (ops : Array Oper) (l : List AOper) (n : Nat) (B : Array Nat) (sp0 : List Nat) (K : St → Prop) (done rest : List Nat) (A Z : St) (rst : List AOper) (L : Array Bool) (a : Act) (w : World) : Prop where
  sp : sp0 = done ++ rest
  ex : ∀ p ∈ done, Ld L p
  nx : ∀ p ∈ rest, ¬ Ld L p
  out : ∀ j, n ≤ j → ¬ Ld L j
  tr : ∃ tr, Trace P ((runsAt B sp0 l n done.length).map (opAt l)) A tr Z
  hrst : rst.map (bareO true) = tailOf B sp0 l n done.length rest
  hK : awpOps P rst Z K
  chk : ∀ i, i < n → isE (opAt l i).op = true → phase B sp0 i < done.length → ¬ Ld L i → ChkAt P A (opAt l i)
  fresh : ∀ i d, i < n → (opAt l i).dst = some d → done.length ≤ phase B sp0 i → lk A.sto (A.base + d) = none
  holds : Holds F (Z.mask (unD l n L)) a w

theorem mem_runs {k i : Nat} : i ∈ runsAt B sp0 l n k ↔ i < n ∧ isE (opAt l i).op = true ∧ phase B sp0 i = k := by simp [runsAt]

variable {K : St → Prop} {done rest : List Nat} {A Z : St} {rst : List AOper} {L : Array Bool} {a : Act} {w : World}

include M in
/-- Of an operation that may come up now: what it yields is what stands in its slot behind the phase. -/
theorem MPI.fact (h : MPI P F ops l n B sp0 K done rest A Z rst L a w) {i : Nat} {o : Oper} (hi : i < n) (ho : ops[i]? = some o) (hE : isE (opAt l i).op = true) (hL : ¬ Ld L i) (hp : phase B sp0 i ≤ done.length) :
    ∃ d S x en, (opAt l i).dst = some d ∧ S.base = Z.base ∧ Step1 P (opAt l i) S x en ∧ isUO en = false ∧ (∀ t ∈ o.looksAt ops, lk S.env t = lk Z.env t) ∧
      (∀ k e, lk S.sto k = some e → lk Z.sto k = some e) ∧ lk Z.env d = some x ∧ lk Z.sto (Z.base + d) = en := by
  obtain ⟨tr, htr⟩ := h.tr
  have hbZ := trace_base htr
  have hnr : ∀ {q : Nat} {t : Nat}, q < n → (opAt l q).dst = some t → q ∉ runsAt B sp0 l n done.length → ∀ ao ∈ (runsAt B sp0 l n done.length).map (opAt l), ao.dst ≠ some t := by
    intro q t hq hqt hnot ao hao e
    obtain ⟨j, hj, rfl⟩ := List.mem_map.1 hao
    have := M.uniq (mem_runs.1 hj).1 hq e hqt
    subst this
    exact hnot hj
  rcases Nat.lt_or_ge (phase B sp0 i) done.length with hlt | hge
  · obtain ⟨d, x, en, g0, g1, g2, g3, g4, g5⟩ := h.chk i hi hE hlt hL
    have hni : i ∉ runsAt B sp0 l n done.length := fun hm => by have := (mem_runs.1 hm).2.2; omega
    have hkeep := hnr hi g1 hni
    refine ⟨d, { A with sto := del [A.base + d] A.sto }, x, en, g1, hbZ.symm, ?_, g4, fun t ht => ?_, fun k e hk => ?_, ?_, ?_⟩
    · unfold Step1
      rw [g0]
      simp only [g1, Option.getD_some]
      exact g5
    · refine (trace_keepE htr fun ao hao e => ?_).symm
      obtain ⟨j, hj, rfl⟩ := List.mem_map.1 hao
      obtain ⟨_, e', he, rfl, hb⟩ := M.look hi (mem_runs.1 hj).1 ho ht e
      have := M.ph hi ho he hb
      have := (mem_runs.1 hj).2.2
      omega
    · have : lk A.sto k = some e := by
        have := hk
        simp only [lk_del] at this
        split at this
        · cases this
        · exact this
      exact trace_mono htr this
    · rw [trace_keepE htr hkeep]; exact g2
    · rw [hbZ, trace_keepS htr fun ao hao d' hd' e => hkeep ao hao (by have : d' = d := by omega
                                                                       rw [hd', this])]
      exact g3
  · have hmem : i ∈ runsAt B sp0 l n done.length := mem_runs.2 ⟨hi, hE, by omega⟩
    obtain ⟨pre, post, hpp⟩ := List.append_of_mem hmem
    have hpw : List.Pairwise (· < ·) (runsAt B sp0 l n done.length) := List.Pairwise.filter _ List.pairwise_lt_range
    rw [hpp] at hpw
    have hpost : ∀ j ∈ post, i < j := fun j hj => by
      have := (List.pairwise_append.1 hpw).2.1
      exact (List.pairwise_cons.1 this).1 j hj
    have hpre : ∀ j ∈ pre, j < i := fun j hj => (List.pairwise_append.1 hpw).2.2 j hj i (by simp)
    have hin : ∀ j, j ∈ pre ∨ j ∈ post → j < n := fun j hj => (mem_runs.1 (show j ∈ runsAt B sp0 l n done.length by rw [hpp]; simp; rcases hj with h | h <;> simp [h])).1
    have hfr := h.fresh
    rw [hpp, List.map_append, List.map_cons] at htr
    obtain ⟨tr1, si, x, en, tr2, t1, t2, t3, t4⟩ := trace_split htr
    have hds : ∃ d, (opAt l i).dst = some d := by
      have := M.hfree i hi
      simp only [freeMix, hE, Bool.not_true, Bool.false_or] at this
      exact Option.isSome_iff_exists.1 this
    obtain ⟨d, hd⟩ := hds
    have b1 := trace_base t1
    have b2 := trace_base t4
    rw [new_base] at b2
    have notd : ∀ (q : List Nat), (∀ j ∈ q, j < n ∧ j ≠ i) → ∀ ao ∈ q.map (opAt l), ao.dst ≠ some d := by
      intro q hq ao hao e
      obtain ⟨j, hj, rfl⟩ := List.mem_map.1 hao
      exact (hq j hj).2 (M.uniq (hq j hj).1 hi e hd)
    have np := notd pre fun j hj => ⟨hin j (.inl hj), by have := hpre j hj; omega⟩
    have nq := notd post fun j hj => ⟨hin j (.inr hj), by have := hpost j hj; omega⟩
    have hsi : lk si.sto (si.base + d) = none := by
      rw [b1, trace_keepS t1 fun ao hao d' hd' e => np ao hao (by rw [hd', show d' = d by omega])]
      exact hfr i d hi hd hge
    refine ⟨d, si, x, en, hd, b2.symm, t2, ?_, fun t ht => ?_, fun k e hk => ?_, ?_, ?_⟩
    · by_cases e : en = none
      · rw [e]; rfl
      · exact (t3 e).2
    · have e1 : (opAt l i).dst ≠ some t := fun e => by have := (M.look hi hi ho ht e).1; omega
      rw [trace_keepE t4 fun ao hao e => ?_, new_env0 e1]
      obtain ⟨j, hj, rfl⟩ := List.mem_map.1 hao
      have := (M.look hi (hin j (.inr hj)) ho ht e).1
      have := hpost j hj
      omega
    · refine trace_mono t4 ?_
      rw [new_sto0 (fun t ht e' => ?_)]
      · exact hk
      · rw [hd] at ht
        cases ht
        rw [e', hsi] at hk; cases hk
    · rw [trace_keepE t4 nq, hd]; exact new_env1
    · rw [trace_keepS t4 (k := Z.base + d) fun ao hao d' hd' e => nq ao hao (by rw [hd']; rw [new_base] at e; rw [show d' = d by omega]), b2, hd]
      exact new_sto1 fun _ => hsi

include M in
theorem MPI.hU (h : MPI P F ops l n B sp0 K done rest A Z rst L a w) : ∀ t, (unD l n L).elem t = true → isUO (lk Z.sto (Z.base + t)) = false := by
  intro t ht
  obtain ⟨i, hi, hL, hd⟩ := unD_mem.1 ht
  obtain ⟨o, ho, _⟩ := M.op hi
  have hfree : done.length ≤ phase B sp0 i → i ∉ runsAt B sp0 l n done.length → isUO (lk Z.sto (Z.base + t)) = false := by
    intro hge hnot
    obtain ⟨tr, htr⟩ := h.tr
    have := h.fresh i t hi hd hge
    rw [trace_base htr, trace_keepS htr fun ao hao d' hd' e => ?_, this]
    · rfl
    · obtain ⟨j, hj, rfl⟩ := List.mem_map.1 hao
      rw [show d' = t by omega] at hd'
      have := M.uniq (mem_runs.1 hj).1 hi hd' hd
      subst this
      exact hnot hj
  cases hE : isE (opAt l i).op with
  | true =>
    rcases Nat.lt_or_ge done.length (phase B sp0 i) with hlt | hge
    · exact hfree (by omega) fun hm => by have := (mem_runs.1 hm).2.2; omega
    · obtain ⟨d, S, x, en, g1, _, _, g4, _, _, _, g8⟩ := h.fact M hi ho hE hL hge
      rw [hd] at g1
      cases g1
      rw [g8]; exact g4
  | false =>
    have hm : i ∈ sp0 := M.mem_sp.2 ⟨hi, hE⟩
    rw [h.sp] at hm
    rcases List.mem_append.1 hm with hm | hm
    · exact absurd (h.ex i hm) hL
    · obtain ⟨r1, r2, rfl⟩ := List.append_of_mem hm
      have hs := M.hseq
      have := h.sp
      rw [← List.append_assoc] at this
      rw [show spSeq B sp0 0 sp0 = spSeq B sp0 0 (done ++ r1 ++ i :: r2) by rw [← this]] at hs
      have := spSeq_at hs
      simp only [List.length_append] at this
      exact hfree (by omega) fun hm => by have := (mem_runs.1 hm).2.1; rw [hE] at this; cases this

end
end Go.Am
