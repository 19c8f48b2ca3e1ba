/-
  The abstract machine, part 36: a region whose order is open, with operations in it that change what was there: all its orders.
-/
import Derived.Test.YtljkjogggfdgiaaAm35
namespace Go.Am
open Go.RowKit

section
variable {P : Program} {F : Frame0} {Q : Exit → Act → World → Prop} {ops : Array Oper} {l : List AOper} {n : Nat} {B : Array Nat} {sp0 : List Nat}
variable {K : St → Prop} {done rest : List Nat} {A Z : St} {rst : List AOper} {L : Array Bool} {a : Act} {w : World}

theorem bare_chk {x y : AOper} (h : bareO true x = chkOf y) : x = chkOf y := by
  obtain ⟨d, op, xs, g⟩ := x
  simp only [bareO, chkOf] at h ⊢
  cases op <;> simp only [bareOp, if_true, AOper.mk.injEq, reduceCtorEq, false_and, and_false] at h ⊢
  exact h
theorem bare_free {x y : AOper} (h : bareO true x = y) (hE : isE y.op = true) : x = y := by
  subst h
  obtain ⟨d, op, xs, g⟩ := x
  simp only [bareO] at hE ⊢
  cases op <;> first | rfl | cases hE
theorem bare_spec {x y : AOper} (h : bareO true x = y) (hs : spOk y.op = true) : spOk2 x.op = true := by
  subst h
  obtain ⟨d, op, xs, g⟩ := x
  simp only [bareO] at hs ⊢
  cases op <;> first | rfl | exact hs

/-- What is left of the text, cut where a phase ends. -/
theorem rst_split {k : Nat} {sp : List Nat} {r2 : List AOper} (h : r2.map (bareO true) = planFrom B sp0 l n k sp) :
    ∃ r3, r2 = (runsAt B sp0 l n k).map (opAt l) ++ r3 ∧ r3.map (bareO true) = tailOf B sp0 l n k sp := by
  rw [planFrom_eq] at h
  obtain ⟨u, v, rfl, h1, h2⟩ := List.map_eq_append_iff.1 h
  refine ⟨v, ?_, h2⟩
  have : u = (runsAt B sp0 l n k).map (opAt l) := by
    have key : ∀ (is : List Nat) (u : List AOper), (∀ i ∈ is, isE (opAt l i).op = true) → u.map (bareO true) = is.map (opAt l) → u = is.map (opAt l) := by
      intro is
      induction is with
      | nil => intro u _ h; simpa using h
      | cons i is ih =>
        intro u hE h
        cases u with
        | nil => cases h
        | cons y u =>
          simp only [List.map_cons, List.cons.injEq] at h ⊢
          exact ⟨bare_free h.1 (hE i (by simp)), ih u (fun j hj => hE j (by simp [hj])) h.2⟩
    exact key _ _ (fun i hi => (mem_runs.1 hi).2.1) h1
  rw [this]
theorem chk_split {r2 : List AOper} {is : List Nat} {z : List AOper} (h : r2.map (bareO true) = is.map (fun i => chkOf (opAt l i)) ++ z) :
    ∃ r3, r2 = is.map (fun i => chkOf (opAt l i)) ++ r3 ∧ r3.map (bareO true) = z := by
  obtain ⟨u, v, rfl, h1, h2⟩ := List.map_eq_append_iff.1 h
  refine ⟨v, ?_, h2⟩
  have : u = is.map (fun i => chkOf (opAt l i)) := by
    clear h h2
    induction is generalizing u with
    | nil => simpa using h1
    | cons i is ih =>
      cases u with
      | nil => cases h1
      | cons y u =>
        simp only [List.map_cons, List.cons.injEq] at h1 ⊢
        exact ⟨bare_chk h1.1, ih u h1.2⟩
  rw [this]

variable (M : Mix P F.N ops l n B sp0)
include M

/-- An operation comes up that changes nothing. -/
theorem MPI.free (h : MPI P F ops l n B sp0 K done rest A Z rst L a w) (hc : Closed ops L) (hsz : L.size = ops.size) {i : Nat} {o : Oper} {Kr : Act → World → Prop} (hi : i < n) (ho : ops[i]? = some o) (hE : isE (opAt l i).op = true) (hL : ¬ Ld L i)
    (hdep : ∀ e ∈ o.after.toList, Region.binds .any e = true → Ld L e.on) (hk : ∀ a' w', MPI P F ops l n B sp0 K done rest A Z rst (L.setIfInBounds i true) a' w' → Kr a' w') :
    if Region.wanted o (yielded ops a.tmps) then o.wp P a w Kr Q else Kr (a.put o.dst undef) w := by
  have hp : phase B sp0 i ≤ done.length := phase_le h.sp h.nx fun j hj => M.bits hc ho hdep hj
  obtain ⟨d, S, x, en, g1, g2, g3, g4, g5, g6, g7, g8⟩ := h.fact M hi ho hE hL hp
  have his : i < L.size := by rw [hsz]; exact (Array.getElem?_eq_some_iff.1 ho).1
  refine free_step (M.at ho).1 hE g1 h.holds g2 g3 (fun t ht => ⟨g5 t ht, ?_⟩) g6 (unD_mem.2 ⟨i, hi, hL, g1⟩) (unD_set M hi his) g7 g8 (h.hU M) fun a' w' hH => hk a' w' ?_
  · cases hc' : (unD l n L).elem t with
    | false => rfl
    | true =>
      obtain ⟨j, hj, hLj, hd⟩ := unD_mem.1 hc'
      obtain ⟨_, e, he, rfl, hb⟩ := M.look hi hj ho ht hd
      exact absurd (hdep e he hb) hLj
  · have hset : ∀ {j : Nat}, Ld L j → Ld (L.setIfInBounds i true) j := fun h => (ld_set his).2 (.inl h)
    refine { h with ex := fun p hq => hset (h.ex p hq), nx := fun p hpr hLp => ?_, out := fun j hj hLj => ?_, chk := fun j hj hEj hpj hLj => h.chk j hj hEj hpj fun h => hLj (hset h), holds := hH }
    · rcases (ld_set his).1 hLp with h1 | rfl
      · exact h.nx p hpr h1
      · have : p ∈ sp0 := by rw [h.sp]; exact List.mem_append_right _ hpr
        rw [(M.mem_sp.1 this).2] at hE; cases hE
    · rcases (ld_set his).1 hLj with h1 | rfl
      · exact h.out j hj h1
      · omega

omit M in
/-- A phase begins. -/
theorem MPI.begin {k : Nat} {sp : List Nat} {r2 : List AOper} {A : St} (hk : k = done.length) (hsp : sp0 = done ++ sp) (hex : ∀ p ∈ done, Ld L p) (hnx : ∀ p ∈ sp, ¬ Ld L p) (hout : ∀ j, n ≤ j → ¬ Ld L j)
    (hr : r2.map (bareO true) = planFrom B sp0 l n k sp) (hK : awpOps P r2 A K)
    (hchk : ∀ i, i < n → isE (opAt l i).op = true → phase B sp0 i < done.length → ¬ Ld L i → ChkAt P A (opAt l i))
    (hfresh : ∀ i d, i < n → (opAt l i).dst = some d → done.length ≤ phase B sp0 i → lk A.sto (A.base + d) = none)
    (hnot : ∀ i ∈ runsAt B sp0 l n k, ¬ Ld L i) (hH : Holds F (A.mask (unD l n L)) a w) : ∃ Z rst, MPI P F ops l n B sp0 K done sp A Z rst L a w := by
  obtain ⟨r3, rfl, h3⟩ := rst_split hr
  have hE : ∀ ao ∈ (runsAt B sp0 l n k).map (opAt l), isE ao.op = true := by
    intro ao hao
    obtain ⟨j, hj, rfl⟩ := List.mem_map.1 hao
    exact (mem_runs.1 hj).2.1
  obtain ⟨tr, Z, htr, hrest⟩ := trace_of _ _ hE hK
  subst hk
  refine ⟨Z, r3, hsp, hex, hnx, hout, ⟨tr, htr⟩, h3, hrest, hchk, hfresh, hH.same ?_⟩
  have hb := trace_base htr
  have hin : ∀ {j t : Nat}, j ∈ runsAt B sp0 l n done.length → (opAt l j).dst = some t → (unD l n L).elem t = true := fun {j t} hj hd => unD_mem.2 ⟨j, (mem_runs.1 hj).1, hnot j hj, hd⟩
  refine .of (fun t => ?_) (fun q t => ?_) (fun k => ?_) hb.symm
  · rw [mask_env, mask_env]
    split
    · rfl
    · rename_i hne
      refine (trace_keepE htr fun ao hao e => hne ?_).symm
      obtain ⟨j, hj, rfl⟩ := List.mem_map.1 hao
      exact hin hj e
  · show A.look (q + 1, t) = Z.look (q + 1, t)
    simp only [St.look, trace_out htr]
  · rw [mask_sto, mask_sto]
    have : (Z.nm (unD l n L)).elem k = (A.nm (unD l n L)).elem k := by simp only [St.nm, hb]
    rw [this]
    split
    · rfl
    · rename_i hne
      refine (trace_keepS htr fun ao hao d hd e => hne ?_).symm
      obtain ⟨j, hj, rfl⟩ := List.mem_map.1 hao
      exact nm_elem.2 ⟨d, hin hj hd, e⟩

/-- The next one comes up that changes what was there. -/
theorem MPI.spec {p : Nat} (h : MPI P F ops l n B sp0 K done (p :: rest) A Z rst L a w) (hc : Closed ops L) (hsz : L.size = ops.size) {o : Oper} {Kr : Act → World → Prop} (ho : ops[p]? = some o)
    (hdep : ∀ e ∈ o.after.toList, Region.binds .any e = true → Ld L e.on) (hk : ∀ a' w' A' Z' rst', MPI P F ops l n B sp0 K (done ++ [p]) rest A' Z' rst' (L.setIfInBounds p true) a' w' → Kr a' w') :
    if Region.wanted o (yielded ops a.tmps) then o.wp P a w Kr Q else Kr (a.put o.dst undef) w := by
  have hmem : p ∈ sp0 := by rw [h.sp]; simp
  obtain ⟨hi, hnE⟩ := M.mem_sp.1 hmem
  have hL : ¬ Ld L p := h.nx p (by simp)
  have his : p < L.size := by rw [hsz]; exact (Array.getElem?_eq_some_iff.1 ho).1
  have hs := h.hrst
  simp only [tailOf] at hs
  obtain ⟨hK, hphp⟩ : awpOps P rst Z K ∧ phase B sp0 p = done.length := by
    refine ⟨h.hK, ?_⟩
    have hq := M.hseq
    rw [show spSeq B sp0 0 sp0 = spSeq B sp0 0 (done ++ p :: rest) by rw [← h.sp]] at hq
    have := spSeq_at hq
    omega
  cases rst with
  | nil => cases hs
  | cons ap rst' =>
    simp only [List.map_cons, List.cons.injEq] at hs
    obtain ⟨hap, hs⟩ := hs
    obtain ⟨htro, _⟩ := M.at ho
    have hdst : ap.dst = (opAt l p).dst := by rw [← hap]; rfl
    have hguard : ap.guard = (opAt l p).guard := by rw [← hap]; rfl
    have hxs : ap.xs = (opAt l p).xs := by rw [← hap]; rfl
    obtain ⟨q1, q2, q3, q4⟩ := trOper_inv htro
    obtain ⟨I, β, lam, hI⟩ := h.holds
    have hlook : ∀ t, t ∈ o.looksAt ops → (unD l n L).elem t = false := fun t ht => by
      cases hc' : (unD l n L).elem t with
      | false => rfl
      | true =>
        obtain ⟨j, hj, hLj, hd⟩ := unD_mem.1 hc'
        obtain ⟨_, e, he, rfl, hb⟩ := M.look hi hj ho ht hd
        exact absurd (hdep e he hb) hLj
    -- what it looks at
    have hopd : ∀ x ∈ ap.xs, ∃ y ∈ o.op.operands.toList, x = trOpd y := by
      intro x hx
      rw [hxs] at hx
      have hspk := M.hsp p hmem
      obtain ⟨xs0, hxs0⟩ : ∃ xs0, (opAt l p).xs = xs0 := ⟨_, rfl⟩
      rcases trOp_shape q1 with hE | ⟨t, u, v, m, hop, _, _, hx'⟩ | ⟨c, hop, hcall⟩ | ⟨bop, t, u, v, t', neg, hop, _, _, hx'⟩
      · rw [hE] at hnE; cases hnE
      · rw [hx'] at hx
        rw [hop]
        simp only [List.mem_cons, List.not_mem_nil, or_false] at hx
        rcases hx with rfl | rfl
        · exact ⟨u, by simp [Op.operands], rfl⟩
        · exact ⟨v, by simp [Op.operands], rfl⟩
      · have hxc : xs0 = c.args.toList.map trOpd → ∃ y ∈ o.op.operands.toList, x = trOpd y := by
          intro hx'
          rw [hxs0, hx'] at hx
          obtain ⟨y, hy, rfl⟩ := List.mem_map.1 hx
          exact ⟨y, by rw [hop]; simp [Op.operands, Call.operands]; exact .inr (by simpa using hy), rfl⟩
        rcases trCall_shape hcall with hE | ⟨t, u, e', sz, by_, z, _, hx', _⟩ | ⟨t, u, e', sz, _, hx', _⟩
        · rw [hE] at hnE; cases hnE
        · exact hxc (hxs0.symm.trans hx')
        · exact hxc (hxs0.symm.trans hx')
      · rw [hx'] at hx
        rw [hop]
        simp only [List.mem_cons, List.not_mem_nil, or_false] at hx
        subst hx
        exact ⟨u, by simp [Op.operands], rfl⟩
    have hslot : ∀ t, .t t ∈ ap.xs → t ∈ o.looksAt ops := by
      intro t ht
      obtain ⟨y, hy, hyt⟩ := hopd _ ht
      cases y <;> simp only [trOpd, Opd.t.injEq, reduceCtorEq] at hyt
      subst hyt
      unfold Oper.looksAt
      exact List.mem_append_left _ (List.mem_filterMap.2 ⟨.tmp t, hy, rfl⟩)
    have hR : ∀ x ∈ ap.xs, ∃ v, R I w β lam (ev (Z.mask (unD l n L)) x) v := by
      intro x hx
      obtain ⟨y, _, rfl⟩ := hopd x hx
      exact ⟨_, hI.opd y⟩
    have hev : ∀ x ∈ ap.xs, ev (Z.mask (unD l n L)) x = ev Z x := by
      intro x hx
      cases x with
      | c x => rfl
      | t t => simp only [ev, mask_env, hlook t (hslot t hx)]; rfl
    have hg : ∀ g b, ap.guard = some (g, b) → (unD l n L).elem g = false := by
      intro g b hgb
      refine hlook g ?_
      rw [hguard] at hgb
      rw [hgb] at q2
      unfold trGuard at q2
      split at q2
      · cases q2
      · rename_i j b' ho'
        split at q2
        · rename_i d hd
          simp only [Option.some.injEq, Prod.mk.injEq] at q2
          obtain ⟨rfl, rfl⟩ := q2
          unfold Oper.looksAt
          refine List.mem_append_right _ ?_
          rw [ho']
          simp [hd]
        · cases q2
    have hfr : ∀ (i d : Nat), i < n → (opAt l i).dst = some d → done.length ≤ phase B sp0 i → (i = p ∨ done.length < phase B sp0 i) → lk Z.sto (Z.base + d) = none := by
      intro i d hin hd hge hor
      obtain ⟨tr, htr⟩ := h.tr
      rw [trace_base htr, trace_keepS htr fun ao hao d' hd' e => ?_]
      · exact h.fresh i d hin hd hge
      · obtain ⟨j, hj, rfl⟩ := List.mem_map.1 hao
        rw [show d' = d by omega] at hd'
        have := M.uniq (mem_runs.1 hj).1 hin hd' hd
        subst this
        rcases hor with rfl | hlt
        · rw [(mem_runs.1 hj).2.1] at hnE; cases hnE
        · have := (mem_runs.1 hj).2.2; omega
    have hD := unD_set M (L := L) hi his
    simp only [awpOps] at hK
    have hsm := spec_mask (D' := unD l n (L.setIfInBounds p true)) hI hR hev hg (fun t => by rw [hdst]; exact hD t) (h.hU M)
      (fun d hd => hfr p d hi (by rw [← hdst]; exact hd) (by omega) (.inl rfl)) (bare_spec hap (M.hsp p hmem)) hK
    refine oper_run (draw := true) (by rw [hap]; exact htro) ⟨I, β, lam, hI⟩ hsm fun s' a' w' hleft hH => ?_
    obtain ⟨A', hA', hsame, hbA, hfA⟩ := hleft
    have hH' := hH.same hsame
    obtain ⟨r2, rfl, hr2⟩ := chk_split hs
    have hgn := chksGo_at (B := B) (sp0 := sp0) (l := l) (n := n) (k := 0) (l1 := done) (p := p) (l2 := rest) (by rw [← h.sp]; exact M.hchk)
    rw [Nat.zero_add] at hgn
    obtain ⟨hchks, hrest⟩ := chks_of _ hgn hA'
    have hset : ∀ {j : Nat}, Ld L j → Ld (L.setIfInBounds p true) j := fun h => (ld_set his).2 (.inl h)
    have hLp : Ld (L.setIfInBounds p true) p := (ld_set his).2 (.inr rfl)
    obtain ⟨Z', rst', hPI⟩ := MPI.begin (F := F) (done := done ++ [p]) (k := done.length + 1) (sp := rest) (r2 := r2) (A := A') (L := L.setIfInBounds p true) (a := a') (w := w') (K := K) (by simp) (by rw [h.sp]; simp)
      (fun q hq => by
        rcases List.mem_append.1 hq with hq | hq
        · exact hset (h.ex q hq)
        · simp only [List.mem_singleton] at hq; subst hq; exact hLp)
      (fun q hq hLq => by
        rcases (ld_set his).1 hLq with h1 | rfl
        · exact h.nx q (by simp [hq]) h1
        · have hnd : (done ++ q :: rest).Nodup := by
            rw [← h.sp, M.hs]
            exact List.Pairwise.filter _ List.nodup_range
          have := (List.nodup_append.1 hnd).2.1
          exact (List.nodup_cons.1 this).1 hq)
      (fun j hj hLj => by
        rcases (ld_set his).1 hLj with h1 | rfl
        · exact h.out j hj h1
        · omega)
      hr2 hrest
      (fun i hin hE hlt hLi => hchks i (by
        simp only [chksAt, List.mem_filter, List.mem_range, Bool.and_eq_true, decide_eq_true_eq, Bool.not_eq_true']
        refine ⟨hin, hE, by simpa using hlt, ?_⟩
        cases hb : (B.getD p 0).testBit i with
        | false => rfl
        | true => exact absurd (hset (M.bits hc ho hdep hb)) hLi))
      (fun i d hin hd hge => by
        simp only [List.length_append, List.length_singleton] at hge
        rw [hbA]
        refine hfA _ (hfr i d hin hd (by omega) (.inr (by omega))) fun d' hd' e => ?_
        rw [hdst] at hd'
        rw [show d' = d by omega] at hd'
        have := M.uniq hi hin hd' hd
        subst this
        omega)
      (fun i hir hLi => by
        have hph := (mem_runs.1 hir).2.2
        have hiE := (mem_runs.1 hir).2.1
        rcases (ld_set his).1 hLi with h1 | rfl
        · have := phase_le h.sp h.nx fun j hj => M.bitsL hc (mem_runs.1 hir).1 h1 hj
          omega
        · rw [hiE] at hnE; cases hnE)
      hH'
    exact hk _ _ _ _ _ hPI

end
end Go.Am
