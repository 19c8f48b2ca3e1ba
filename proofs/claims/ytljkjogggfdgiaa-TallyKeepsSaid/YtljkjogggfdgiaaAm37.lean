/-
  The abstract machine, part 37: a region whose order is open, with operations in it that change what was there: the region.
-/
import Derived.Test.YtljkjogggfdgiaaAm36
namespace Go.Am
open Go.RowKit

section
variable {P : Program} {F : Frame0} {Q : Exit → Act → World → Prop} {ops : Array Oper} {l : List AOper} {n : Nat} {B : Array Nat} {sp0 : List Nat} {K : St → Prop}

theorem MPI.turn {done rest : List Nat} {A Z : St} {rst : List AOper} {L : Array Bool} {a : Act} {w : World} (M : Mix P F.N ops l n B sp0)
    (h : MPI P F ops l n B sp0 K done rest A Z rst L a w) (hall : ∀ j, j < n → Ld L j) : Holds F Z a w ∧ rst.map (bareO true) = l.drop n ∧ awpOps P rst Z K := by
  have hr : rest = [] := by
    cases rest with
    | nil => rfl
    | cons p r =>
      have : p ∈ sp0 := by rw [h.sp]; simp
      exact absurd (hall p (M.mem_sp.1 this).1) (h.nx p (by simp))
  subst hr
  have hu : ∀ t, (unD l n L).elem t = false := fun t => by
    cases hc : (unD l n L).elem t with
    | false => rfl
    | true =>
      obtain ⟨i, hi, hL, _⟩ := unD_mem.1 hc
      exact absurd (hall i hi) hL
  refine ⟨h.holds.same (.of (fun t => ?_) (fun q t => rfl) (fun k => ?_) rfl), h.hrst, h.hK⟩
  · rw [mask_env, hu]; rfl
  · rw [mask_sto]
    have : (Z.nm (unD l n L)).elem k = false := by
      cases hc : (Z.nm (unD l n L)).elem k with
      | false => rfl
      | true =>
        obtain ⟨d, h1, _⟩ := nm_elem.1 hc
        rw [hu] at h1; cases h1
    rw [this]; rfl

theorem mixed_any (M : Mix P F.N ops l n B sp0) (hn : n = prefixLen ops ops.size) (hk : ∀ s' a' w', K s' → Holds F s' a' w' → Q .normal a' w') :
    ∀ (fuel : Nat) (L : Array Bool) (a : Act) (w : World), L.size = ops.size → Closed ops L → leftN L = fuel →
      ((∃ done rest A Z rst, MPI P F ops l n B sp0 K done rest A Z rst L a w) ∨
        ∃ i si l', n ≤ i ∧ (∀ j, j < i → Ld L j) ∧ (∀ j, i ≤ j → ¬ Ld L j) ∧ Holds F si a w ∧ l'.map (bareO true) = l.drop i ∧ awpOps P l' si K) →
      wpAny P .any ops Q fuel L a w := by
  have hlen := M.len
  have fin : ∀ {i : Nat} {si : St} {l' : List AOper} {a : Act} {w : World}, ops.size ≤ i → Holds F si a w → l'.map (bareO true) = l.drop i → awpOps P l' si K → Q .normal a w := by
    intro i si l' a w hi hH hl h
    have hnil : l.drop i = [] := List.eq_nil_of_length_eq_zero (by simp; omega)
    rw [hnil] at hl
    rw [List.map_eq_nil_iff.1 hl] at h
    exact hk _ _ _ h hH
  intro fuel
  induction fuel with
  | zero =>
    intro L a w hsz hc hf h
    have hall : ∀ j, j < ops.size → Ld L j := fun j hj => leftN_zero hf (by omega)
    refine ⟨?_, ?_⟩
    · refine List.eq_nil_iff_forall_not_mem.2 fun i hi => ?_
      obtain ⟨o, ho, h2, _⟩ := ready_iff.1 hi
      have hlt : i < ops.size := (Array.getElem?_eq_some_iff.1 ho).1
      exact not_ld (by omega) h2 (hall i hlt)
    · rcases h with ⟨done, rest, A, Z, rst, hP⟩ | ⟨i, si, l', h1, h2, h3, h4, h5, h6⟩
      · have hnle := M.hn
        have hn' : n = ops.size := by
          rcases Nat.lt_or_ge n ops.size with hlt | hge
          · exact absurd (hall n hlt) (hP.out n (Nat.le_refl _))
          · omega
        obtain ⟨t1, t2, t3⟩ := hP.turn M fun j hj => hall j (by omega)
        exact fin (i := n) (by omega) t1 t2 t3
      · have : ops.size ≤ i := by
          rcases Nat.lt_or_ge i ops.size with hlt | hge
          · exact absurd (hall i hlt) (h3 i (Nat.le_refl _))
          · exact hge
        exact fin this h4 h5 h6
  | succ fuel ih =>
    intro L a w hsz hc hf h
    refine ⟨fun hnil => absurd hnil (ready_ex M.hb hsz (by omega)), fun i hi => ?_⟩
    obtain ⟨o, ho, hL, hdep⟩ := ready_iff.1 hi
    have hlt : i < ops.size := (Array.getElem?_eq_some_iff.1 ho).1
    have hnl := not_ld (L := L) (by omega) hL
    have hleft : leftN (L.setIfInBounds i true) = fuel := by
      have := leftN_set (L := L) (by omega) hnl
      omega
    have hc' := closed_set hc hsz ho hdep
    have hsz' : (L.setIfInBounds i true).size = ops.size := by simpa using hsz
    unfold wpOp
    rw [ho]
    simp only
    have both : (if Region.wanted o (yielded ops a.tmps) then o.wp P a w (wpAny P .any ops Q fuel (L.setIfInBounds i true)) Q else wpAny P .any ops Q fuel (L.setIfInBounds i true) (a.put o.dst undef) w) →
        (if Region.wanted o (yielded ops a.tmps) then o.wp P a w (wpAny P .any ops Q fuel (L.setIfInBounds i true)) Q ∨ (o.asks P a w ∧ LetsOut Q) else wpAny P .any ops Q fuel (L.setIfInBounds i true) (a.put o.dst undef) w) := by
      intro h
      split at h
      · rename_i hw; rw [if_pos hw]; exact .inl h
      · rename_i hw; rw [if_neg hw]; exact h
    refine both ?_
    have second : ∀ {si : St} {l' : List AOper}, n ≤ i → (∀ j, j < i → Ld L j) → (∀ j, i ≤ j → ¬ Ld L j) → Holds F si a w → l'.map (bareO true) = l.drop i → awpOps P l' si K →
        (if Region.wanted o (yielded ops a.tmps) then o.wp P a w (wpAny P .any ops Q fuel (L.setIfInBounds i true)) Q else wpAny P .any ops Q fuel (L.setIfInBounds i true) (a.put o.dst undef) w) := by
      intro si l' h1 h2 h3 h4 h5 h6
      obtain ⟨htro, hao⟩ := M.at ho
      have hdrop : l.drop i = opAt l i :: l.drop (i + 1) := by
        have hil : i < l.length := by omega
        rw [List.drop_eq_getElem_cons hil]
        rw [List.getElem?_eq_getElem hil] at hao
        simp only [Option.some.injEq] at hao
        rw [hao]
      rw [hdrop] at h5
      cases l' with
      | nil => cases h5
      | cons ap l'' =>
        simp only [List.map_cons, List.cons.injEq] at h5
        simp only [awpOps] at h6
        refine oper_run (draw := true) (by rw [h5.1]; exact htro) h4 h6 fun s' a' w' hK hH => ih _ _ _ hsz' hc' hleft (.inr ⟨i + 1, s', l'', by omega, fun j hj => ?_, fun j hj hLj => ?_, hH, h5.2, hK⟩)
        · rcases Nat.lt_or_ge j i with hji | hji
          · exact (ld_set (by omega)).2 (.inl (h2 j hji))
          · exact (ld_set (by omega)).2 (.inr (by omega))
        · rcases (ld_set (by omega)).1 hLj with h | h
          · exact h3 j (by omega) h
          · omega
    rcases h with ⟨done, rest, A, Z, rst, hP⟩ | ⟨q, si, l', h1, h2, h3, h4, h5, h6⟩
    · by_cases hin : i < n
      · cases hE : isE (opAt l i).op with
        | true => exact hP.free M hc hsz hin ho hE hnl hdep fun a' w' hP' => ih _ _ _ hsz' hc' hleft (.inl ⟨_, _, _, _, _, hP'⟩)
        | false =>
          have hm : i ∈ sp0 := M.mem_sp.2 ⟨hin, hE⟩
          rw [hP.sp] at hm
          rcases List.mem_append.1 hm with hm | hm
          · exact absurd (hP.ex i hm) hnl
          · obtain ⟨r1, r2, rfl⟩ := List.append_of_mem hm
            have hq := M.hseq
            rw [show spSeq B sp0 0 sp0 = spSeq B sp0 0 ((done ++ r1) ++ i :: r2) by rw [hP.sp]; simp] at hq
            have h1 := spSeq_at hq
            have h2 := phase_le hP.sp hP.nx (i := i) fun j hj => M.bits hc ho hdep hj
            simp only [List.length_append] at h1
            have : r1 = [] := List.eq_nil_of_length_eq_zero (by omega)
            subst this
            exact hP.spec M hc hsz ho hdep fun a' w' A' Z' rst' hP' => ih _ _ _ hsz' hc' hleft (.inl ⟨_, _, _, _, _, hP'⟩)
      · have hw : waits ops i = true := prefixLen_waits ops ops.size i (by omega) hlt
        have hall : ∀ j, j < i → Ld L j := fun j hj => waits_spec hc ho hdep (waits_all hw hj)
        have hin' : i = n := by
          rcases Nat.lt_or_ge n i with hlt' | hge
          · exact absurd (hall n hlt') (hP.out n (Nat.le_refl _))
          · omega
        obtain ⟨t1, t2, t3⟩ := hP.turn M fun j hj => hall j (by omega)
        exact second (by omega) hall (fun j hj => hP.out j (by omega)) t1 (by rw [hin']; exact t2) t3
    · have hiq : i = q := by
        rcases Nat.lt_trichotomy i q with hlt' | he | hgt
        · exact absurd (h2 i hlt') hnl
        · exact he
        · have hw : waits ops i = true := prefixLen_waits ops ops.size i (by omega) hlt
          exact absurd (waits_spec hc ho hdep (waits_all hw hgt)) (h3 q (Nat.le_refl _))
      subst hiq
      exact second h1 h2 h3 h4 h5 h6

theorem freshP_mem {σ : List (Nat × Entry)} {b d : Nat} : ∀ {ds : List Nat}, freshP σ b ds → d ∈ ds → lk σ (b + d) = none
  | [], _, h => by cases h
  | e :: ds, h, hd => by
    rcases List.mem_cons.1 hd with rfl | hd
    · exact h.1
    · exact freshP_mem h.2 hd

theorem mixOk_inv {N : Nat} (hl : trOpers P N ops ops.toList = some l) (h : mixOk P ops (Region.before ops) l (prefixLen ops ops.size) = true) :
    Mix P N ops l (prefixLen ops ops.size) (Region.before ops) (spAll l (prefixLen ops ops.size)) ∧ P.follows .mixedOrders = true := by
  simp only [mixOk, Bool.and_eq_true] at h
  obtain ⟨⟨⟨⟨⟨⟨⟨h0, h1⟩, h2⟩, h3⟩, h4⟩, h5⟩, h6⟩, h7⟩ := h
  exact ⟨⟨hl, prefixLen_le _ _, rfl, rfl, h1, h0, fun i hi => List.all_eq_true.1 h3 i (by simpa using hi), fun i hi => List.all_eq_true.1 h4 i (by simpa using hi), fun p hp => List.all_eq_true.1 h5 p hp, h6, h7⟩, h2⟩

theorem mixed_region {id : Nat} {lp : List AOper} {s : St} {a : Act} {w : World} (hl : trOpers P F.N ops ops.toList = some l) (hm : mixOk P ops (Region.before ops) l (prefixLen ops ops.size) = true)
    (hlp : planAll (Region.before ops) l (prefixLen ops ops.size) = lp.map (bareO true)) (hH : Holds F s a w) (h : awpOps P lp s K)
    (hk : ∀ s' a' w', K s' → Holds F s' a' w' → Q .normal a' w') : (Code.region id ops true).wp P Q a w := by
  obtain ⟨M, hmo⟩ := mixOk_inv hl hm
  refine wp_region_any hmo ?_
  have hL : ∀ j, ¬ Ld (Array.replicate ops.size false) j := fun j h => by
    unfold Ld at h
    by_cases hj : j < ops.size <;> simp [hj] at h
  cases lp with
  | nil => cases hlp
  | cons st r2 =>
    simp only [planAll, List.map_cons, List.cons.injEq] at hlp
    obtain ⟨hst, hr2⟩ := hlp
    have hst' : st = ⟨none, .start (dstsOf l (prefixLen ops ops.size)), [], none⟩ := by
      obtain ⟨d, op, xs, g⟩ := st
      simp only [bareO, AOper.mk.injEq] at hst ⊢
      obtain ⟨rfl, h2, rfl, rfl⟩ := hst
      refine ⟨rfl, ?_, rfl, rfl⟩
      cases op <;> simp only [bareOp, if_true, reduceCtorEq] at h2 ⊢
      exact h2.symm
    subst hst'
    simp only [awpOps] at h
    unfold awpOper at h
    simp only at h
    unfold awpOp at h
    simp only at h
    obtain ⟨hf, h⟩ := h
    have hmem : ∀ {t : Nat}, (unD l (prefixLen ops ops.size) (Array.replicate ops.size false)).elem t = true ↔ t ∈ dstsOf l (prefixLen ops ops.size) := by
      intro t
      rw [unD_mem]
      simp only [dstsOf, List.mem_filterMap, List.mem_range]
      exact ⟨fun ⟨i, h1, _, h3⟩ => ⟨i, h1, h3⟩, fun ⟨i, h1, h3⟩ => ⟨i, h1, hL i, h3⟩⟩
    have hH2 : Holds F (s.drop (dstsOf l (prefixLen ops ops.size))) a { w with drawn := w.drawn + 1 } := by
      obtain ⟨I, β, lam, hI⟩ := holds_drop (D := dstsOf l (prefixLen ops ops.size)) hH
      exact ⟨I, β, lam, hI.grow (w' := { w with drawn := w.drawn + 1 }) ((Below.refl _ _).drew) (fun _ _ h => h) (fun _ _ h => .inl h)⟩
    obtain ⟨Z, rst, hPI⟩ := MPI.begin (F := F) (P := P) (ops := ops) (l := l) (n := prefixLen ops ops.size) (B := Region.before ops) (sp0 := spAll l (prefixLen ops ops.size)) (done := []) (k := 0) (sp := spAll l (prefixLen ops ops.size)) (r2 := r2)
      (A := { s with env := del (dstsOf l (prefixLen ops ops.size)) s.env }) (L := Array.replicate ops.size false) (a := a) (w := { w with drawn := w.drawn + 1 }) (K := K) rfl rfl (by simp) (fun p _ => hL p) (fun j _ => hL j) hr2.symm h
      (fun i _ _ hlt => by simp at hlt)
      (fun i d hi hd _ => freshP_mem hf (by simp only [dstsOf, List.mem_filterMap, List.mem_range]; exact ⟨i, hi, hd⟩))
      (fun i _ => hL i)
      (hH2.same (.of (fun t => by
          rw [mask_env]
          split
          · rename_i hc
            show lk (del _ s.env) t = none
            rw [lk_del, if_pos (by simpa using hmem.1 hc)]
          · rfl) (fun q t => rfl) (fun k => by
          rw [mask_sto]
          split
          · rename_i hc
            obtain ⟨d, h1, rfl⟩ := nm_elem.1 hc
            exact freshP_mem hf (hmem.1 h1)
          · rfl) rfl))
    exact mixed_any M rfl hk ops.size _ a _ (by simp) (fun i o ho h => absurd h (hL i)) (by unfold leftN; simp) (.inl ⟨_, _, _, _, _, hPI⟩)

end
end Go.Am
