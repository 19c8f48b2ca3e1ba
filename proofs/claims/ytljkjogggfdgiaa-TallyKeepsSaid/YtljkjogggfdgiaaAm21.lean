/-
  The abstract machine, part 21: code, and functions.
-/
import Derived.Test.YtljkjogggfdgiaaAm20
namespace Go.Am
open Go.RowKit

section
variable {P : Program} {F : Frame0} {Q : Exit → Act → World → Prop} {ops : Array Oper}

/-- How many have not come up. -/
def leftN (L : Array Bool) : Nat := L.toList.count false

theorem count_set : ∀ (l : List Bool) (i : Nat), l[i]? = some false → (l.set i true).count false + 1 = l.count false := by
  intro l
  induction l with
  | nil => intro i h; simp at h
  | cons b l ih =>
    intro i h
    cases i with
    | zero => simp at h; subst h; simp
    | succ i =>
      simp at h
      have := ih i h
      simp only [List.set_cons_succ, List.count_cons]
      omega

theorem leftN_set {L : Array Bool} {i : Nat} (hi : i < L.size) (h : ¬ Ld L i) : leftN (L.setIfInBounds i true) + 1 = leftN L := by
  unfold leftN
  rw [Array.toList_setIfInBounds]
  refine count_set _ _ ?_
  unfold Ld at h
  have h1 : L.toList[i]? = some L[i] := by simp [hi]
  rw [h1]
  simp [hi] at h
  rw [h]

theorem leftN_zero {L : Array Bool} (h : leftN L = 0) {i : Nat} (hi : i < L.size) : Ld L i := by
  unfold leftN at h
  have := List.count_eq_zero.1 h
  unfold Ld
  simp only [hi, Array.getD_eq_getD_getElem?, Array.getElem?_eq_getElem, Option.getD_some]
  cases hb : L[i] with
  | true => rfl
  | false => exact absurd (by rw [← hb]; simp) this

theorem leftN_pos {L : Array Bool} (h : leftN L ≠ 0) : ∃ i, i < L.size ∧ ¬ Ld L i := by
  unfold leftN at h
  have : false ∈ L.toList := by
    refine Classical.byContradiction fun hn => h (List.count_eq_zero.2 hn)
  obtain ⟨i, hi, hv⟩ := List.getElem_of_mem this
  have hi' : i < L.size := by simpa using hi
  refine ⟨i, hi', ?_⟩
  unfold Ld
  simp at hv
  simp [hi', hv]

theorem ready_ex {L : Array Bool} (hb : edgesBack ops = true) (hsz : L.size = ops.size) (h : leftN L ≠ 0) : Region.ready .any ops L ≠ [] := by
  have hex := leftN_pos h
  -- the least that has not come up
  have : ∀ n, (∃ i, i ≤ n ∧ i < L.size ∧ ¬ Ld L i) → ∃ i, i < L.size ∧ ¬ Ld L i ∧ ∀ j, j < i → Ld L j := by
    intro n
    induction n with
    | zero =>
      rintro ⟨i, h1, h2, h3⟩
      exact ⟨i, h2, h3, fun j hj => by omega⟩
    | succ n ih =>
      rintro ⟨i, h1, h2, h3⟩
      by_cases hc : ∃ i, i ≤ n ∧ i < L.size ∧ ¬ Ld L i
      · exact ih hc
      · refine ⟨i, h2, h3, fun j hj => Classical.byContradiction fun hn => hc ⟨j, by omega, by omega, hn⟩⟩
  obtain ⟨i0, g1, g2⟩ := hex
  obtain ⟨i, h1, h2, h3⟩ := this i0 ⟨i0, Nat.le_refl _, g1, g2⟩
  have hi : i < ops.size := by omega
  have : i ∈ Region.ready .any ops L := by
    refine ready_iff.2 ⟨ops[i], by simp [hi], ?_, fun e he hbd => ?_⟩
    · unfold Ld at h2
      have hv : L[i] = false := by simpa [h1] using h2
      simp [h1, hv]
    · unfold edgesBack at hb
      have := List.all_eq_true.1 hb i (by simpa using hi)
      simp only [hi, Array.getElem?_eq_getElem] at this
      have := Array.all_eq_true'.1 this e (by simpa using he)
      simp only [hbd, Bool.not_true, Bool.false_or, decide_eq_true_eq] at this
      exact h3 _ this
  intro hnil
  rw [hnil] at this
  cases this

theorem not_ld {L : Array Bool} {i : Nat} (hi : i < L.size) (h : L.getD i true = false) : ¬ Ld L i := by
  unfold Ld
  have hv : L[i] = false := by simpa [hi] using h
  simp [hi, hv]

theorem closed_set {L : Array Bool} (hc : Closed ops L) (hsz : L.size = ops.size) {i : Nat} {o : Oper} (ho : ops[i]? = some o) (hd : ∀ e ∈ o.after.toList, Region.binds .any e = true → Ld L e.on) : Closed ops (L.setIfInBounds i true) := by
  have hi : i < L.size := by rw [hsz]; exact (Array.getElem?_eq_some_iff.1 ho).1
  intro j q hq hLj e he hb
  rcases (ld_set hi).1 hLj with h | rfl
  · exact (ld_set hi).2 (.inl (hc j q hq h e he hb))
  · rw [ho] at hq
    cases hq
    exact (ld_set hi).2 (.inl (hd e he hb))

theorem drawn_any {l : List AOper} {tr : List (AV × Option Entry)} {s sn : St} {K : St → Prop} (hl : trOpers P F.N ops ops.toList = some (l.map (bareO true))) (hb : edgesBack ops = true)
    (hfree : ∀ j, j < prefixLen ops ops.size → freeOk P ops (prefixLen ops ops.size) j = true) (htr : Trace P (l.take (prefixLen ops ops.size)) s tr sn) (hrest : awpOps P (l.drop (prefixLen ops ops.size)) sn K)
    (hk : ∀ s' a' w', K s' → Holds F s' a' w' → Q .normal a' w') :
    ∀ (fuel : Nat) (L : Array Bool) (a : Act) (w : World), L.size = ops.size → Closed ops L → leftN L = fuel →
      ((Part F l (prefixLen ops ops.size) tr s L a w ∧ ∀ j, prefixLen ops ops.size ≤ j → ¬ Ld L j) ∨
        ∃ i si, prefixLen ops ops.size ≤ i ∧ (∀ j, j < i → Ld L j) ∧ (∀ j, i ≤ j → ¬ Ld L j) ∧ Holds F si a w ∧ awpOps P (l.drop i) si K) →
      wpAny P .any ops Q fuel L a w := by
  obtain ⟨hlen, hget0⟩ := trOpers_get _ _ hl
  have hlen' : l.length = ops.size := by simpa using hlen
  have hget : ∀ (i : Nat) (o : Oper), ops.toList[i]? = some o → ∃ ao, l[i]? = some ao ∧ trOper P F.N ops o = some (bareO true ao) := fun i o h => by
    obtain ⟨ao, h1, h2⟩ := hget0 i o h
    simp only [List.getElem?_map, Option.map_eq_some_iff] at h1
    obtain ⟨ao', h1, rfl⟩ := h1
    exact ⟨ao', h1, h2⟩
  have hpl := prefixLen_le ops ops.size
  generalize hn : prefixLen ops ops.size = n at *
  -- where all of the first part have come up
  have turn : ∀ {L : Array Bool} {a : Act} {w : World}, Part F l n tr s L a w → (∀ j, j < n → Ld L j) → Holds F sn a w := by
    rintro L a w ⟨I, β, lam, e, σ, hI, hPe, hPo, hPs⟩ hall
    have huq : ∀ (i j : Nat) (x y : AOper) (t : Nat), (l.take n)[i]? = some x → (l.take n)[j]? = some y → x.dst = some t → y.dst = some t → i = j := by
      intro i j x y t h1 h2 h3 h4
      have g : ∀ {p : Nat} {z : AOper}, (l.take n)[p]? = some z → p < n ∧ l[p]? = some z := by
        intro p z hp
        rw [List.getElem?_take] at hp
        split at hp
        · rename_i hpn; exact ⟨hpn, hp⟩
        · cases hp
      obtain ⟨a1, a2⟩ := g h1
      obtain ⟨b1, b2⟩ := g h2
      have dstOf : ∀ {q : Nat} {z : AOper}, l[q]? = some z → ∃ oq, ops[q]? = some oq ∧ z.dst = oq.dst := fun {q z} hz => by
        have hlt : q < ops.size := by
          have := (List.getElem?_eq_some_iff.1 hz).1
          omega
        obtain ⟨ao', h1, h2⟩ := hget q ops[q] (by simp [hlt])
        rw [hz] at h1
        cases h1
        exact ⟨ops[q], by simp [hlt], (trOper_inv h2).2.2.1⟩
      obtain ⟨o1, c1, c2⟩ := dstOf a2
      obtain ⟨o2, d1, d2⟩ := dstOf b2
      obtain ⟨o3, _, _, e1, _, _, e2, _⟩ := freeOk_inv (hfree j b1)
      rw [d1] at e1
      cases e1
      exact e2 t i o1 (by rw [← d2]; exact h4) a1 c1 (by rw [← c2]; exact h3)
    obtain ⟨henv, hsto⟩ := trace_env htr huq
    have mk1 : ∀ {q : Nat} {z : AOper}, q < n → l[q]? = some z → (l.take n)[q]? = some z := fun {q z} hq hz => by rw [List.getElem?_take, if_pos hq]; exact hz
    have g : ∀ {p : Nat} {z : AOper}, (l.take n)[p]? = some z → p < n ∧ l[p]? = some z := by
      intro p z hp
      rw [List.getElem?_take] at hp
      split at hp
      · rename_i hpn; exact ⟨hpn, hp⟩
      · cases hp
    have e1 : e = sn.look := by
      funext t
      obtain ⟨d, t⟩ := t
      cases d with
      | succ d =>
        rw [hPo d t]
        simp only [St.look, trace_out htr]
      | zero =>
        simp only [St.look]
        rcases hPe t with ⟨i, ao, x, en, b0, b1, b2, b3, b4, b5⟩ | ⟨b1, b2⟩
        · rcases henv t with ⟨i', ao', x', en', c1, c2, c3, c4⟩ | ⟨c1, c2⟩
          · have := huq i i' ao ao' t (mk1 b0 b1) c1 b3 c3
            subst this
            rw [b2] at c2
            cases c2
            rw [b5, c4]
          · exact absurd b3 (c1 i ao (mk1 b0 b1))
        · rcases henv t with ⟨i', ao', x', en', c1, c2, c3, c4⟩ | ⟨c1, c2⟩
          · obtain ⟨d1, d2⟩ := g c1
            exact absurd c3 (b1 i' ao' d1 d2 (hall _ d1))
          · rw [b2, c2]
    have e2 : σ = lk sn.sto := by
      funext k
      rcases hPs k with ⟨i, ao, x, en, d, b0, b1, b2, b3, bk, b4, b5⟩ | ⟨b1, b2⟩
      · rcases hsto k with ⟨i', ao', x', en', d', c1, c2, c3, ck, c4, _⟩ | ⟨c1, c2⟩
        · have hdd : d = d' := by omega
          subst hdd
          have := huq i i' ao ao' d (mk1 b0 b1) c1 b3 c3
          subst this
          rw [b2] at c2
          cases c2
          rw [b5, c4]
        · have := c1 i ao x _ d (mk1 b0 b1) b2 b3 bk
          cases this
      · rcases hsto k with ⟨i', ao', x', en', d', c1, c2, c3, ck, c4, _⟩ | ⟨c1, c2⟩
        · obtain ⟨d1, d2⟩ := g c1
          have := b1 i' ao' x' _ d' d1 d2 c2 (hall _ d1) c3 ck
          cases this
        · rw [b2, c2]
    exact ⟨I, β, lam, by rw [← e1, ← e2]; exact hI⟩
  -- where all have come up
  have fin : ∀ {i : Nat} {si : St} {a : Act} {w : World}, ops.size ≤ i → Holds F si a w → awpOps P (l.drop i) si K → Q .normal a w := by
    intro i si a w hi hH h
    have hnil : l.drop i = [] := List.eq_nil_of_length_eq_zero (by simp; omega)
    rw [hnil] at h
    exact hk _ _ _ h hH
  intro fuel
  induction fuel with
  | zero =>
    intro L a w hsz hc hf h
    have hall : ∀ j, j < ops.size → Ld L j := fun j hj => leftN_zero hf (by omega)
    refine ⟨?_, ?_⟩
    · refine List.eq_nil_iff_forall_not_mem.2 fun i hi => ?_
      obtain ⟨o, ho, h2, _⟩ := ready_iff.1 hi
      have hlt : i < ops.size := (Array.getElem?_eq_some_iff.1 ho).1
      exact not_ld (by omega) h2 (hall i hlt)
    · rcases h with ⟨hP, hno⟩ | ⟨i, si, h1, h2, h3, h4, h5⟩
      · have hn' : n = ops.size := by
          rcases Nat.lt_or_ge n ops.size with hlt | hge
          · exact absurd (hall n hlt) (hno n (Nat.le_refl _))
          · omega
        exact fin (i := n) (by omega) (turn hP (fun j hj => hall j (by omega))) hrest
      · have : ops.size ≤ i := by
          rcases Nat.lt_or_ge i ops.size with hlt | hge
          · exact absurd (hall i hlt) (h3 i (Nat.le_refl _))
          · exact hge
        exact fin this h4 h5
  | succ fuel ih =>
    intro L a w hsz hc hf h
    refine ⟨fun hnil => absurd hnil (ready_ex hb hsz (by omega)), fun i hi => ?_⟩
    obtain ⟨o, ho, hL, hdep⟩ := ready_iff.1 hi
    have hlt : i < ops.size := (Array.getElem?_eq_some_iff.1 ho).1
    have hnl := not_ld (L := L) (by omega) hL
    have hleft : leftN (L.setIfInBounds i true) = fuel := by
      have := leftN_set (L := L) (by omega) hnl
      omega
    have hc' := closed_set hc hsz ho hdep
    have hsz' : (L.setIfInBounds i true).size = ops.size := by simpa using hsz
    unfold wpOp
    rw [ho]
    simp only
    -- both ways of 'wanted'
    have both : (if Region.wanted o (yielded ops a.tmps) then o.wp P a w (wpAny P .any ops Q fuel (L.setIfInBounds i true)) Q else wpAny P .any ops Q fuel (L.setIfInBounds i true) (a.put o.dst undef) w) →
        (if Region.wanted o (yielded ops a.tmps) then o.wp P a w (wpAny P .any ops Q fuel (L.setIfInBounds i true)) Q ∨ (o.asks P a w ∧ LetsOut Q) else wpAny P .any ops Q fuel (L.setIfInBounds i true) (a.put o.dst undef) w) := by
      intro h
      split at h
      · rename_i hw; rw [if_pos hw]; exact .inl h
      · rename_i hw; rw [if_neg hw]; exact h
    refine both ?_
    -- the second part
    have second : ∀ {si : St}, n ≤ i → (∀ j, j < i → Ld L j) → (∀ j, i ≤ j → ¬ Ld L j) → Holds F si a w → awpOps P (l.drop i) si K →
        (if Region.wanted o (yielded ops a.tmps) then o.wp P a w (wpAny P .any ops Q fuel (L.setIfInBounds i true)) Q else wpAny P .any ops Q fuel (L.setIfInBounds i true) (a.put o.dst undef) w) := by
      intro si h1 h2 h3 h4 h5
      obtain ⟨ao, hao, htro⟩ := hget i o (by simpa using ho)
      have hdrop : l.drop i = ao :: l.drop (i + 1) := by
        have hil : i < l.length := by omega
        rw [List.drop_eq_getElem_cons hil]
        rw [List.getElem?_eq_getElem hil] at hao
        simp only [Option.some.injEq] at hao
        rw [hao]
      rw [hdrop] at h5
      simp only [awpOps] at h5
      refine oper_run htro h4 h5 fun s' a' w' hK hH => ih _ _ _ hsz' hc' hleft (.inr ⟨i + 1, s', by omega, fun j hj => ?_, fun j hj hLj => ?_, hH, hK⟩)
      · rcases Nat.lt_or_ge j i with hji | hji
        · exact (ld_set (by omega)).2 (.inl (h2 j hji))
        · exact (ld_set (by omega)).2 (.inr (by omega))
      · rcases (ld_set (by omega)).1 hLj with h | h
        · exact h3 j (by omega) h
        · omega
    rcases h with ⟨hP, hno⟩ | ⟨q, si, h1, h2, h3, h4, h5⟩
    · by_cases hin : i < n
      · refine part_step hl hfree htr hsz hin ho hnl hdep hP fun a' w' hP' => ih _ _ _ hsz' hc' hleft (.inl ⟨hP', fun j hj hLj => ?_⟩)
        rcases (ld_set (by omega)).1 hLj with h | h
        · exact hno j hj h
        · omega
      · have hw : waits ops i = true := prefixLen_waits ops ops.size i (by omega) hlt
        have hall : ∀ j, j < i → Ld L j := fun j hj => waits_spec hc ho hdep (waits_all hw hj)
        have hin' : i = n := by
          rcases Nat.lt_or_ge n i with hlt' | hge
          · exact absurd (hall n hlt') (hno n (Nat.le_refl _))
          · omega
        subst hin'
        exact second (Nat.le_refl _) hall hno (turn hP hall) hrest
    · have hiq : i = q := by
        rcases Nat.lt_trichotomy i q with hlt' | he | hgt
        · exact absurd (h2 i hlt') hnl
        · exact he
        · have hw : waits ops i = true := prefixLen_waits ops ops.size i (by omega) hlt
          exact absurd (waits_spec hc ho hdep (waits_all hw hgt)) (h3 q (Nat.le_refl _))
      subst hiq
      exact second h1 h2 h3 h4 h5

theorem drawn_region {id : Nat} {l : List AOper} {s : St} {a : Act} {w : World} {K : St → Prop} (hl : trOpers P F.N ops ops.toList = some (l.map (bareO true))) (hd : drawOk P ops = true) (hH : Holds F s a w) (h : awpOps P l s K)
    (hk : ∀ s' a' w', K s' → Holds F s' a' w' → Q .normal a' w') : (Code.region id ops true).wp P Q a w := by
  unfold drawOk at hd
  simp only [Bool.and_eq_true] at hd
  obtain ⟨⟨hb, hm⟩, hfree⟩ := hd
  have hfree' : ∀ j, j < prefixLen ops ops.size → freeOk P ops (prefixLen ops ops.size) j = true := fun j hj => List.all_eq_true.1 hfree j (by simpa using hj)
  have hE : ∀ ao ∈ l.take (prefixLen ops ops.size), isE ao.op = true := by
    intro ao hao
    obtain ⟨i, hi⟩ := List.mem_iff_getElem?.1 hao
    rw [List.getElem?_take] at hi
    split at hi
    · rename_i hin
      obtain ⟨hlen, hget⟩ := trOpers_get _ _ hl
      have hlt : i < ops.size := by
        have := (List.getElem?_eq_some_iff.1 hi).1
        simp only [List.length_map, Array.length_toList] at hlen
        omega
      obtain ⟨ao', h1, h2⟩ := hget i ops[i] (by simp [hlt])
      simp only [List.getElem?_map, Option.map_eq_some_iff] at h1
      obtain ⟨ao2, h1, rfl⟩ := h1
      rw [hi] at h1
      cases h1
      obtain ⟨o, op, xs, ho, htr, ⟨hE, _⟩, _⟩ := freeOk_inv (hfree' i hin)
      have ho' : ops[i]? = some ops[i] := by simp [hlt]
      rw [ho'] at ho
      cases ho
      obtain ⟨h3, _⟩ := trOper_inv h2
      rw [h3] at htr
      simp only [Option.some.injEq, Prod.mk.injEq] at htr
      have hE2 : isE (bareO true ao).op = true := by rw [htr.1]; exact hE
      simp only [bareO] at hE2
      cases hop : ao.op <;> rw [hop] at hE2 <;> first | rfl | cases hE2
    · cases hi
  rw [← List.take_append_drop (prefixLen ops ops.size) l] at h
  obtain ⟨tr, sn, htr, hrest⟩ := trace_of _ _ hE h
  refine wp_region_any hm ?_
  have hL : ∀ j, ¬ Ld (Array.replicate ops.size false) j := fun j h => by
    unfold Ld at h
    by_cases hj : j < ops.size <;> simp [hj] at h
  refine drawn_any hl hb hfree' htr hrest hk ops.size _ a _ (by simp) (fun i o ho h => absurd h (hL i)) ?_ (.inl ⟨?_, fun j _ => hL j⟩)
  · unfold leftN
    simp
  · obtain ⟨I, β, lam, hI⟩ := hH
    refine ⟨I, β, lam, s.look, lk s.sto, ?_, fun t => .inr ⟨fun i ao _ _ h => absurd h (hL i), rfl⟩, fun d t => rfl, fun k => .inr ⟨fun i ao x en d _ _ _ h => absurd h (hL i), rfl⟩⟩
    exact hI.grow (w' := { w with drawn := w.drawn + 1 }) ((Below.refl _ _).drew) (fun _ _ h => h) (fun _ _ h => .inl h)

end
end Go.Am
