import Derived.Test.YtljkjogggfdgiaaT7
namespace Go.Proofs.Ytljkjogggfdgiaa
open Go Go.Am

def kpL (a b : List (List Int)) (k : Nat) : List (List Int) :=
  (List.range (max a.length b.length)).map fun i => if i ∈ (chgs a b (max a.length b.length)).take k then atL b i else atL a i
theorem kpL_len {a b : List (List Int)} {k : Nat} : (kpL a b k).length = max a.length b.length := by simp [kpL]
theorem kpL_get {a b : List (List Int)} {k i : Nat} (hi : i < (kpL a b k).length) : (kpL a b k)[i] = if i ∈ (chgs a b (max a.length b.length)).take k then atL b i else atL a i := by
  simp [kpL]
theorem chgs_nodup {a b : List (List Int)} {n : Nat} : (chgs a b n).Nodup := List.Pairwise.filter _ List.nodup_range
theorem chgs_mem {a b : List (List Int)} {n i : Nat} : i ∈ chgs a b n ↔ i < n ∧ atL a i ≠ atL b i := by simp [chgs]
theorem range_atL {a : List (List Int)} {n : Nat} (h : a.length ≤ n) : (List.range n).map (atL a) = a ++ List.replicate (n - a.length) z6 := by
  apply List.ext_getElem
  · simp; omega
  · intro i h1 h2
    by_cases hi : i < a.length
    · rw [List.getElem_append_left hi]; simp [atL_lt hi]
    · rw [List.getElem_append_right (by omega)]; simp [atL_ge (show a.length ≤ i by omega)]
theorem kpL_zero {a b : List (List Int)} : kpL a b 0 = a ++ List.replicate (max a.length b.length - a.length) z6 := by
  rw [← range_atL (by omega)]; simp [kpL]
theorem kpL_all {a b : List (List Int)} : kpL a b (chgs a b (max a.length b.length)).length = (List.range (max a.length b.length)).map (atL b) := by
  unfold kpL
  rw [List.take_length]
  apply List.map_congr_left
  intro i hi
  split
  · rfl
  · rename_i h
    rw [chgs_mem] at h
    exact Classical.byContradiction fun hne => h ⟨by simpa using hi, hne⟩
theorem kpL_step {a b : List (List Int)} {k : Nat} (hk : k < (chgs a b (max a.length b.length)).length) :
    (kpL a b k).set (chgs a b (max a.length b.length))[k] (atL b (chgs a b (max a.length b.length))[k]) = kpL a b (k + 1) := by
  apply List.ext_getElem
  · simp [kpL]
  · intro i h1 h2
    rw [List.getElem_set, kpL_get h2]
    split
    · rename_i e
      rw [if_pos]
      · rw [e]
      · rw [← e, List.take_succ_eq_append_getElem hk]; exact List.mem_append_right _ (List.mem_singleton.2 rfl)
    · rename_i e
      rw [kpL_get]
      have : i ∈ (chgs a b (max a.length b.length)).take (k + 1) ↔ i ∈ (chgs a b (max a.length b.length)).take k := by
        rw [List.take_succ_eq_append_getElem hk, List.mem_append, List.mem_singleton]
        exact ⟨fun h => h.resolve_right fun h => e h.symm, .inl⟩
      simp only [this]
theorem kpL_at {a b : List (List Int)} {k : Nat} (hk : k < (chgs a b (max a.length b.length)).length) {h : (chgs a b (max a.length b.length))[k] < (kpL a b k).length} :
    (kpL a b k)[(chgs a b (max a.length b.length))[k]] = atL a (chgs a b (max a.length b.length))[k] ∧ atL a (chgs a b (max a.length b.length))[k] ≠ atL b (chgs a b (max a.length b.length))[k] := by
  have h2 := (chgs_mem.1 (List.getElem_mem hk)).2
  refine ⟨?_, h2⟩
  rw [kpL_get, if_neg]
  intro hm
  obtain ⟨j, hj, he⟩ := List.getElem_of_mem hm
  have hjk : j < k := by simp at hj; omega
  rw [List.getElem_take] at he
  exact List.pairwise_iff_getElem.1 (chgs_nodup (a := a) (b := b) (n := max a.length b.length)) j k (by omega) hk hjk he
theorem colZ_zero {n k : Nat} : colZ (List.replicate n z6) k = 0 := by
  induction n with
  | zero => rfl
  | succ n ih =>
    simp only [List.replicate_succ, colZ, ih]
    have e : z6.getD k 0 = 0 := by
      by_cases hk : k < 6
      · match k, hk with
        | 0, _ | 1, _ | 2, _ | 3, _ | 4, _ | 5, _ => rfl
      · simp [z6, show 6 ≤ k by omega]
    omega
theorem sumL_pad {b : List (List Int)} {n : Nat} (hb : ∀ x ∈ b, x.length = 6) (mb : modL b = true) (hn : b.length + n ≤ 500) : sumL (b ++ List.replicate n z6) = sumL b := by
  have h2 : ∀ x ∈ b ++ List.replicate n z6, x.length = 6 := fun x hx => by
    rcases List.mem_append.1 hx with h | h
    · exact hb x h
    · rw [List.eq_of_mem_replicate h]; rfl
  have m2 : modL (b ++ List.replicate n z6) = true := by
    simp only [modL, Bool.and_eq_true, decide_eq_true_eq] at *
    refine ⟨List.all_eq_true.2 fun x hx => ?_, by simp; omega⟩
    rcases List.mem_append.1 hx with h | h
    · exact List.all_eq_true.1 mb.1 x h
    · rw [List.eq_of_mem_replicate h]; rfl
  rw [(sumL_mod mb).2, (sumL_mod m2).2]
  obtain ⟨a1, a2⟩ := sumZ_col h2
  obtain ⟨b1, b2⟩ := sumZ_col hb
  refine ext6 a1 b1 fun k hk => ?_
  rw [a2 k hk, b2 k hk, colZ_app, colZ_zero]
  omega
theorem ops_copy {P : Program} {s : St} {KS : St → Prop} {os : List AOper} {sz : Nat} {x y : Opd} {d : Option Nat} : awpOps P (⟨d, .copy sz, [x, y], none⟩ :: os) s KS = eCopy sz s d (opsC P os KS) [ev s x, ev s y] := propext Iff.rfl
def stK (a b : List (List Int)) (k : Nat) : St :=
  { env := [(1, .list 6 .plain (rowsOf b)), (5, .sl 33 6 0 (max a.length b.length)), (39, outV 1 (rowsN (chgs a b (max a.length b.length)))), (40, iv (chgs a b (max a.length b.length)).length), (41, iv k)],
    sto := [(33, .arr 6 (rowsOf (kpL a b k)))] }
def stG (b G : List (List Int)) (n k : Nat) : St :=
  { env := [(1, .list 6 .plain (rowsOf b)), (5, .sl 33 6 0 n), (71, iv n), (72, iv k)], sto := [(33, .arr 6 (rowsOf G))] }
set_option maxRecDepth 20000 in
theorem law_keeps {a b : List (List Int)} (ha : ∀ x ∈ a, x.length = 6) (hb : ∀ x ∈ b, x.length = 6) (hna : a.length < 4611686018427387904) (hnb : b.length < 4611686018427387904) :
    SoundCall Try.prog F_law35_TallyKeeps [.list 6 .plain (rowsOf a), .list 6 .plain (rowsOf b)] (bv true) := by
  have fin : ∀ {K : AV → Option Entry → Prop} {σ : Nat → Option Entry}, K (bv true) none → eCall Try.prog F_law35_awake σ [] K := fun h => eCall_i (xs := []) (args := []) awake_sound rfl (.inl rfl) h
  refine sound' t_law35_TallyKeeps (by simp) ?_
  simp [c_law35_TallyKeeps]
  refine eCall_i (moderate_sound (m := .plain) ha hna) (by simp) (by simp) ?_
  cases ma : modL a
  · simp
    refine fin ?_
    simp [r_law35_TallyKeeps]
  simp
  refine eCall_i (moderate_sound (m := .plain) hb hnb) (by simp) (by simp) ?_
  cases mb : modL b
  · simp
    refine fin ?_
    simp [r_law35_TallyKeeps]
  by_cases ha5 : 500 < a.length
  · have e : (500 : Int) < a.length := by omega
    simp [e]
    refine fin ?_
    simp [r_law35_TallyKeeps]
  by_cases hb5 : 500 < b.length
  · have e0 : ¬ (500 : Int) < a.length := by omega
    have e : (500 : Int) < b.length := by omega
    simp [e, e0]
    refine fin ?_
    simp [r_law35_TallyKeeps]
  have e1 : ¬ (500 : Int) < a.length := by omega
  have e2 : ¬ (500 : Int) < b.length := by omega
  have em : max (a.length : Int) b.length = ((max a.length b.length : Nat) : Int) := by omega
  have dr : List.drop a.length (List.replicate (max a.length b.length) (z6.map iv)) = rowsOf (List.replicate (max a.length b.length - a.length) z6) := by simp
  have ez : [iv 0, iv 0, iv 0, iv 0, iv 0, iv 0] = z6.map iv := rfl
  have ca : stm Am.Mode.plain = Am.Mode.plain := rfl
  have hrows : rowsOf a ++ rowsOf (List.replicate (max a.length b.length - a.length) z6) = rowsOf (kpL a b 0) := by rw [kpL_zero]; simp
  have hkl := kpL_len (a := a) (b := b) (k := 0)
  have hz : z6.length = 6 := rfl
  simp only [List.map_replicate] at hrows
  simp [e1, e2, em, eMk, ez, ops_copy, eCopy, cpRows, addRows, dr, St.put, hz]
  refine ⟨by omega, by omega, by omega, ?_⟩
  rw [hrows]
  refine eCall_i (changes_sound (m1 := .plain) (m2 := .plain) ha hb (by omega) rfl rfl) (by simp) (by simp) ?_
  simp
  refine awp_for (stK a b) (chgs a b (max a.length b.length)).length ?_ (fun k hk => ?_) ?_
  · simp [stK]
  · obtain ⟨g1, g2⟩ := chgs_mem.1 (List.getElem_mem hk)
    have hkl' := kpL_len (a := a) (b := b) (k := k)
    have hst := kpL_step hk
    have hat := (kpL_at hk (h := by rw [hkl']; exact g1)).1
    have hlt : (chgs a b (max a.length b.length))[k] < (kpL a b k).length := by rw [hkl']; exact g1
    have hlc : (chgs a b (max a.length b.length)).length ≤ max a.length b.length := chgs_len
    have l1 := atL_len (i := (chgs a b (max a.length b.length))[k]) ha
    have l2 := atL_len (i := (chgs a b (max a.length b.length))[k]) hb
    have hC : ¬ chgs a b (max a.length b.length) = [] := fun e => by rw [e] at hk; simp at hk
    have ek : (k : Int) < (chgs a b (max a.length b.length)).length := by omega
    generalize hi : (chgs a b (max a.length b.length))[k] = i at *
    have c1 : ¬ (i : Int) < 0 := by omega
    have c2 : ¬ ((max a.length b.length : Nat) : Int) ≤ (i : Int) := by omega
    have hq : (kpL a b k)[i]? = some (atL a i) := by rw [List.getElem?_eq_getElem hlt, hat]
    simp [c_law35_TallyKeeps_l0, stK, ek, hk, hC, hi, c1, c2, hkl', hat, g1, l1]
    refine eCall_i (atR_sound (m := .plain) (i := i) hb) (by simp) (by simp) ?_
    simp [eql_bun, l1, l2, g2]
    refine eCall_i (atR_sound (m := .plain) (i := i) hb) (by simp) (by simp) ?_
    simp [hkl', hat, g1, l2, l1, wrap_succ (show k < 4611686018427387904 by omega), stK]
    rw [← hst]
    simp only [rowsOf, List.map_set]
  · have hall := kpL_all (a := a) (b := b)
    have hlen : ((List.range (max a.length b.length)).map (atL b)).length = max a.length b.length := by simp
    have hpad := range_atL (a := b) (n := max a.length b.length) (by omega)
    have hln := kpL_len (a := a) (b := b) (k := (chgs a b (max a.length b.length)).length)
    have hsum : sumL (kpL a b (chgs a b (max a.length b.length)).length) = sumL b := by rw [hall, hpad]; exact sumL_pad hb mb (by omega)
    have h6 : ∀ x ∈ kpL a b (chgs a b (max a.length b.length)).length, x.length = 6 := by
      intro x hx
      rw [hall] at hx
      obtain ⟨i, _, rfl⟩ := List.mem_map.1 hx
      exact atL_len hb
    have hget : ∀ i, i < max a.length b.length → (kpL a b (chgs a b (max a.length b.length)).length)[i]? = some (atL b i) := by
      intro i hi
      rw [hall]; simp [hi]
    simp [c_law35_TallyKeeps_l0, stK, c_law35_TallyKeeps_k3]
    clear hall
    generalize kpL a b (chgs a b (max a.length b.length)).length = G at *
    refine awp_for (stG b G (max a.length b.length)) (max a.length b.length) ?_ (fun k hk => ?_) ?_
    · simp [stG]
    · have ek : (k : Int) < (max a.length b.length : Nat) := by omega
      have hgk : G[k]'(by omega) = atL b k := by
        have := hget k hk
        rw [List.getElem?_eq_getElem (by omega)] at this
        simpa using this
      have l2 := atL_len (i := k) hb
      simp [c_law35_TallyKeeps_l1, stG, ek, hk, hln, hgk, l2]
      refine eCall_i (atR_sound (m := .plain) (i := k) hb) (by simp) (by simp) ?_
      simp [neq_bun, l2, wrap_succ (show k < 4611686018427387904 by omega), stG]
    · simp [c_law35_TallyKeeps_l1, stG, c_law35_TallyKeeps_k2, hln]
      have hsn : (rowsOf G).take (max a.length b.length) = rowsOf G := List.take_of_length_le (by simp [hln])
      refine eCall_i (sum_sound (m := .plain) (l := G) h6 (by omega)) (by simp [snap1, hln, hsn]) (by simp) ?_
      simp
      refine eCall_i (sum_sound (m := .plain) hb hnb) (by simp) (by simp) ?_
      have sb := sumL_len hb
      simp [hsum, eql_bun, sb]
      refine fin ?_
      simp [r_law35_TallyKeeps]
end Go.Proofs.Ytljkjogggfdgiaa
