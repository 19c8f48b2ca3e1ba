import Derived.Test.YtljkjogggfdgiaaT2
namespace Go.Proofs.Ytljkjogggfdgiaa
open Go Go.Am

/-! ### the reference -/
def exR (a s : List Int) : List Int := List.zipWith (fun o s => max (wr (o - s)) 0) a s
def slR (s a : List Int) : List Int := List.zipWith (fun s o => max (wr (s - o)) 0) s a

def st11 (m : Am.Mode) (l : List (List Int)) (k : Nat) : St :=
  { env := [(0, .list 6 m (rowsOf l)), (2, .ptr 2 0), (3, .ptr 3 0), (4, iv k)],
    sto := [(2, .var (z6.map iv)), (3, .var ((sumL (l.take k)).map iv))] }
def st11i (m : Am.Mode) (l : List (List Int)) (k : Nat) (b : List Int) (j : Nat) : St :=
  { env := [(0, .list 6 m (rowsOf l)), (2, .ptr 2 0), (3, .ptr 3 0), (4, iv k), (5, iv j)],
    sto := [(2, .var (z6.map iv)), (3, .var ((mix (addL (sumL (l.take k)) b) (sumL (l.take k)) j).map iv))] }
section
variable {m : Am.Mode} {l : List (List Int)} (hl : ∀ b ∈ l, b.length = 6) (hn : l.length < 4611686018427387904)
include hl hn
theorem sumR_sound : SoundCall Try.prog F_ref35_Sum [.list 6 m (rowsOf l)] (bun (sumL l)) := by
  have hz : z6.length = 6 := rfl
  refine sound' t_ref35_Sum (by simp) ?_
  simp [c_ref35_Sum]
  refine awp_for (st11 m l) l.length ?_ (fun k hk => ?_) ?_
  · simp [st11]; exact ⟨rfl, rfl⟩
  · have hb := hl l[k] (by simp)
    have hs := sumL_len (l := l.take k) (fun b hb => hl b (List.mem_of_mem_take hb))
    have e : (k : Int) < l.length := by omega
    simp [c_ref35_Sum_l2, st11, e]
    refine awp_for (st11i m l k l[k]) 6 ?_ (fun j hj => ?_) ?_
    · simp [st11i]
    · have ej : (j : Int) < 6 := by omega
      have ha := addL_len hs hb
      have hg : (addL (sumL (l.take k)) l[k])[j]? = some (wr ((sumL (l.take k))[j] + l[k][j])) := by simp [addL, hs, hb, hj]
      have hmx := mix_set (ha.trans hs.symm) hg
      simp [c_ref35_Sum_l0, st11i, e, hk, ej, ha, hb, hs, hj, wrap_succ (show j < 4611686018427387904 by omega)]
      rw [← hmx, List.map_set]
      exact ⟨by omega, rfl⟩
    · simp [c_ref35_Sum_l0, st11i, st11, c_ref35_Sum_k1, mix_all (addL_len hs hb) hs, sumL_take hk, wrap_succ (show k < 4611686018427387904 by omega)]
  · simp [c_ref35_Sum_l2, st11, c_ref35_Sum_k3, r_ref35_Sum, sumL_len hl, hz]

def st13 (a : List Int) (o : List Int) (k : Nat) : St :=
  { env := [(2, .ptr 2 0), (4, .ptr 4 0), (5, .ptr 5 0), (6, iv k)],
    sto := [(2, .var (a.map iv)), (4, .var (z6.map iv)), (5, .var ((mix (exR o a) o k).map iv))] }
theorem excessR_sound {a : List Int} (ha : a.length = 6) : SoundCall Try.prog F_ref35_Excess [bun a, .list 6 m (rowsOf l)] (bun (exR (sumL l) a)) := by
  have h1 := sumL_len hl
  have h2 : (exR (sumL l) a).length = 6 := by simp [exR, h1, ha]
  refine sound' t_ref35_Excess (by simp) ?_
  simp [c_ref35_Excess]
  refine eCall_i (sumR_sound (m := stm m) hl hn) (by simp) (by simp) ?_
  simp [h1]
  refine awp_for (st13 a (sumL l)) 6 ?_ (fun k hk => ?_) ?_
  · simp [st13]; rfl
  · have e : (k : Int) < 6 := by omega
    have hg : (exR (sumL l) a)[k]? = some (max (wr ((sumL l)[k] - a[k])) 0) := by simp [exR, h1, ha, hk]
    have hmx := mix_set (h2.trans h1.symm) hg
    simp [c_ref35_Excess_l0, st13, e, ha, h1, h2, hk, wrap_succ (show k < 4611686018427387904 by omega)]
    rw [← hmx, List.map_set]
    exact ⟨by omega, rfl⟩
  · simp [c_ref35_Excess_l0, st13, c_ref35_Excess_k1, r_ref35_Excess, h2, mix_all h2 h1, show z6.length = 6 from rfl]
def st15 (a : List Int) (o : List Int) (k : Nat) : St :=
  { env := [(2, .ptr 2 0), (4, .ptr 4 0), (5, .ptr 5 0), (6, iv k)],
    sto := [(2, .var (a.map iv)), (4, .var (z6.map iv)), (5, .var ((mix (slR a o) o k).map iv))] }
theorem slackR_sound {a : List Int} (ha : a.length = 6) : SoundCall Try.prog F_ref35_Slack [bun a, .list 6 m (rowsOf l)] (bun (slR a (sumL l))) := by
  have h1 := sumL_len hl
  have h2 : (slR a (sumL l)).length = 6 := by simp [slR, h1, ha]
  refine sound' t_ref35_Slack (by simp) ?_
  simp [c_ref35_Slack]
  refine eCall_i (sumR_sound (m := stm m) hl hn) (by simp) (by simp) ?_
  simp [h1]
  refine awp_for (st15 a (sumL l)) 6 ?_ (fun k hk => ?_) ?_
  · simp [st15]; rfl
  · have e : (k : Int) < 6 := by omega
    have hg : (slR a (sumL l))[k]? = some (max (wr (a[k] - (sumL l)[k])) 0) := by simp [slR, h1, ha, hk]
    have hmx := mix_set (h2.trans h1.symm) hg
    simp [c_ref35_Slack_l0, st15, e, ha, h1, h2, hk, wrap_succ (show k < 4611686018427387904 by omega)]
    rw [← hmx, List.map_set]
    exact ⟨by omega, rfl⟩
  · simp [c_ref35_Slack_l0, st15, c_ref35_Slack_k1, r_ref35_Slack, h2, mix_all h2 h1, show z6.length = 6 from rfl]
theorem clearedR_sound {a : List Int} (ha : a.length = 6) : SoundCall Try.prog F_ref35_Cleared [bun a, .list 6 m (rowsOf l)] (bv (decide (exR (sumL l) a = z6))) := by
  have h1 := sumL_len hl
  refine sound' t_ref35_Cleared (by simp) ?_
  simp [c_ref35_Cleared, ha]
  refine eCall_i (excessR_sound (m := stm m) hl hn ha) (by simp) (by simp) ?_
  have h2 : (exR (sumL l) a).length = 6 := by simp [exR, h1, ha]
  simp [r_ref35_Cleared, h2, eql_bun]
  rfl
end

def atL (l : List (List Int)) (i : Nat) : List Int := l.getD i z6
theorem atL_lt {l : List (List Int)} {i : Nat} (h : i < l.length) : atL l i = l[i] := by simp [atL, h]
theorem atL_ge {l : List (List Int)} {i : Nat} (h : l.length ≤ i) : atL l i = z6 := by simp [atL, h]
section
variable {m : Am.Mode} {l : List (List Int)} (hl : ∀ b ∈ l, b.length = 6)
include hl
theorem atR_sound {i : Nat} : SoundCall Try.prog F_ref35_At [.list 6 m (rowsOf l), iv i] (bun (atL l i)) := by
  refine sound' t_ref35_At (by simp) ?_
  simp [c_ref35_At]
  refine ⟨fun h => ?_, fun h => ?_⟩
  · simp [r_ref35_At, atL_ge h]; rfl
  · have hb := hl l[i] (by simp)
    simp [r_ref35_At, atL_lt h, h, hb]
theorem at_sound {i : Nat} : SoundCall Try.prog F_tally_at [.list 6 m (rowsOf l), iv i] (bun (atL l i)) := by
  refine sound' t_tally_at (by simp) ?_
  simp [c_tally_at]
  refine ⟨fun h => ?_, fun h => ?_⟩
  · have hb := hl l[i] (by simp)
    simp [r_tally_at, atL_lt h, h, hb]
  · simp [r_tally_at, atL_ge h]; rfl
end
abbrev rows1 (a : List Int) : List (List AV) := a.map fun n => [iv n]
def st18 (s1 s2 : Nat) (m1 m2 : Am.Mode) (a b : List Int) (k : Nat) : St :=
  { env := [(0, .list s1 m1 (rows1 a)), (1, .list s2 m2 (rows1 b)), (5, iv k)], sto := [] }
theorem same_sound {s1 s2 : Nat} {m1 m2 : Am.Mode} {a b : List Int} (h1 : a = [] ∨ s1 = 1) (h2 : b = [] ∨ s2 = 1) (hn : a.length < 4611686018427387904) :
    SoundCall Try.prog F_ref35_Same [.list s1 m1 (rows1 a), .list s2 m2 (rows1 b)] (bv (decide (a = b))) := by
  refine sound' t_ref35_Same (by simp) ?_
  simp [c_ref35_Same]
  refine ⟨fun h => ?_, fun h => ?_⟩
  · have : a ≠ b := fun e => h (by rw [e])
    simp [r_ref35_Same, this]
  · refine awp_forI (st18 s1 s2 m1 m2 a b) (fun k => a.take k = b.take k) a.length ?_ rfl (fun k hk hi => ?_) (fun hi => ?_)
    · simp [st18]
    · have e : (k : Int) < a.length := by omega
      have hkb : k < b.length := by omega
      have f1 : s1 = 1 := by
        rcases h1 with h1 | h1
        · simp [h1] at hk
        · exact h1
      have f2 : s2 = 1 := by
        rcases h2 with h2 | h2
        · simp [h2] at hkb
        · exact h2
      simp [c_ref35_Same_l0, st18, e, hk, hkb, f1, f2, wrap_succ (show k < 4611686018427387904 by omega)]
      refine ⟨fun h => ?_, fun h => ?_⟩
      · have : a ≠ b := fun e => by subst e; exact h rfl
        simp [r_ref35_Same, this]
      · rw [List.take_succ_eq_append_getElem hk, List.take_succ_eq_append_getElem hkb, hi, h]
    · have : a = b := by
        rw [List.take_of_length_le (by omega), List.take_of_length_le (by omega)] at hi
        exact hi
      simp [c_ref35_Same_l0, st18, c_ref35_Same_k1, r_ref35_Same, this]

def chgs (a b : List (List Int)) (k : Nat) : List Nat := (List.range k).filter fun i => !decide (atL a i = atL b i)
theorem chgs_succ {a b : List (List Int)} {k : Nat} : chgs a b (k + 1) = chgs a b k ++ (if atL a k = atL b k then [] else [k]) := by
  unfold chgs
  rw [List.range_succ, List.filter_append]
  by_cases h : atL a k = atL b k <;> simp [h]
theorem chgs_len {a b : List (List Int)} {k : Nat} : (chgs a b k).length ≤ k := by
  have := List.length_filter_le (fun i => !decide (atL a i = atL b i)) (List.range k)
  simpa [chgs] using this
abbrev rowsN (a : List Nat) : List (List AV) := a.map fun (n : Nat) => [iv (n : Int)]
def st19 (m1 m2 : Am.Mode) (a b : List (List Int)) (k : Nat) : St :=
  { env := [(0, .list 6 m1 (rowsOf a)), (1, .list 6 m2 (rowsOf b)), (5, appV 1 25 (rowsN (chgs a b k))), (11, iv ((max a.length b.length : Nat) : Int)), (12, iv k)], sto := [] }
section
variable {m1 m2 : Am.Mode} {a b : List (List Int)} (ha : ∀ x ∈ a, x.length = 6) (hb : ∀ x ∈ b, x.length = 6) (hn : max a.length b.length ≤ 1099511627776) (f1 : stm m1 = m1) (f2 : stm m2 = m2)
include ha hb hn f1 f2
omit hb hn f1 f2 in
theorem atL_len {i : Nat} : (atL a i).length = 6 := by
  by_cases h : i < a.length
  · rw [atL_lt h]; exact ha _ (by simp)
  · rw [atL_ge (by omega)]; rfl
theorem changes_sound : SoundCall Try.prog F_tally_Changes [.list 6 m1 (rowsOf a), .list 6 m2 (rowsOf b)] (outV 1 (rowsN (chgs a b (max a.length b.length)))) := by
  refine sound' t_tally_Changes (by simp) ?_
  simp [c_tally_Changes]
  refine awp_for (st19 m1 m2 a b) (max a.length b.length) ?_ (fun k hk => ?_) ?_
  · simp [st19]
    exact ⟨rfl, by omega⟩
  · have e : (k : Int) < (max a.length b.length : Nat) := by omega
    simp [c_tally_Changes_l0, st19, e]
    refine eCall_i (at_sound (m := stm m1) (i := k) ha) (by simp) (by simp) ?_
    simp
    refine eCall_i (at_sound (m := stm m2) (i := k) hb) (by simp) (by simp) ?_
    have l1 := atL_len (i := k) ha
    have l2 := atL_len (i := k) hb
    have lc := chgs_len (a := a) (b := b) (k := k)
    simp [neq_bun, l1, l2, f1, f2, wrap_succ (show k < 4611686018427387904 by omega)]
    refine ⟨fun h => ⟨by omega, by omega, ?_⟩, fun h => ?_⟩
    · simp [st19, chgs_succ, h]
    · simp [st19, chgs_succ, h]
  · simp [c_tally_Changes_l0, st19, c_tally_Changes_k1, r_tally_Changes]
def st20 (m1 m2 : Am.Mode) (a b : List (List Int)) (k : Nat) : St :=
  { env := [(0, .list 6 m1 (rowsOf a)), (1, .list 6 m2 (rowsOf b)), (5, appV 1 29 (rowsN (chgs a b k))), (6, iv k)], sto := [] }
theorem changesR_sound : SoundCall Try.prog F_ref35_Changes [.list 6 m1 (rowsOf a), .list 6 m2 (rowsOf b)] (outV 1 (rowsN (chgs a b (max a.length b.length)))) := by
  refine sound' t_ref35_Changes (by simp) ?_
  simp [c_ref35_Changes]
  refine awp_for (st20 m1 m2 a b) (max a.length b.length) ?_ (fun k hk => ?_) ?_
  · simp [st20]
    rfl
  · have lc := chgs_len (a := a) (b := b) (k := k)
    have l1 := atL_len (i := k) ha
    have l2 := atL_len (i := k) hb
    by_cases h : k < a.length
    · simp [c_ref35_Changes_l0, st20, h]
      refine eCall_i (atR_sound (m := stm m1) (i := k) ha) (by simp) (by simp) ?_
      simp
      refine eCall_i (atR_sound (m := stm m2) (i := k) hb) (by simp) (by simp) ?_
      simp [neq_bun, l1, l2, f1, f2, wrap_succ (show k < 4611686018427387904 by omega)]
      refine ⟨fun h => ⟨by omega, by omega, ?_⟩, fun h => ?_⟩
      · simp [st20, chgs_succ, h]
      · simp [st20, chgs_succ, h]
    · have h' : k < b.length := by omega
      simp [c_ref35_Changes_l0, st20, h, h']
      refine eCall_i (atR_sound (m := stm m1) (i := k) ha) (by simp) (by simp) ?_
      simp
      refine eCall_i (atR_sound (m := stm m2) (i := k) hb) (by simp) (by simp) ?_
      simp [neq_bun, l1, l2, f1, f2, wrap_succ (show k < 4611686018427387904 by omega)]
      refine ⟨fun h => ⟨by omega, by omega, ?_⟩, fun h => ?_⟩
      · simp [st20, chgs_succ, h]
      · simp [st20, chgs_succ, h]
  · have n1 : ¬ max a.length b.length < a.length := by omega
    have n2 : ¬ max a.length b.length < b.length := by omega
    simp [c_ref35_Changes_l0, st20, c_ref35_Changes_k1, r_ref35_Changes, n1, n2]
end

/-! ### few -/
def modB (b : List Int) : Bool := b.all fun x => decide (-1099511627776 ≤ x) && decide (x ≤ 1099511627776)
def modL (l : List (List Int)) : Bool := l.all modB && decide (l.length ≤ 1000)
def st21 (m : Am.Mode) (l : List (List Int)) (k : Nat) : St := { env := [(0, .list 6 m (rowsOf l)), (3, iv k)], sto := [] }
def st21i (m : Am.Mode) (l : List (List Int)) (k j : Nat) : St := { env := [(0, .list 6 m (rowsOf l)), (3, iv k), (4, iv j)], sto := [] }
theorem moderate_sound {m : Am.Mode} {l : List (List Int)} (hl : ∀ b ∈ l, b.length = 6) (hn : l.length < 4611686018427387904) :
    SoundCall Try.prog F_ref35_Moderate [.list 6 m (rowsOf l)] (bv (modL l)) := by
  refine sound' t_ref35_Moderate (by simp) ?_
  simp [c_ref35_Moderate]
  refine awp_forI (st21 m l) (fun k => (l.take k).all modB = true) l.length ?_ rfl (fun k hk hi => ?_) (fun hi => ?_)
  · simp [st21]
  · have hb := hl l[k] (by simp)
    have e : (k : Int) < l.length := by omega
    simp [c_ref35_Moderate_l2, st21, e]
    refine awp_forI (st21i m l k) (fun j => modB (l[k].take j) = true) 6 ?_ rfl (fun j hj hi2 => ?_) (fun hi2 => ?_)
    · simp [st21i]
    · have ej : (j : Int) < 6 := by omega
      have hm : ∀ (x : Int), l[k][j] = x → (x < -1099511627776 ∨ 1099511627776 < x) → modL l = false := by
        intro x hx h
        have h1 : modB l[k] = false := by
          rw [modB, List.all_eq_false]
          exact ⟨x, hx ▸ List.getElem_mem _, by simp; omega⟩
        rw [modL]
        have h2 : l.all modB = false := by
          rw [List.all_eq_false]
          exact ⟨l[k], List.getElem_mem _, by simp [h1]⟩
        rw [h2]; rfl
      by_cases h : l[k][j] < -1099511627776
      · simp [c_ref35_Moderate_l0, st21i, e, hk, ej, hb, hj, h, r_ref35_Moderate, hm _ rfl (.inl h)]
      · simp [c_ref35_Moderate_l0, st21i, e, hk, ej, hb, hj, h, r_ref35_Moderate, wrap_succ (show j < 4611686018427387904 by omega)]
        refine ⟨fun h2 => ?_, fun h2 => ?_⟩
        · simp [hm _ rfl (.inr h2)]
        · rw [List.take_succ_eq_append_getElem (by omega), modB, List.all_append]
          rw [modB] at hi2
          rw [hi2]
          simp
          omega
    · simp [c_ref35_Moderate_l0, st21i, st21, c_ref35_Moderate_k1, wrap_succ (show k < 4611686018427387904 by omega)]
      rw [List.take_of_length_le (by omega)] at hi2
      rw [List.take_succ_eq_append_getElem hk]
      intro x hx
      rcases List.mem_append.mp hx with hx | hx
      · exact List.all_eq_true.mp hi x hx
      · simp only [List.mem_singleton] at hx; rw [hx]; exact hi2
  · rw [List.take_of_length_le (by omega)] at hi
    simp [c_ref35_Moderate_l2, st21, c_ref35_Moderate_k3, r_ref35_Moderate, modL, hi]
    omega
end Go.Proofs.Ytljkjogggfdgiaa
