import Derived.Test.YtagicjnmpoonpaaT1
namespace Go.Proofs.Ytagicjnmpoonpaa
open Go Go.Am

def okB (b : List Int) : Bool := b.all fun x => decide (0 ≤ x) && decide (x ≤ 4)
def er (c : Bool) (n : Int) : AV := iv (if c then 0 else n)
theorem okB_take {b : List Int} {k : Nat} (hk : k < b.length) (h : okB (b.take k) = true) (h1 : 0 ≤ b[k]) (h2 : b[k] ≤ 4) : okB (b.take (k + 1)) = true := by
  rw [List.take_succ_eq_append_getElem hk, okB, List.all_append]
  rw [okB] at h
  simp [h, h1, h2]
theorem okB_not {b : List Int} {k : Nat} (hk : k < b.length) (h : b[k] < 0 ∨ 4 < b[k]) : okB b = false := by
  rw [okB, List.all_eq_false]
  exact ⟨b[k], List.getElem_mem _, by simp; omega⟩

def stC (b : List Int) (k : Nat) : St := { env := [(5, bun b), (6, iv k)], sto := [] }
theorem check_sound {b : List Int} (hb : b.length = 6) : SoundCall Try.prog F_bundle_Check [bun b] (iv (if okB b = true then 0 else 4)) := by
  refine sound' t_bundle_Check (by simp) ?_
  simp [c_bundle_Check, hb]
  refine awp_forI (stC b) (fun k => okB (b.take k) = true) 6 ?_ rfl (fun k hk hi => ?_) (fun hi => ?_)
  · simp [stC]
  · have ek : (k : Int) < 6 := by omega
    have hk' : k < b.length := by omega
    by_cases h : b[k] < 0
    · simp [c_bundle_Check_l0, stC, ek, hk', h, r_bundle_Check, okB_not hk' (.inl h)]
    · simp [c_bundle_Check_l0, stC, ek, hk', h, r_bundle_Check]
      refine ⟨fun h2 => ?_, fun h2 => ?_⟩
      · simp [okB_not hk' (.inr h2)]
      · simp [wrap_succ (show k < 4611686018427387904 by omega)]
        exact okB_take hk' hi (by omega) (by omega)
  · rw [List.take_of_length_le (by omega)] at hi
    simp [c_bundle_Check_l0, stC, c_bundle_Check_k1, r_bundle_Check, hi]

def stC7 (b : List Int) (k : Nat) : St := { env := [(1, .ptr 1 0), (3, iv k)], sto := [(1, .var (b.map iv))] }
theorem check7_sound {b : List Int} (hb : b.length = 6) : SoundCall Try.prog F_ref07_Check [bun b] (iv (if okB b = true then 0 else 4)) := by
  refine sound' t_ref07_Check (by simp) ?_
  simp [c_ref07_Check]
  refine awp_forI (stC7 b) (fun k => okB (b.take k) = true) 6 ?_ rfl (fun k hk hi => ?_) (fun hi => ?_)
  · simp [stC7]
  · have ek : (k : Int) < 6 := by omega
    have hk' : k < b.length := by omega
    by_cases h : b[k] < 0
    · simp [c_ref07_Check_l0, stC7, ek, hk', h, r_ref07_Check, okB_not hk' (.inl h)]
    · simp [c_ref07_Check_l0, stC7, ek, hk', h, r_ref07_Check]
      refine ⟨fun h2 => ?_, fun h2 => ?_⟩
      · simp [okB_not hk' (.inr h2)]
      · simp [wrap_succ (show k < 4611686018427387904 by omega)]
        exact okB_take hk' hi (by omega) (by omega)
  · rw [List.take_of_length_le (by omega)] at hi
    simp [c_ref07_Check_l0, stC7, c_ref07_Check_k1, r_ref07_Check, hi]

def stS (m1 m2 : Am.Mode) (s1 s2 : Nat) (a b : List (List Int)) (k : Nat) : St :=
  { env := [(0, .list s1 m1 (rowsOf a)), (1, .list s2 m2 (rowsOf b)), (5, iv k)], sto := [] }
theorem sameR_sound {m1 m2 : Am.Mode} {s1 s2 : Nat} {a b : List (List Int)} (h1 : a = [] ∨ s1 = 6) (h2 : b = [] ∨ s2 = 6) (ha : ∀ x ∈ a, x.length = 6) (hb : ∀ x ∈ b, x.length = 6) (hn : a.length < 4611686018427387904) :
    SoundCall Try.prog F_ref38_Same [.list s1 m1 (rowsOf a), .list s2 m2 (rowsOf b)] (bv (decide (a = b))) := by
  refine sound' t_ref38_Same (by simp) ?_
  simp [c_ref38_Same]
  refine ⟨fun h => ?_, fun h => ?_⟩
  · have : a ≠ b := fun e => h (by rw [e])
    simp [r_ref38_Same, this]
  · refine awp_forI (stS m1 m2 s1 s2 a b) (fun k => a.take k = b.take k) a.length ?_ rfl (fun k hk hi => ?_) (fun hi => ?_)
    · simp [stS]
    · have e : (k : Int) < a.length := by omega
      have hkb : k < b.length := by omega
      have f1 : s1 = 6 := by
        rcases h1 with h1 | h1
        · simp [h1] at hk
        · exact h1
      have f2 : s2 = 6 := by
        rcases h2 with h2 | h2
        · simp [h2] at hkb
        · exact h2
      have l1 := ha a[k] (List.getElem_mem _)
      have l2 := hb b[k] (List.getElem_mem _)
      simp [c_ref38_Same_l0, stS, e, hk, hkb, f1, f2, l1, l2, neq_bun, wrap_succ (show k < 4611686018427387904 by omega)]
      refine ⟨fun h => ?_, fun h => ?_⟩
      · have : a ≠ b := fun e => by subst e; exact h rfl
        simp [r_ref38_Same, this]
      · rw [List.take_succ_eq_append_getElem hk, List.take_succ_eq_append_getElem hkb, hi, h]
    · have : a = b := by
        rw [List.take_of_length_le (by omega), List.take_of_length_le (by omega)] at hi
        exact hi
      simp [c_ref38_Same_l0, stS, c_ref38_Same_k1, r_ref38_Same, this]

/-! ### undersold -/
def und (s a b : List Int) : Bool := (List.range 6).any fun k => decide (b.getD k 0 < s.getD k 0) && decide (b.getD k 0 < a.getD k 0)
theorem und_yes {s a b : List Int} {k : Nat} (hk : k < 6) (hs : s.length = 6) (ha : a.length = 6) (hb : b.length = 6) (h1 : b[k] < s[k]) (h2 : b[k] < a[k]) : und s a b = true := by
  rw [und, List.any_eq_true]
  exact ⟨k, by simpa using hk, by simp [hk, hs, ha, hb, h1, h2]⟩
theorem und_no {s a b : List Int} (hs : s.length = 6) (ha : a.length = 6) (hb : b.length = 6) (h : ∀ k (hk : k < 6), ¬ (b[k] < s[k] ∧ b[k] < a[k])) : und s a b = false := by
  rw [und, List.any_eq_false]
  intro k hk
  have hk' : k < 6 := by simpa using hk
  have := h k hk'
  simp [hk', hs, ha, hb]
  omega
def stU (s a b : List Int) (k : Nat) : St :=
  { env := [(3, .ptr 3 0), (7, .ptr 7 0), (8, .ptr 8 0), (14, iv k)], sto := [(3, .var (s.map iv)), (7, .var (a.map iv)), (8, .var (b.map iv))] }
def stUR (s a b : List Int) (k : Nat) : St :=
  { env := [(3, .ptr 3 0), (7, .ptr 7 0), (8, .ptr 8 0), (9, iv k)], sto := [(3, .var (s.map iv)), (7, .var (a.map iv)), (8, .var (b.map iv))] }
section
variable {m1 m2 : Am.Mode} {s : List Int} {a b : List (List Int)} (hs : s.length = 6) (ha : ∀ x ∈ a, x.length = 6) (hb : ∀ x ∈ b, x.length = 6) (n1 : a.length < 4611686018427387904) (n2 : b.length < 4611686018427387904)
include hs ha hb n1 n2
theorem und_sound : SoundCall Try.prog F_undersell_Undersold [bun s, .list 6 m1 (rowsOf a), .list 6 m2 (rowsOf b)] (bv (und s (sumL a) (sumL b))) := by
  have la := sumL_len ha
  have lb := sumL_len hb
  refine sound' t_undersell_Undersold (by simp) ?_
  simp [c_undersell_Undersold]
  refine eCall_i (sum_sound (m := stm m1) ha n1) (by simp) (by simp) ?_
  simp
  refine eCall_i (sum_sound (m := stm m2) hb n2) (by simp) (by simp) ?_
  simp [la, lb]
  refine awp_forI (stU s (sumL a) (sumL b)) (fun k => ∀ j (hj : j < k) (h6 : j < 6), ¬ ((sumL b)[j] < s[j] ∧ (sumL b)[j] < (sumL a)[j])) 6 ?_ (by intro j hj; omega) (fun k hk hi => ?_) (fun hi => ?_)
  · simp [stU]
  · have ek : (k : Int) < 6 := by omega
    by_cases h : (sumL b)[k] < s[k]
    · by_cases h2 : (sumL b)[k] < (sumL a)[k]
      · simp [c_undersell_Undersold_l0, stU, ek, hs, la, lb, hk, h, h2, r_undersell_Undersold, und_yes hk hs la lb h h2]
      · simp [c_undersell_Undersold_l0, stU, ek, hs, la, lb, hk, h, h2, wrap_succ (show k < 4611686018427387904 by omega)]
        intro j hj h6
        by_cases e : j = k
        · subst e; intro _; omega
        · have := hi j (by omega) h6
          omega
    · simp [c_undersell_Undersold_l0, stU, ek, hs, la, lb, hk, h, wrap_succ (show k < 4611686018427387904 by omega)]
      intro j hj h6
      by_cases e : j = k
      · subst e; intro h'; exact absurd h' h
      · have := hi j (by omega) h6
        omega
  · simp [c_undersell_Undersold_l0, stU, c_undersell_Undersold_k1, r_undersell_Undersold, und_no hs la lb fun k hk => hi k hk hk]
theorem undR_sound : SoundCall Try.prog F_ref38_Undersold [bun s, .list 6 m1 (rowsOf a), .list 6 m2 (rowsOf b)] (bv (und s (sumL a) (sumL b))) := by
  have la := sumL_len ha
  have lb := sumL_len hb
  refine sound' t_ref38_Undersold (by simp) ?_
  simp [c_ref38_Undersold]
  refine eCall_i (sumR_sound (m := stm m1) ha n1) (by simp) (by simp) ?_
  simp
  refine eCall_i (sumR_sound (m := stm m2) hb n2) (by simp) (by simp) ?_
  simp [la, lb]
  refine awp_forI (stUR s (sumL a) (sumL b)) (fun k => ∀ j (hj : j < k) (h6 : j < 6), ¬ ((sumL b)[j] < s[j] ∧ (sumL b)[j] < (sumL a)[j])) 6 ?_ (by intro j hj; omega) (fun k hk hi => ?_) (fun hi => ?_)
  · simp [stUR]
  · have ek : (k : Int) < 6 := by omega
    by_cases h : (sumL b)[k] < s[k]
    · by_cases h2 : (sumL b)[k] < (sumL a)[k]
      · simp [c_ref38_Undersold_l0, stUR, ek, hs, la, lb, hk, h, h2, r_ref38_Undersold, und_yes hk hs la lb h h2]
      · simp [c_ref38_Undersold_l0, stUR, ek, hs, la, lb, hk, h, h2, wrap_succ (show k < 4611686018427387904 by omega)]
        intro j hj h6
        by_cases e : j = k
        · subst e; intro _; omega
        · have := hi j (by omega) h6
          omega
    · simp [c_ref38_Undersold_l0, stUR, ek, hs, la, lb, hk, h, wrap_succ (show k < 4611686018427387904 by omega)]
      intro j hj h6
      by_cases e : j = k
      · subst e; intro h'; exact absurd h' h
      · have := hi j (by omega) h6
        omega
  · simp [c_ref38_Undersold_l0, stUR, c_ref38_Undersold_k1, r_ref38_Undersold, und_no hs la lb fun k hk => hi k hk hk]
end
end Go.Proofs.Ytagicjnmpoonpaa
