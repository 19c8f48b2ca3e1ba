import Derived.Test.YtagicjnmpoonpaaT13
namespace Go.Proofs.Ytagicjnmpoonpaa
open Go Go.Am

theorem aplK_before {p : Int} {s : List Int} {b q : List (List Int)} {i : Nat} (hi : i < b.length) : ∀ k, k ≤ i → (aplK p s b q k)[i]? = some b[i]
  | 0, _ => by simp [aplK, hi]
  | k + 1, hk => by
    have := aplK_before (p := p) (s := s) (q := q) hi k (by omega)
    simp only [aplK]
    rw [List.getElem?_set, if_neg (by omega)]
    exact this
theorem aplK_after {p : Int} {s : List Int} {b q : List (List Int)} {i : Nat} (hi : i < b.length) (hq : i < q.length) : ∀ k, i < k → k ≤ b.length → (aplK p s b q k)[i]? = some (stp p s (sumL (aplK p s b q i)) b[i] q[i])
  | 0, h, _ => by omega
  | k + 1, h, hk => by
    simp only [aplK]
    have hL := aplK_len (p := p) (s := s) (b := b) (q := q) k
    by_cases c : k = i
    · subst c
      have h1 := aplK_before (p := p) (s := s) (q := q) hi k (Nat.le_refl _)
      rw [List.getElem?_set, if_pos rfl, if_pos (by omega)]
      simp [List.getD_eq_getElem?_getD, h1, hq]
    · have := aplK_after (p := p) (s := s) hi hq k (by omega) (by omega)
      rw [List.getElem?_set, if_neg c]
      exact this
theorem stp_mid {p : Int} {s t n a : List Int} {j : Nat} (hj : j < 6) : min (n.getD j 0) (a.getD j 0) ≤ (stp p s t n a).getD j 0 ∧ (stp p s t n a).getD j 0 ≤ max (n.getD j 0) (a.getD j 0) := by
  unfold stp
  split
  · split <;> omega
  · split
    · have e : (prtL s t n a).getD j 0 = prt1 (s.getD j 0) (t.getD j 0) (n.getD j 0) (a.getD j 0) := by simp [prtL, hj, List.getD_eq_getElem?_getD]
      rw [e]
      unfold prt1
      split <;> omega
    · omega
theorem stp_free {p : Int} {s t n a : List Int} (ha : a.length = 6) (h : ∀ j, j < 6 → ¬ a.getD j 0 < n.getD j 0) : stp p s t n a = a := by
  unfold stp
  split
  · have : rfs s t n a = false := by
      rw [rfs, List.any_eq_false]
      intro j hj
      have := h j (by simpa using hj)
      simp only [rf1, Bool.and_eq_true, decide_eq_true_eq]
      omega
    rw [this]; rfl
  · split
    · apply List.ext_getElem
      · rw [prtL_len, ha]
      · intro j h1 h2
        have hj : j < 6 := by rw [ha] at h2; exact h2
        have := h j hj
        simp only [prtL, List.getElem_map, List.getElem_range, prt1]
        rw [if_neg this]
        simp [List.getD_eq_getElem?_getD, h2]
    · rfl
theorem stp_two {s t n a : List Int} : stp 2 s t n a = n ∨ stp 2 s t n a = a := by
  unfold stp
  rw [if_pos rfl]
  split
  · exact .inl rfl
  · exact .inr rfl
theorem stp_one {s t n a : List Int} : stp 1 s t n a = a := by simp [stp]
end Go.Proofs.Ytagicjnmpoonpaa
