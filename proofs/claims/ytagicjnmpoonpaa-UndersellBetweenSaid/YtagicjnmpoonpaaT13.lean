import Derived.Test.YtagicjnmpoonpaaT12
namespace Go.Proofs.Ytagicjnmpoonpaa
open Go Go.Am

theorem stp2_same {s t n : List Int} : stp 2 s t n n = n := by simp [stp]
theorem whole_steps {s w : List Int} {b : List (List Int)} {i : Nat} (hi : i < b.length) : ∀ k, k ≤ b.length →
    aplK 2 s b (b.set i w) k = if k ≤ i then b else (if rfs s (sumL b) b[i] w = true then b else b.set i w)
  | 0, _ => by simp [aplK]
  | k + 1, hk => by
    have ih := whole_steps (s := s) (w := w) hi k (by omega)
    have hkb : k < b.length := by omega
    simp only [aplK, ih]
    by_cases c : k ≤ i
    · rw [if_pos c]
      by_cases c2 : k = i
      · subst c2
        rw [if_neg (by omega)]
        have g1 : b.getD k z6 = b[k] := by simp [List.getD_eq_getElem?_getD, hkb]
        have g2 : (b.set k w).getD k z6 = w := by simp [List.getD_eq_getElem?_getD, hkb]
        rw [g1, g2]
        simp only [stp, if_true]
        split
        · exact List.set_getElem_self _
        · rfl
      · rw [if_pos (by omega)]
        have g1 : b.getD k z6 = b[k] := by simp [List.getD_eq_getElem?_getD, hkb]
        have g2 : (b.set i w).getD k z6 = b[k] := by
          rw [List.getD_eq_getElem?_getD, List.getElem?_set, if_neg (fun e => c2 e.symm)]
          simp [hkb]
        rw [g1, g2, stp2_same]
        exact List.set_getElem_self _
    · have hk1 : ¬ k + 1 ≤ i := by omega
      rw [if_neg c, if_neg hk1]
      have hne : ¬ i = k := by omega
      have g2 : (b.set i w).getD k z6 = b[k] := by
        rw [List.getD_eq_getElem?_getD, List.getElem?_set, if_neg hne]
        simp [hkb]
      have g1 : (if rfs s (sumL b) b[i] w = true then b else b.set i w).getD k z6 = b[k] := by
        split
        · simp [List.getD_eq_getElem?_getD, hkb]
        · exact g2
      rw [g1, g2, stp2_same]
      split
      · exact List.set_getElem_self _
      · have : (b.set i w)[k]'(by simpa using hkb) = b[k] := List.getElem_set_ne hne _
        rw [← this]
        exact List.set_getElem_self _
theorem whole_und {s w : List Int} {b : List (List Int)} {i : Nat} (hi : i < b.length) (ob : ∀ x ∈ b, okP x) (ow : okP w) (n1 : b.length ≤ 8) : und s (sumL b) (sumL (b.set i w)) = rfs s (sumL b) b[i] w := by
  have oq : ∀ x ∈ b.set i w, okP x := fun x hx => by
    rcases List.mem_or_eq_of_mem_set hx with hx | rfl
    · exact ob x hx
    · exact ow
  rw [Bool.eq_iff_iff, und, rfs, List.any_eq_true, List.any_eq_true]
  have key : ∀ j, j ∈ List.range 6 → ((decide ((sumL (b.set i w)).getD j 0 < s.getD j 0) && decide ((sumL (b.set i w)).getD j 0 < (sumL b).getD j 0)) = true ↔ rf1 (s.getD j 0) ((sumL b).getD j 0) (b[i].getD j 0) (w.getD j 0) = true) := fun j hj => by
    have hj' : j < 6 := by simpa using hj
    rw [sumL_col hj' oq (by simpa using n1), sumL_col hj' ob n1, colZ_set hi]
    simp only [rf1, Bool.and_eq_true, decide_eq_true_eq]
    omega
  constructor
  · rintro ⟨j, hj, h⟩
    exact ⟨j, hj, (key j hj).1 h⟩
  · rintro ⟨j, hj, h⟩
    exact ⟨j, hj, (key j hj).2 h⟩

theorem frz_iv {k : Nat} {e : Entry} : frz k e ∘ iv = iv := rfl

section
variable {s w : List Int} {b : List (List Int)} {i : Int} (hs6 : s.length = 6) (hb : ∀ x ∈ b, x.length = 6) (hw : w.length = 6) (n1 : b.length < 4611686018427387904)
include hs6 hb hw n1
theorem law_whole : SoundCall Try.prog F_law38_UndersellWhole [bun s, .list 6 .plain (rowsOf b), iv i, bun w] (bv true) := by
  refine sound' t_law38_UndersellWhole (by simp) ?_
  by_cases c1 : (8 : Int) < b.length
  · simp [c_law38_UndersellWhole, hs6, hw, c1]
    refine fin_awake ?_
    simp [r_law38_UndersellWhole]
  by_cases c2 : i < 0
  · simp [c_law38_UndersellWhole, hs6, hw, c1, c2]
    refine fin_awake ?_
    simp [r_law38_UndersellWhole]
  by_cases c3 : (b.length : Int) ≤ i
  · simp [c_law38_UndersellWhole, hs6, hw, c1, c2, c3]
    refine fin_awake ?_
    simp [r_law38_UndersellWhole]
  obtain ⟨j, rfl⟩ : ∃ j : Nat, i = j := ⟨i.toNat, by omega⟩
  have hj : j < b.length := by omega
  have ej : (j : Int) < b.length := by omega
  have hbj := hb b[j] (List.getElem_mem _)
  have hq : ∀ x ∈ b.set j w, x.length = 6 := fun x hx => by
    rcases List.mem_or_eq_of_mem_set hx with hx | rfl
    · exact hb x hx
    · exact hw
  have lq : (b.set j w).length = b.length := by simp
  simp [c_law38_UndersellWhole, hs6, hw, c1, c2, c3, rowsDg_int, hj, ej, hbj]
  refine ⟨by omega, by omega, anyRefR_set, ?_⟩
  have eset : (rowsOf b).set j (w.map iv) = rowsOf (b.set j w) := by simp [rowsOf, List.map_set]
  have hT : List.take b.length (rowsOf (b.set j w)) = rowsOf (b.set j w) := take_full (by simp)
  rw [eset]
  generalize hQ : b.set j w = Q at *
  have lQ : Q.length = b.length := lq
  simp [freezes, eFreeze, frz, frzE, rowsRf_int, rowsSt_int, hT, lQ, hs6, frz_iv]
  by_cases hE : chkE 2 s b Q = 0
  · obtain ⟨p1, p2, e1, l8, g1, g2, g3⟩ := chkE_zero hE
    have ob : ∀ x ∈ b, okP x := fun x hx => ⟨hb x hx, List.all_eq_true.mp g2 x hx⟩
    have oq : ∀ x ∈ Q, okP x := fun x hx => ⟨hq x hx, List.all_eq_true.mp g3 x hx⟩
    have os : okP s := ⟨hs6, g1⟩
    have ow : okP w := oq w (by rw [← hQ]; exact List.mem_set hj _)
    have hst := whole_steps (s := s) (w := w) hj b.length (Nat.le_refl _)
    have hun := whole_und (s := s) hj ob ow l8
    rw [if_neg (by omega), hQ] at hst
    rw [hQ] at hun
    refine eCall_i (apply_ok (p := 2) (m1 := .plain) (m2 := .plain) os ob oq e1 l8 rfl rfl p1 p2) (by simp) (by simp) ?_
    rw [hst]
    simp [hs6]
    refine eCall_i (undR_sound (s := s) (m1 := .plain) (m2 := .plain) hs6 hb hq n1 (by omega)) (by simp) (by simp) ?_
    rw [hun]
    cases hr : rfs s (sumL b) b[j] w
    · simp [hr]
      refine eCall_i (sameR_sound (m1 := .plain) (m2 := .plain) (.inr rfl) (.inr rfl) hq hq (by omega)) (by simp) (by simp) ?_
      simp
      refine fin_awake ?_
      simp [r_law38_UndersellWhole]
    · simp [hr]
      refine eCall_i (sameR_sound (m1 := .plain) (m2 := .plain) (.inr rfl) (.inr rfl) hb hb (by omega)) (by simp) (by simp) ?_
      simp
      refine fin_awake ?_
      simp [r_law38_UndersellWhole]
  · refine eCall_i (apply_err (p := 2) (m1 := .plain) (m2 := .plain) hs6 hb hq n1 (by omega) hE) (by simp) (by simp) ?_
    simp [hE]
    refine fin_awake ?_
    simp [r_law38_UndersellWhole]
end
end Go.Proofs.Ytagicjnmpoonpaa
