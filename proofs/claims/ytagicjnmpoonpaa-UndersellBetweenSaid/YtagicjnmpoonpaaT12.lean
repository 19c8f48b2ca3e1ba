import Derived.Test.YtagicjnmpoonpaaT11
namespace Go.Proofs.Ytagicjnmpoonpaa
open Go Go.Am

/-! ### what the steps do to the sums -/
def colZ (l : List (List Int)) (j : Nat) : Int := l.foldl (fun c x => c + x.getD j 0) 0
theorem col_from : ∀ (l : List (List Int)) (j : Nat) (c : Int), l.foldl (fun c x => c + x.getD j 0) c = c + colZ l j
  | [], _, c => by simp [colZ]
  | x :: l, j, c => by
    simp only [colZ, List.foldl_cons]
    rw [col_from l j (c + _), col_from l j (0 + _)]
    omega
theorem colZ_cons {x : List Int} {l : List (List Int)} {j : Nat} : colZ (x :: l) j = x.getD j 0 + colZ l j := by
  simp only [colZ, List.foldl_cons]
  rw [col_from]
  simp [colZ]
theorem colZ_set : ∀ {l : List (List Int)} {i j : Nat} {v : List Int} (hi : i < l.length), colZ (l.set i v) j = colZ l j - (l[i]).getD j 0 + v.getD j 0
  | [], i, _, _, hi => by simp at hi
  | x :: l, 0, j, v, _ => by simp only [List.set_cons_zero, colZ_cons, List.getElem_cons_zero]; omega
  | x :: l, i + 1, j, v, hi => by
    simp only [List.set_cons_succ, colZ_cons, List.getElem_cons_succ]
    rw [colZ_set (by simpa using hi)]
    omega
theorem sum_col : ∀ {l : List (List Int)} {a : List Int} {j : Nat}, j < 6 → a.length = 6 → (∀ y ∈ a, 0 ≤ y ∧ y ≤ 1000 - 4 * (l.length : Int)) → (∀ x ∈ l, okP x) → (l.foldl addL a).getD j 0 = a.getD j 0 + colZ l j
  | [], a, j, _, _, _, _ => by simp [colZ]
  | x :: l, a, j, hj, hl, h, hx => by
    have h1 := hx x (by simp)
    have hl' := addL_len hl h1.1
    have key : ∀ i (hi : i < 6), (addL a x)[i]'(by omega) = a[i]'(by omega) + x[i]'(by rw [h1.1]; exact hi) := fun i hi => by
      have g1 := h (a[i]'(by omega)) (List.getElem_mem (by omega))
      have g2 := okP_bd h1 (x[i]'(by rw [h1.1]; exact hi)) (List.getElem_mem (by rw [h1.1]; exact hi))
      simp only [List.length_cons, Int.natCast_add, Int.natCast_one] at g1
      simp only [addL, List.getElem_zipWith]
      exact wrap64 (by omega) (by omega)
    rw [List.foldl_cons, sum_col hj hl' (fun y hy => ?_) (fun z hz => hx z (by simp [hz])), colZ_cons]
    · have e1 : (addL a x).getD j 0 = (addL a x)[j]'(by omega) := by simp [List.getD_eq_getElem?_getD, hl', hj]
      have e2 : a.getD j 0 = a[j]'(by omega) := by simp [List.getD_eq_getElem?_getD, hl, hj]
      have e3 : x.getD j 0 = x[j]'(by rw [h1.1]; exact hj) := by simp [List.getD_eq_getElem?_getD, h1.1, hj]
      rw [e1, e2, e3, key j hj]
      omega
    · obtain ⟨i, hi, rfl⟩ := List.getElem_of_mem hy
      have hi6 : i < 6 := by omega
      have g1 := h (a[i]'(by omega)) (List.getElem_mem (by omega))
      have g2 := okP_bd h1 (x[i]'(by rw [h1.1]; exact hi6)) (List.getElem_mem (by rw [h1.1]; exact hi6))
      simp only [List.length_cons, Int.natCast_add, Int.natCast_one] at g1
      rw [key i hi6]
      omega
theorem sumL_col {l : List (List Int)} {j : Nat} (hj : j < 6) (h : ∀ x ∈ l, okP x) (hn : l.length ≤ 8) : (sumL l).getD j 0 = colZ l j := by
  have := sum_col (l := l) (a := z6) (j := j) hj rfl (by intro y hy; simp [z6] at hy; omega) h
  unfold sumL
  rw [this]
  match j, hj with
  | 0, _ | 1, _ | 2, _ | 3, _ | 4, _ | 5, _ => simp [z6]

theorem stp_col {p : Int} {s t n a : List Int} {j : Nat} (hj : j < 6) (hp : p = 2 ∨ p = 3) : 
    s.getD j 0 ≤ t.getD j 0 - n.getD j 0 + (stp p s t n a).getD j 0 ∨ n.getD j 0 ≤ (stp p s t n a).getD j 0 := by
  unfold stp
  rcases hp with rfl | rfl
  · rw [if_pos rfl]
    split
    · right; exact Int.le_refl _
    · rename_i h
      by_cases c : a.getD j 0 < n.getD j 0
      · left
        have : rf1 (s.getD j 0) (t.getD j 0) (n.getD j 0) (a.getD j 0) = false := by
          have h' : rfs s t n a = false := by simpa using h
          rw [rfs, List.any_eq_false] at h'
          have := h' j (by simpa using hj)
          simpa using this
        simp only [rf1, Bool.and_eq_false_iff, decide_eq_false_iff_not] at this
        omega
      · right; omega
  · rw [if_neg (by omega), if_pos rfl]
    have e : (prtL s t n a).getD j 0 = prt1 (s.getD j 0) (t.getD j 0) (n.getD j 0) (a.getD j 0) := by simp [prtL, hj, List.getD_eq_getElem?_getD]
    rw [e]
    unfold prt1
    split <;> omega

section
variable {p : Int} {s : List Int} {b q : List (List Int)} (hs : okP s) (hb : ∀ x ∈ b, okP x) (hq : ∀ x ∈ q, okP x) (e1 : b.length = q.length) (n1 : b.length ≤ 8) (hp : p = 2 ∨ p = 3)
include hs hb hq e1 n1 hp
theorem keeps_col {j : Nat} (hj : j < 6) : ∀ k, k ≤ b.length → s.getD j 0 ≤ colZ (aplK p s b q k) j ∨ colZ b j ≤ colZ (aplK p s b q k) j
  | 0, _ => .inr (Int.le_refl _)
  | k + 1, hk => by
    have ih := keeps_col hj k (by omega)
    have hO := aplK_ok hs hb hq e1 (p := p) k (by omega)
    have hL := aplK_len (p := p) (s := s) (b := b) (q := q) k
    have hi : k < (aplK p s b q k).length := by omega
    have ht := sumL_col hj hO (by omega)
    have e : (aplK p s b q k).getD k z6 = (aplK p s b q k)[k] := by simp [List.getD_eq_getElem?_getD, hi]
    have hst := stp_col (p := p) (s := s) (t := sumL (aplK p s b q k)) (n := (aplK p s b q k)[k]) (a := q.getD k z6) hj hp
    simp only [aplK, e]
    rw [colZ_set hi]
    rw [ht] at hst
    omega
theorem keeps_und : und s (sumL b) (sumL (aplK p s b q b.length)) = false := by
  have hO := aplK_ok hs hb hq e1 (p := p) b.length (Nat.le_refl _)
  have hL := aplK_len (p := p) (s := s) (b := b) (q := q) b.length
  rw [und, List.any_eq_false]
  intro j hj
  have hj' : j < 6 := by simpa using hj
  have := keeps_col hs hb hq e1 n1 hp hj' b.length (Nat.le_refl _)
  rw [sumL_col hj' hO (by omega), sumL_col hj' hb n1]
  simp only [Bool.and_eq_true, decide_eq_true_eq]
  omega
end

section
variable {p : Int} {s : List Int} {b q : List (List Int)} {m1 m2 : Am.Mode} (hs6 : s.length = 6) (hb : ∀ x ∈ b, x.length = 6) (hq : ∀ x ∈ q, x.length = 6) (n1 : b.length < 4611686018427387904) (n2 : q.length < 4611686018427387904)
  (f1 : stm m1 = m1) (f2 : stm m2 = m2)
include hs6 hb hq n1 n2 f1 f2
theorem law_keeps : SoundCall Try.prog F_law38_UndersellKeeps [iv p, bun s, .list 6 m1 (rowsOf b), .list 6 m2 (rowsOf q)] (bv true) := by
  refine sound' t_law38_UndersellKeeps (by simp) ?_
  by_cases c1 : (60 : Int) < b.length
  · simp [c_law38_UndersellKeeps, hs6, c1]
    refine fin_awake ?_
    simp [r_law38_UndersellKeeps]
  by_cases c2 : (60 : Int) < q.length
  · simp [c_law38_UndersellKeeps, hs6, c1, c2]
    refine fin_awake ?_
    simp [r_law38_UndersellKeeps]
  by_cases c3 : p = 1
  · simp [c_law38_UndersellKeeps, hs6, c1, c2, c3]
    refine fin_awake ?_
    simp [r_law38_UndersellKeeps]
  simp [c_law38_UndersellKeeps, hs6, c1, c2, c3]
  by_cases hE : chkE p s b q = 0
  · obtain ⟨p1, p2, e1, l8, g1, g2, g3⟩ := chkE_zero hE
    have ob : ∀ x ∈ b, okP x := fun x hx => ⟨hb x hx, List.all_eq_true.mp g2 x hx⟩
    have oq : ∀ x ∈ q, okP x := fun x hx => ⟨hq x hx, List.all_eq_true.mp g3 x hx⟩
    have os : okP s := ⟨hs6, g1⟩
    have hO := aplK_ok (p := p) (s := s) os ob oq e1 b.length (Nat.le_refl _)
    have hL := aplK_len (p := p) (s := s) (b := b) (q := q) b.length
    refine eCall_i (apply_ok (p := p) (m1 := m1) (m2 := m2) os ob oq e1 l8 f1 f2 p1 p2) (by simp [f1, f2]) (by simp) ?_
    simp [hs6]
    refine eCall_i (undR_sound (s := s) (m1 := m1) (m2 := .plain) hs6 hb (fun x hx => (hO x hx).1) n1 (by omega)) (by simp [f1]) (by simp) ?_
    simp [keeps_und os ob oq e1 l8 (show p = 2 ∨ p = 3 by omega)]
    refine fin_awake ?_
    simp [r_law38_UndersellKeeps]
  · refine eCall_i (apply_err (p := p) (m1 := m1) (m2 := m2) hs6 hb hq n1 n2 hE) (by simp [f1, f2]) (by simp) ?_
    simp [hE]
    refine fin_awake ?_
    simp [r_law38_UndersellKeeps]
end
end Go.Proofs.Ytagicjnmpoonpaa
