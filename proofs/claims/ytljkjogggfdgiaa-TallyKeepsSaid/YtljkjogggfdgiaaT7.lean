import Derived.Test.YtljkjogggfdgiaaT6
namespace Go.Proofs.Ytljkjogggfdgiaa
open Go Go.Am

/-! ### sums, place by place -/
def colZ : List (List Int) → Nat → Int
  | [], _ => 0
  | b :: l, k => b.getD k 0 + colZ l k
theorem colZ_app {l m : List (List Int)} {k : Nat} : colZ (l ++ m) k = colZ l k + colZ m k := by
  induction l with
  | nil => simp [colZ]
  | cons b l ih => simp only [List.cons_append, colZ, ih]; omega
theorem colZ_rev {l : List (List Int)} {k : Nat} : colZ l.reverse k = colZ l k := by
  induction l with
  | nil => rfl
  | cons b l ih => simp only [List.reverse_cons, colZ_app, colZ, ih]; omega
theorem foldZ_col : ∀ {l : List (List Int)} {a : List Int}, a.length = 6 → (∀ b ∈ l, b.length = 6) →
    (l.foldl (List.zipWith (· + ·)) a).length = 6 ∧ ∀ k, k < 6 → (l.foldl (List.zipWith (· + ·)) a).getD k 0 = a.getD k 0 + colZ l k
  | [], a, ha, _ => ⟨ha, fun k _ => by simp [colZ]⟩
  | b :: l, a, ha, hl => by
    have hb := hl b (by simp)
    have h1 : (List.zipWith (· + ·) a b).length = 6 := by simp [ha, hb]
    obtain ⟨g1, g2⟩ := foldZ_col (l := l) h1 fun c hc => hl c (by simp [hc])
    refine ⟨g1, fun k hk => ?_⟩
    rw [List.foldl_cons, g2 k hk]
    have e : (List.zipWith (· + ·) a b).getD k 0 = a.getD k 0 + b.getD k 0 := by simp [ha, hb, hk]
    rw [e]
    simp only [colZ]
    omega
theorem sumZ_col {l : List (List Int)} (hl : ∀ b ∈ l, b.length = 6) : (sumZ l).length = 6 ∧ ∀ k, k < 6 → (sumZ l).getD k 0 = colZ l k := by
  obtain ⟨h1, h2⟩ := foldZ_col (l := l) (a := z6) rfl hl
  refine ⟨h1, fun k hk => ?_⟩
  have := h2 k hk
  have e : z6.getD k 0 = 0 := by
    match k, hk with
    | 0, _ | 1, _ | 2, _ | 3, _ | 4, _ | 5, _ => rfl
  rw [e] at this
  simpa [sumZ] using this
theorem ext6 {a b : List Int} (ha : a.length = 6) (hb : b.length = 6) (h : ∀ k, k < 6 → a.getD k 0 = b.getD k 0) : a = b := by
  apply List.ext_getElem (by omega)
  intro i h1 h2
  have := h i (by omega)
  simpa [h1, h2] using this
theorem sumZ_two {a b l : List (List Int)} (ha : ∀ x ∈ a, x.length = 6) (hb : ∀ x ∈ b, x.length = 6) (hl : ∀ x ∈ l, x.length = 6) (hc : ∀ k, colZ l k = colZ a k + colZ b k) :
    sumZ l = List.zipWith (· + ·) (sumZ a) (sumZ b) := by
  obtain ⟨a1, a2⟩ := sumZ_col ha
  obtain ⟨b1, b2⟩ := sumZ_col hb
  obtain ⟨l1, l2⟩ := sumZ_col hl
  refine ext6 l1 (by simp [a1, b1]) fun k hk => ?_
  have e : (List.zipWith (· + ·) (sumZ a) (sumZ b)).getD k 0 = (sumZ a).getD k 0 + (sumZ b).getD k 0 := by simp [a1, b1, hk]
  rw [l2 k hk, e, a2 k hk, b2 k hk, hc]
theorem modL_two {a b l : List (List Int)} (ha : modL a = true) (hb : modL b = true) (ha5 : a.length ≤ 500) (hb5 : b.length ≤ 500) (h1 : l.length = a.length + b.length) (h2 : ∀ x ∈ l, x ∈ a ∨ x ∈ b) : modL l = true := by
  simp only [modL, Bool.and_eq_true, decide_eq_true_eq] at *
  refine ⟨List.all_eq_true.2 fun x hx => ?_, by omega⟩
  rcases h2 x hx with h | h
  · exact List.all_eq_true.1 ha.1 x h
  · exact List.all_eq_true.1 hb.1 x h
theorem sumL_two {a b l : List (List Int)} (ha : ∀ x ∈ a, x.length = 6) (hb : ∀ x ∈ b, x.length = 6) (ma : modL a = true) (mb : modL b = true) (ha5 : a.length ≤ 500) (hb5 : b.length ≤ 500)
    (h1 : l.length = a.length + b.length) (h2 : ∀ x ∈ l, x ∈ a ∨ x ∈ b) (hc : ∀ k, colZ l k = colZ a k + colZ b k) : sumL l = addL (sumL a) (sumL b) := by
  have hl : ∀ x ∈ l, x.length = 6 := fun x hx => (h2 x hx).elim (ha x) (hb x)
  have ml := modL_two ma mb ha5 hb5 h1 h2
  have e1 := sumL_mod ma
  have e2 := sumL_mod mb
  have e3 := sumL_mod ml
  rw [(addL_bd e1.1 e2.1 (by omega)).2, e3.2, e1.2, e2.2]
  exact sumZ_two ha hb hl hc
theorem sumL_app {a b : List (List Int)} (ha : ∀ x ∈ a, x.length = 6) (hb : ∀ x ∈ b, x.length = 6) (ma : modL a = true) (mb : modL b = true) (ha5 : a.length ≤ 500) (hb5 : b.length ≤ 500) :
    sumL (a ++ b) = addL (sumL a) (sumL b) := sumL_two ha hb ma mb ha5 hb5 (by simp) (fun x hx => by simpa using hx) fun k => colZ_app
theorem sumL_rev {a b : List (List Int)} (ha : ∀ x ∈ a, x.length = 6) (hb : ∀ x ∈ b, x.length = 6) (ma : modL a = true) (mb : modL b = true) (ha5 : a.length ≤ 500) (hb5 : b.length ≤ 500) :
    sumL (b.reverse ++ a) = addL (sumL a) (sumL b) := sumL_two ha hb ma mb ha5 hb5 (by simp; omega) (fun x hx => by simpa [or_comm] using hx) fun k => by rw [colZ_app, colZ_rev]; omega
end Go.Proofs.Ytljkjogggfdgiaa
