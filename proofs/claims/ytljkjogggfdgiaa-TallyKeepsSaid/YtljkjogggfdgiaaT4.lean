import Derived.Test.YtljkjogggfdgiaaT3
namespace Go.Proofs.Ytljkjogggfdgiaa
open Go Go.Am

theorem few_sound {m : Am.Mode} {a : List Int} {l : List (List Int)} (ha : a.length = 6) (hl : ∀ b ∈ l, b.length = 6) (hn : l.length < 4611686018427387904) :
    SoundCall Try.prog F_law35_few [bun a, .list 6 m (rowsOf l)] (bv (modL l && modL [a])) := by
  refine sound' t_law35_few (by simp) ?_
  simp [c_law35_few]
  refine eCall_i (moderate_sound (m := stm m) hl hn) (by simp) (by simp) ?_
  cases h : modL l
  · simp [r_law35_few]
  · simp [r_law35_few, ha]
    refine eCall_i (moderate_sound (m := .full) (l := [a]) (by simpa using ha) (by simp)) (by simp) (by simp) ?_
    simp

set_option maxRecDepth 100000 in
theorem awake_sound : SoundCall Try.prog F_law35_awake [] (bv true) := .of_run tab_ok 1000 100 (by kernel_rfl)

/-! ### plain law -/
def bd (B : Int) (l : List Int) : Prop := ∀ x ∈ l, -B ≤ x ∧ x ≤ B
theorem addL_bd {A B : Int} {a b : List Int} (ha : bd A a) (hb : bd B b) (hA : A + B < 9223372036854775807) : bd (A + B) (addL a b) ∧ addL a b = List.zipWith (· + ·) a b := by
  have key : ∀ x ∈ a, ∀ y ∈ b, wr (x + y) = x + y := fun x hx y hy => by
    have := ha x hx; have := hb y hy
    exact wrap64 (by omega) (by omega)
  constructor
  · intro z hz
    obtain ⟨i, hi, rfl⟩ := List.getElem_of_mem hz
    simp only [addL, List.getElem_zipWith]
    simp only [addL, List.length_zipWith] at hi
    rw [key _ (List.getElem_mem _) _ (List.getElem_mem _)]
    have := ha a[i] (List.getElem_mem _); have := hb b[i] (List.getElem_mem _)
    omega
  · apply List.ext_getElem
    · simp [addL]
    · intro i h1 h2
      simp only [addL, List.getElem_zipWith]
      exact key _ (List.getElem_mem _) _ (List.getElem_mem _)
def sumZ (l : List (List Int)) : List Int := l.foldl (List.zipWith (· + ·)) z6
theorem modB_bd {b : List Int} (h : modB b = true) : bd 1099511627776 b := fun x hx => by
  have := List.all_eq_true.mp h x hx
  simpa using this
theorem foldl_mod : ∀ (l : List (List Int)) (a : List Int) (B : Int), bd B a → (∀ b ∈ l, modB b = true) → B + l.length * 1099511627776 < 9223372036854775807 → 0 ≤ B →
    bd (B + l.length * 1099511627776) (l.foldl addL a) ∧ l.foldl addL a = l.foldl (List.zipWith (· + ·)) a
  | [], a, B, h, _, _, _ => by simpa using h
  | b :: l, a, B, h, hl, hB, h0 => by
    simp only [List.length_cons, Int.natCast_add, Int.natCast_one] at hB ⊢
    have h1 := addL_bd h (modB_bd (hl b (by simp))) (by omega)
    have ih := foldl_mod l _ _ h1.1 (fun c hc => hl c (by simp [hc])) (by omega) (by omega)
    simp only [List.foldl_cons]
    constructor
    · have := ih.1
      rwa [show B + 1099511627776 + ↑l.length * 1099511627776 = B + (↑l.length + 1) * 1099511627776 by omega] at this
    · rw [ih.2, h1.2]
theorem sumL_mod {l : List (List Int)} (h : modL l = true) : bd 1099511627776000 (sumL l) ∧ sumL l = sumZ l := by
  simp only [modL, Bool.and_eq_true, decide_eq_true_eq] at h
  have := foldl_mod l z6 0 (by intro x hx; simp [z6] at hx; omega) (List.all_eq_true.mp h.1) (by omega) (by omega)
  refine ⟨fun x hx => ?_, this.2⟩
  have := this.1 x hx
  omega
theorem over_eq_ex {A : Int} {a b : List Int} (ha : bd A a) (hb : bd A b) (hA : A + A < 9223372036854775807) : overL a b = exR a b := by
  apply List.ext_getElem
  · simp [overL, exR]
  · intro i h1 h2
    have i1 : i < a.length := by simp [overL] at h1; omega
    have i2 : i < b.length := by simp [overL] at h1; omega
    have := ha a[i] (List.getElem_mem _); have := hb b[i] (List.getElem_mem _)
    have e : wr (a[i] - b[i]) = a[i] - b[i] := wrap64 (by omega) (by omega)
    simp only [overL, exR, List.getElem_zipWith, e]
    split <;> omega
theorem exR_sl {a b : List Int} : exR a b = slR a b := rfl

section
variable {m : Am.Mode} {a : List Int} {l : List (List Int)} (ha : a.length = 6) (hl : ∀ b ∈ l, b.length = 6) (hn : l.length < 4611686018427387904)
include ha hl hn
theorem law_sums : SoundCall Try.prog F_law35_TallySums [bun a, .list 6 m (rowsOf l)] (bv true) := by
  refine sound' t_law35_TallySums (by simp) ?_
  simp [c_law35_TallySums, ha]
  refine eCall_i (few_sound (m := stm m) ha hl hn) (by simp) (by simp) ?_
  cases h : (modL l && modL [a])
  · simp
    refine eCall_i (xs := []) (args := []) awake_sound rfl (.inl rfl) ?_
    simp [r_law35_TallySums]
  · simp at h
    have hs := sumL_len hl
    have hb := sumL_mod h.1
    have hab : bd 1099511627776000 a := by
      have := h.2
      simp only [modL, List.all_cons, List.all_nil, Bool.and_true, Bool.and_eq_true] at this
      have := modB_bd this.1
      intro x hx
      have := this x hx
      omega
    have e1 := over_eq_ex hb.1 hab (by omega)
    have e2 := over_eq_ex hab hb.1 (by omega)
    simp
    refine eCall_i (sum_sound (m := stm m) hl hn) (by simp) (by simp) ?_
    simp
    refine eCall_i (sumR_sound (m := stm m) hl hn) (by simp) (by simp) ?_
    simp [eql_bun, hs, ha]
    refine eCall_i (excess_sound (m := stm m) hl hn ha) (by simp) (by simp) ?_
    simp [ha]
    refine eCall_i (excessR_sound (m := stm m) hl hn ha) (by simp) (by simp) ?_
    have l1 : (overL (sumL l) a).length = 6 := by simp [overL, hs, ha]
    have l2 : (overL a (sumL l)).length = 6 := by simp [overL, hs, ha]
    rw [← e1]
    simp [eql_bun, l1, ha]
    refine eCall_i (slack_sound (m := stm m) hl hn ha) (by simp) (by simp) ?_
    simp [ha]
    refine eCall_i (slackR_sound (m := stm m) hl hn ha) (by simp) (by simp) ?_
    rw [← exR_sl, ← e2]
    simp [eql_bun, l2, ha]
    refine eCall_i (cleared_sound (m := stm m) hl hn ha) (by simp) (by simp) ?_
    simp [ha]
    refine eCall_i (clearedR_sound (m := stm m) hl hn ha) (by simp) (by simp) ?_
    rw [← e1]
    simp [eql_bool]
    refine eCall_i (xs := []) (args := []) awake_sound rfl (.inl rfl) ?_
    simp [r_law35_TallySums]
end
end Go.Proofs.Ytljkjogggfdgiaa
