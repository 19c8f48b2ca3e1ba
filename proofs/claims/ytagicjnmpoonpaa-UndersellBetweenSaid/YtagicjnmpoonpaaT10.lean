import Derived.Test.YtagicjnmpoonpaaT9
namespace Go.Proofs.Ytagicjnmpoonpaa
open Go Go.Am

set_option maxRecDepth 100000 in
theorem awake_sound : SoundCall Try.prog F_law38_awake [] (bv true) := .of_run tab_ok 1000 100 (by kernel_rfl)

theorem chkE_zero {p : Int} {s : List Int} {b q : List (List Int)} (h : chkE p s b q = 0) : 1 ≤ p ∧ p ≤ 3 ∧ b.length = q.length ∧ b.length ≤ 8 ∧ okB s = true ∧ b.all okB = true ∧ q.all okB = true := by
  unfold chkE at h
  split at h
  · omega
  rename_i h1
  split at h
  · omega
  rename_i h2
  split at h
  · rename_i h3
    split at h
    · rename_i h4
      exact ⟨by omega, by omega, by omega, by omega, h3, h4.1, h4.2⟩
    · omega
  · omega

section
variable {p : Int} {s : List Int} {b q : List (List Int)} {m1 m2 : Am.Mode} (hs6 : s.length = 6) (hb : ∀ x ∈ b, x.length = 6) (hq : ∀ x ∈ q, x.length = 6) (n1 : b.length < 4611686018427387904) (n2 : q.length < 4611686018427387904)
  (f1 : stm m1 = m1) (f2 : stm m2 = m2)
include hs6 hb hq n1 n2 f1 f2
/-- The result of both, one way or the other. -/
theorem both : ∃ (sz : Nat) (m : Am.Mode) (l : List (List Int)) (e : Int), (l = [] ∨ sz = 6) ∧ (∀ x ∈ l, x.length = 6) ∧ l.length ≤ 8 ∧ stm m = m ∧
    SoundCall Try.prog F_undersell_Apply [iv p, bun s, .list 6 m1 (rowsOf b), .list 6 m2 (rowsOf q)] (.tuple [.list sz m (rowsOf l), iv e]) ∧
    SoundCall Try.prog F_ref38_Apply [iv p, bun s, .list 6 m1 (rowsOf b), .list 6 m2 (rowsOf q)] (.tuple [.list sz m (rowsOf l), iv e]) ∧
    ((e ≠ 0 ∧ l = []) ∨ (e = 0 ∧ chkE p s b q = 0 ∧ l = aplK p s b q b.length ∧ 1 ≤ p ∧ p ≤ 3 ∧ b.length = q.length ∧ b.length ≤ 8 ∧ okP s ∧ (∀ x ∈ b, okP x) ∧ (∀ x ∈ q, okP x))) := by
  by_cases hE : chkE p s b q = 0
  · obtain ⟨p1, p2, e1, l8, h1, h2, h3⟩ := chkE_zero hE
    have ob : ∀ x ∈ b, okP x := fun x hx => ⟨hb x hx, List.all_eq_true.mp h2 x hx⟩
    have oq : ∀ x ∈ q, okP x := fun x hx => ⟨hq x hx, List.all_eq_true.mp h3 x hx⟩
    have os : okP s := ⟨hs6, h1⟩
    have hO := aplK_ok (p := p) (s := s) os ob oq e1 b.length (Nat.le_refl _)
    exact ⟨6, .plain, _, 0, .inr rfl, fun x hx => (hO x hx).1, by rw [aplK_len]; exact l8, rfl, apply_ok os ob oq e1 l8 f1 f2 p1 p2, applyR_ok os ob oq e1 l8 f1 f2 p1 p2, .inr ⟨rfl, hE, rfl, p1, p2, e1, l8, os, ob, oq⟩⟩
  · exact ⟨0, .full, [], _, .inl rfl, by simp, by simp, rfl, apply_err hs6 hb hq n1 n2 hE, applyR_err hs6 hb hq n2 f1 f2 hE, .inl ⟨hE, rfl⟩⟩

omit hs6 hb hq n1 n2 f1 f2 in
theorem fin_awake {K : AV → Option Entry → Prop} {σ : Nat → Option Entry} (h : K (bv true) none) : eCall Try.prog F_law38_awake σ [] K := eCall_i (xs := []) (args := []) awake_sound rfl (.inl rfl) h

theorem law_applies : SoundCall Try.prog F_law38_UndersellApplies [iv p, bun s, .list 6 m1 (rowsOf b), .list 6 m2 (rowsOf q)] (bv true) := by
  obtain ⟨sz, m, l, e, h1, h2, h3, h4, hA, hR, _⟩ := both (p := p) (s := s) (b := b) (q := q) (m1 := m1) (m2 := m2) hs6 hb hq n1 n2 f1 f2
  refine sound' t_law38_UndersellApplies (by simp) ?_
  by_cases c1 : (60 : Int) < b.length
  · simp [c_law38_UndersellApplies, hs6, c1]
    refine fin_awake ?_
    simp [r_law38_UndersellApplies]
  by_cases c2 : (60 : Int) < q.length
  · simp [c_law38_UndersellApplies, hs6, c1, c2]
    refine fin_awake ?_
    simp [r_law38_UndersellApplies]
  simp [c_law38_UndersellApplies, hs6, c1, c2]
  refine eCall_i hA (by simp [f1, f2]) (by simp) ?_
  simp [hs6]
  refine eCall_i hR (by simp [f1, f2]) (by simp) ?_
  simp
  refine eCall_i (sameR_sound (m1 := m) (m2 := m) h1 h1 h2 h2 (by omega)) (by simp [h4]) (by simp) ?_
  simp
  refine fin_awake ?_
  simp [r_law38_UndersellApplies]
end
end Go.Proofs.Ytagicjnmpoonpaa
