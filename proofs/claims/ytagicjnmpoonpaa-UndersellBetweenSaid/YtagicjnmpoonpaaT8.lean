import Derived.Test.YtagicjnmpoonpaaT7
namespace Go.Proofs.Ytagicjnmpoonpaa
open Go Go.Am

theorem awp_state {P : Program} {c : ACode} {s s' : St} {K : Exit → St → Prop} (e : s' = s) (h : awp P c s K) : awp P c s' K := e ▸ h

section
variable {p : Int} {s : List Int} {b q : List (List Int)} {m1 m2 : Am.Mode} (hs6 : s.length = 6) (hb : ∀ x ∈ b, x.length = 6) (hq : ∀ x ∈ q, x.length = 6) (n1 : b.length < 4611686018427387904) (n2 : q.length < 4611686018427387904)
  (f1 : stm m1 = m1) (f2 : stm m2 = m2)
include hs6 hb hq n1 n2 f1 f2
omit f1 f2 in
theorem apply_err (hE : chkE p s b q ≠ 0) : SoundCall Try.prog F_undersell_Apply [iv p, bun s, .list 6 m1 (rowsOf b), .list 6 m2 (rowsOf q)] (.tuple [.list 0 .full [], iv (chkE p s b q)]) := by
  refine sound' t_undersell_Apply (by simp) ?_
  simp [c_undersell_Apply, hs6]
  refine eCall_i (chk_sound (p := p) (s := s) (b := b) (q := q) (m1 := stm m1) (m2 := stm m2) hs6 hb hq n1 n2 (by simp) (by simp)) (by simp) (by simp) ?_
  simp [hE, r_undersell_Apply]

def stR0 (p : Int) (s : List Int) (b q l : List (List Int)) (m1 m2 : Am.Mode) (k : Nat) : St :=
  { env := [(0, iv p), (2, .list 6 m1 (rowsOf b)), (3, .list 6 m2 (rowsOf q)), (5, .ptr 5 0), (10, .list 6 (.own 33) (rowsOf l)), (11, iv k)], sto := [(5, .var (s.map iv))] }
omit hs6 hb hq n1 n2 f1 f2 in
theorem chkR_inner {l : List (List Int)} {K : Exit → St → Prop} (hl : ∀ x ∈ l, x.length = 6) (hn : l.length < 4611686018427387904)
    (h1 : l.all okB = true → K (.exit 0) { env := [(0, iv p), (2, .list 6 m1 (rowsOf b)), (3, .list 6 m2 (rowsOf q)), (5, .ptr 5 0), (10, .list 6 (.own 33) (rowsOf l)), (11, iv l.length), (40, bv false)], sto := [(5, .var (s.map iv))] })
    (h2 : l.all okB = false → K .ret { env := [(8, .list 0 .full []), (9, iv 4)], sto := [] }) : awp Try.prog (.loop c_ref38_Apply_l0) (stR0 p s b q l m1 m2 0) K := by
  refine awp_forI (stR0 p s b q l m1 m2) (fun j => (l.take j).all okB = true) l.length rfl rfl (fun j hj hi => ?_) (fun hi => ?_)
  · have ej : (j : Int) < l.length := by omega
    have hb := hl l[j] (List.getElem_mem _)
    simp [c_ref38_Apply_l0, stR0, ej, hj, hb]
    refine eCall_i (check7_sound hb) (by simp) (by simp) ?_
    cases h : okB l[j]
    · simp [h2 (okL_not hj h)]
    · simp [wrap_succ (show j < 4611686018427387904 by omega)]
      exact ⟨rfl, by simpa using okL_take hj hi h⟩
  · rw [List.take_of_length_le (by omega)] at hi
    simp [c_ref38_Apply_l0, stR0]
    exact h1 hi
omit n1 in
theorem applyR_err (hE : chkE p s b q ≠ 0) : SoundCall Try.prog F_ref38_Apply [iv p, bun s, .list 6 m1 (rowsOf b), .list 6 m2 (rowsOf q)] (.tuple [.list 0 .full [], iv (chkE p s b q)]) := by
  refine sound' t_ref38_Apply (by simp) ?_
  by_cases c1 : p < 1
  · simp [c_ref38_Apply, hs6, c1, r_ref38_Apply, chkE]
  by_cases c2 : 3 < p
  · simp [c_ref38_Apply, hs6, c1, c2, r_ref38_Apply, chkE]
  by_cases c3 : (b.length : Int) = q.length
  rotate_left
  · have c3' : ¬ b.length = q.length := by omega
    simp [c_ref38_Apply, hs6, c1, c2, c3, c3', r_ref38_Apply, chkE]
  have e1 : b.length = q.length := by omega
  by_cases c4 : (8 : Int) < q.length
  · have c4' : 8 < q.length := by omega
    simp [c_ref38_Apply, hs6, c1, c2, c3, c4, c4', e1, r_ref38_Apply, chkE]
  have c4' : ¬ 8 < q.length := by omega
  have hA : (s :: (b ++ q)).all okB = false := by
    simp [chkE, c1, c2, e1, c4'] at hE
    cases h0 : okB s
    · simp [h0]
    · simp [h0] at hE
      rw [List.all_eq_false]
      by_cases h1 : ∀ x ∈ b, okB x = true
      · obtain ⟨x, hx, h2⟩ := hE h1
        exact ⟨x, by simp [hx], by simp [h2]⟩
      · simp only [Classical.not_forall] at h1
        obtain ⟨x, hx, h2⟩ := h1
        exact ⟨x, by simp [hx], by simpa using h2⟩
  have hE4 : chkE p s b q = 4 := by
    simp [chkE, c1, c2, e1, c4'] at hE ⊢
    cases h0 : okB s <;> simp [h0] at hE ⊢
    intro h; exact hE h
  rw [hE4]
  simp [c_ref38_Apply, hs6, c1, c2, c3, c4, f1, f2]
  refine ⟨by omega, by omega, by omega, by omega, ?_⟩
  refine awp_state (s := stR0 p s b q (s :: (b ++ q)) m1 m2 0) (by simp [stR0]) ?_
  refine chkR_inner (p := p) (s := s) (b := b) (q := q) (l := s :: (b ++ q)) (m1 := m1) (m2 := m2) (fun x hx => ?_) (by simp; omega) (fun h => ?_) (fun _ => ?_)
  · simp only [List.mem_cons, List.mem_append] at hx
    rcases hx with rfl | hx | hx
    · exact hs6
    · exact hb x hx
    · exact hq x hx
  · rw [hA] at h; cases h
  · simp [r_ref38_Apply]
end
end Go.Proofs.Ytagicjnmpoonpaa
