import Derived.Test.YtagicjnmpoonpaaT10
namespace Go.Proofs.Ytagicjnmpoonpaa
open Go Go.Am

theorem eql_bool {ox oy : Operand} {a b : Bool} {K : AV → Option Entry → Prop} :
    eBin Try.prog .eql T_bool ox oy [bv a, bv b] K = K (bv (a == b)) none := eBin_eql_bool (by kernel_rfl)
theorem und_self {s a : List Int} : und s a a = false := by
  rw [und, List.any_eq_false]
  intro k _
  simp
section
variable {s : List Int} {b q : List (List Int)} {m1 m2 : Am.Mode} (hs6 : s.length = 6) (hb : ∀ x ∈ b, x.length = 6) (hq : ∀ x ∈ q, x.length = 6) (n1 : b.length < 4611686018427387904) (n2 : q.length < 4611686018427387904)
  (f1 : stm m1 = m1) (f2 : stm m2 = m2)
include hs6 hb hq n1 n2 f1 f2
theorem law_undersold : SoundCall Try.prog F_law38_UndersellUndersold [bun s, .list 6 m1 (rowsOf b), .list 6 m2 (rowsOf q)] (bv true) := by
  refine sound' t_law38_UndersellUndersold (by simp) ?_
  simp [c_law38_UndersellUndersold, hs6, f1, f2]
  refine eCall_i (moderate_sound (m := m1) hb n1) (by simp [f1]) (by simp) ?_
  cases c1 : modL b
  · simp
    refine fin_awake ?_
    simp [r_law38_UndersellUndersold]
  simp [f2]
  refine eCall_i (moderate_sound (m := m2) hq n2) (by simp [f2]) (by simp) ?_
  cases c2 : modL q
  · simp
    refine fin_awake ?_
    simp [r_law38_UndersellUndersold]
  simp [hs6]
  refine eCall_i (moderate_sound (m := .full) (l := [s]) (by simpa using hs6) (by simp)) (by simp) (by simp) ?_
  cases c3 : modL [s]
  · simp
    refine fin_awake ?_
    simp [r_law38_UndersellUndersold]
  simp [hs6, f1, f2]
  refine eCall_i (und_sound (m1 := m1) (m2 := m2) hs6 hb hq n1 n2) (by simp [f1, f2]) (by simp) ?_
  simp [hs6, f1, f2]
  refine eCall_i (undR_sound (m1 := m1) (m2 := m2) hs6 hb hq n1 n2) (by simp [f1, f2]) (by simp) ?_
  simp [hs6, f1, f2, eql_bool]
  refine eCall_i (und_sound (m1 := m1) (m2 := m1) hs6 hb hb n1 n1) (by simp [f1, f2]) (by simp) ?_
  simp [und_self]
  refine fin_awake ?_
  simp [r_law38_UndersellUndersold]
end
end Go.Proofs.Ytagicjnmpoonpaa
