import Derived.Test.YtagicjnmpoonpaaT4
import Derived.Test.YtagicjnmpoonpaaAm28
namespace Go.Proofs.Ytagicjnmpoonpaa
open Go Go.Am

def chkE (p : Int) (s : List Int) (b q : List (List Int)) : Int :=
  if p < 1 ∨ 3 < p then 4 else if b.length ≠ q.length ∨ 8 < b.length then 3 else if okB s = true then (if b.all okB = true ∧ q.all okB = true then 0 else 4) else 4

theorem okL_take {l : List (List Int)} {k : Nat} (hk : k < l.length) (h : (l.take k).all okB = true) (h1 : okB l[k] = true) : (l.take (k + 1)).all okB = true := by
  rw [List.take_succ_eq_append_getElem hk, List.all_append]
  simp [h1]
  simpa using h
theorem okL_not {l : List (List Int)} {k : Nat} (hk : k < l.length) (h : okB l[k] = false) : l.all okB = false := by
  rw [List.all_eq_false]
  exact ⟨l[k], List.getElem_mem _, by simp [h]⟩

def stKi (A : List AV) (m : Am.Mode) (l : List (List Int)) (k j : Nat) : St :=
  { env := [(37, .agg A), (38, iv k), (41, .list 6 m (rowsOf l)), (42, iv l.length), (43, iv j)], sto := [] }
theorem chk_inner {A : List AV} {m : Am.Mode} {l : List (List Int)} {k : Nat} {K : Exit → St → Prop} (hl : ∀ x ∈ l, x.length = 6) (hn : l.length < 4611686018427387904)
    (h1 : l.all okB = true → K (.exit 3) { env := [(37, .agg A), (38, iv k), (41, .list 6 m (rowsOf l)), (42, iv l.length), (43, iv l.length), (44, bv false)], sto := [] })
    (h2 : l.all okB = false → K .ret { env := [(8, iv 4)], sto := [] }) : awp Try.prog (.loop c_undersell_check_l0) (stKi A m l k 0) K := by
  refine awp_forI (stKi A m l k) (fun j => (l.take j).all okB = true) l.length rfl rfl (fun j hj hi => ?_) (fun hi => ?_)
  · have ej : (j : Int) < l.length := by omega
    have hb := hl l[j] (List.getElem_mem _)
    simp [c_undersell_check_l0, stKi, ej, hj, hb]
    refine eCall_i (check_sound hb) (by simp) (by simp) ?_
    cases h : okB l[j]
    · simp [h2 (okL_not hj h)]
    · simp [wrap_succ (show j < 4611686018427387904 by omega)]
      exact ⟨rfl, by simpa using okL_take hj hi h⟩
  · rw [List.take_of_length_le (by omega)] at hi
    simp [c_undersell_check_l0, stKi]
    exact h1 hi

def stK (A : List AV) (k : Nat) : St := { env := [(37, .agg A), (38, iv k)], sto := [] }
section
variable {m1 m2 : Am.Mode} {p : Int} {s : List Int} {b q : List (List Int)} (hs : s.length = 6) (hb : ∀ x ∈ b, x.length = 6) (hq : ∀ x ∈ q, x.length = 6) (n1 : b.length < 4611686018427387904) (n2 : q.length < 4611686018427387904)
  (f1 : stm m1 = m1) (f2 : stm m2 = m2)
include hs hb hq n1 n2 f1 f2
theorem chk_sound : SoundCall Try.prog F_undersell_check [iv p, bun s, .list 6 m1 (rowsOf b), .list 6 m2 (rowsOf q)] (iv (chkE p s b q)) := by
  refine sound' t_undersell_check (by simp) ?_
  by_cases c1 : p < 1
  · simp [c_undersell_check, hs, c1, r_undersell_check, chkE]
  by_cases c2 : 3 < p
  · simp [c_undersell_check, hs, c1, c2, r_undersell_check, chkE]
  by_cases c3 : (b.length : Int) = q.length
  rotate_left
  · have c3' : ¬ b.length = q.length := by omega
    simp [c_undersell_check, hs, c1, c2, c3, c3', r_undersell_check, chkE]
  have e1 : b.length = q.length := by omega
  by_cases c4 : (8 : Int) < q.length
  · have c4' : 8 < q.length := by omega
    simp [c_undersell_check, hs, c1, c2, c3, c4, c4', e1, r_undersell_check, chkE]
  have c4' : ¬ 8 < q.length := by omega
  simp [c_undersell_check, hs, c1, c2, c3, c4]
  refine eCall_i (check_sound hs) (by simp) (by simp) ?_
  cases c5 : okB s
  · simp [r_undersell_check, chkE, c1, c2, e1, c4', c5]
  have hE : chkE p s b q = if b.all okB = true ∧ q.all okB = true then 0 else 4 := by simp [chkE, c1, c2, e1, c4', c5]
  simp [f1, f2]
  refine awp_forI (stK [.list 6 m1 (rowsOf b), .list 6 m2 (rowsOf q)]) (fun k => (0 < k → b.all okB = true) ∧ (1 < k → q.all okB = true)) 2 rfl ⟨by omega, by omega⟩ (fun k hk hi => ?_) (fun hi => ?_)
  · match k, hk with
    | 0, _ =>
      simp [c_undersell_check_l2, stK]
      refine chk_inner (k := 0) hb n1 (fun h => ?_) (fun h => ?_)
      · simp [c_undersell_check_k1, hE]
        exact ⟨rfl, by simpa using h⟩
      · simp [hE, h, r_undersell_check]
    | 1, _ =>
      simp [c_undersell_check_l2, stK]
      refine chk_inner (k := 1) hq n2 (fun h => ?_) (fun h => ?_)
      · simp [c_undersell_check_k1, hE]
        exact ⟨rfl, by simpa using hi.1, by simpa using h⟩
      · simp [hE, h, r_undersell_check]
  · have h1 := hi.1 (by omega)
    have h2 := hi.2 (by omega)
    simp [c_undersell_check_l2, stK, c_undersell_check_k3, r_undersell_check, hE, h1, h2]
end
end Go.Proofs.Ytagicjnmpoonpaa
