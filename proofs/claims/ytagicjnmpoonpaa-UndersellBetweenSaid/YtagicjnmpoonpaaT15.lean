import Derived.Test.YtagicjnmpoonpaaT14
namespace Go.Proofs.Ytagicjnmpoonpaa
open Go Go.Am

def red (n a : List Int) (j : Nat) : Bool := (List.range j).any fun i => decide (a.getD i 0 < n.getD i 0)
theorem red_succ {n a : List Int} {j : Nat} (hn : n.length = 6) (ha : a.length = 6) (hj : j < 6) : red n a (j + 1) = (red n a j || decide (a[j] < n[j])) := by
  unfold red
  rw [List.range_succ, List.any_append]
  simp [List.getD_eq_getElem?_getD, hn, ha, hj]
theorem red_no {n a : List Int} (h : red n a 6 = false) : ∀ j, j < 6 → ¬ a.getD j 0 < n.getD j 0 := fun j hj => by
  rw [red, List.any_eq_false] at h
  simpa using h j (by simpa using hj)
def stO (p : Int) (b q Q : List (List Int)) (k : Nat) : St :=
  { env := [(0, iv p), (2, .list 6 .plain (rowsOf b)), (3, .list 6 .plain (rowsOf q)), (9, .list 6 .plain (rowsOf Q)), (54, iv b.length), (55, iv k)], sto := [] }
def stOi (p : Int) (b q Q : List (List Int)) (k : Nat) (r : Bool) (j : Nat) : St :=
  { env := [(0, iv p), (2, .list 6 .plain (rowsOf b)), (3, .list 6 .plain (rowsOf q)), (9, .list 6 .plain (rowsOf Q)), (54, iv b.length), (55, iv k), (11, iv k), (12, bv r), (58, iv j)], sto := [] }

section
variable {p : Int} {s : List Int} {b q : List (List Int)} (hs6 : s.length = 6) (hb : ∀ x ∈ b, x.length = 6) (hq : ∀ x ∈ q, x.length = 6) (n1 : b.length < 4611686018427387904) (n2 : q.length < 4611686018427387904)
include hs6 hb hq n1 n2
set_option maxHeartbeats 4000000 in
set_option maxRecDepth 20000 in
theorem law_between : SoundCall Try.prog F_law38_UndersellBetween [iv p, bun s, .list 6 .plain (rowsOf b), .list 6 .plain (rowsOf q)] (bv true) := by
  refine sound' t_law38_UndersellBetween (by simp) ?_
  by_cases c1 : (8 : Int) < b.length
  · simp [c_law38_UndersellBetween, hs6, c1]
    refine fin_awake ?_
    simp [r_law38_UndersellBetween]
  by_cases c2 : (8 : Int) < q.length
  · simp [c_law38_UndersellBetween, hs6, c1, c2]
    refine fin_awake ?_
    simp [r_law38_UndersellBetween]
  simp [c_law38_UndersellBetween, hs6, c1, c2]
  by_cases hE : chkE p s b q = 0
  rotate_left
  · refine eCall_i (apply_err (p := p) (m1 := .plain) (m2 := .plain) hs6 hb hq n1 n2 hE) (by simp) (by simp) ?_
    simp [hE]
    refine fin_awake ?_
    simp [r_law38_UndersellBetween]
  obtain ⟨p1, p2, e1, l8, g1, g2, g3⟩ := chkE_zero hE
  have ob : ∀ x ∈ b, okP x := fun x hx => ⟨hb x hx, List.all_eq_true.mp g2 x hx⟩
  have oq : ∀ x ∈ q, okP x := fun x hx => ⟨hq x hx, List.all_eq_true.mp g3 x hx⟩
  have os : okP s := ⟨hs6, g1⟩
  have hO := aplK_ok (p := p) (s := s) os ob oq e1 b.length (Nat.le_refl _)
  have hL := aplK_len (p := p) (s := s) (b := b) (q := q) b.length
  have hrow : ∀ k (hk : k < b.length), ∃ t, (aplK p s b q b.length)[k]? = some (stp p s t b[k] (q[k]'(by omega))) := fun k hk => ⟨_, aplK_after hk (by omega) b.length hk (Nat.le_refl _)⟩
  have hA := apply_ok (p := p) (m1 := .plain) (m2 := .plain) os ob oq e1 l8 rfl rfl p1 p2
  obtain ⟨Q, hQ⟩ : ∃ Q, aplK p s b q b.length = Q := ⟨_, rfl⟩
  rw [hQ] at hA hO hL
  simp only [hQ] at hrow
  refine eCall_i hA (by simp) (by simp) ?_
  have e1' : (q.length : Int) = b.length := by omega
  simp [hL, e1']
  refine awp_for (stO p b q Q) b.length ?_ (fun k hk => ?_) ?_
  · simp [stO]
  · have ek : (k : Int) < b.length := by omega
    have hkq : k < q.length := by omega
    have hkQ : k < Q.length := by omega
    obtain ⟨t, ht⟩ := hrow k hk
    have hv : Q[k] = stp p s t b[k] q[k] := by
      rw [List.getElem?_eq_getElem hkQ] at ht
      simpa using ht
    have ln := hb b[k] (List.getElem_mem _)
    have la := hq q[k] (List.getElem_mem _)
    have lv := (hO Q[k] (List.getElem_mem _)).1
    simp [c_law38_UndersellBetween_l3, stO, ek]
    refine awp_for (fun j => stOi p b q Q k (red b[k] q[k] j) j) 6 ?_ (fun j hj => ?_) ?_
    · simp [stOi, red]
    · have ej : (j : Int) < 6 := by omega
      have hm := stp_mid (p := p) (s := s) (t := t) (n := b[k]) (a := q[k]) hj
      rw [← hv] at hm
      simp only [List.getD_eq_getElem?_getD] at hm
      rw [List.getElem?_eq_getElem (by omega), List.getElem?_eq_getElem (by omega), List.getElem?_eq_getElem (by omega)] at hm
      simp only [Option.getD_some] at hm
      have h1 : ¬ Q[k][j] < min b[k][j] q[k][j] := by omega
      have h2 : ¬ max b[k][j] q[k][j] < Q[k][j] := by omega
      have hr := red_succ ln la hj
      cases c : red b[k] q[k] j
      · rw [c] at hr
        simp [c_law38_UndersellBetween_l0, stOi, ej, ek, hk, hkq, hkQ, hj, ln, la, lv, c, hr, h1, h2, e1', wrap_succ (show j < 4611686018427387904 by omega)]
      · rw [c] at hr
        simp [c_law38_UndersellBetween_l0, stOi, ej, ek, hk, hkq, hkQ, hj, ln, la, lv, c, hr, h1, h2, e1', wrap_succ (show j < 4611686018427387904 by omega)]
    · by_cases c : Q[k] = q[k]
      · simp [c_law38_UndersellBetween_l0, c_law38_UndersellBetween_k1, c_law38_UndersellBetween_k2, stOi, stO, ek, hk, hkq, hkQ, ln, la, lv, neq_bun, c, e1', wrap_succ (show k < 4611686018427387904 by omega)]
      · have hr : red b[k] q[k] 6 = true := by
          cases hr : red b[k] q[k] 6
          · exact absurd (hv.trans (stp_free la (red_no hr))) c
          · rfl
        have q1 : ¬ p = 1 := fun e => by subst e; exact c (hv.trans stp_one)
        by_cases q2 : p = 2
        · have hn : Q[k] = b[k] := by
            subst q2
            rcases stp_two (s := s) (t := t) (n := b[k]) (a := q[k]) with h | h
            · exact hv.trans h
            · exact absurd (hv.trans h) c
          rw [hn] at c
          simp [c_law38_UndersellBetween_l0, c_law38_UndersellBetween_k1, c_law38_UndersellBetween_k2, stOi, stO, ek, hk, hkq, hkQ, ln, la, neq_bun, c, hn, hr, q2, e1', wrap_succ (show k < 4611686018427387904 by omega)]
        · simp [c_law38_UndersellBetween_l0, c_law38_UndersellBetween_k1, c_law38_UndersellBetween_k2, stOi, stO, ek, hk, hkq, hkQ, ln, la, lv, neq_bun, c, hr, q1, q2, e1', wrap_succ (show k < 4611686018427387904 by omega)]
  · simp [c_law38_UndersellBetween_l3, stO, c_law38_UndersellBetween_k4]
    refine fin_awake ?_
    simp [r_law38_UndersellBetween]
end
end Go.Proofs.Ytagicjnmpoonpaa
