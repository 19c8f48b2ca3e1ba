import Derived.Test.YtagicjnmpoonpaaT8
namespace Go.Proofs.Ytagicjnmpoonpaa
open Go Go.Am

def stR (p : Int) (s : List Int) (L q : List (List Int)) (n : Nat) (m : Am.Mode) (k : Nat) : St :=
  { env := [(0, iv p), (3, .list 6 m (rowsOf q)), (5, .ptr 5 0), (12, .us 51 6 0 n), (13, iv k)],
    sto := [(5, .var (s.map iv)), (51, .uarr 6 (rowsOf L))] }
section
variable {p : Int} {s : List Int} {b q : List (List Int)} (hs : okP s) (hb : ∀ x ∈ b, okP x) (hq : ∀ x ∈ q, okP x) (e1 : b.length = q.length) (n1 : b.length ≤ 8)
  {m1 m2 : Am.Mode} (f1 : stm m1 = m1) (f2 : stm m2 = m2) (p1 : 1 ≤ p) (p2 : p ≤ 3)
include hs hb hq e1 n1 f1 f2 p1 p2
set_option maxHeartbeats 4000000 in
theorem applyR_ok : SoundCall Try.prog F_ref38_Apply [iv p, bun s, .list 6 m1 (rowsOf b), .list 6 m2 (rowsOf q)] (.tuple [.list 6 .plain (rowsOf (aplK p s b q b.length)), iv 0]) := by
  have hs6 := hs.1
  have c1 : ¬ p < 1 := by omega
  have c2 : ¬ 3 < p := by omega
  have c3 : (b.length : Int) = q.length := by omega
  have c4 : ¬ (8 : Int) < q.length := by omega
  refine sound' t_ref38_Apply (by simp) ?_
  simp [c_ref38_Apply, hs6, c1, c2, c3, c4, f1, f2]
  refine ⟨by omega, by omega, by omega, by omega, ?_⟩
  refine awp_state (s := stR0 p s b q (s :: (b ++ q)) m1 m2 0) (by simp [stR0]) ?_
  refine chkR_inner (p := p) (s := s) (b := b) (q := q) (l := s :: (b ++ q)) (m1 := m1) (m2 := m2) (fun x hx => ?_) (by simp; omega) (fun _ => ?_) (fun h => ?_)
  · simp only [List.mem_cons, List.mem_append] at hx
    rcases hx with rfl | hx | hx
    · exact hs6
    · exact (hb x hx).1
    · exact (hq x hx).1
  rotate_left
  · exfalso
    have : (s :: (b ++ q)).all okB = true := by
      rw [List.all_eq_true]
      intro x hx
      simp only [List.mem_cons, List.mem_append] at hx
      rcases hx with rfl | hx | hx
      · exact hs.2
      · exact (hb x hx).2
      · exact (hq x hx).2
    rw [this] at h; cases h
  simp [c_ref38_Apply_k3, f1, f2, rowsDg_int]
  refine ⟨by omega, by omega, ?_⟩
  refine awp_for (fun k => stR p s (aplK p s b q k) q b.length m2 k) q.length ?_ (fun k hk => ?_) ?_
  · simp [stR, aplK]
  · have hL := aplK_len (p := p) (s := s) (b := b) (q := q) k
    have hO := aplK_ok hs hb hq e1 (p := p) k (by omega)
    have hN : aplK p s b q (k + 1) = (aplK p s b q k).set k (stp p s (sumL (aplK p s b q k)) ((aplK p s b q k).getD k z6) (q.getD k z6)) := rfl
    generalize aplK p s b q k = L at *
    have ek : (k : Int) < q.length := by omega
    have ekb : (k : Int) < b.length := by omega
    have hkb : k < b.length := by omega
    have hkL : k < L.length := by omega
    have l6 : ∀ x ∈ L, x.length = 6 := fun x hx => (hO x hx).1
    have hq6 := (hq q[k] (List.getElem_mem _)).1
    have hl6 := l6 L[k] (List.getElem_mem _)
    have ht6 := sumL_len l6
    have hT : List.take b.length (rowsOf L) = rowsOf L := take_full (by simp [hL])
    have bs := okP_bd1000 hs
    have bt := sum_bd hO (by omega)
    have bn := okP_bd1000 (hO L[k] (List.getElem_mem _))
    have ba := okP_bd1000 (hq q[k] (List.getElem_mem _))
    have wk : IntKind.i64.wrap ((k : Int) + 1) = ((k + 1 : Nat) : Int) := wrap_succ (by omega)
    have hn : L[k]?.getD z6 = L[k] := by simp [hkL]
    have ha : q[k]?.getD z6 = q[k] := by simp [hk]
    simp only [List.getD_eq_getElem?_getD, hn, ha] at hN
    by_cases q1 : p = 1
    · subst q1
      simp [c_ref38_Apply_l1, stR, ek, ekb, hk, hkL, hq6, hl6, hL, hkb, wk, hN, stp]
    by_cases q2 : p = 2
    · subst q2
      simp [c_ref38_Apply_l1, stR, ek, ekb, hk, hkL, hq6, hl6, hL, hkb, hs6]
      refine eCall_i (refusedR_sound (m := .plain) (s := s) (l := L) (i := k) (a := q[k]) hs6 hq6 l6 (by omega) hkL bt bn ba) (by simp [rowsRf_int, rowsSt_int, hT, hL]) (by simp) ?_
      cases hr : rfs s (sumL L) L[k] q[k]
      · simp [ek, ekb, hk, hkL, hq6, hl6, hL, hkb, wk, hN, stp, hr]
      · simp [ek, ekb, hk, hkL, hq6, hl6, hL, hkb, wk, hN, stp, hr]
    have q3 : p = 3 := by omega
    subst q3
    simp [c_ref38_Apply_l1, stR, ek, ekb, hk, hkL, hq6, hl6, hL, hkb, hs6]
    refine eCall_i (partlyR_sound (m := .plain) (s := s) (l := L) (i := k) (a := q[k]) hs6 hq6 l6 (by omega) hkL bs bt bn ba) (by simp [rowsRf_int, rowsSt_int, hT, hL]) (by simp) ?_
    simp [ek, ekb, hk, hkL, hq6, hl6, hL, hkb, wk, hN, stp, prtL_len]
  · have hL := aplK_len (p := p) (s := s) (b := b) (q := q) q.length
    have hT : List.take q.length (rowsOf (aplK p s b q q.length)) = rowsOf (aplK p s b q q.length) := take_full (by simp [hL, e1])
    simp [c_ref38_Apply_l1, stR, c_ref38_Apply_k2, r_ref38_Apply, anyRefR_int, hT, hL, rowsRf_int, rowsSt_int, e1]
end
end Go.Proofs.Ytagicjnmpoonpaa
