import Derived.Test.YtagicjnmpoonpaaT3
namespace Go.Proofs.Ytagicjnmpoonpaa
open Go Go.Am

theorem prt_step {s t n a : Int} {j : Nat} (hj : j < (prt1 s t n a - a).toNat) : a + j < n ∧ t - (n - (a + j)) < s := by
  unfold prt1 at hj; split at hj <;> omega
theorem prt_last {s t n a : Int} {N : Nat} (hN : (prt1 s t n a - a).toNat = N) : a + N = prt1 s t n a ∧ (¬ (a + N < n) ∨ ¬ (t - (n - (a + N)) < s)) ∧ (a + N ≤ n ∨ a + N = a) := by
  unfold prt1 at hN ⊢
  by_cases h : a < n
  · rw [if_pos h] at hN ⊢; omega
  · rw [if_neg h] at hN ⊢; omega

section
variable {m : Am.Mode} {s : List Int} {l : List (List Int)} {i : Nat} {a : List Int} (hs : s.length = 6) (ha : a.length = 6) (hl : ∀ x ∈ l, x.length = 6) (hn : l.length < 4611686018427387904) (hi : i < l.length)
  (bs : bd 1000 s) (bt : bd 1000 (sumL l)) (bn : bd 1000 l[i]) (ba : bd 1000 a)
include hs ha hl hn hi bs bt bn ba

def stFR (m : Am.Mode) (s t a : List Int) (l : List (List Int)) (i k : Nat) : St :=
  { env := [(1, .list 6 m (rowsOf l)), (2, iv i), (4, .ptr 4 0), (7, .ptr 7 0), (9, .ptr 9 0), (10, iv k)], sto := [(4, .var (s.map iv)), (7, .var (a.map iv)), (9, .var (t.map iv))] }
omit bs in
theorem refusedR_sound : SoundCall Try.prog F_ref38_refused [bun s, .list 6 m (rowsOf l), iv i, bun a] (bv (rfs s (sumL l) l[i] a)) := by
  have lt := sumL_len hl
  have ln := hl l[i] (List.getElem_mem _)
  have ei : (i : Int) < l.length := by omega
  refine sound' t_ref38_refused (by simp) ?_
  simp [c_ref38_refused]
  refine eCall_i (sumR_sound (m := stm m) hl hn) (by simp) (by simp) ?_
  simp [lt]
  refine awp_forI (stFR m s (sumL l) a l i) (fun k => ∀ j (hj : j < k) (h6 : j < 6), ¬ (a[j] < l[i][j] ∧ (sumL l)[j] - l[i][j] + a[j] < s[j])) 6 ?_ (by intro j hj; omega) (fun k hk hi2 => ?_) (fun hi2 => ?_)
  · simp [stFR]
  · have ek : (k : Int) < 6 := by omega
    have b1 := bt (sumL l)[k] (List.getElem_mem _)
    have b2 := bn l[i][k] (List.getElem_mem _)
    have b3 := ba a[k] (List.getElem_mem _)
    have w1 : IntKind.i64.wrap (l[i][k] - a[k]) = l[i][k] - a[k] := wrap64 (by omega) (by omega)
    have w2 : IntKind.i64.wrap ((sumL l)[k] - (l[i][k] - a[k])) = (sumL l)[k] - (l[i][k] - a[k]) := wrap64 (by omega) (by omega)
    by_cases h : a[k] < l[i][k]
    · have h0 : 0 < l[i][k] - a[k] := by omega
      by_cases h2 : (sumL l)[k] - (l[i][k] - a[k]) < s[k]
      · simp [c_ref38_refused_l0, stFR, ek, ei, hi, hs, lt, ln, ha, hk, h, h2, w1, w2, r_ref38_refused, rfs_yes hs lt ln ha hk h (by omega)]
      · simp [c_ref38_refused_l0, stFR, ek, ei, hi, hs, lt, ln, ha, hk, h, h2, w1, w2, wrap_succ (show k < 4611686018427387904 by omega)]
        intro j hj h6
        by_cases e : j = k
        · subst e; intro _; omega
        · have := hi2 j (by omega) h6
          omega
    · have h0 : ¬ 0 < l[i][k] - a[k] := by omega
      simp [c_ref38_refused_l0, stFR, ek, ei, hi, hs, lt, ln, ha, hk, h, w1, wrap_succ (show k < 4611686018427387904 by omega)]
      intro j hj h6
      by_cases e : j = k
      · subst e; intro h'; exact absurd h' h
      · have := hi2 j (by omega) h6
        omega
  · simp [c_ref38_refused_l0, stFR, c_ref38_refused_k1, r_ref38_refused, rfs_no hs lt ln ha fun k hk => hi2 k hk hk]

def stPR (m : Am.Mode) (s t a : List Int) (l : List (List Int)) (i : Nat) (o : List Int) (k : Nat) : St :=
  { env := [(1, .list 6 m (rowsOf l)), (2, iv i), (4, .ptr 4 0), (8, .ptr 8 0), (9, .ptr 9 0), (10, .ptr 10 0), (11, iv k)], sto := [(4, .var (s.map iv)), (8, .var (z6.map iv)), (9, .var (t.map iv)), (10, .var (o.map iv))] }
def stPI (m : Am.Mode) (s t a : List Int) (l : List (List Int)) (i : Nat) (o : List Int) (k j : Nat) : St :=
  { env := [(1, .list 6 m (rowsOf l)), (2, iv i), (4, .ptr 4 0), (8, .ptr 8 0), (9, .ptr 9 0), (10, .ptr 10 0), (11, iv k)] ++ (if j = 0 then [(16, bv true)] else []),
    sto := [(4, .var (s.map iv)), (8, .var (z6.map iv)), (9, .var (t.map iv)), (10, .var ((o.set k (a.getD k 0 + j)).map iv))] }
set_option maxHeartbeats 4000000 in
theorem partlyR_sound : SoundCall Try.prog F_ref38_partly [bun s, .list 6 m (rowsOf l), iv i, bun a] (bun (prtL s (sumL l) l[i] a)) := by
  have lt := sumL_len hl
  have ln := hl l[i] (List.getElem_mem _)
  have ei : (i : Int) < l.length := by omega
  have hlen : (prtL s (sumL l) l[i] a).length = a.length := by rw [prtL_len, ha]
  refine sound' t_ref38_partly (by simp) ?_
  simp [c_ref38_partly]
  refine eCall_i (sumR_sound (m := stm m) hl hn) (by simp) (by simp) ?_
  simp [lt, ha]
  refine awp_for (fun k => stPR m s (sumL l) a l i (mix (prtL s (sumL l) l[i] a) a k) k) 6 ?_ (fun k hk => ?_) ?_
  · simp [stPR]; rfl
  · have ek : (k : Int) < 6 := by omega
    have b0 := bs s[k] (List.getElem_mem _)
    have b1 := bt (sumL l)[k] (List.getElem_mem _)
    have b2 := bn l[i][k] (List.getElem_mem _)
    have b3 := ba a[k] (List.getElem_mem _)
    have hg := prtL_get hs lt ln ha hk
    have hml : (mix (prtL s (sumL l) l[i] a) a k).length = 6 := by rw [mix_len hlen, ha]
    have hmg : (mix (prtL s (sumL l) l[i] a) a k)[k]'(by omega) = a[k] := mix_getElem hlen (by omega) (by omega)
    have hmx := mix_set hlen hg
    have hset : (mix (prtL s (sumL l) l[i] a) a k).set k a[k] = mix (prtL s (sumL l) l[i] a) a k := by rw [← hmg]; exact List.set_getElem_self _
    simp [c_ref38_partly_l2, stPR, ek]
    refine awp_for (stPI m s (sumL l) a l i (mix (prtL s (sumL l) l[i] a) a k) k) (prt1 s[k] (sumL l)[k] l[i][k] a[k] - a[k]).toNat ?_ (fun j hj => ?_) ?_
    · simp [stPI, ha, hk, hset]
    · obtain ⟨h1, h2⟩ := prt_step hj
      clear hj hmx hset hmg hg
      have w1 : IntKind.i64.wrap (l[i][k] - (a[k] + j)) = l[i][k] - (a[k] + j) := wrap64 (by omega) (by omega)
      have w2 : IntKind.i64.wrap ((sumL l)[k] - (l[i][k] - (a[k] + j))) = (sumL l)[k] - (l[i][k] - (a[k] + j)) := wrap64 (by omega) (by omega)
      have w3 : IntKind.i64.wrap (a[k] + j + 1) = a[k] + ((j + 1 : Nat) : Int) := by rw [wrap64] <;> omega
      rcases j with _ | j
      · simp at h1 h2 w1 w2 w3
        simp [c_ref38_partly_l0, stPI, ek, ei, hi, hs, lt, ln, ha, hk, hml, h1, h2, w1, w2, w3]
        omega
      · simp at h1 h2 w1 w2 w3
        simp [c_ref38_partly_l0, stPI, ek, ei, hi, hs, lt, ln, ha, hk, hml, h1, h2, w1, w2, w3]
        omega
    · generalize hN : (prt1 s[k] (sumL l)[k] l[i][k] a[k] - a[k]).toNat = N
      obtain ⟨hP, hx, hx2⟩ := prt_last hN
      have w1 : IntKind.i64.wrap (l[i][k] - (a[k] + N)) = l[i][k] - (a[k] + N) := by rcases hx2 with h | h <;> (rw [wrap64] <;> omega)
      have w2 : IntKind.i64.wrap ((sumL l)[k] - (l[i][k] - (a[k] + N))) = (sumL l)[k] - (l[i][k] - (a[k] + N)) := by rcases hx2 with h | h <;> (rw [wrap64] <;> omega)
      rw [← hP] at hmx
      by_cases h1 : a[k] + N < l[i][k]
      · have h2 : ¬ ((sumL l)[k] - (l[i][k] - (a[k] + N)) < s[k]) := by rcases hx with h | h; exact absurd h1 h; exact h
        rcases N with _ | N
        · simp at h1 h2 w1 w2 hmx
          simp [c_ref38_partly_l0, c_ref38_partly_k1, stPI, ek, ei, hi, hs, lt, ln, ha, hk, hml, h1, h2, w1, w2, ← hmx, wrap_succ (show k < 4611686018427387904 by omega)]
        · simp at h1 h2 w1 w2 hmx
          simp [c_ref38_partly_l0, c_ref38_partly_k1, stPI, ek, ei, hi, hs, lt, ln, ha, hk, hml, h1, h2, w1, w2, ← hmx, wrap_succ (show k < 4611686018427387904 by omega)]
      · rcases N with _ | N
        · simp at h1 hmx
          have h1 := Int.not_lt.mpr h1
          simp [c_ref38_partly_l0, c_ref38_partly_k1, stPI, ek, ei, hi, hs, lt, ln, ha, hk, hml, h1, ← hmx, wrap_succ (show k < 4611686018427387904 by omega)]
        · simp at h1 hmx
          have h1 := Int.not_lt.mpr h1
          simp [c_ref38_partly_l0, c_ref38_partly_k1, stPI, ek, ei, hi, hs, lt, ln, ha, hk, hml, h1, ← hmx, wrap_succ (show k < 4611686018427387904 by omega)]
  · have hz : z6.length = 6 := rfl
    simp [c_ref38_partly_l2, stPR, c_ref38_partly_k3, r_ref38_partly, prtL_len, hz, mix_all (prtL_len (s := s) (t := sumL l) (n := l[i]) (a := a)) ha]
end
end Go.Proofs.Ytagicjnmpoonpaa
