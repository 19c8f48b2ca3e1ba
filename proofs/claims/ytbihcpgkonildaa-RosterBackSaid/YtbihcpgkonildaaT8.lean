import Derived.Test.YtbihcpgkonildaaT7
namespace Go.Proofs.Ytbihcpgkonildaa
open Go Go.Am

theorem runE_one {s : ByteArray} (hp : 0 < s.size) (hl : letB (byteAt s 0) = true) : runE s 0 = runE s 1 := by
  unfold runE
  obtain ⟨n, hn⟩ : ∃ n, s.size = n + 1 := ⟨s.size - 1, by omega⟩
  rw [hn]
  simp only [Nat.sub_zero, Nat.add_sub_cancel, runN]
  rw [if_pos ⟨by omega, by simp [innB, hl]⟩]
def tokZ : List AV := [iv 0, sv ⟨#[]⟩, iv 0, iv 0]
def stOne (s : ByteArray) (k : Nat) : St := { env := [(0, sv s), (2, .ptr 2 0), (4, iv (1 + k : Nat))] ++ (if k = 0 then [(7, bv true)] else []), sto := [(2, .var tokZ)] }
theorem one_sound {s : ByteArray} (hp : 0 < s.size) (h12 : s.size ≤ 12) (hl : letB (byteAt s 0) = true) : SoundCall Try.prog F_ref06_One [sv s] (.tuple [.agg [iv 1, sv (s.extract 0 (runE s 1)), iv 0, iv 0], iv 0]) := by
  obtain ⟨r1, r2, r3, r4⟩ := runE_spec (s := s) (i := 1) (by omega)
  have hp' : (0 : Int) < s.size := by omega
  refine sound' t_ref06_One (by simp) ?_
  simp [c_ref06_One, hp]
  refine eCall_i (letterR_sound (c := byteAt s 0) byteAt_lt) (by simp) (by simp) ?_
  simp [hl]
  refine awp_for (stOne s) (runE s 1 - 1) ?_ (fun k hk => ?_) ?_
  · simp [stOne, tokZ]
  · have e : ((1 + k : Nat) : Int) < s.size := by omega
    have e2 : (1 + (k : Int)) < s.size := by omega
    have hb := r3 (1 + k) (by omega) (by omega)
    have et : (1 + (k : Int)).toNat = 1 + k := by omega
    have e0 : (0 : Int) ≤ 1 + (k : Int) := by omega
    have w : IntKind.i64.wrap (1 + (k : Int) + 1) = 1 + ((k : Int) + 1) := by rw [wrap64] <;> omega
    have hlast : letB (byteAt s (1 + k)) = false → digB (byteAt s (1 + k)) = false → byteAt s (1 + k) = 95 := by
      intro h2 h3
      simpa only [innB, h2, h3, Bool.false_or, decide_eq_true_eq] using hb
    rcases k with _ | k
    · simp at e e2 et e0 w hlast
      simp [c_ref06_One_l0, stOne, e]
      refine eCall_i (letterR_sound (c := byteAt s 1) byteAt_lt) (by simp) (by simp) ?_
      cases h1 : letB (byteAt s 1)
      · simp [e]
        refine eCall_i (digitR_sound (c := byteAt s 1) byteAt_lt) (by simp) (by simp) ?_
        cases h2 : digB (byteAt s 1)
        · have h95 : byteAt s 1 = 95 := hlast h1 h2
          simp [e, h95, stOne, w]
        · simp [stOne, w]
      · simp [stOne, w]
    · simp at e e2 et e0 w hlast
      simp [c_ref06_One_l0, stOne, e2, e0, et]
      refine eCall_i (letterR_sound (c := byteAt s (1 + (k + 1))) byteAt_lt) (by simp) (by simp) ?_
      cases h1 : letB (byteAt s (1 + (k + 1)))
      · simp [e2, e0, et]
        refine eCall_i (digitR_sound (c := byteAt s (1 + (k + 1))) byteAt_lt) (by simp) (by simp) ?_
        cases h2 : digB (byteAt s (1 + (k + 1)))
        · have h95 : byteAt s (1 + (k + 1)) = 95 := hlast h1 h2
          simp [e2, e0, et, h95, stOne, w]
        · simp [stOne, w]
      · simp [stOne, w]
  · have hN : 1 + (runE s 1 - 1) = runE s 1 := by omega
    have hNi : (1 : Int) + ((runE s 1 - 1 : Nat) : Int) = (runE s 1 : Int) := by omega
    have g12 : ¬ (12 : Int) < (runE s 1 : Int) := by omega
    have ge0 : (0 : Int) ≤ (runE s 1 : Int) := by omega
    have gle : (runE s 1 : Int) ≤ s.size := by omega
    generalize hR : runE s 1 - 1 = R at hN hNi
    by_cases e : runE s 1 < s.size
    · have e' : (runE s 1 : Int) < s.size := by omega
      have hb := r4 e
      have hb1 : letB (byteAt s (runE s 1)) = false := by
        cases h : letB (byteAt s (runE s 1))
        · rfl
        · simp [innB, h] at hb
      have hb2 : digB (byteAt s (runE s 1)) = false := by
        cases h : digB (byteAt s (runE s 1))
        · rfl
        · simp [innB, h] at hb
      have hb3 : byteAt s (runE s 1) ≠ 95 := fun h => by simp [innB, h] at hb
      rcases R with _ | R
      · simp at hN
        rw [← hN] at e e' hb1 hb2 hb3 g12 ge0 gle ⊢
        simp at e' g12 ge0 gle
        simp [c_ref06_One_l0, stOne, e']
        refine eCall_i (letterR_sound (c := byteAt s 1) byteAt_lt) (by simp) (by simp) ?_
        simp [hb1, e']
        refine eCall_i (digitR_sound (c := byteAt s 1) byteAt_lt) (by simp) (by simp) ?_
        have hb3' : ¬ ((byteAt s 1 : Int) = 95) := by omega
        simp [hb2, hb3', e', c_ref06_One_k1, tokZ, gle, fillA, splice, r_ref06_One, goLoad]
      · simp at hNi
        simp [c_ref06_One_l0, stOne, hNi, e']
        refine eCall_i (letterR_sound (c := byteAt s (runE s 1)) byteAt_lt) (by simp) (by simp) ?_
        simp [hb1, e', hNi]
        refine eCall_i (digitR_sound (c := byteAt s (runE s 1)) byteAt_lt) (by simp) (by simp) ?_
        have hb3' : ¬ ((byteAt s (runE s 1) : Int) = 95) := by omega
        simp [hb2, hb3', e', hNi, c_ref06_One_k1, tokZ, g12, gle, fillA, splice, r_ref06_One, goLoad]
    · have e' : ¬ (runE s 1 : Int) < s.size := by omega
      rcases R with _ | R
      · simp at hN
        rw [← hN] at e e' g12 ge0 gle ⊢
        simp at e' g12 ge0 gle
        have e2 : ¬ (1 : Int) < s.size := by omega
        simp [c_ref06_One_l0, stOne, e2, gle, c_ref06_One_k1, tokZ, gle, fillA, splice, r_ref06_One, goLoad]
      · simp at hNi
        simp [c_ref06_One_l0, stOne, hNi, e', c_ref06_One_k1, tokZ, g12, gle, fillA, splice, r_ref06_One, goLoad]

theorem isNameR_sound {s : ByteArray} : SoundCall Try.prog F_ref06_IsName [sv s] (bv (isNm s)) := by
  refine sound' t_ref06_IsName (by simp) ?_
  by_cases h0 : s = ⟨#[]⟩
  · simp [c_ref06_IsName, h0, r_ref06_IsName, isNm]
  have hpos : 0 < s.size := by
    rcases Nat.eq_zero_or_pos s.size with h | h
    · exact absurd (by cases s with | mk d => congr 1; exact Array.eq_empty_of_size_eq_zero h) h0
    · exact h
  by_cases h1 : s.size ≤ 12
  · have h1' : ¬ (12 : Int) < s.size := by omega
    simp [c_ref06_IsName, h0, h1', hpos]
    refine eCall_i (letterR_sound (c := byteAt s 0) byteAt_lt) (by simp) (by simp) ?_
    cases h2 : letB (byteAt s 0)
    · simp [r_ref06_IsName, isNm, h2]
    · simp
      refine eCall_i (one_sound hpos h1 h2) (by simp) (by simp) ?_
      obtain ⟨r1, r2, _⟩ := runE_spec (s := s) (i := 1) (by omega)
      simp [r_ref06_IsName, isNm, h0, h1, h2, extract_eq r2, splice, runE_one hpos h2]
  · have h1' : (12 : Int) < s.size := by omega
    simp [c_ref06_IsName, h0, h1', r_ref06_IsName, isNm, h1]
end Go.Proofs.Ytbihcpgkonildaa
