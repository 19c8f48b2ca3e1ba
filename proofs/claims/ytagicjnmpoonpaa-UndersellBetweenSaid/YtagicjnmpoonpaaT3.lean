import Derived.Test.YtagicjnmpoonpaaT2
namespace Go.Proofs.Ytagicjnmpoonpaa
open Go Go.Am

/-! ### refused, partly -/
def rf1 (s t n a : Int) : Bool := decide (a < n) && decide (t - n + a < s)
def rfs (s t n a : List Int) : Bool := (List.range 6).any fun k => rf1 (s.getD k 0) (t.getD k 0) (n.getD k 0) (a.getD k 0)
def prt1 (s t n a : Int) : Int := if a < n then n - min (n - a) (max (t - s) 0) else a
def prtL (s t n a : List Int) : List Int := (List.range 6).map fun k => prt1 (s.getD k 0) (t.getD k 0) (n.getD k 0) (a.getD k 0)
theorem prtL_len {s t n a : List Int} : (prtL s t n a).length = 6 := by simp [prtL]

section
variable {s t n a : List Int} (hs : s.length = 6) (ht : t.length = 6) (hn : n.length = 6) (ha : a.length = 6)
include hs ht hn ha
theorem rfs_yes {k : Nat} (hk : k < 6) (h1 : a[k] < n[k]) (h2 : t[k] - n[k] + a[k] < s[k]) : rfs s t n a = true := by
  rw [rfs, List.any_eq_true]
  exact ⟨k, by simpa using hk, by simp [rf1, hk, hs, ht, hn, ha, h1, h2]⟩
theorem rfs_no (h : ∀ k (hk : k < 6), ¬ (a[k] < n[k] ∧ t[k] - n[k] + a[k] < s[k])) : rfs s t n a = false := by
  rw [rfs, List.any_eq_false]
  intro k hk
  have hk' : k < 6 := by simpa using hk
  have := h k hk'
  simp [rf1, hk', hs, ht, hn, ha]
  omega
theorem prtL_get {k : Nat} (hk : k < 6) : (prtL s t n a)[k]? = some (prt1 s[k] t[k] n[k] a[k]) := by simp [prtL, hk, hs, ht, hn, ha]

def stF (s t n a : List Int) (k : Nat) : St :=
  { env := [(4, .ptr 4 0), (5, .ptr 5 0), (6, .ptr 6 0), (7, .ptr 7 0), (10, iv k)], sto := [(4, .var (s.map iv)), (5, .var (t.map iv)), (6, .var (n.map iv)), (7, .var (a.map iv))] }
variable (bs : bd 1000 s) (bt : bd 1000 t) (bn : bd 1000 n) (ba : bd 1000 a)
include bs bt bn ba
omit bs in
theorem refused_sound : SoundCall Try.prog F_undersell_refused [bun s, bun t, bun n, bun a] (bv (rfs s t n a)) := by
  refine sound' t_undersell_refused (by simp) ?_
  simp [c_undersell_refused]
  refine awp_forI (stF s t n a) (fun k => ∀ j (hj : j < k) (h6 : j < 6), ¬ (a[j] < n[j] ∧ t[j] - n[j] + a[j] < s[j])) 6 ?_ (by intro j hj; omega) (fun k hk hi => ?_) (fun hi => ?_)
  · simp [stF]
  · have ek : (k : Int) < 6 := by omega
    have b1 := bt t[k] (List.getElem_mem _)
    have b2 := bn n[k] (List.getElem_mem _)
    have b3 := ba a[k] (List.getElem_mem _)
    have w1 : IntKind.i64.wrap (t[k] - n[k]) = t[k] - n[k] := wrap64 (by omega) (by omega)
    have w2 : IntKind.i64.wrap (t[k] - n[k] + a[k]) = t[k] - n[k] + a[k] := wrap64 (by omega) (by omega)
    by_cases h : a[k] < n[k]
    · by_cases h2 : t[k] - n[k] + a[k] < s[k]
      · simp [c_undersell_refused_l0, stF, ek, hs, ht, hn, ha, hk, h, h2, w1, w2, r_undersell_refused, rfs_yes hs ht hn ha hk h h2]
      · simp [c_undersell_refused_l0, stF, ek, hs, ht, hn, ha, hk, h, h2, w1, w2, wrap_succ (show k < 4611686018427387904 by omega)]
        intro j hj h6
        by_cases e : j = k
        · subst e; intro _; omega
        · have := hi j (by omega) h6
          omega
    · simp [c_undersell_refused_l0, stF, ek, hs, ht, hn, ha, hk, h, wrap_succ (show k < 4611686018427387904 by omega)]
      intro j hj h6
      by_cases e : j = k
      · subst e; intro h'; exact absurd h' h
      · have := hi j (by omega) h6
        omega
  · simp [c_undersell_refused_l0, stF, c_undersell_refused_k1, r_undersell_refused, rfs_no hs ht hn ha fun k hk => hi k hk hk]

def stP (s t n a : List Int) (k : Nat) : St :=
  { env := [(4, .ptr 4 0), (5, .ptr 5 0), (6, .ptr 6 0), (7, .ptr 7 0), (8, .ptr 8 0), (10, iv k)],
    sto := [(4, .var (s.map iv)), (5, .var (t.map iv)), (6, .var (n.map iv)), (7, .var ((mix (prtL s t n a) a k).map iv)), (8, .var (z6.map iv))] }
theorem partly_sound : SoundCall Try.prog F_undersell_partly [bun s, bun t, bun n, bun a] (bun (prtL s t n a)) := by
  have hl : (prtL s t n a).length = a.length := by rw [prtL_len, ha]
  refine sound' t_undersell_partly (by simp) ?_
  simp [c_undersell_partly]
  refine awp_for (stP s t n a) 6 ?_ (fun k hk => ?_) ?_
  · simp [stP]; rfl
  · have ek : (k : Int) < 6 := by omega
    have b0 := bs s[k] (List.getElem_mem _)
    have b1 := bt t[k] (List.getElem_mem _)
    have b2 := bn n[k] (List.getElem_mem _)
    have b3 := ba a[k] (List.getElem_mem _)
    have hg := prtL_get hs ht hn ha hk
    have hml : (mix (prtL s t n a) a k).length = 6 := by rw [mix_len hl, ha]
    have hmg : (mix (prtL s t n a) a k)[k]'(by omega) = a[k] := mix_getElem hl (by omega) (by omega)
    by_cases h : a[k] < n[k]
    · have hmx := mix_set hl hg
      rw [prt1, if_pos h] at hmx
      have w1 : IntKind.i64.wrap (n[k] - a[k]) = n[k] - a[k] := wrap64 (by omega) (by omega)
      have w2 : IntKind.i64.wrap (t[k] - s[k]) = t[k] - s[k] := wrap64 (by omega) (by omega)
      have w3 : IntKind.i64.wrap (n[k] - min (n[k] - a[k]) (max (t[k] - s[k]) 0)) = n[k] - min (n[k] - a[k]) (max (t[k] - s[k]) 0) := wrap64 (by omega) (by omega)
      simp [c_undersell_partly_l0, stP, ek, hs, ht, hn, ha, hk, h, hml, hmg, w1, w2, w3, wrap_succ (show k < 4611686018427387904 by omega)]
      rw [← hmx, List.map_set]
      exact ⟨by omega, rfl⟩
    · rw [prt1, if_neg h] at hg
      have hsm := mix_same (k := k) hl hg (by simp [ha, hk])
      simp [c_undersell_partly_l0, stP, ek, hs, ht, hn, ha, hk, h, hml, hmg, wrap_succ (show k < 4611686018427387904 by omega), hsm]
  · have hz : z6.length = 6 := rfl
    simp [c_undersell_partly_l0, stP, c_undersell_partly_k1, r_undersell_partly, prtL_len, hz, mix_all (prtL_len (s := s) (t := t) (n := n) (a := a)) ha]
end
end Go.Proofs.Ytagicjnmpoonpaa
