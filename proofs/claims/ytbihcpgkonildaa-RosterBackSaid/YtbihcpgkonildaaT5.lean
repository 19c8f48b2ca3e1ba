import Derived.Test.YtbihcpgkonildaaT4
namespace Go.Proofs.Ytbihcpgkonildaa
open Go Go.Am

/-! ### Names -/
def nmK (l : List Bid) (m : Int) : Nat → List ByteArray
  | 0 => []
  | k + 1 => nmK l m k ++ (if bitZ m k = true then (l[k]?.map fun b => b.nm).toList else [])
theorem nmK_len {l : List Bid} {m : Int} : ∀ {k : Nat}, (nmK l m k).length ≤ k
  | 0 => by simp [nmK]
  | k + 1 => by
    have := nmK_len (l := l) (m := m) (k := k)
    simp only [nmK, List.length_append]
    have h2 : (if bitZ m k = true then (l[k]?.map fun b => b.nm).toList else []).length ≤ 1 := by
      split
      · cases l[k]? <;> simp
      · simp
    omega
section
variable {m : Am.Mode} {l : List Bid} {x : Int} (hn : l.length ≤ 1099511627776) (f : stm m = m)
include hn f
def stN (l : List Bid) (x : Int) (k : Nat) : St := { env := [(1, iv x), (5, appV 1 28 (srows (nmK l x k))), (12, .list 4 .plain (brows (l.take (min l.length 8)))), (13, iv (min l.length 8 : Nat)), (14, iv k)], sto := [] }
omit f in
theorem names_sound : SoundCall Try.prog F_roster_Names [.list 4 m (brows l), iv x] (.list 1 .plain (srows (nmK l x (min l.length 8)))) := by
  refine soundW' t_roster_Names (by simp) ?_
  have h8 : (min (l.length : Int) 8) = ((min l.length 8 : Nat) : Int) := by omega
  simp [c_roster_Names, eSlice, h8]
  refine ⟨by omega, ?_⟩
  refine awp_for (stN l x) (min l.length 8) ?_ (fun k hk => ?_) ?_
  · simp [stN]
    rfl
  · have e : (k : Int) < (min l.length 8 : Nat) := by omega
    have hk2 : k < l.length := by omega
    have hk8 : k < 8 := by omega
    have lc := nmK_len (l := l) (m := x) (k := k)
    have hmin : min k IntKind.i64.bits = k := by
      have : IntKind.i64.bits = 64 := rfl
      omega
    have hb : (decide (x / 2 ^ k % 2 = 1)) = bitZ x k := rfl
    have hs : ¬ ((k : Int) < 0) := by omega
    cases h : bitZ x k
    · have h' : ¬ (x / 2 ^ k % 2 = 1) := by simpa [bitZ] using h
      simp [c_roster_Names_l0, stN, e, hk, hk2, hk8, goLoad_all, splice_all, splice, eBin_shr, hmin, fdiv_pow, and1, h', wrap_succ (show k < 4611686018427387904 by omega), nmK, h]
    · have h' : (x / 2 ^ k % 2 = 1) := by simpa [bitZ] using h
      simp [c_roster_Names_l0, stN, e, hk, hk2, hk8, goLoad_all, splice_all, splice, eBin_shr, hmin, fdiv_pow, and1, h', wrap_succ (show k < 4611686018427387904 by omega), nmK, h]
      omega
  · simp [c_roster_Names_l0, stN, c_roster_Names_k1, r_roster_Names]
    exact imp_outV
def stNR (m : Am.Mode) (l : List Bid) (x : Int) (k : Nat) : St := { env := [(0, .list 4 m (brows l)), (1, iv x), (5, appV 1 27 (srows (nmK l x k))), (6, iv k)], sto := [] }
theorem namesR_sound : SoundCall Try.prog F_ref09_Names [.list 4 m (brows l), iv x] (.list 1 .plain (srows (nmK l x (min l.length 8)))) := by
  refine soundW' t_ref09_Names (by simp) ?_
  simp [c_ref09_Names]
  refine awp_for (stNR m l x) (min l.length 8) ?_ (fun k hk => ?_) ?_
  · simp [stNR]; rfl
  · have e : (k : Int) < l.length := by omega
    have hk2 : k < l.length := by omega
    have hk8 : k < 8 := by omega
    have e8 : (k : Int) < 8 := by omega
    have lc := nmK_len (l := l) (m := x) (k := k)
    simp [c_ref09_Names_l0, stNR, e, e8, hk2]
    refine eCall_i (has_sound (m := x) (n := k) (by omega)) (by simp) (by simp) ?_
    cases h : bitZ x k
    · simp [stNR, e, e8, hk2, wrap_succ (show k < 4611686018427387904 by omega), nmK, h]
    · simp [stNR, e, e8, hk2, wrap_succ (show k < 4611686018427387904 by omega), nmK, h, dg_list f]
      omega
  · by_cases h : l.length ≤ 8
    · have h1 : min l.length 8 = l.length := by omega
      simp [c_ref09_Names_l0, stNR, c_ref09_Names_k1, r_ref09_Names, h1]
      exact imp_outV
    · have h1 : min l.length 8 = 8 := by omega
      have h2 : (8 : Int) < l.length := by omega
      simp [c_ref09_Names_l0, stNR, c_ref09_Names_k1, r_ref09_Names, h1, h2]
      exact imp_outV
end
end Go.Proofs.Ytbihcpgkonildaa
