import Derived.Test.YtbihcpgkonildaaT1
import Derived.Test.YtbihcpgkonildaaAmD
namespace Go.Proofs.Ytbihcpgkonildaa
open Go Go.Am

theorem wrap_succ {k : Nat} (h : k < 4611686018427387904) : IntKind.i64.wrap ((k : Int) + 1) = ((k + 1 : Nat) : Int) := by
  rw [wrap64] <;> omega

/-! ### SameInts -/
def stSI (m1 m2 : Am.Mode) (a b : List Int) (k : Nat) : St := { env := [(0, .list 1 m1 (irows a)), (1, .list 1 m2 (irows b)), (5, iv k)], sto := [] }
theorem sameInts_sound {m1 m2 : Am.Mode} {a b : List Int} (ha : a.length < 4611686018427387904) : SoundCall Try.prog F_ref09_SameInts [.list 1 m1 (irows a), .list 1 m2 (irows b)] (bv (decide (a = b))) := by
  refine sound' t_ref09_SameInts (by simp) ?_
  by_cases hl : a.length = b.length
  · have hl' : ((a.length : Nat) : Int) = (b.length : Int) := by omega
    simp [c_ref09_SameInts, hl']
    refine awp_forI (stSI m1 m2 a b) (fun k => a.take k = b.take k) a.length ?_ rfl (fun k hk hi => ?_) (fun hi => ?_)
    · simp [stSI]
    · have e : (k : Int) < a.length := by omega
      have e2 : (k : Int) < b.length := by omega
      have hk2 : k < b.length := by omega
      by_cases hab : a[k] = b[k]
      · simp [c_ref09_SameInts_l0, stSI, e, e2, hk, hk2, hab, hl, wrap_succ (show k < 4611686018427387904 by omega)]
        rw [List.take_succ_eq_append_getElem hk, List.take_succ_eq_append_getElem hk2, hi, hab]
      · have hne : a ≠ b := fun h => hab (by subst h; rfl)
        simp [c_ref09_SameInts_l0, stSI, e, e2, hk, hk2, hab, hl, r_ref09_SameInts, hne]
    · have hab : a = b := by
        rw [List.take_of_length_le (Nat.le_refl _), List.take_of_length_le (by omega)] at hi
        exact hi
      simp [c_ref09_SameInts_l0, stSI, hl, c_ref09_SameInts_k1, r_ref09_SameInts, hab]
  · have hne : a ≠ b := fun h => hl (by subst h; rfl)
    have hl' : ¬ ((a.length : Nat) : Int) = (b.length : Int) := by omega
    simp [c_ref09_SameInts, hl', r_ref09_SameInts, hne]

/-! ### Bit -/
def stBit (n : Int) (k : Nat) : St := { env := [(0, iv n), (3, iv ((2 ^ k : Nat) : Int)), (4, iv k)], sto := [] }
theorem bit_sound {n : Nat} (h : n ≤ 12) : SoundCall Try.prog F_ref09_Bit [iv n] (iv ((2 ^ n : Nat) : Int)) := by
  refine sound' t_ref09_Bit (by simp) ?_
  simp [c_ref09_Bit]
  refine awp_for (stBit n) n ?_ (fun k hk => ?_) ?_
  · simp [stBit]
  · have e : (k : Int) < n := by omega
    have h2 : 2 ^ k ≤ 2 ^ 12 := Nat.pow_le_pow_right (by omega) (by omega)
    have w : IntKind.i64.wrap (2 * ((2 ^ k : Nat) : Int)) = ((2 ^ (k + 1) : Nat) : Int) := by
      generalize hp : 2 ^ k = p at h2
      rw [Nat.pow_succ, hp, wrap64] <;> omega
    simp [c_ref09_Bit_l0, stBit, e, wrap_succ (show k < 4611686018427387904 by omega)]
    simpa using w
  · simp [c_ref09_Bit_l0, stBit, c_ref09_Bit_k1, r_ref09_Bit]
end Go.Proofs.Ytbihcpgkonildaa
