import Derived.Test.YtbihcpgkonildaaT2
namespace Go.Proofs.Ytbihcpgkonildaa
open Go Go.Am

structure Bid where
  nm : ByteArray
  cl : Int
  bu : Int
  po : Int
abbrev sv (s : ByteArray) : AV := .val (.string s)
abbrev brow (b : Bid) : List AV := [sv b.nm, iv b.cl, iv b.bu, iv b.po]
abbrev brows (l : List Bid) : List (List AV) := l.map brow
abbrev srows (l : List ByteArray) : List (List AV) := l.map fun s => [sv s]

def findI (l : List Bid) (s : ByteArray) : Option Nat := l.findIdx? fun b => decide (b.nm = s)
theorem findI_some {l : List Bid} {s : ByteArray} {i : Nat} (h : findI l s = some i) : ∃ h : i < l.length, l[i].nm = s ∧ ∀ j (hj : j < i), l[j].nm ≠ s := by
  unfold findI at h
  rw [List.findIdx?_eq_some_iff_getElem] at h
  obtain ⟨h1, h2, h3⟩ := h
  exact ⟨h1, by simpa using h2, fun j hj => by simpa using h3 j hj⟩
theorem findI_none {l : List Bid} {s : ByteArray} (h : findI l s = none) : ∀ j (hj : j < l.length), l[j].nm ≠ s := by
  unfold findI at h
  rw [List.findIdx?_eq_none_iff] at h
  intro j hj
  simpa using h l[j] (List.getElem_mem _)
def fR : Option Nat → AV
  | some i => .tuple [iv i, bv true]
  | none => .tuple [iv 0, bv false]

section
variable {m : Am.Mode} {l : List Bid} {s : ByteArray} (hn : l.length < 4611686018427387904)
include hn
def stF (m : Am.Mode) (l : List Bid) (s : ByteArray) (k : Nat) : St := { env := [(1, sv s), (8, .list 4 m (brows l)), (9, iv l.length), (10, iv k)], sto := [] }
theorem find_sound : SoundCall Try.prog F_roster_Find [.list 4 m (brows l), sv s] (fR (findI l s)) := by
  refine sound' t_roster_Find (by simp) ?_
  simp [c_roster_Find]
  cases hf : findI l s with
  | some i =>
    obtain ⟨h1, h2, h3⟩ := findI_some hf
    refine awp_for (stF m l s) i ?_ (fun k hk => ?_) ?_
    · simp [stF]
    · have e : (k : Int) < l.length := by omega
      have hk' : k < l.length := by omega
      have := h3 k hk
      simp [c_roster_Find_l0, stF, e, hk', goLoad_all, splice_all, splice, this, wrap_succ (show k < 4611686018427387904 by omega)]
    · have e : (i : Int) < l.length := by omega
      simp [c_roster_Find_l0, stF, e, h1, goLoad_all, splice_all, splice, h2, r_roster_Find, fR]
  | none =>
    have h3 := findI_none hf
    refine awp_for (stF m l s) l.length ?_ (fun k hk => ?_) ?_
    · simp [stF]
    · have e : (k : Int) < l.length := by omega
      have := h3 k hk
      simp [c_roster_Find_l0, stF, e, hk, goLoad_all, splice_all, splice, this, wrap_succ (show k < 4611686018427387904 by omega)]
    · simp [c_roster_Find_l0, stF, c_roster_Find_k1, r_roster_Find, fR]
def stFR (m : Am.Mode) (l : List Bid) (s : ByteArray) (k : Nat) : St := { env := [(0, .list 4 m (brows l)), (1, sv s), (6, iv k)], sto := [] }
theorem findR_sound : SoundCall Try.prog F_ref09_Find [.list 4 m (brows l), sv s] (fR (findI l s)) := by
  refine sound' t_ref09_Find (by simp) ?_
  simp [c_ref09_Find]
  cases hf : findI l s with
  | some i =>
    obtain ⟨h1, h2, h3⟩ := findI_some hf
    refine awp_for (stFR m l s) i ?_ (fun k hk => ?_) ?_
    · simp [stFR]
    · have e : (k : Int) < l.length := by omega
      have hk' : k < l.length := by omega
      have := h3 k hk
      simp [c_ref09_Find_l0, stFR, e, hk', this, wrap_succ (show k < 4611686018427387904 by omega)]
    · have e : (i : Int) < l.length := by omega
      simp [c_ref09_Find_l0, stFR, e, h1, h2, r_ref09_Find, fR]
  | none =>
    have h3 := findI_none hf
    refine awp_for (stFR m l s) l.length ?_ (fun k hk => ?_) ?_
    · simp [stFR]
    · have e : (k : Int) < l.length := by omega
      have := h3 k hk
      simp [c_ref09_Find_l0, stFR, e, hk, this, wrap_succ (show k < 4611686018427387904 by omega)]
    · simp [c_ref09_Find_l0, stFR, c_ref09_Find_k1, r_ref09_Find, fR]
end
end Go.Proofs.Ytbihcpgkonildaa
