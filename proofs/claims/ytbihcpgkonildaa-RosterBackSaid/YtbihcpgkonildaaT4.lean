import Derived.Test.YtbihcpgkonildaaT3
namespace Go.Proofs.Ytbihcpgkonildaa
open Go Go.Am

/-! ### bits -/
theorem and1 (x : Int) : bitI .and .i64 x 1 = x % 2 := by
  simp only [bitI]
  rw [BitVec.toNat_and]
  have e2 : (BitVec.ofInt IntKind.i64.bits 1).toNat = 1 := rfl
  rw [e2, Nat.and_one_is_mod, BitVec.toNat_ofInt]
  have h : (((x % ((2 ^ IntKind.i64.bits : Nat) : Int)).toNat % 2 : Nat) : Int) = x % 2 := by
    have : ((2 ^ IntKind.i64.bits : Nat) : Int) = 18446744073709551616 := rfl
    rw [this]
    omega
  rw [h, wrap64] <;> omega
def bitZ (m : Int) (i : Nat) : Bool := decide (m / 2 ^ i % 2 = 1)
theorem fdiv_pow (m : Int) (i : Nat) : m.fdiv (2 ^ i) = m / 2 ^ i := Int.fdiv_eq_ediv_of_nonneg _ (Int.le_of_lt (Int.pow_pos (by omega)))
theorem div_succ (m : Int) (i : Nat) : m / 2 ^ i / 2 = m / 2 ^ (i + 1) := by
  rw [Int.pow_succ, Int.ediv_ediv_of_nonneg (Int.le_of_lt (Int.pow_pos (by omega)))]

def stHas (m : Int) (n k : Nat) : St := { env := [(0, iv (m / 2 ^ k)), (1, iv n), (5, iv k)], sto := [] }
theorem has_sound {m : Int} {n : Nat} (h : n ≤ 60) : SoundCall Try.prog F_ref09_Has [iv m, iv n] (bv (bitZ m n)) := by
  refine sound' t_ref09_Has (by simp) ?_
  simp [c_ref09_Has]
  refine awp_for (stHas m n) n ?_ (fun k hk => ?_) ?_
  · simp [stHas]
  · have e : (k : Int) < n := by omega
    have hd : (m / 2 ^ k).fdiv 2 = m / 2 ^ (k + 1) := by rw [← div_succ, Int.fdiv_eq_ediv_of_nonneg _ (by omega)]
    simp [c_ref09_Has_l0, stHas, e, eBin_shr, hd, show min 1 IntKind.i64.bits = 1 from rfl, wrap_succ (show k < 4611686018427387904 by omega)]
  · simp [c_ref09_Has_l0, stHas, c_ref09_Has_k1, r_ref09_Has, and1, bitZ]

/-! ### few -/
def fewB (l : List Bid) : Bool := decide (l.length ≤ 12) && l.all fun b => decide (b.nm.size ≤ 40)
def stFew (m : Am.Mode) (l : List Bid) (k : Nat) : St := { env := [(0, .list 4 m (brows l)), (3, iv k)], sto := [] }
theorem few_sound {m : Am.Mode} {l : List Bid} (hn : l.length < 4611686018427387904) : SoundCall Try.prog F_law09_few [.list 4 m (brows l)] (bv (fewB l)) := by
  refine sound' t_law09_few (by simp) ?_
  by_cases h0 : 12 < l.length
  · have : fewB l = false := by simp [fewB]; omega
    have h0' : (12 : Int) < l.length := by omega
    simp [c_law09_few, h0', r_law09_few, this]
  have h0' : ¬ (12 : Int) < l.length := by omega
  simp [c_law09_few, h0']
  refine awp_forI (stFew m l) (fun k => ∀ b ∈ l.take k, b.nm.size ≤ 40) l.length ?_ (by simp) (fun k hk hi => ?_) (fun hi => ?_)
  · simp [stFew]
  · have e : (k : Int) < l.length := by omega
    by_cases h : 40 < l[k].nm.size
    · have h' : (40 : Int) < l[k].nm.size := by omega
      have : fewB l = false := by
        simp only [fewB, Bool.and_eq_false_iff]
        refine .inr (List.all_eq_false.2 ⟨l[k], List.getElem_mem _, by simp; omega⟩)
      simp [c_law09_few_l0, stFew, e, hk, h', r_law09_few, this]
    · have h' : ¬ (40 : Int) < l[k].nm.size := by omega
      simp [c_law09_few_l0, stFew, e, hk, h', wrap_succ (show k < 4611686018427387904 by omega)]
      rw [List.take_succ_eq_append_getElem hk]
      intro b hb
      rcases List.mem_append.1 hb with hb | hb
      · exact hi b hb
      · simp only [List.mem_singleton] at hb; rw [hb]; omega
  · rw [List.take_of_length_le (Nat.le_refl _)] at hi
    have : fewB l = true := by
      simp only [fewB, Bool.and_eq_true, decide_eq_true_eq, List.all_eq_true]
      exact ⟨by omega, hi⟩
    simp [c_law09_few_l0, stFew, c_law09_few_k1, r_law09_few, this]

/-! ### SameTexts -/
def stST (m1 m2 : Am.Mode) (a b : List ByteArray) (k : Nat) : St := { env := [(0, .list 1 m1 (srows a)), (1, .list 1 m2 (srows b)), (5, iv k)], sto := [] }
theorem sameTexts_sound {m1 m2 : Am.Mode} {a b : List ByteArray} (ha : a.length < 4611686018427387904) : SoundCall Try.prog F_ref09_SameTexts [.list 1 m1 (srows a), .list 1 m2 (srows b)] (bv (decide (a = b))) := by
  refine sound' t_ref09_SameTexts (by simp) ?_
  by_cases hl : a.length = b.length
  · have hl' : ((a.length : Nat) : Int) = (b.length : Int) := by omega
    simp [c_ref09_SameTexts, hl']
    refine awp_forI (stST m1 m2 a b) (fun k => a.take k = b.take k) a.length ?_ rfl (fun k hk hi => ?_) (fun hi => ?_)
    · simp [stST]
    · have e : (k : Int) < a.length := by omega
      have e2 : (k : Int) < b.length := by omega
      have hk2 : k < b.length := by omega
      by_cases hab : a[k] = b[k]
      · simp [c_ref09_SameTexts_l0, stST, e, e2, hk, hk2, hab, hl, wrap_succ (show k < 4611686018427387904 by omega)]
        rw [List.take_succ_eq_append_getElem hk, List.take_succ_eq_append_getElem hk2, hi, hab]
      · have hne : a ≠ b := fun h => hab (by subst h; rfl)
        simp [c_ref09_SameTexts_l0, stST, e, e2, hk, hk2, hab, hl, r_ref09_SameTexts, hne]
    · have hab : a = b := by
        rw [List.take_of_length_le (Nat.le_refl _), List.take_of_length_le (by omega)] at hi
        exact hi
      simp [c_ref09_SameTexts_l0, stST, hl, c_ref09_SameTexts_k1, r_ref09_SameTexts, hab]
  · have hne : a ≠ b := fun h => hl (by subst h; rfl)
    have hl' : ¬ ((a.length : Nat) : Int) = (b.length : Int) := by omega
    simp [c_ref09_SameTexts, hl', r_ref09_SameTexts, hne]

/-! ### Class -/
def clsK (l : List Bid) (c : Int) (k : Nat) : List Int := ((List.range k).filter fun i => ((l[i]?).map fun b => decide (b.cl = c)).getD false).map fun (i : Nat) => (i : Int)
theorem clsK_succ {l : List Bid} {c : Int} {k : Nat} (hk : k < l.length) : clsK l c (k + 1) = clsK l c k ++ (if l[k].cl = c then [(k : Int)] else []) := by
  unfold clsK
  rw [List.range_succ, List.filter_append]
  by_cases h : l[k].cl = c <;> simp [h, hk]
theorem clsK_len {l : List Bid} {c : Int} {k : Nat} : (clsK l c k).length ≤ k := by
  have := List.length_filter_le (fun i => ((l[i]?).map fun b => decide (b.cl = c)).getD false) (List.range k)
  simpa [clsK] using this
theorem imp_outV {sz : Nat} {rows : List (List AV)} : AV.imp (outV sz rows) (.list sz .plain rows) := by
  unfold outV
  by_cases h : rows = []
  · subst h; simp only [if_true]; exact AV.imp_nil rfl
  · simp only [h, if_false]; exact AV.imp.refl
section
variable {m : Am.Mode} {l : List Bid} {c : Int} (hn : l.length ≤ 1099511627776) (f : stm m = m)
include hn f
def stC (m : Am.Mode) (l : List Bid) (c : Int) (k : Nat) : St := { env := [(1, iv c), (5, appV 1 22 (irows (clsK l c k))), (8, .list 4 m (brows l)), (9, iv l.length), (10, iv k)], sto := [] }
theorem class_sound : SoundCall Try.prog F_roster_Class [.list 4 m (brows l), iv c] (.list 1 .plain (irows (clsK l c l.length))) := by
  refine soundW' t_roster_Class (by simp) ?_
  simp [c_roster_Class]
  refine awp_for (stC m l c) l.length ?_ (fun k hk => ?_) ?_
  · simp [stC]; rfl
  · have e : (k : Int) < l.length := by omega
    have lc := clsK_len (l := l) (c := c) (k := k)
    by_cases h : l[k].cl = c
    · simp [c_roster_Class_l0, stC, e, hk, goLoad_all, splice_all, splice, h, wrap_succ (show k < 4611686018427387904 by omega), clsK_succ hk, dg_list f]
      omega
    · simp [c_roster_Class_l0, stC, e, hk, goLoad_all, splice_all, splice, h, wrap_succ (show k < 4611686018427387904 by omega), clsK_succ hk, dg_list f]
  · simp [c_roster_Class_l0, stC, c_roster_Class_k1, r_roster_Class]
    exact imp_outV
def stCR (m : Am.Mode) (l : List Bid) (c : Int) (k : Nat) : St := { env := [(0, .list 4 m (brows l)), (1, iv c), (5, appV 1 23 (irows (clsK l c k))), (6, iv k)], sto := [] }
theorem classR_sound : SoundCall Try.prog F_ref09_Class [.list 4 m (brows l), iv c] (.list 1 .plain (irows (clsK l c l.length))) := by
  refine soundW' t_ref09_Class (by simp) ?_
  simp [c_ref09_Class]
  refine awp_for (stCR m l c) l.length ?_ (fun k hk => ?_) ?_
  · simp [stCR]; rfl
  · have e : (k : Int) < l.length := by omega
    have lc := clsK_len (l := l) (c := c) (k := k)
    by_cases h : l[k].cl = c
    · simp [c_ref09_Class_l0, stCR, e, hk, h, wrap_succ (show k < 4611686018427387904 by omega), clsK_succ hk, dg_list f]
      omega
    · simp [c_ref09_Class_l0, stCR, e, hk, h, wrap_succ (show k < 4611686018427387904 by omega), clsK_succ hk, dg_list f]
  · simp [c_ref09_Class_l0, stCR, c_ref09_Class_k1, r_ref09_Class]
    exact imp_outV
end
end Go.Proofs.Ytbihcpgkonildaa
