import Derived.Test.YtbihcpgkonildaaT8
namespace Go.Proofs.Ytbihcpgkonildaa
open Go Go.Am

def rgB (b : Bid) : Bool := decide (b.cl < 0) || decide (4 < b.cl) || decide (b.bu < 0) || decide (1000000 < b.bu) || decide (b.po < 0) || decide (24000 < b.po)
def bErr (l : List Bid) (i : Nat) : Int :=
  match l[i]? with
  | none => 0
  | some b => if isNm b.nm = false then 5 else if findI l b.nm ≠ some i then 7 else if rgB b = true then 4 else 0
def chkR (l : List Bid) : Int := if l.length = 0 then 1 else if 8 < l.length then 3 else (((List.range l.length).map (bErr l)).find? fun e => decide (e ≠ 0)).getD 0
theorem find_first {f : Nat → Int} {n k : Nat} (hk : k < n) (h0 : ∀ j, j < k → f j = 0) (h1 : f k ≠ 0) : (((List.range n).map f).find? fun e => decide (e ≠ 0)).getD 0 = f k := by
  have : ((List.range n).map f).find? (fun e => decide (e ≠ 0)) = some (f k) := by
    rw [List.find?_eq_some_iff_getElem]
    refine ⟨by simpa using h1, k, by simpa using hk, by simp, fun j hj => ?_⟩
    simp [h0 j hj]
  rw [this]; rfl
theorem chkR_at {l : List Bid} {k : Nat} (n0 : l.length ≠ 0) (n8 : ¬ 8 < l.length) (hk : k < l.length) (h0 : ∀ j, j < k → bErr l j = 0) (h1 : bErr l k ≠ 0) : chkR l = bErr l k := by
  unfold chkR
  rw [if_neg n0, if_neg n8]
  exact find_first hk h0 h1
theorem chkR_ok {l : List Bid} (n0 : l.length ≠ 0) (n8 : ¬ 8 < l.length) (h0 : ∀ j, j < l.length → bErr l j = 0) : chkR l = 0 := by
  unfold chkR
  rw [if_neg n0, if_neg n8]
  have : ((List.range l.length).map (bErr l)).find? (fun e => decide (e ≠ 0)) = none := by
    rw [List.find?_eq_none]
    intro e he
    simp only [List.mem_map, List.mem_range] at he
    obtain ⟨j, hj, rfl⟩ := he
    simp [h0 j hj]
  rw [this]; rfl
theorem find_take_none {l : List Bid} {i : Nat} (hi : i < l.length) (h : findI (l.take i) l[i].nm = none) : findI l l[i].nm = some i := by
  have h1 := findI_none h
  unfold findI
  rw [List.findIdx?_eq_some_iff_getElem]
  refine ⟨hi, by simp, fun j hj => ?_⟩
  have := h1 j (by simp; omega)
  simp only [List.getElem_take] at this
  simpa using this
theorem find_take_some {l : List Bid} {i j : Nat} (hi : i < l.length) (h : findI (l.take i) l[i].nm = some j) : findI l l[i].nm ≠ some i := by
  obtain ⟨h1, h2, _⟩ := findI_some h
  intro e
  obtain ⟨_, _, g3⟩ := findI_some e
  simp only [List.length_take] at h1
  simp only [List.getElem_take] at h2
  exact g3 j (by omega) h2
theorem sizes_lt {l : List Bid} : True := trivial

section
variable {m : Am.Mode} {l : List Bid} (hn : l.length < 4611686018427387904) (hs : ∀ b ∈ l, b.nm.size < 4611686018427387904)
include hn hs
def stCk (m : Am.Mode) (l : List Bid) (k : Nat) : St := { env := [(0, .list 4 m (brows l)), (15, .list 4 m (brows l)), (16, iv l.length), (17, iv k)], sto := [] }
set_option maxHeartbeats 1000000 in
set_option maxRecDepth 4000 in
theorem check_sound : SoundCall Try.prog F_roster_Check [.list 4 m (brows l)] (iv (chkR l)) := by
  refine sound' t_roster_Check (by simp) ?_
  by_cases n0 : l.length = 0
  · have n0' : l = [] := List.eq_nil_of_length_eq_zero n0
    simp [c_roster_Check, n0', r_roster_Check, chkR]
  have n0' : ¬ l = [] := fun h => n0 (by rw [h]; rfl)
  by_cases n8 : 8 < l.length
  · have n8' : (8 : Int) < l.length := by omega
    simp [c_roster_Check, n0', n8', r_roster_Check, chkR, n8]
  have n8' : ¬ (8 : Int) < l.length := by omega
  simp [c_roster_Check, n0', n8']
  refine awp_forI (stCk m l) (fun k => ∀ j, j < k → bErr l j = 0) l.length ?_ (fun j hj => by omega) (fun k hk hi => ?_) (fun hi => ?_)
  · simp [stCk]
  · have e : (k : Int) < l.length := by omega
    have hat := chkR_at n0 n8 hk hi
    have hE : bErr l k = if isNm l[k].nm = false then 5 else if findI l l[k].nm ≠ some k then 7 else if rgB l[k] = true then 4 else 0 := by
      unfold bErr; rw [List.getElem?_eq_getElem hk]
    have hnext : bErr l k = 0 → ∀ j, j < k + 1 → bErr l j = 0 := fun h j hj => by
      by_cases ej : j = k
      · rw [ej]; exact h
      · exact hi j (by omega)
    simp [c_roster_Check_l0, stCk, e, hk, goLoad_all, splice_all, splice]
    refine eCall_i (isName_sound (s := l[k].nm) (hs _ (List.getElem_mem _))) (by simp) (by simp) ?_
    cases h1 : isNm l[k].nm
    · simp [h1] at hE
      simp [r_roster_Check, hat (by omega), hE]
    · simp [eSlice]
      refine ⟨by omega, ?_⟩
      refine eCall_i (find_sound (m := .plain) (l := l.take k) (s := l[k].nm) (by simp; omega)) (by simp) (by simp) ?_
      cases h2 : findI (l.take k) l[k].nm with
      | some j =>
        have h3 := find_take_some hk h2
        simp [h1, h3] at hE
        simp [fR, r_roster_Check, hat (by omega), hE]
      | none =>
        have h3 := find_take_none hk h2
        simp [h1, h3] at hE
        simp only [rgB, Bool.or_eq_true, decide_eq_true_eq] at hE
        by_cases c1 : l[k].cl < 0
        · simp [c1] at hE
          simp [fR, c1, r_roster_Check, hat (by omega), hE]
        by_cases c2 : 4 < l[k].cl
        · simp [c2] at hE
          simp [fR, c1, c2, r_roster_Check, hat (by omega), hE]
        by_cases c3 : l[k].bu < 0
        · simp [c3] at hE
          simp [fR, c1, c2, c3, r_roster_Check, hat (by omega), hE]
        by_cases c4 : 1000000 < l[k].bu
        · simp [c4] at hE
          simp [fR, c1, c2, c3, c4, r_roster_Check, hat (by omega), hE]
        by_cases c5 : l[k].po < 0
        · simp [c5] at hE
          simp [fR, c1, c2, c3, c4, c5, r_roster_Check, hat (by omega), hE]
        by_cases c6 : 24000 < l[k].po
        · simp [c6] at hE
          simp [fR, c1, c2, c3, c4, c5, c6, r_roster_Check, hat (by omega), hE]
        simp [c1, c2, c3, c4, c5, c6] at hE
        simp [fR, c1, c2, c3, c4, c5, c6, wrap_succ (show k < 4611686018427387904 by omega)]
        exact ⟨by simp [stCk], hnext hE⟩
  · have := chkR_ok n0 n8 hi
    simp [c_roster_Check_l0, stCk, c_roster_Check_k1, r_roster_Check, this]
end
section
variable {m : Am.Mode} {l : List Bid} (hn : l.length < 4611686018427387904) (f : stm m = m)
include hn f
def stCkR (m : Am.Mode) (l : List Bid) (k : Nat) : St := { env := [(0, .list 4 m (brows l)), (3, iv k)], sto := [] }
set_option maxHeartbeats 1000000 in
set_option maxRecDepth 4000 in
theorem checkR_sound : SoundCall Try.prog F_ref09_Check [.list 4 m (brows l)] (iv (chkR l)) := by
  refine sound' t_ref09_Check (by simp) ?_
  by_cases n0 : l.length = 0
  · have n0' : l = [] := List.eq_nil_of_length_eq_zero n0
    simp [c_ref09_Check, n0', r_ref09_Check, chkR]
  have n0' : ¬ l = [] := fun h => n0 (by rw [h]; rfl)
  by_cases n8 : 8 < l.length
  · have n8' : (8 : Int) < l.length := by omega
    simp [c_ref09_Check, n0', n8', r_ref09_Check, chkR, n8]
  have n8' : ¬ (8 : Int) < l.length := by omega
  simp [c_ref09_Check, n0', n8']
  refine awp_forI (stCkR m l) (fun k => ∀ j, j < k → bErr l j = 0) l.length ?_ (fun j hj => by omega) (fun k hk hi => ?_) (fun hi => ?_)
  · simp [stCkR]
  · have e : (k : Int) < l.length := by omega
    have hat := chkR_at n0 n8 hk hi
    have hE : bErr l k = if isNm l[k].nm = false then 5 else if findI l l[k].nm ≠ some k then 7 else if rgB l[k] = true then 4 else 0 := by
      unfold bErr; rw [List.getElem?_eq_getElem hk]
    have hnext : bErr l k = 0 → ∀ j, j < k + 1 → bErr l j = 0 := fun h j hj => by
      by_cases ej : j = k
      · rw [ej]; exact h
      · exact hi j (by omega)
    simp [c_ref09_Check_l0, stCkR, e, hk]
    refine eCall_i (isNameR_sound (s := l[k].nm)) (by simp) (by simp) ?_
    cases h1 : isNm l[k].nm
    · simp [h1] at hE
      simp [r_ref09_Check, hat (by omega), hE]
    · simp [e, hk]
      refine eCall_i (findR_sound (m := m) (l := l) (s := l[k].nm) hn) (by simp [f]) (by simp) ?_
      by_cases h3 : findI l l[k].nm = some k
      · simp [h1, h3] at hE
        simp only [rgB, Bool.or_eq_true, decide_eq_true_eq] at hE
        by_cases c1 : l[k].cl < 0
        · simp [c1] at hE
          simp [fR, h3, e, hk, c1, r_ref09_Check, hat (by omega), hE]
        by_cases c2 : 4 < l[k].cl
        · simp [c2] at hE
          simp [fR, h3, e, hk, c1, c2, e, hk, r_ref09_Check, hat (by omega), hE]
        by_cases c3 : l[k].bu < 0
        · simp [c3] at hE
          simp [fR, h3, e, hk, c1, c2, c3, e, hk, r_ref09_Check, hat (by omega), hE]
        by_cases c4 : 1000000 < l[k].bu
        · simp [c4] at hE
          simp [fR, h3, e, hk, c1, c2, c3, c4, e, hk, r_ref09_Check, hat (by omega), hE]
        by_cases c5 : l[k].po < 0
        · simp [c5] at hE
          simp [fR, h3, e, hk, c1, c2, c3, c4, c5, e, hk, r_ref09_Check, hat (by omega), hE]
        by_cases c6 : 24000 < l[k].po
        · simp [c6] at hE
          simp [fR, h3, e, hk, c1, c2, c3, c4, c5, c6, e, hk, r_ref09_Check, hat (by omega), hE]
        simp [c1, c2, c3, c4, c5, c6] at hE
        simp [fR, h3, e, hk, c1, c2, c3, c4, c5, c6, e, hk, wrap_succ (show k < 4611686018427387904 by omega)]
        exact ⟨by simp [stCkR], hnext hE⟩
      · simp [h1, h3] at hE
        cases h4 : findI l l[k].nm with
        | some i =>
          have hne : ¬ ((i : Int) = (k : Int)) := fun h => h3 (by rw [h4]; congr 1; omega)
          simp [fR, hne, r_ref09_Check, hat (by omega), hE]
        | none => exact absurd rfl (findI_none h4 k hk)
  · have := chkR_ok n0 n8 hi
    simp [c_ref09_Check_l0, stCkR, c_ref09_Check_k1, r_ref09_Check, this]
end
end Go.Proofs.Ytbihcpgkonildaa
