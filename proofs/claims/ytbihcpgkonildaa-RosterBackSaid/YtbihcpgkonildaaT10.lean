import Derived.Test.YtbihcpgkonildaaT9
namespace Go.Proofs.Ytbihcpgkonildaa
open Go Go.Am

theorem fin {K : AV → Option Entry → Prop} {σ : Nat → Option Entry} (h : K (bv true) none) : eCall Try.prog F_law09_awake σ [] K := eCall_i (xs := []) (args := []) awake_sound rfl (.inl rfl) h

/-! ### Sets -/
def stS (m : Am.Mode) (n : Nat) (k : Nat) : St := { env := [(0, iv n), (3, appV 1 20 (irows (upTo k))), (4, iv k)], sto := [] }
theorem setsR_sound (n : Int) : SoundCall Try.prog F_ref09_Sets [iv n] (.list 1 .plain (irows (upTo (setsN n)))) := by
  refine soundW' t_ref09_Sets (by simp) ?_
  by_cases h1 : n < 0
  · have : upTo (setsN n) = [] := by simp [setsN, h1, upTo]
    rw [this]
    simp [c_ref09_Sets, h1, r_ref09_Sets]
    exact AV.imp_nil rfl
  by_cases h2 : 8 < n
  · have : upTo (setsN n) = [] := by simp [setsN, h2, upTo]
    rw [this]
    simp [c_ref09_Sets, h1, h2, r_ref09_Sets]
    exact AV.imp_nil rfl
  obtain ⟨k, rfl⟩ : ∃ k : Nat, n = k := ⟨n.toNat, by omega⟩
  have hS : setsN k = 2 ^ k := by simp [setsN, h1, h2]
  have hp : 2 ^ k ≤ 256 := Nat.pow_le_pow_right (n := 2) (by omega) (show k ≤ 8 by omega)
  rw [hS]
  simp [c_ref09_Sets, h1, h2]
  refine awp_for (stS .plain k) (2 ^ k) ?_ (fun j hj => ?_) ?_
  · simp [stS]; rfl
  · simp [c_ref09_Sets_l0, stS]
    refine eCall_i (bit_sound (n := k) (by omega)) (by simp) (by simp) ?_
    have e : (j : Int) < ((2 ^ k : Nat) : Int) := by omega
    simp only [Int.natCast_pow, Int.cast_ofNat_Int] at e
    simp [e, upTo_len, wrap_succ (show j < 4611686018427387904 by omega), stS, upTo_succ]
    omega
  · simp [c_ref09_Sets_l0, stS]
    refine eCall_i (bit_sound (n := k) (by omega)) (by simp) (by simp) ?_
    simp [c_ref09_Sets_k1, r_ref09_Sets]
    exact imp_outV

theorem law_sets (n k : Int) : SoundCall Try.prog F_law09_RosterSets [iv n, iv k] (bv true) := by
  have hle := setsN_le (n := n)
  have h300 : min (setsN n) (300 : Int).toNat = setsN n := by
    have : (300 : Int).toNat = 300 := rfl
    omega
  have h1 := sets_sound n 300
  rw [h300] at h1
  have hl := upTo_len (k := setsN n)
  refine sound' t_law09_RosterSets (by simp) ?_
  simp [c_law09_RosterSets]
  refine eCall_i h1 (by simp) (by simp) ?_
  simp
  refine eCall_i (setsR_sound n) (by simp) (by simp) ?_
  simp
  refine eCall_i (sameInts_sound (m1 := .plain) (m2 := .plain) (a := upTo (setsN n)) (b := upTo (setsN n)) (by omega)) (by simp) (by simp) ?_
  by_cases c1 : k < 1
  · simp [c1]
    refine fin ?_
    simp [r_law09_RosterSets]
  by_cases c2 : (setsN n : Int) ≤ k
  · simp [c1, hl, c2]
    refine fin ?_
    simp [r_law09_RosterSets]
  have hmin : min (setsN n) k.toNat = k.toNat := by omega
  have h2 := sets_sound n k
  rw [hmin] at h2
  simp [c1, hl, c2]
  refine eCall_i h2 (by simp) (by simp) ?_
  simp [eSlice, hl]
  refine ⟨by omega, by omega, ?_⟩
  have et : (upTo (setsN n)).take k.toNat = upTo k.toNat := by
    apply List.ext_getElem
    · simp [upTo]; omega
    · intro i a b; simp [upTo]
  rw [show List.take k.toNat (irows (upTo (setsN n))) = irows (upTo k.toNat) by rw [← et]; simp [List.map_take]]
  refine eCall_i (sameInts_sound (m1 := .plain) (m2 := .plain) (a := upTo k.toNat) (b := upTo k.toNat) (by rw [upTo_len]; omega)) (by simp) (by simp) ?_
  simp
  refine fin ?_
  simp [r_law09_RosterSets]

theorem size_of_few {l : List Bid} (h : fewB l = true) : l.length ≤ 12 ∧ ∀ b ∈ l, b.nm.size < 4611686018427387904 := by
  simp only [fewB, Bool.and_eq_true, decide_eq_true_eq, List.all_eq_true] at h
  exact ⟨h.1, fun b hb => by have := h.2 b hb; omega⟩
section
variable {l : List Bid} (hn : l.length < 4611686018427387904)
include hn
theorem law_checks : SoundCall Try.prog F_law09_RosterChecks [.list 4 .plain (brows l)] (bv true) := by
  refine sound' t_law09_RosterChecks (by simp) ?_
  simp [c_law09_RosterChecks]
  refine eCall_i (few_sound (m := .plain) hn) (by simp) (by simp) ?_
  cases hf : fewB l
  · simp
    refine fin ?_
    simp [r_law09_RosterChecks]
  · obtain ⟨h12, hsz⟩ := size_of_few hf
    simp
    refine eCall_i (check_sound (m := .plain) hn hsz) (by simp) (by simp) ?_
    simp
    refine eCall_i (checkR_sound (m := .plain) hn rfl) (by simp) (by simp) ?_
    simp
    refine fin ?_
    simp [r_law09_RosterChecks]
theorem law_finds {s : ByteArray} {c : Int} : SoundCall Try.prog F_law09_RosterFinds [.list 4 .plain (brows l), sv s, iv c] (bv true) := by
  refine sound' t_law09_RosterFinds (by simp) ?_
  simp [c_law09_RosterFinds]
  refine eCall_i (few_sound (m := .plain) hn) (by simp) (by simp) ?_
  cases hf : fewB l
  · simp
    refine fin ?_
    simp [r_law09_RosterFinds]
  · obtain ⟨h12, hsz⟩ := size_of_few hf
    by_cases h40 : (40 : Int) < s.size
    · simp [h40]
      refine fin ?_
      simp [r_law09_RosterFinds]
    · simp [h40]
      refine eCall_i (find_sound (m := .plain) (l := l) (s := s) hn) (by simp) (by simp) ?_
      cases hF : findI l s with
      | some i =>
        simp [fR]
        refine eCall_i (findR_sound (m := .plain) (l := l) (s := s) hn) (by simp) (by simp) ?_
        simp [fR, hF, eBin_eql_bool]
        refine eCall_i (class_sound (m := .plain) (l := l) (c := c) (by omega) rfl) (by simp) (by simp) ?_
        simp
        refine eCall_i (classR_sound (m := .plain) (l := l) (c := c) (by omega) rfl) (by simp) (by simp) ?_
        simp
        refine eCall_i (sameInts_sound (m1 := .plain) (m2 := .plain) (a := clsK l c l.length) (b := clsK l c l.length) (by have := clsK_len (l := l) (c := c) (k := l.length); omega)) (by simp) (by simp) ?_
        simp
        refine fin ?_
        simp [r_law09_RosterFinds]
      | none =>
        simp [fR]
        refine eCall_i (findR_sound (m := .plain) (l := l) (s := s) hn) (by simp) (by simp) ?_
        simp [fR, hF, eBin_eql_bool]
        refine eCall_i (class_sound (m := .plain) (l := l) (c := c) (by omega) rfl) (by simp) (by simp) ?_
        simp
        refine eCall_i (classR_sound (m := .plain) (l := l) (c := c) (by omega) rfl) (by simp) (by simp) ?_
        simp
        refine eCall_i (sameInts_sound (m1 := .plain) (m2 := .plain) (a := clsK l c l.length) (b := clsK l c l.length) (by have := clsK_len (l := l) (c := c) (k := l.length); omega)) (by simp) (by simp) ?_
        simp
        refine fin ?_
        simp [r_law09_RosterFinds]
def stLN (l : List Bid) (x : Int) (ns : List ByteArray) (k : Nat) : St := { env := [(0, .list 4 .plain (brows l)), (1, iv x), (2, .list 1 .plain (srows ns)), (7, iv k)], sto := [] }
theorem law_names {x : Int} {ns : List ByteArray} : SoundCall Try.prog F_law09_RosterNames [.list 4 .plain (brows l), iv x, .list 1 .plain (srows ns)] (bv true) := by
  refine sound' t_law09_RosterNames (by simp) ?_
  simp [c_law09_RosterNames]
  refine eCall_i (few_sound (m := .plain) hn) (by simp) (by simp) ?_
  cases hf : fewB l
  · simp
    refine fin ?_
    simp [r_law09_RosterNames]
  · obtain ⟨h12, hsz⟩ := size_of_few hf
    by_cases h40 : (12 : Int) < ns.length
    · simp [h40]
      refine fin ?_
      simp [r_law09_RosterNames]
    · simp [h40]
      refine awp_for (stLN l x ns) ns.length ?_ (fun k hk => ?_) ?_
      · simp [stLN]
      · have e : (k : Int) < ns.length := by omega
        by_cases h : (40 : Int) < ns[k].size
        · simp [c_law09_RosterNames_l0, stLN, e, hk, h]
          refine fin ?_
          simp [r_law09_RosterNames]
        · simp [c_law09_RosterNames_l0, stLN, e, hk, h, wrap_succ (show k < 4611686018427387904 by omega)]
      · simp [c_law09_RosterNames_l0, stLN, c_law09_RosterNames_k1]
        refine eCall_i (members_sound (m1 := .plain) (m2 := .plain) (l := l) (ns := ns) (by omega) hn) (by simp) (by simp) ?_
        have hl := nmK_len (l := l) (m := x) (k := min l.length 8)
        cases hM : membersR l ns with
        | ok n =>
          simp [mR]
          refine eCall_i (membersR_sound (m1 := .plain) (m2 := .plain) (l := l) (ns := ns) (by omega) rfl hn) (by simp) (by simp) ?_
          simp [hM, mR]
          refine eCall_i (names_sound (m := .plain) (l := l) (x := x) (by omega)) (by simp) (by simp) ?_
          simp
          refine eCall_i (namesR_sound (m := .plain) (l := l) (x := x) (by omega) rfl) (by simp) (by simp) ?_
          simp
          refine eCall_i (sameTexts_sound (m1 := .plain) (m2 := .plain) (a := nmK l x (min l.length 8)) (b := nmK l x (min l.length 8)) (by omega)) (by simp) (by simp) ?_
          simp
          refine fin ?_
          simp [r_law09_RosterNames]
        | error er =>
          simp [mR]
          refine eCall_i (membersR_sound (m1 := .plain) (m2 := .plain) (l := l) (ns := ns) (by omega) rfl hn) (by simp) (by simp) ?_
          simp [hM, mR]
          refine eCall_i (names_sound (m := .plain) (l := l) (x := x) (by omega)) (by simp) (by simp) ?_
          simp
          refine eCall_i (namesR_sound (m := .plain) (l := l) (x := x) (by omega) rfl) (by simp) (by simp) ?_
          simp
          refine eCall_i (sameTexts_sound (m1 := .plain) (m2 := .plain) (a := nmK l x (min l.length 8)) (b := nmK l x (min l.length 8)) (by omega)) (by simp) (by simp) ?_
          simp
          refine fin ?_
          simp [r_law09_RosterNames]
end

/-! ### Members behind Names -/
theorem chkR_zero {l : List Bid} (h : chkR l = 0) : l.length ≤ 8 ∧ ∀ i (hi : i < l.length), findI l l[i].nm = some i := by
  unfold chkR at h
  split at h
  · omega
  split at h
  · omega
  rename_i n0 n8
  refine ⟨by omega, fun i hi => ?_⟩
  have hz : bErr l i = 0 := by
    apply Classical.byContradiction
    intro hne
    cases hf : ((List.range l.length).map (bErr l)).find? (fun e => decide (e ≠ 0)) with
    | none =>
      rw [List.find?_eq_none] at hf
      exact absurd (hf (bErr l i) (List.mem_map.2 ⟨i, List.mem_range.2 hi, rfl⟩)) (by simpa using hne)
    | some e =>
      rw [hf] at h
      have := List.find?_some hf
      simp at this h
      exact this h
  unfold bErr at hz
  rw [List.getElem?_eq_getElem hi] at hz
  simp only at hz
  apply Classical.byContradiction
  intro hne
  rw [if_pos hne] at hz
  split at hz <;> omega
theorem bit_mod {x k : Nat} : x % 2 ^ (k + 1) = x % 2 ^ k + 2 ^ k * (x / 2 ^ k % 2) := by
  rw [Nat.pow_succ, Nat.mod_mul]
theorem memF_nm {l : List Bid} (h8 : l.length ≤ 8) (hf : ∀ i (hi : i < l.length), findI l l[i].nm = some i) {x : Nat} : ∀ k, k ≤ l.length → memF l (nmK l x k) = .ok (x % 2 ^ k)
  | 0, _ => by simp [nmK, memF, Nat.mod_one]
  | k + 1, hk => by
    have ih := memF_nm h8 hf (x := x) k (by omega)
    have hm := bit_mod (x := x) (k := k)
    simp only [nmK]
    rw [bitZ_nat]
    by_cases hb : x / 2 ^ k % 2 = 1
    · rw [if_pos (by simpa using hb), List.getElem?_eq_getElem (by omega)]
      have : memF l (nmK l x k ++ (Option.map (fun b => b.nm) (some l[k])).toList) = stepM l (memF l (nmK l x k)) l[k].nm := by
        unfold memF; rw [List.foldl_append]; rfl
      rw [this, ih]
      have hz : bitZ ((x % 2 ^ k : Nat) : Int) k = false := by
        rw [bitZ_nat, Nat.div_eq_of_lt (Nat.mod_lt _ (Nat.pow_pos (by omega)))]
        rfl
      simp only [stepM, hf k (by omega), hz]
      rw [hm, hb]
      simp
    · rw [if_neg (by simpa using hb), List.append_nil, ih, hm]
      have : x / 2 ^ k % 2 = 0 := by omega
      rw [this]
      simp
theorem law_back {l : List Bid} (hn : l.length < 4611686018427387904) {x : Int} : SoundCall Try.prog F_law09_RosterBack [.list 4 .plain (brows l), iv x] (bv true) := by
  refine sound' t_law09_RosterBack (by simp) ?_
  simp [c_law09_RosterBack]
  refine eCall_i (few_sound (m := .plain) hn) (by simp) (by simp) ?_
  cases hf : fewB l
  · simp
    refine fin ?_
    simp [r_law09_RosterBack]
  · obtain ⟨h12, hsz⟩ := size_of_few hf
    simp
    refine eCall_i (checkR_sound (m := .plain) hn rfl) (by simp) (by simp) ?_
    by_cases hc : chkR l = 0
    · obtain ⟨h8, hfi⟩ := chkR_zero hc
      by_cases c1 : x < 0
      · simp [hc, c1]
        refine fin ?_
        simp [r_law09_RosterBack]
      simp [hc, c1]
      refine eCall_i (bit_sound (n := l.length) (by omega)) (by simp) (by simp) ?_
      obtain ⟨n, rfl⟩ : ∃ n : Nat, x = n := ⟨x.toNat, by omega⟩
      obtain ⟨p, hpe⟩ : ∃ p, 2 ^ l.length = p := ⟨_, rfl⟩
      have hpi : (2 : Int) ^ l.length = (p : Int) := by rw [← hpe]; simp
      by_cases c2 : p ≤ n
      · simp [hpi, c2]
        refine fin ?_
        simp [r_law09_RosterBack]
      have hmin : min l.length 8 = l.length := by omega
      have hM : membersR l (nmK l n l.length) = .ok n := by
        unfold membersR
        rw [if_neg (by omega), memF_nm h8 hfi _ (Nat.le_refl _), Nat.mod_eq_of_lt (by omega)]
      have hl := nmK_len (l := l) (m := n) (k := l.length)
      simp [hpi, c2]
      refine eCall_i (names_sound (m := .plain) (l := l) (x := n) (by omega)) (by simp) (by simp) ?_
      simp only [hmin]
      simp
      refine eCall_i (members_sound (m1 := .plain) (m2 := .plain) (l := l) (ns := nmK l n l.length) (by omega) hn) (by simp) (by simp) ?_
      simp [hM, mR]
      refine fin ?_
      simp [r_law09_RosterBack]
    · simp [hc]
      refine fin ?_
      simp [r_law09_RosterBack]
end Go.Proofs.Ytbihcpgkonildaa
