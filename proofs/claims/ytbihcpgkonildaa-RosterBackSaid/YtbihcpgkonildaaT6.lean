import Derived.Test.YtbihcpgkonildaaT5
namespace Go.Proofs.Ytbihcpgkonildaa
open Go Go.Am

/-! ### Members -/
def stepM (l : List Bid) (a : Except Int Nat) (s : ByteArray) : Except Int Nat :=
  match a with
  | .error e => .error e
  | .ok n => match findI l s with
    | none => .error 6
    | some i => if bitZ n i = true then .error 7 else .ok (n + 2 ^ i)
def memF (l : List Bid) (ns : List ByteArray) : Except Int Nat := ns.foldl (stepM l) (.ok 0)
def mR : Except Int Nat → AV
  | .ok n => .tuple [iv n, iv 0]
  | .error e => .tuple [iv 0, iv e]
def okV : Except Int Nat → Nat
  | .ok n => n
  | .error _ => 0
theorem fold_err {l : List Bid} {e : Int} : ∀ ns : List ByteArray, ns.foldl (stepM l) (.error e) = .error e
  | [] => rfl
  | s :: ns => fold_err ns
theorem memF_succ {l : List Bid} {ns : List ByteArray} {k : Nat} (hk : k < ns.length) : memF l (ns.take (k + 1)) = stepM l (memF l (ns.take k)) ns[k] := by
  unfold memF
  rw [List.take_succ_eq_append_getElem hk, List.foldl_append]
  rfl
theorem memF_err {l : List Bid} {ns : List ByteArray} {k : Nat} {e : Int} (h : memF l (ns.take k) = .error e) : memF l ns = .error e := by
  have : memF l ns = (ns.drop k).foldl (stepM l) (memF l (ns.take k)) := by
    unfold memF
    rw [← List.foldl_append, List.take_append_drop]
  rw [this, h, fold_err]
theorem bitZ_nat {n i : Nat} : bitZ n i = decide (n / 2 ^ i % 2 = 1) := by
  unfold bitZ
  have : ((n : Int) / 2 ^ i % 2 = 1) ↔ (n / 2 ^ i % 2 = 1) := by
    have e : ((n : Int) / 2 ^ i % 2) = ((n / 2 ^ i % 2 : Nat) : Int) := by simp
    rw [e]; omega
  simp only [this]
theorem or_add : ∀ n, n < 256 → ∀ i, i < 8 → n / 2 ^ i % 2 ≠ 1 → n ||| 2 ^ i = n + 2 ^ i := by decide +kernel
theorem bitI_or_nat {a b : Nat} (ha : a < 256) (hb : b < 256) : bitI .or .i64 a b = ((a ||| b : Nat) : Int) := by
  simp only [bitI]
  rw [BitVec.toNat_or]
  have hbits : IntKind.i64.bits = 64 := rfl
  have e1 : (BitVec.ofInt IntKind.i64.bits (a : Int)).toNat = a := by rw [hbits, BitVec.toNat_ofInt]; omega
  have e2 : (BitVec.ofInt IntKind.i64.bits (b : Int)).toNat = b := by rw [hbits, BitVec.toNat_ofInt]; omega
  rw [e1, e2]
  have : a ||| b < 2 ^ 8 := Nat.or_lt_two_pow (by omega) (by omega)
  rw [wrap64] <;> omega
theorem pow_lt8 {i : Nat} (h : i < 8) : 2 ^ i < 256 := by
  have : 2 ^ i < 2 ^ 8 := Nat.pow_lt_pow_right (by omega) h
  simpa using this
theorem step_lt {l : List Bid} {a : Except Int Nat} {s : ByteArray} (h8 : l.length ≤ 8) (h : okV a < 256) : okV (stepM l a s) < 256 := by
  unfold stepM
  split
  · simp [okV]
  · rename_i n
    split
    · simp [okV]
    · rename_i i hf
      split
      · simp [okV]
      · rename_i hb
        obtain ⟨h1, _⟩ := findI_some hf
        simp only [okV] at h ⊢
        rw [bitZ_nat] at hb
        rw [← or_add n h i (by omega) (by simpa using hb)]
        exact Nat.or_lt_two_pow (n := 8) h (by have := pow_lt8 (show i < 8 by omega); omega)
theorem memF_lt {l : List Bid} (h8 : l.length ≤ 8) : ∀ {ns : List ByteArray} {a : Except Int Nat}, okV a < 256 → okV (ns.foldl (stepM l) a) < 256
  | [], _, h => h
  | _ :: ns, _, h => memF_lt h8 (ns := ns) (step_lt h8 h)

section
variable {m1 m2 : Am.Mode} {l : List Bid} {ns : List ByteArray} (hn : ns.length ≤ 1099511627776) (f1 : stm m1 = m1)
include hn
def stM (m1 m2 : Am.Mode) (l : List Bid) (ns : List ByteArray) (k : Nat) : St := { env := [(0, .list 4 m1 (brows l)), (6, iv (okV (memF l (ns.take k)))), (14, .list 1 m2 (srows ns)), (15, iv ns.length), (16, iv k)], sto := [] }
def stMi (m1 m2 : Am.Mode) (l : List Bid) (ns : List ByteArray) (k : Nat) (s : ByteArray) (j : Nat) : St :=
  { env := [(0, .list 4 m1 (brows l)), (6, iv (okV (memF l (ns.take k)))), (14, .list 1 m2 (srows ns)), (15, iv ns.length), (16, iv k), (8, sv s), (20, .list 4 m1 (brows l)), (21, iv l.length), (22, iv j)], sto := [] }
def membersR (l : List Bid) (ns : List ByteArray) : Except Int Nat := if 8 < l.length then .error 3 else memF l ns
theorem members_sound (hl : l.length < 4611686018427387904) : SoundCall Try.prog F_roster_Members [.list 4 m1 (brows l), .list 1 m2 (srows ns)] (mR (membersR l ns)) := by
  refine sound' t_roster_Members (by simp) ?_
  by_cases h8 : 8 < l.length
  · have h8' : (8 : Int) < l.length := by omega
    simp [c_roster_Members, h8', r_roster_Members, membersR, h8, mR]
  have h8' : ¬ (8 : Int) < l.length := by omega
  have e8 : membersR l ns = memF l ns := by simp [membersR, h8]
  rw [e8]
  simp [c_roster_Members, h8']
  refine awp_forI (stM m1 m2 l ns) (fun k => ∃ n, memF l (ns.take k) = .ok n) ns.length ?_ ⟨0, rfl⟩ (fun k hk hi => ?_) (fun hi => ?_)
  · simp [stM, memF, okV]
  · obtain ⟨n, hi⟩ := hi
    have e : (k : Int) < ns.length := by omega
    have hlt : n < 256 := by
      have := memF_lt (l := l) (by omega) (ns := ns.take k) (a := .ok 0) (by simp [okV])
      rw [show (ns.take k).foldl (stepM l) (.ok 0) = memF l (ns.take k) from rfl, hi] at this
      exact this
    have hsucc := memF_succ (l := l) hk
    rw [hi] at hsucc
    simp [c_roster_Members_l3, stM, e, hk]
    cases hf : findI l ns[k] with
    | none =>
      have h3 := findI_none hf
      have herr : memF l ns = .error 6 := memF_err (k := k + 1) (by rw [hsucc]; simp [stepM, hf])
      refine awp_for (stMi m1 m2 l ns k ns[k]) l.length ?_ (fun j hj => ?_) ?_
      · simp [stMi]
      · have ej : (j : Int) < l.length := by omega
        have := h3 j hj
        simp [c_roster_Members_l0, stMi, ej, hj, goLoad_all, splice_all, splice, this, wrap_succ (show j < 4611686018427387904 by omega)]
      · simp [c_roster_Members_l0, stMi, c_roster_Members_k1, r_roster_Members, herr, mR]
    | some i =>
      obtain ⟨h1, h2, h3⟩ := findI_some hf
      refine awp_for (stMi m1 m2 l ns k ns[k]) i ?_ (fun j hj => ?_) ?_
      · simp [stMi]
      · have ej : (j : Int) < l.length := by omega
        have hj' : j < l.length := by omega
        have := h3 j hj
        simp [c_roster_Members_l0, stMi, ej, hj', goLoad_all, splice_all, splice, this, wrap_succ (show j < 4611686018427387904 by omega)]
      · have ej : (i : Int) < l.length := by omega
        have hmin : min i IntKind.i64.bits = i := by
          have : IntKind.i64.bits = 64 := rfl
          omega
        have hp := pow_lt8 (show i < 8 by omega)
        obtain ⟨p, hpe⟩ : ∃ p, 2 ^ i = p := ⟨_, rfl⟩
        have hpi : (2 : Int) ^ i = (p : Int) := by rw [← hpe]; simp
        have hw : IntKind.i64.wrap (p : Int) = p := by rw [wrap64] <;> omega
        by_cases hb : bitZ n i = true
        · have hb' : ((n : Int) / 2 ^ i % 2 = 1) := by simpa [bitZ] using hb
          have herr : memF l ns = .error 7 := memF_err (k := k + 1) (by rw [hsucc]; simp [stepM, hf, hb])
          simp [c_roster_Members_l0, stMi, ej, h1, goLoad_all, splice_all, splice, h2, hi, okV, eBin_shr, hmin, fdiv_pow, and1, hb', r_roster_Members, herr, mR]
        · have hb' : ¬ ((n : Int) / 2 ^ i % 2 = 1) := by simpa [bitZ] using hb
          have hok : memF l (ns.take (k + 1)) = .ok (n + 2 ^ i) := by rw [hsucc]; simp [stepM, hf, hb]
          rw [bitZ_nat] at hb
          have hor := or_add n hlt i (by omega) (by simpa using hb)
          have hbo := bitI_or_nat hlt hp
          rw [hor] at hbo
          rw [hpe] at hbo hok
          have hadd : ((n + p : Nat) : Int) = (n : Int) + p := by omega
          rw [hadd] at hbo
          simp [c_roster_Members_l0, stMi, ej, h1, goLoad_all, splice_all, splice, h2, hi, okV, eBin_shr, eBin_shl, hmin, fdiv_pow, and1, hb']
          simp [c_roster_Members_k2, hpi, hw, hbo, wrap_succ (show k < 4611686018427387904 by omega), stM, hok, okV]
  · obtain ⟨n, hi⟩ := hi
    rw [List.take_of_length_le (Nat.le_refl _)] at hi
    simp [c_roster_Members_l3, stM, c_roster_Members_k4, r_roster_Members, hi, okV, mR]
end
end Go.Proofs.Ytbihcpgkonildaa
