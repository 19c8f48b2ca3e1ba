import Derived.Test.YtbihcpgkonildaaT6
namespace Go.Proofs.Ytbihcpgkonildaa
open Go Go.Am

section
variable {m1 m2 : Am.Mode} {l : List Bid} {ns : List ByteArray} (hn : ns.length ≤ 1099511627776) (f1 : stm m1 = m1)
include hn f1
def stMR (m1 m2 : Am.Mode) (l : List Bid) (ns : List ByteArray) (k : Nat) : St := { env := [(0, .list 4 m1 (brows l)), (1, .list 1 m2 (srows ns)), (6, iv (okV (memF l (ns.take k)))), (7, iv k)], sto := [] }
theorem membersR_sound (hl : l.length < 4611686018427387904) : SoundCall Try.prog F_ref09_Members [.list 4 m1 (brows l), .list 1 m2 (srows ns)] (mR (membersR l ns)) := by
  refine sound' t_ref09_Members (by simp) ?_
  by_cases h8 : 8 < l.length
  · have h8' : (8 : Int) < l.length := by omega
    simp [c_ref09_Members, h8', r_ref09_Members, membersR, h8, mR]
  have h8' : ¬ (8 : Int) < l.length := by omega
  have e8 : membersR l ns = memF l ns := by simp [membersR, h8]
  rw [e8]
  simp [c_ref09_Members, h8']
  refine awp_forI (stMR m1 m2 l ns) (fun k => ∃ n, memF l (ns.take k) = .ok n) ns.length ?_ ⟨0, rfl⟩ (fun k hk hi => ?_) (fun hi => ?_)
  · simp [stMR, memF, okV]
  · obtain ⟨n, hi⟩ := hi
    have e : (k : Int) < ns.length := by omega
    have hlt : n < 256 := by
      have := memF_lt (l := l) (by omega) (ns := ns.take k) (a := .ok 0) (by simp [okV])
      rw [show (ns.take k).foldl (stepM l) (.ok 0) = memF l (ns.take k) from rfl, hi] at this
      exact this
    have hsucc := memF_succ (l := l) hk
    rw [hi] at hsucc
    simp [c_ref09_Members_l0, stMR, e, hk]
    refine eCall_i (findR_sound (m := m1) (l := l) (s := ns[k]) hl) (by simp [f1]) (by simp) ?_
    cases hf : findI l ns[k] with
    | none =>
      have herr : memF l ns = .error 6 := memF_err (k := k + 1) (by rw [hsucc]; simp [stepM, hf])
      simp [fR, r_ref09_Members, herr, mR]
    | some i =>
      obtain ⟨h1, h2, h3⟩ := findI_some hf
      simp [fR, hi, okV]
      refine eCall_i (has_sound (m := n) (n := i) (by omega)) (by simp) (by simp) ?_
      by_cases hb : bitZ n i = true
      · have herr : memF l ns = .error 7 := memF_err (k := k + 1) (by rw [hsucc]; simp [stepM, hf, hb])
        simp [hb, r_ref09_Members, herr, mR]
      · have hok : memF l (ns.take (k + 1)) = .ok (n + 2 ^ i) := by rw [hsucc]; simp [stepM, hf, hb]
        have hp := pow_lt8 (show i < 8 by omega)
        simp [hb]
        refine eCall_i (bit_sound (n := i) (by omega)) (by simp) (by simp) ?_
        obtain ⟨p, hpe⟩ : ∃ p, 2 ^ i = p := ⟨_, rfl⟩
        have hpi : (2 : Int) ^ i = (p : Int) := by rw [← hpe]; simp
        rw [hpe] at hok hp
        have hw : IntKind.i64.wrap ((n : Int) + p) = (n : Int) + p := by rw [wrap64] <;> omega
        simp [stMR, hpi, hw, wrap_succ (show k < 4611686018427387904 by omega), hok, okV]
  · obtain ⟨n, hi⟩ := hi
    rw [List.take_of_length_le (Nat.le_refl _)] at hi
    simp [c_ref09_Members_l0, stMR, c_ref09_Members_k1, r_ref09_Members, hi, okV, mR]
end

/-! ### names -/
def letB (c : Nat) : Bool := decide (97 ≤ c) && decide (c ≤ 122)
def digB (c : Nat) : Bool := decide (48 ≤ c) && decide (c ≤ 57)
def innB (c : Nat) : Bool := letB c || digB c || decide (c = 95)
theorem letter_sound {c : Nat} (h : c < 256) : SoundCall Try.prog F_lexer_letter [.val (.int .i32 c)] (bv (letB c)) := by
  refine sound' t_lexer_letter (by simp) ?_
  by_cases h1 : 97 ≤ c
  · have h1' : (97 : Int) ≤ c := by omega
    simp [c_lexer_letter, h1', r_lexer_letter, letB, h1]; omega
  · have h1' : ¬ (97 : Int) ≤ c := by omega
    simp [c_lexer_letter, h1', r_lexer_letter, letB, h1]
theorem digit_sound {c : Nat} (h : c < 256) : SoundCall Try.prog F_lexer_digit [.val (.int .i32 c)] (bv (digB c)) := by
  refine sound' t_lexer_digit (by simp) ?_
  by_cases h1 : 48 ≤ c
  · have h1' : (48 : Int) ≤ c := by omega
    simp [c_lexer_digit, h1', r_lexer_digit, digB, h1]; omega
  · have h1' : ¬ (48 : Int) ≤ c := by omega
    simp [c_lexer_digit, h1', r_lexer_digit, digB, h1]
theorem inner_sound {c : Nat} (h : c < 256) : SoundCall Try.prog F_lexer_inner [.val (.int .i32 c)] (bv (innB c)) := by
  refine sound' t_lexer_inner (by simp) ?_
  simp [c_lexer_inner]
  refine eCall_i (letter_sound h) (by simp) (by simp) ?_
  cases h1 : letB c
  · simp
    refine eCall_i (digit_sound h) (by simp) (by simp) ?_
    cases h2 : digB c
    · simp [r_lexer_inner, innB, h1, h2]; omega
    · simp [r_lexer_inner, innB, h1, h2]
  · simp [r_lexer_inner, innB, h1]
theorem letterR_sound {c : Nat} (h : c < 256) : SoundCall Try.prog F_ref06_letter [.val (.int .u8 c)] (bv (letB c)) := by
  refine sound' t_ref06_letter (by simp) ?_
  by_cases h1 : 97 ≤ c
  · have h1' : (97 : Int) ≤ c := by omega
    simp [c_ref06_letter, h1', r_ref06_letter, letB, h1]; omega
  · have h1' : ¬ (97 : Int) ≤ c := by omega
    simp [c_ref06_letter, h1', r_ref06_letter, letB, h1]
theorem digitR_sound {c : Nat} (h : c < 256) : SoundCall Try.prog F_ref06_digit [.val (.int .u8 c)] (bv (digB c)) := by
  refine sound' t_ref06_digit (by simp) ?_
  by_cases h1 : 48 ≤ c
  · have h1' : (48 : Int) ≤ c := by omega
    simp [c_ref06_digit, h1', r_ref06_digit, digB, h1]; omega
  · have h1' : ¬ (48 : Int) ≤ c := by omega
    simp [c_ref06_digit, h1', r_ref06_digit, digB, h1]
theorem byteAt_lt {s : ByteArray} {k : Nat} : byteAt s k < 256 := UInt8.toNat_lt _
/-- How many bytes from the beginning on belong to a word. -/
def runN (s : ByteArray) : Nat → Nat → Nat
  | 0, i => i
  | n + 1, i => if i < s.size ∧ innB (byteAt s i) = true then runN s n (i + 1) else i
def runE (s : ByteArray) (i : Nat) : Nat := runN s (s.size - i) i
theorem runN_spec {s : ByteArray} : ∀ {n i : Nat}, i + n = s.size → i ≤ runN s n i ∧ runN s n i ≤ s.size ∧ (∀ j, i ≤ j → j < runN s n i → innB (byteAt s j) = true) ∧ (runN s n i < s.size → innB (byteAt s (runN s n i)) = false)
  | 0, i, h => by simp only [runN]; exact ⟨Nat.le_refl _, by omega, fun j a b => by omega, fun a => by omega⟩
  | n + 1, i, h => by
    simp only [runN]
    by_cases hc : i < s.size ∧ innB (byteAt s i) = true
    · rw [if_pos hc]
      obtain ⟨g1, g2, g3, g4⟩ := runN_spec (s := s) (n := n) (i := i + 1) (by omega)
      refine ⟨by omega, g2, fun j a b => ?_, g4⟩
      by_cases e : j = i
      · rw [e]; exact hc.2
      · exact g3 j (by omega) b
    · rw [if_neg hc]
      refine ⟨Nat.le_refl _, by omega, fun j a b => by omega, fun a => ?_⟩
      cases h2 : innB (byteAt s i)
      · rfl
      · exact absurd ⟨a, h2⟩ hc
theorem runE_spec {s : ByteArray} {i : Nat} (h : i ≤ s.size) : i ≤ runE s i ∧ runE s i ≤ s.size ∧ (∀ j, i ≤ j → j < runE s i → innB (byteAt s j) = true) ∧ (runE s i < s.size → innB (byteAt s (runE s i)) = false) :=
  runN_spec (by omega)
theorem conv_u8_i32 {c : Nat} (h : c < 256) : IntKind.i32.wrap (c : Int) = c := IntWalk.i32_in c ⟨by omega, by omega⟩
def stRun (s : ByteArray) (k : Nat) : St := { env := [(0, sv s), (1, iv 0), (2, .fn (.func F_lexer_inner) []), (7, iv k)], sto := [] }
theorem run_sound {s : ByteArray} (hs : s.size < 4611686018427387904) : SoundCall Try.prog F_lexer_run [sv s, iv 0, .fn (.func F_lexer_inner) []] (sv (s.extract 0 (runE s 0))) := by
  obtain ⟨r1, r2, r3, r4⟩ := runE_spec (s := s) (i := 0) (by omega)
  refine sound' t_lexer_run (by simp) ?_
  simp [c_lexer_run]
  refine awp_for (stRun s) (runE s 0) ?_ (fun k hk => ?_) ?_
  · simp [stRun]
  · have e : (k : Int) < s.size := by omega
    have hb := r3 k (by omega) hk
    simp [c_lexer_run_l0, stRun, e, conv_u8_i32 byteAt_lt]
    refine ⟨by kernel_rfl, eCall_i (inner_sound (c := byteAt s k) byteAt_lt) (by simp) (by simp) ?_⟩
    simp [stRun, hb, wrap_succ (show k < 4611686018427387904 by omega)]
  · by_cases e : runE s 0 < s.size
    · have e' : (runE s 0 : Int) < s.size := by omega
      have hb := r4 e
      simp [c_lexer_run_l0, stRun, e', conv_u8_i32 byteAt_lt]
      refine ⟨by kernel_rfl, eCall_i (inner_sound (c := byteAt s (runE s 0)) byteAt_lt) (by simp) (by simp) ?_⟩
      simp [hb, c_lexer_run_k1, r_lexer_run]
      omega
    · have e' : ¬ (runE s 0 : Int) < s.size := by omega
      simp [c_lexer_run_l0, stRun, e', c_lexer_run_k1, r_lexer_run]
      omega
def isNm (s : ByteArray) : Bool := decide (s ≠ ⟨#[]⟩) && decide (s.size ≤ 12) && letB (byteAt s 0) && decide (runE s 0 = s.size)
theorem isName_sound {s : ByteArray} (hs : s.size < 4611686018427387904) : SoundCall Try.prog F_lexer_IsName [sv s] (bv (isNm s)) := by
  refine sound' t_lexer_IsName (by simp) ?_
  by_cases h0 : s = ⟨#[]⟩
  · simp [c_lexer_IsName, h0, r_lexer_IsName, isNm]
  have hpos : 0 < s.size := by
    rcases Nat.eq_zero_or_pos s.size with h | h
    · exact absurd (by cases s with | mk d => congr 1; exact Array.eq_empty_of_size_eq_zero h) h0
    · exact h
  by_cases h1 : s.size ≤ 12
  · have h1' : (s.size : Int) ≤ 12 := by omega
    have hp' : (0 : Int) < s.size := by omega
    simp [c_lexer_IsName, h0, h1', hp', hpos, conv_u8_i32 byteAt_lt]
    refine eCall_i (letter_sound (c := byteAt s 0) byteAt_lt) (by simp) (by simp) ?_
    cases h2 : letB (byteAt s 0)
    · simp [r_lexer_IsName, isNm, h2]
    · simp
      refine eCall_i (run_sound hs) (by simp) (.inr rfl) ?_
      obtain ⟨r1, r2, _⟩ := runE_spec (s := s) (i := 0) (by omega)
      simp [r_lexer_IsName, isNm, h0, h1, h2, extract_eq r2]
  · have h1' : ¬ (s.size : Int) ≤ 12 := by omega
    simp [c_lexer_IsName, h0, h1', r_lexer_IsName, isNm, h1]
end Go.Proofs.Ytbihcpgkonildaa
