/- What the proof rests on, part 9: F3 F4 F5 F6 F7 F8 F9 F10 F11 F12 LP LP2 LP3 LP4 F13 F14 F15 X0 X1 X2 X3 X4 X5 X6 X7 X8 X8b LP5. -/
import Derived.Test.YtdeifcfjkmfocaaP8
set_option maxRecDepth 100000
set_option maxHeartbeats 4000000
namespace Go.Proofs.Ytdeifcfjkmfocaa
open Go Go.Am Go.Dig
theorem neg_pure {P : Program} {k : IntKind} {a : Int} : semPure P (Op.unary .neg (Value.int k a)) = some (Value.int k (k.wrap (-a))) := by
 simp [semPure, Op.unary, Op.intArith, pure]
theorem ofV_int {k : IntKind} {a : Int} : ofV (Value.int k a) = .val (.int k a) := rfl
theorem size_fraction {n : Int} (h1 : -9223372036854775808 ≤ n) (h2 : n < 9223372036854775808) : SoundCall Try.prog F_f_size [iv n] (nD n.natAbs) := by
 obtain ⟨x, hx⟩ : ∃ x, n.natAbs = x := ⟨_, rfl⟩
 have hxl : x < 18446744073709551616 := by omega
 have k := fromUint_sound (x := x) hxl
 rw [hx]
 refine sound' t_f_size (by simp) ?_
 by_cases h : n < 0
 ·have w1 : IntKind.i64.wrap (n + 1) = n + 1 := by rw [wrap64] <;> omega
  have w2 : IntKind.i64.wrap (-(n + 1)) = (x : Int) - 1 := by rw [wrap64] <;> omega
  have w2' : IntKind.i64.wrap (-1 + -n) = (x : Int) - 1 := by rw [wrap64] <;> omega
  have w3 : IntKind.u64.wrap ((x : Int) - 1) = (x : Int) - 1 := by rw [w64'] <;> omega
  have w4 : IntKind.u64.wrap (x : Int) = x := w64 hxl
  simp [c_f_size, h, w1, neg_pure, w2, w3, w4]
  refine eCall_i k (by simp) (by simp) ?_
  simp [r_f_size]
 ·have w4 : IntKind.u64.wrap n = (x : Int) := by rw [w64'] <;> omega
  simp [c_f_size, h, w4]
  refine eCall_i k (by simp) (by simp) ?_
  simp [r_f_size]
theorem size_ref02 {n : Int} (h1 : -9223372036854775808 ≤ n) (h2 : n < 9223372036854775808) : SoundCall Try.prog F_p_size [iv n] (nD n.natAbs) := by
 obtain ⟨x, hx⟩ : ∃ x, n.natAbs = x := ⟨_, rfl⟩
 have hxl : x < 18446744073709551616 := by omega
 have k := fromUint_ref (x := x) hxl
 rw [hx]
 refine sound' t_p_size (by simp) ?_
 by_cases h : n < 0
 ·have w1 : IntKind.i64.wrap (n + 1) = n + 1 := by rw [wrap64] <;> omega
  have w2 : IntKind.i64.wrap (-(n + 1)) = (x : Int) - 1 := by rw [wrap64] <;> omega
  have w2' : IntKind.i64.wrap (-1 + -n) = (x : Int) - 1 := by rw [wrap64] <;> omega
  have w3 : IntKind.u64.wrap ((x : Int) - 1) = (x : Int) - 1 := by rw [w64'] <;> omega
  have w4 : IntKind.u64.wrap (x : Int) = x := w64 hxl
  simp [c_p_size, h, w1, neg_pure, w2, w3, w4]
  refine eCall_i k (by simp) (by simp) ?_
  simp [r_p_size]
 ·have w4 : IntKind.u64.wrap n = (x : Int) := by rw [w64'] <;> omega
  simp [c_p_size, h, w4]
  refine eCall_i k (by simp) (by simp) ?_
  simp [r_p_size]
end Go.Proofs.Ytdeifcfjkmfocaa

namespace Go.Proofs.Ytdeifcfjkmfocaa
open Go Go.Am Go.Dig
theorem digs_small {x : Nat} (h : x < 18446744073709551616) : (digs x).length ≤ 2 := digs_len_le.2 (by
 have : B ^ 2 = 18446744073709551616 := by decide
 omega)
theorem new_ref {n d : Int} (h1 : -9223372036854775808 ≤ n) (h2 : n < 9223372036854775808) (h3 : -9223372036854775808 ≤ d) (h4 : d < 9223372036854775808) (h0 : d ≠ 0) :
  SoundCall Try.prog F_p_New [iv n, iv d] (.tuple [fracO (decide (n < 0) != decide (d < 0)) n.natAbs d.natAbs, iv 0]) := by
 have k1 := size_ref02 h1 h2
 have k2 := size_ref02 h3 h4
 have l1 := digs_small (x := n.natAbs) (by omega)
 have l2 := digs_small (x := d.natAbs) (by omega)
 have k3 := make_ref (neg := decide (n < 0) != decide (d < 0)) (N := n.natAbs) (D := d.natAbs) (by omega) (by omega) (by omega)
 unfold fracO at *
 generalize n.natAbs / Nat.gcd n.natAbs d.natAbs = p at *
 generalize d.natAbs / Nat.gcd n.natAbs d.natAbs = q at *
 generalize hb : (decide (n < 0) != decide (d < 0)) = b at *
 refine sound' t_p_New (by simp) ?_
 have hu : Try.prog.underlying T_bool = some .bool := by first | exact un_T_bool | rfl | kernel_rfl
 have hb' : (!(decide (n < 0) == decide (d < 0))) = b := hb
 simp [c_p_New, eBin_neq_bool hu]
 rw [hb']
 refine eCall_i k1 (by simp) (by simp) ?_
 simp
 refine eCall_i k2 (by simp) (by simp) ?_
 simp
 refine eCall_i k3 (by simp) (by simp) ?_
 simp [r_p_New]
theorem fromInt_ref {n : Int} (h1 : -9223372036854775808 ≤ n) (h2 : n < 9223372036854775808) : SoundCall Try.prog F_p_FromInt [iv n] (fracO (decide (n < 0)) n.natAbs 1) := by
 have k := new_ref (n := n) (d := 1) h1 h2 (by decide) (by decide) (by decide)
 have e : (decide (n < 0) != decide ((1 : Int) < 0)) = decide (n < 0) := by simp
 rw [e, show (1 : Int).natAbs = 1 from rfl] at k
 unfold fracO at *
 generalize n.natAbs / Nat.gcd n.natAbs 1 = p at *
 generalize 1 / Nat.gcd n.natAbs 1 = q at *
 refine sound' t_p_FromInt (by simp) ?_
 simp [c_p_FromInt]
 refine eCall_i k (by simp) (by simp) ?_
 simp [r_p_FromInt]
end Go.Proofs.Ytdeifcfjkmfocaa

namespace Go.Proofs.Ytdeifcfjkmfocaa
open Go Go.Am Go.Dig
theorem fromInt_sound {n : Int} (h1 : -9223372036854775808 ≤ n) (h2 : n < 9223372036854775808) : SoundCall Try.prog F_f_FromInt [iv n] (fracO (decide (n < 0)) n.natAbs 1) := by
 have k1 := size_fraction h1 h2
 have k2 := fromUint_sound (x := 1) (by omega)
 have l1 := digs_small (x := n.natAbs) (by omega)
 have l2 := digs_small (x := 1) (by omega)
 have k3 := made_sound (neg := decide (n < 0)) (N := n.natAbs) (D := 1) (by omega) (by omega) (by omega)
 unfold fracO at *
 generalize n.natAbs / Nat.gcd n.natAbs 1 = p at *
 generalize 1 / Nat.gcd n.natAbs 1 = q at *
 refine sound' t_f_FromInt (by simp) ?_
 simp [c_f_FromInt]
 refine eCall_i k1 (by simp) (by simp) ?_
 simp
 refine eCall_i k2 (by simp) (by simp) ?_
 simp
 refine eCall_i k3 (by simp) (by simp) ?_
 simp [r_f_FromInt]
end Go.Proofs.Ytdeifcfjkmfocaa

namespace Go.Proofs.Ytdeifcfjkmfocaa
open Go Go.Am Go.Dig
abbrev frA (s : Bool) (N D : Nat) : AV := .agg [bv s, nD N, nD D]
theorem neg_sound {s : Bool} {N D : Nat} (hN : (digs N).length < 68719476736) (hD : (digs D).length < 68719476736) (h0 : D ≠ 0) : SoundCall Try.prog F_f_Neg [frA s N D] (fracO (!s) N D) := by
 have k := made_sound (neg := !s) hN hD h0
 unfold fracO at *
 generalize N / Nat.gcd N D = p at *
 generalize D / Nat.gcd N D = q at *
 refine sound' t_f_Neg (by simp) ?_
 simp [c_f_Neg]
 refine eCall_i k (by simp) (by simp) ?_
 simp [r_f_Neg]
theorem mul_len {x y n m : Nat} (hx : (digs x).length ≤ n) (hy : (digs y).length ≤ m) : (digs (x * y)).length ≤ n + m := digs_len_le.2 (by
 rw [Nat.pow_add]; exact Nat.mul_lt_mul_of_lt_of_lt (digs_len_le.1 hx) (digs_len_le.1 hy))
theorem mulF_sound {s t : Bool} {N D M E : Nat} (hN : (digs N).length < 17179869184) (hD : (digs D).length < 17179869184) (hM : (digs M).length < 17179869184) (hE : (digs E).length < 17179869184) (h0 : D ≠ 0) (h1 : E ≠ 0) :
  SoundCall Try.prog F_f_Mul [frA s N D, frA t M E] (fracO (!(s == t)) (N * M) (D * E)) := by
 have l1 := mul_len (Nat.le_refl (digs N).length) (Nat.le_refl (digs M).length)
 have l2 := mul_len (Nat.le_refl (digs D).length) (Nat.le_refl (digs E).length)
 have h2 : D * E ≠ 0 := Nat.mul_ne_zero h0 h1
 have k1 := mul_sound (m1 := .plain) (m2 := .plain) (ok_digs N) (ok_digs M) (by omega) (by omega) (by omega) rfl rfl
 have k2 := mul_sound (m1 := .plain) (m2 := .plain) (ok_digs D) (ok_digs E) (by omega) (by omega) (by omega) rfl rfl
 simp only [val_digs] at k1 k2
 have k := made_sound (neg := !(s == t)) (N := N * M) (D := D * E) (by omega) (by omega) h2
 unfold fracO at *
 generalize N * M / Nat.gcd (N * M) (D * E) = p at *
 generalize D * E / Nat.gcd (N * M) (D * E) = q at *
 refine sound' t_f_Mul (by simp) ?_
 simp [c_f_Mul, eBin_neq_bool ub_bool]
 refine eCall_i k1 (by simp) (by simp) ?_
 simp
 refine eCall_i k2 (by simp) (by simp) ?_
 simp
 refine eCall_i k (by simp) (by simp) ?_
 simp [r_f_Mul]
end Go.Proofs.Ytdeifcfjkmfocaa

namespace Go.Proofs.Ytdeifcfjkmfocaa
open Go Go.Am Go.Dig
theorem cross_sound {s t : Bool} {N D M E : Nat} (hN : (digs N).length < 17179869184) (hD : (digs D).length < 17179869184) (hM : (digs M).length < 17179869184) (hE : (digs E).length < 17179869184) :
  SoundCall Try.prog F_f_cross [frA s N D, frA t M E] (.tuple [nD (N * E), nD (M * D)]) := by
 have k1 := mul_sound (m1 := .plain) (m2 := .plain) (ok_digs N) (ok_digs E) (by omega) (by omega) (by omega) rfl rfl
 have k2 := mul_sound (m1 := .plain) (m2 := .plain) (ok_digs M) (ok_digs D) (by omega) (by omega) (by omega) rfl rfl
 simp only [val_digs] at k1 k2
 refine sound' t_f_cross (by simp) ?_
 simp [c_f_cross]
 refine eCall_i k1 (by simp) (by simp) ?_
 simp
 refine eCall_i k2 (by simp) (by simp) ?_
 simp [r_f_cross]
end Go.Proofs.Ytdeifcfjkmfocaa

namespace Go.Proofs.Ytdeifcfjkmfocaa
open Go Go.Am Go.Dig
def addO (s : Bool) (N D : Nat) (t : Bool) (M E : Nat) : AV :=
 if s = t then fracO s (N * E + M * D) (D * E) else if N * E < M * D then fracO t (M * D - N * E) (D * E) else fracO s (N * E - M * D) (D * E)
theorem add_len {x y n : Nat} (hx : (digs x).length ≤ n) (hy : (digs y).length ≤ n) : (digs (x + y)).length ≤ n + 1 := digs_len_le.2 (by
 have h1 := digs_len_le.1 hx
 have h2 := digs_len_le.1 hy
 rw [Nat.pow_succ]
 have : B ^ n * 2 ≤ B ^ n * B := Nat.mul_le_mul_left _ (by decide)
 omega)
theorem sub_len {x y n : Nat} (hx : (digs x).length ≤ n) : (digs (x - y)).length ≤ n := digs_len_le.2 (Nat.lt_of_le_of_lt (Nat.sub_le _ _) (digs_len_le.1 hx))
theorem fracO_eq (s : Bool) (N D : Nat) : ∃ b p q, fracO s N D = .agg [bv b, nD p, nD q] := ⟨_, _, _, rfl⟩
theorem addF_sound {s t : Bool} {N D M E : Nat} (hN : (digs N).length < 17179869184) (hD : (digs D).length < 17179869184) (hM : (digs M).length < 17179869184) (hE : (digs E).length < 17179869184) (h0 : D ≠ 0) (h1 : E ≠ 0) :
  SoundCall Try.prog F_f_Add [frA s N D, frA t M E] (addO s N D t M E) := by
 have l1 := mul_len (Nat.le_refl (digs N).length) (Nat.le_refl (digs E).length)
 have l2 := mul_len (Nat.le_refl (digs M).length) (Nat.le_refl (digs D).length)
 have l3 := mul_len (Nat.le_refl (digs D).length) (Nat.le_refl (digs E).length)
 have h2 : D * E ≠ 0 := Nat.mul_ne_zero h0 h1
 have kx := cross_sound (s := s) (t := t) hN hD hM hE
 have kd := mul_sound (m1 := .plain) (m2 := .plain) (ok_digs D) (ok_digs E) (by omega) (by omega) (by omega) rfl rfl
 simp only [val_digs] at kd
 have l4 := add_len (n := 34359738368) (show (digs (N * E)).length ≤ 34359738368 by omega) (show (digs (M * D)).length ≤ 34359738368 by omega)
 have l5 := sub_len (y := M * D) l1
 have l6 := sub_len (y := N * E) l2
 have ka := add_sound (m1 := .plain) (m2 := .plain) (ok_digs (N * E)) (ok_digs (M * D)) (by omega) (by omega)
 have ks := sub_sound (m1 := .plain) (m2 := .plain) (ok_digs (N * E)) (ok_digs (M * D)) (by omega) (by omega)
 have ks2 := sub_sound (m1 := .plain) (m2 := .plain) (ok_digs (M * D)) (ok_digs (N * E)) (by omega) (by omega)
 simp only [val_digs] at ka ks ks2
 have m1 := made_sound (neg := s) (N := N * E + M * D) (D := D * E) (by omega) (by omega) h2
 have m2 := made_sound (neg := s) (N := N * E - M * D) (D := D * E) (by omega) (by omega) h2
 have m3 := made_sound (neg := t) (N := M * D - N * E) (D := D * E) (by omega) (by omega) h2
 unfold addO
 refine sound' t_f_Add (by simp) ?_
 generalize N * E = x at *
 generalize M * D = y at *
 generalize D * E = d at *
 by_cases hst : s = t
 ·have e : (s == t) = true := by simp [hst]
  obtain ⟨b, p, q, hf⟩ := fracO_eq s (x + y) d
  rw [if_pos hst, hf]
  rw [hf] at m1
  simp [c_f_Add]
  refine eCall_i kx (by simp) (by simp) ?_
  simp
  refine eCall_i kd (by simp) (by simp) ?_
  simp [eBin_eql_bool ub_bool, e]
  refine eCall_i ka (by simp) (by simp) ?_
  simp
  refine eCall_i m1 (by simp) (by simp) ?_
  simp [r_f_Add]
 ·have e : (s == t) = false := by simp [hst]
  rw [if_neg hst]
  simp [c_f_Add]
  refine eCall_i kx (by simp) (by simp) ?_
  simp
  refine eCall_i kd (by simp) (by simp) ?_
  simp [eBin_eql_bool ub_bool, e]
  refine eCall_i ks (by simp) (by simp) ?_
  by_cases hlt : x < y
  ·obtain ⟨b, p, q, hf⟩ := fracO_eq t (y - x) d
   rw [if_pos hlt, hf]
   rw [hf] at m3
   have hge : ¬ y < x := by omega
   rw [if_neg hge] at ks2
   simp [hlt]
   refine eCall_i ks2 (by simp) (by simp) ?_
   simp
   refine eCall_i m3 (by simp) (by simp) ?_
   simp [r_f_Add]
  ·obtain ⟨b, p, q, hf⟩ := fracO_eq s (x - y) d
   rw [if_neg hlt, hf]
   rw [hf] at m2
   simp [hlt]
   refine eCall_i m2 (by simp) (by simp) ?_
   simp [r_f_Add]
end Go.Proofs.Ytdeifcfjkmfocaa

namespace Go.Proofs.Ytdeifcfjkmfocaa
open Go Go.Am Go.Dig
theorem neg_ref {s : Bool} {N D : Nat} (hN : (digs N).length < 68719476736) (_hD : (digs D).length < 68719476736) : SoundCall Try.prog F_p_Neg [frA s N D] (frA (!s && decide (N ≠ 0)) N D) := by
 refine sound' t_p_Neg (by simp) ?_
 cases s
 ·by_cases h0 : N = 0
  ·subst h0
   simp [c_p_Neg, r_p_Neg, digs_zero]
  ·have : 0 < (digs N).length := by
    rcases Nat.eq_zero_or_pos (digs N).length with h | h
    ·rw [List.length_eq_zero_iff, digs_eq_nil] at h; exact absurd h h0
    ·exact h
   simp [c_p_Neg, r_p_Neg, this, h0]
 ·simp [c_p_Neg, r_p_Neg]
theorem mulF_ref {s t : Bool} {N D M E : Nat} (hN : (digs N).length < 17179869184) (hD : (digs D).length < 17179869184) (hM : (digs M).length < 17179869184) (hE : (digs E).length < 17179869184) (h0 : D ≠ 0) (h1 : E ≠ 0) :
  SoundCall Try.prog F_p_Mul [frA s N D, frA t M E] (fracO (!(s == t)) (N * M) (D * E)) := by
 have l1 := mul_len (Nat.le_refl (digs N).length) (Nat.le_refl (digs M).length)
 have l2 := mul_len (Nat.le_refl (digs D).length) (Nat.le_refl (digs E).length)
 have h2 : D * E ≠ 0 := Nat.mul_ne_zero h0 h1
 have k1 := mul_ref (m1 := .plain) (m2 := .plain) (ok_digs N) (ok_digs M) (by omega) rfl rfl
 have k2 := mul_ref (m1 := .plain) (m2 := .plain) (ok_digs D) (ok_digs E) (by omega) rfl rfl
 simp only [val_digs] at k1 k2
 have k := make_ref (neg := !(s == t)) (N := N * M) (D := D * E) (by omega) (by omega) h2
 obtain ⟨b, p, q, hf⟩ := fracO_eq (!(s == t)) (N * M) (D * E)
 rw [hf] at k ⊢
 refine sound' t_p_Mul (by simp) ?_
 simp [c_p_Mul, eBin_neq_bool ub_bool]
 refine eCall_i k1 (by simp) (by simp) ?_
 simp
 refine eCall_i k2 (by simp) (by simp) ?_
 simp
 refine eCall_i k (by simp) (by simp) ?_
 simp [r_p_Mul]
end Go.Proofs.Ytdeifcfjkmfocaa

namespace Go.Proofs.Ytdeifcfjkmfocaa
open Go Go.Am Go.Dig
theorem addF_ref {s t : Bool} {N D M E : Nat} (hN : (digs N).length < 17179869184) (hD : (digs D).length < 17179869184) (hM : (digs M).length < 17179869184) (hE : (digs E).length < 17179869184) (h0 : D ≠ 0) (h1 : E ≠ 0) :
  SoundCall Try.prog F_p_Add [frA s N D, frA t M E] (addO s N D t M E) := by
 have l1 := mul_len (Nat.le_refl (digs N).length) (Nat.le_refl (digs E).length)
 have l2 := mul_len (Nat.le_refl (digs M).length) (Nat.le_refl (digs D).length)
 have l3 := mul_len (Nat.le_refl (digs D).length) (Nat.le_refl (digs E).length)
 have h2 : D * E ≠ 0 := Nat.mul_ne_zero h0 h1
 have kx := mul_ref (m1 := .plain) (m2 := .plain) (ok_digs N) (ok_digs E) (by omega) rfl rfl
 have ky := mul_ref (m1 := .plain) (m2 := .plain) (ok_digs M) (ok_digs D) (by omega) rfl rfl
 have kd := mul_ref (m1 := .plain) (m2 := .plain) (ok_digs D) (ok_digs E) (by omega) rfl rfl
 simp only [val_digs] at kd kx ky
 have l4 := add_len (n := 34359738368) (show (digs (N * E)).length ≤ 34359738368 by omega) (show (digs (M * D)).length ≤ 34359738368 by omega)
 have l5 := sub_len (y := M * D) l1
 have l6 := sub_len (y := N * E) l2
 have ka := add_ref (m1 := .plain) (m2 := .plain) (ok_digs (N * E)) (ok_digs (M * D)) (by omega) (by omega) rfl rfl
 have ks := sub_ref (m1 := .plain) (m2 := .plain) (ok_digs (N * E)) (ok_digs (M * D)) (by omega) (by omega) rfl rfl
 have ks2 := sub_ref (m1 := .plain) (m2 := .plain) (ok_digs (M * D)) (ok_digs (N * E)) (by omega) (by omega) rfl rfl
 simp only [val_digs] at ka ks ks2
 have m1 := make_ref (neg := s) (N := N * E + M * D) (D := D * E) (by omega) (by omega) h2
 have m2 := make_ref (neg := s) (N := N * E - M * D) (D := D * E) (by omega) (by omega) h2
 have m3 := make_ref (neg := t) (N := M * D - N * E) (D := D * E) (by omega) (by omega) h2
 unfold addO
 refine sound' t_p_Add (by simp) ?_
 generalize N * E = x at *
 generalize M * D = y at *
 generalize D * E = d at *
 by_cases hst : s = t
 ·have e : (s == t) = true := by simp [hst]
  obtain ⟨b, p, q, hf⟩ := fracO_eq s (x + y) d
  rw [if_pos hst, hf]
  rw [hf] at m1
  simp [c_p_Add]
  refine eCall_i kx (by simp) (by simp) ?_
  simp
  refine eCall_i ky (by simp) (by simp) ?_
  simp
  refine eCall_i kd (by simp) (by simp) ?_
  simp [eBin_eql_bool ub_bool, e]
  refine eCall_i ka (by simp) (by simp) ?_
  simp
  refine eCall_i m1 (by simp) (by simp) ?_
  simp [r_p_Add]
 ·have e : (s == t) = false := by simp [hst]
  rw [if_neg hst]
  simp [c_p_Add]
  refine eCall_i kx (by simp) (by simp) ?_
  simp
  refine eCall_i ky (by simp) (by simp) ?_
  simp
  refine eCall_i kd (by simp) (by simp) ?_
  simp [eBin_eql_bool ub_bool, e]
  refine eCall_i ks (by simp) (by simp) ?_
  by_cases hlt : x < y
  ·obtain ⟨b, p, q, hf⟩ := fracO_eq t (y - x) d
   rw [if_pos hlt, hf]
   rw [hf] at m3
   have hge : ¬ y ≤ x := by omega
   simp [hge]
   refine eCall_i ks2 (by simp) (by simp) ?_
   simp
   refine eCall_i m3 (by simp) (by simp) ?_
   simp [r_p_Add]
  ·obtain ⟨b, p, q, hf⟩ := fracO_eq s (x - y) d
   rw [if_neg hlt, hf]
   rw [hf] at m2
   have hle : y ≤ x := by omega
   simp [hle]
   refine eCall_i m2 (by simp) (by simp) ?_
   simp [r_p_Add]
end Go.Proofs.Ytdeifcfjkmfocaa

namespace Go.Proofs.Ytdeifcfjkmfocaa
open Go Go.Am Go.Dig
abbrev frac (q : Rat) : AV := frA (decide (q.num < 0)) q.num.natAbs q.den
def sg (s : Bool) (N : Nat) : Int := if s then -(N : Int) else N
theorem fracO_rat {s : Bool} {N D : Nat} (h : D ≠ 0) : fracO s N D = frac (mkRat (sg s N) D) := by
 have hab : (sg s N).natAbs = N := by unfold sg; split <;> omega
 have hm : mkRat (sg s N) D = Rat.normalize (sg s N) D h := by simp [mkRat, h]
 rw [hm, Rat.normalize_eq]
 unfold fracO frac
 simp only [hab]
 have hg : 0 < Nat.gcd N D := Nat.gcd_pos_of_pos_right _ (by omega)
 obtain ⟨c, hc⟩ := Nat.gcd_dvd_left N D
 generalize Nat.gcd N D = g at *
 subst hc
 have e1 : (sg s (g * c)) / (g : Int) = sg s c := by
  unfold sg
  split
  ·rw [show -((g * c : Nat) : Int) = (g : Int) * (-(c : Int)) by rw [Int.natCast_mul, Int.mul_neg]]
   exact Int.mul_ediv_cancel_left _ (by omega)
  ·rw [Int.natCast_mul]
   exact Int.mul_ediv_cancel_left _ (by omega)
 have e2 : g * c / g = c := Nat.mul_div_cancel_left _ hg
 rw [e1, e2]
 have e3 : (sg s c).natAbs = c := by unfold sg; split <;> omega
 have e4 : (s && decide (g * c ≠ 0)) = decide (sg s c < 0) := by
  have hg0 : ¬ g = 0 := by omega
  unfold sg
  rcases Nat.eq_zero_or_pos c with h0 | h0
  ·subst h0; cases s <;> simp
  ·have hc0 : ¬ c = 0 := by omega
   have hcl : 0 < c := h0
   have hng : ¬ (c : Int) < 0 := by omega
   have hneg : -(c : Int) < 0 := by omega
   have hgc : ¬ g * c = 0 := Nat.mul_ne_zero hg0 hc0
   cases s <;> simp [hng, hgc, hcl]
 rw [e3, e4]
end Go.Proofs.Ytdeifcfjkmfocaa

namespace Go.Proofs.Ytdeifcfjkmfocaa
open Go Go.Am Go.Dig
theorem sg_num (n : Int) : sg (decide (n < 0)) n.natAbs = n := by
 unfold sg
 by_cases h : n < 0
 ·simp [h]; omega
 ·simp [h]; omega
theorem mul_rat (p q : Rat) : fracO (!(decide (p.num < 0) == decide (q.num < 0))) (p.num.natAbs * q.num.natAbs) (p.den * q.den) = frac (p * q) := by
 have h : p.den * q.den ≠ 0 := Nat.mul_ne_zero p.den_nz q.den_nz
 rw [fracO_rat h, Rat.mul_def']
 congr 2
 have e1 := sg_num p.num
 have e2 := sg_num q.num
 generalize p.num.natAbs = x at *
 generalize q.num.natAbs = y at *
 generalize decide (p.num < 0) = s at *
 generalize decide (q.num < 0) = t at *
 rw [← e1, ← e2]
 cases s <;> cases t <;> simp [sg, Int.neg_mul, Int.mul_neg]
theorem add_rat (p q : Rat) : addO (decide (p.num < 0)) p.num.natAbs p.den (decide (q.num < 0)) q.num.natAbs q.den = frac (p + q) := by
 have h : p.den * q.den ≠ 0 := Nat.mul_ne_zero p.den_nz q.den_nz
 have e1 := sg_num p.num
 have e2 := sg_num q.num
 unfold addO
 rw [fracO_rat h, fracO_rat h, fracO_rat h, Rat.add_def']
 generalize p.num.natAbs = x at *
 generalize q.num.natAbs = y at *
 generalize decide (p.num < 0) = s at *
 generalize decide (q.num < 0) = t at *
 rw [← e1, ← e2]
 have a1 : ((x * q.den : Nat) : Int) = (x : Int) * q.den := Int.natCast_mul _ _
 have a2 : ((y * p.den : Nat) : Int) = (y : Int) * p.den := Int.natCast_mul _ _
 generalize hX : x * q.den = X at *
 generalize hY : y * p.den = Y at *
 cases s <;> cases t
 ·simp only [if_true]; congr 2; simp [sg]; omega
 ·simp only [Bool.false_eq_true, if_false]
  split <;> (congr 2; simp only [sg, if_true, Bool.false_eq_true, if_false, Int.neg_mul]; omega)
 ·simp only [Bool.true_eq_false, if_false]
  split <;> (congr 2; simp only [sg, if_true, Bool.false_eq_true, if_false, Int.neg_mul]; omega)
 ·simp only [if_true]; congr 2; simp only [sg, if_true, Int.neg_mul]; omega
end Go.Proofs.Ytdeifcfjkmfocaa

namespace Go.LP
def sumR : Nat → (Nat → Rat) → Rat
 | 0, _ => 0
 | n + 1, f => sumR n f + f n
theorem sumR_congr {n : Nat} {f g : Nat → Rat} (h : ∀ i, i < n → f i = g i) : sumR n f = sumR n g := by
 induction n with
 | zero => rfl
 | succ n ih => simp only [sumR]; rw [ih fun i hi => h i (by omega), h n (by omega)]
theorem sumR_zero {n : Nat} {f : Nat → Rat} (h : ∀ i, i < n → f i = 0) : sumR n f = 0 := by
 induction n with
 | zero => rfl
 | succ n ih => simp only [sumR]; rw [ih fun i hi => h i (by omega), h n (by omega)]; grind
theorem sumR_add {n : Nat} {f g : Nat → Rat} : sumR n (fun i => f i + g i) = sumR n f + sumR n g := by
 induction n with
 | zero => simp only [sumR]; grind
 | succ n ih => simp only [sumR]; rw [ih]; grind
theorem sumR_mul {n : Nat} {f : Nat → Rat} {k : Rat} : sumR n (fun i => k * f i) = k * sumR n f := by
 induction n with
 | zero => simp only [sumR]; grind
 | succ n ih => simp only [sumR]; rw [ih]; grind
theorem sumR_mul' {n : Nat} {f : Nat → Rat} {k : Rat} : sumR n (fun i => f i * k) = sumR n f * k := by
 induction n with
 | zero => simp only [sumR]; grind
 | succ n ih => simp only [sumR]; rw [ih]; grind
theorem sumR_sub {n : Nat} {f g : Nat → Rat} : sumR n (fun i => f i - g i) = sumR n f - sumR n g := by
 induction n with
 | zero => simp only [sumR]; grind
 | succ n ih => simp only [sumR]; rw [ih]; grind
theorem sumR_neg {n : Nat} {f : Nat → Rat} : sumR n (fun i => - f i) = - sumR n f := by
 induction n with
 | zero => simp only [sumR]; grind
 | succ n ih => simp only [sumR]; rw [ih]; grind
theorem sumR_comm {n m : Nat} {f : Nat → Nat → Rat} : sumR n (fun i => sumR m (f i)) = sumR m (fun j => sumR n fun i => f i j) := by
 induction n with
 | zero => simp only [sumR]; exact (sumR_zero fun _ _ => rfl).symm
 | succ n ih => simp only [sumR]; rw [ih, ← sumR_add]
theorem sumR_nonneg {n : Nat} {f : Nat → Rat} (h : ∀ i, i < n → 0 ≤ f i) : 0 ≤ sumR n f := by
 induction n with
 | zero => simp only [sumR]; grind
 | succ n ih => simp only [sumR]; have := ih fun i hi => h i (by omega); have := h n (by omega); grind
theorem sumR_le {n : Nat} {f g : Nat → Rat} (h : ∀ i, i < n → f i ≤ g i) : sumR n f ≤ sumR n g := by
 induction n with
 | zero => simp only [sumR]; grind
 | succ n ih => simp only [sumR]; have := ih fun i hi => h i (by omega); have := h n (by omega); grind
theorem sumR_split {n q : Nat} {f : Nat → Rat} (hq : q < n) : sumR n f = f q + sumR n (fun j => if j = q then 0 else f j) := by
 induction n with
 | zero => omega
 | succ n ih =>
  simp only [sumR]
  by_cases h : q = n
  ·subst h
   rw [if_pos rfl, sumR_congr (f := fun j => if j = q then 0 else f j) (g := f) fun i hi => if_neg (by omega)]
   grind
  ·rw [ih (by omega), if_neg (fun e => h e.symm)]
   grind
theorem sumR_one {n q : Nat} {f : Nat → Rat} (hq : q < n) (h : ∀ i, i < n → i ≠ q → f i = 0) : sumR n f = f q := by
 rw [sumR_split hq, sumR_zero (f := fun j => if j = q then 0 else f j) fun i hi => by
  by_cases e : i = q
  ·exact if_pos e
  ·rw [if_neg e]; exact h i hi e]
 grind
theorem sumR_exists_neg {n : Nat} {f : Nat → Rat} (h : sumR n f < 0) : ∃ i, i < n ∧ f i < 0 := by
 induction n with
 | zero => simp only [sumR] at h; grind
 | succ n ih =>
  simp only [sumR] at h
  by_cases h1 : sumR n f < 0
  ·obtain ⟨i, hi, hf⟩ := ih h1; exact ⟨i, by omega, hf⟩
  ·exact ⟨n, by omega, by grind⟩
structure Dict where
 r : Nat
 c : Nat
 a : Nat → Nat → Rat
 b : Nat → Rat
 cst : Nat → Rat
 v : Rat
 bas : Nat → Nat
 fre : Nat → Nat
def sol (d : Dict) (x : Nat → Rat) : Prop := ∀ i, i < d.r → x (d.bas i) = d.b i - sumR d.c fun j => d.a i j * x (d.fre j)
def obj (d : Dict) (x : Nat → Rat) : Rat := d.v + sumR d.c fun j => d.cst j * x (d.fre j)
def Bij (d : Dict) (N : Nat) : Prop := ∀ g : Nat → Rat, sumR N g = sumR d.c (fun j => g (d.fre j)) + sumR d.r (fun i => g (d.bas i))
def upd {α : Type} (f : Nat → α) (p : Nat) (x : α) : Nat → α := fun i => if i = p then x else f i
def pivot (d : Dict) (p q : Nat) : Dict where
 r := d.r
 c := d.c
 a := fun i j => if i = p then (if j = q then 1 / d.a p q else d.a p j * (1 / d.a p q)) else (if j = q then -(d.a i q * (1 / d.a p q)) else d.a i j - d.a i q * (d.a p j * (1 / d.a p q)))
 b := fun i => if i = p then d.b p * (1 / d.a p q) else d.b i - d.a i q * (d.b p * (1 / d.a p q))
 cst := fun j => if j = q then -(d.cst q * (1 / d.a p q)) else d.cst j - d.cst q * (d.a p j * (1 / d.a p q))
 v := d.v + d.cst q * (d.b p * (1 / d.a p q))
 bas := upd d.bas p (d.fre q)
 fre := upd d.fre q (d.bas p)
theorem pivot_pivot {d : Dict} {p q : Nat} (h : d.a p q ≠ 0) : pivot (pivot d p q) p q = d := by
 cases d with
 | mk r c a b cst v bas fre =>
  simp only at h
  simp only [pivot, Dict.mk.injEq, upd, if_true, true_and]
  refine ⟨?_, ?_, ?_, ?_, ?_, ?_⟩
  ·funext i j
   by_cases hi : i = p <;> by_cases hj : j = q <;> simp only [hi, hj, if_true, if_false] <;> grind
  ·funext i
   by_cases hi : i = p <;> simp only [hi, if_true, if_false] <;> grind
  ·funext j
   by_cases hj : j = q <;> simp only [hj, if_true, if_false] <;> grind
  ·grind
  ·funext i; by_cases hi : i = p <;> simp [upd, hi]
  ·funext i; by_cases hi : i = q <;> simp [upd, hi]
theorem pivot_bij {d : Dict} {p q N : Nat} (hp : p < d.r) (hq : q < d.c) (h : Bij d N) : Bij (pivot d p q) N := by
 intro g
 rw [h g]
 simp only [pivot]
 rw [sumR_split (f := fun j => g (d.fre j)) hq, sumR_split (f := fun j => g (d.bas j)) hp, sumR_split (f := fun j => g (upd d.fre q (d.bas p) j)) hq,
  sumR_split (f := fun j => g (upd d.bas p (d.fre q) j)) hp]
 have e1 : sumR d.c (fun j => if j = q then 0 else g (upd d.fre q (d.bas p) j)) = sumR d.c (fun j => if j = q then 0 else g (d.fre j)) := sumR_congr fun i _ => by
  by_cases e : i = q <;> simp [e, upd]
 have e2 : sumR d.r (fun j => if j = p then 0 else g (upd d.bas p (d.fre q) j)) = sumR d.r (fun j => if j = p then 0 else g (d.bas j)) := sumR_congr fun i _ => by
  by_cases e : i = p <;> simp [e, upd]
 rw [e1, e2]
 simp only [upd, if_true]
 grind
theorem sol_pivot {d : Dict} {p q : Nat} (hp : p < d.r) (hq : q < d.c) (h : d.a p q ≠ 0) {x : Nat → Rat} (hs : sol d x) : sol (pivot d p q) x := by
 have e0 := hs p hp
 rw [sumR_split hq] at e0
 have k1 : ∀ (k : Rat), sumR d.c (fun j => if j = q then 0 else k * d.a p j * x (d.fre j)) = k * sumR d.c (fun j => if j = q then 0 else d.a p j * x (d.fre j)) := fun k => by
  rw [← sumR_mul]
  exact sumR_congr fun j _ => by by_cases e : j = q <;> simp [e]; grind
 intro i hi
 simp only [pivot] at hi ⊢
 rw [sumR_split hq]
 by_cases hip : i = p
 ·subst hip
  have e1 : sumR d.c (fun j => if j = q then 0 else (if i = i then (if j = q then 1 / d.a i q else d.a i j * (1 / d.a i q)) else (if j = q then -(d.a i q * (1 / d.a i q)) else d.a i j - d.a i q * (d.a i j * (1 / d.a i q)))) * x (upd d.fre q (d.bas i) j))
    = (1 / d.a i q) * sumR d.c (fun j => if j = q then 0 else d.a i j * x (d.fre j)) := by
   rw [← k1]
   exact sumR_congr fun j _ => by by_cases e : j = q <;> simp [e, upd]; grind
  rw [e1]
  simp only [upd, if_true]
  grind
 ·have e2 := hs i hi
  rw [sumR_split hq] at e2
  have e1 : sumR d.c (fun j => if j = q then 0 else (if i = p then (if j = q then 1 / d.a p q else d.a p j * (1 / d.a p q)) else (if j = q then -(d.a i q * (1 / d.a p q)) else d.a i j - d.a i q * (d.a p j * (1 / d.a p q)))) * x (upd d.fre q (d.bas p) j))
    = sumR d.c (fun j => if j = q then 0 else d.a i j * x (d.fre j)) - (d.a i q * (1 / d.a p q)) * sumR d.c (fun j => if j = q then 0 else d.a p j * x (d.fre j)) := by
   rw [← k1, ← sumR_sub]
   exact sumR_congr fun j _ => by by_cases e : j = q <;> simp [e, upd, hip] <;> grind
  rw [e1]
  simp only [upd, if_true, if_neg hip]
  grind
theorem sol_pivot_iff {d : Dict} {p q : Nat} (hp : p < d.r) (hq : q < d.c) (h : d.a p q ≠ 0) {x : Nat → Rat} : sol (pivot d p q) x ↔ sol d x := by
 constructor
 ·intro hs
  have h2 : (pivot d p q).a p q ≠ 0 := by simp only [pivot, if_true]; grind
  have := sol_pivot (d := pivot d p q) hp hq h2 hs
  rwa [pivot_pivot h] at this
 ·exact sol_pivot hp hq h
theorem obj_pivot {d : Dict} {p q : Nat} (hp : p < d.r) (hq : q < d.c) (h : d.a p q ≠ 0) {x : Nat → Rat} (hs : sol d x) : obj (pivot d p q) x = obj d x := by
 have e0 := hs p hp
 rw [sumR_split hq] at e0
 have k1 : ∀ (k : Rat), sumR d.c (fun j => if j = q then 0 else k * d.a p j * x (d.fre j)) = k * sumR d.c (fun j => if j = q then 0 else d.a p j * x (d.fre j)) := fun k => by
  rw [← sumR_mul]
  exact sumR_congr fun j _ => by by_cases e : j = q <;> simp [e]; grind
 simp only [obj, pivot]
 rw [sumR_split hq, sumR_split (f := fun j => d.cst j * x (d.fre j)) hq]
 have e1 : sumR d.c (fun j => if j = q then 0 else (if j = q then -(d.cst q * (1 / d.a p q)) else d.cst j - d.cst q * (d.a p j * (1 / d.a p q))) * x (upd d.fre q (d.bas p) j))
    = sumR d.c (fun j => if j = q then 0 else d.cst j * x (d.fre j)) - (d.cst q * (1 / d.a p q)) * sumR d.c (fun j => if j = q then 0 else d.a p j * x (d.fre j)) := by
  rw [← k1, ← sumR_sub]
  exact sumR_congr fun j _ => by by_cases e : j = q <;> simp [e, upd] <;> grind
 rw [e1]
 simp only [upd, if_true]
 grind
section
variable {d : Dict} {N : Nat} (hb : Bij d N)
include hb
theorem bij_count {k : Nat} (hk : k < N) : sumR d.c (fun j => if d.fre j = k then 1 else 0) + sumR d.r (fun i => if d.bas i = k then 1 else 0) = 1 := by
 have := hb fun x => if x = k then 1 else 0
 rw [sumR_one hk (fun i _ hne => if_neg hne), if_pos rfl] at this
 exact this.symm
theorem bij_count0 {k : Nat} (hk : N ≤ k) : sumR d.c (fun j => if d.fre j = k then 1 else 0) + sumR d.r (fun i => if d.bas i = k then 1 else 0) = 0 := by
 have := hb fun x => if x = k then 1 else 0
 rw [sumR_zero (fun i hi => if_neg (by omega))] at this
 exact this.symm
omit hb in
theorem ind_nonneg {n : Nat} {f : Nat → Nat} {k : Nat} : 0 ≤ sumR n (fun j => if f j = k then 1 else 0) := sumR_nonneg fun i _ => by split <;> grind
omit hb in
theorem ind_pos {n j : Nat} {f : Nat → Nat} (hj : j < n) : 1 ≤ sumR n (fun i => if f i = f j then 1 else 0) := by
 rw [sumR_split hj]
 simp only [if_true]
 have : 0 ≤ sumR n (fun i => if i = j then 0 else if f i = f j then (1 : Rat) else 0) := sumR_nonneg fun i _ => by split <;> (try split) <;> grind
 grind
omit hb in
theorem ind_two {n i j : Nat} {f : Nat → Nat} (hi : i < n) (hj : j < n) (hne : i ≠ j) (he : f i = f j) : 2 ≤ sumR n (fun l => if f l = f j then 1 else 0) := by
 rw [sumR_split hj, sumR_split (f := fun l => if l = j then 0 else if f l = f j then (1 : Rat) else 0) hi]
 simp only [if_true, if_neg hne, he]
 have : 0 ≤ sumR n (fun l => if l = i then 0 else if l = j then 0 else if f l = f j then (1 : Rat) else 0) := sumR_nonneg fun i _ => by split <;> (try split) <;> (try split) <;> grind
 grind
theorem fre_lt {j : Nat} (hj : j < d.c) : d.fre j < N := by
 rcases Nat.lt_or_ge (d.fre j) N with h | h
 ·exact h
 ·have h1 := bij_count0 hb h
  have h2 := ind_pos (f := d.fre) hj
  have h3 := ind_nonneg (n := d.r) (f := d.bas) (k := d.fre j)
  grind
theorem bas_lt {i : Nat} (hi : i < d.r) : d.bas i < N := by
 rcases Nat.lt_or_ge (d.bas i) N with h | h
 ·exact h
 ·have h1 := bij_count0 hb h
  have h2 := ind_pos (f := d.bas) hi
  have h3 := ind_nonneg (n := d.c) (f := d.fre) (k := d.bas i)
  grind
theorem fre_inj {i j : Nat} (hi : i < d.c) (hj : j < d.c) (h : d.fre i = d.fre j) : i = j := by
 by_cases e : i = j
 ·exact e
 ·have h1 := bij_count hb (fre_lt hb hj)
  have h2 := ind_two (f := d.fre) hi hj e h
  have h3 := ind_nonneg (n := d.r) (f := d.bas) (k := d.fre j)
  grind
theorem bas_inj {i j : Nat} (hi : i < d.r) (hj : j < d.r) (h : d.bas i = d.bas j) : i = j := by
 by_cases e : i = j
 ·exact e
 ·have h1 := bij_count hb (bas_lt hb hj)
  have h2 := ind_two (f := d.bas) hi hj e h
  have h3 := ind_nonneg (n := d.c) (f := d.fre) (k := d.bas j)
  grind
theorem fre_ne_bas {i j : Nat} (hi : i < d.r) (hj : j < d.c) : d.fre j ≠ d.bas i := fun e => by
 have h1 := bij_count hb (bas_lt hb hi)
 have h2 := ind_pos (f := d.bas) hi
 have h3 := ind_pos (f := d.fre) hj
 rw [e] at h3
 grind
omit hb in
theorem ind_zero {n k : Nat} {f : Nat → Nat} (h : ∀ j, j < n → f j ≠ k) : sumR n (fun j => if f j = k then (1 : Rat) else 0) = 0 := sumR_zero fun i hi => if_neg (h i hi)
theorem free_or_basic {k : Nat} (hk : k < N) : (∃ j, j < d.c ∧ d.fre j = k) ∨ ∃ i, i < d.r ∧ d.bas i = k := by
 apply Classical.byContradiction
 intro h
 have h1 := bij_count hb hk
 rw [ind_zero fun j hj e => h (.inl ⟨j, hj, e⟩), ind_zero fun j hj e => h (.inr ⟨j, hj, e⟩)] at h1
 grind
end
def inB (d : Dict) (k : Nat) : Prop := ∃ i, i < d.r ∧ d.bas i = k
def vl (d : Dict) (k : Nat) : Rat := sumR d.r fun i => if d.bas i = k then d.b i else 0
def cv (d : Dict) (k : Nat) : Rat := sumR d.c fun j => if d.fre j = k then d.cst j else 0
section
variable {d : Dict} {N : Nat} (hb : Bij d N)
include hb
theorem vl_bas {i : Nat} (hi : i < d.r) : vl d (d.bas i) = d.b i := by
 unfold vl
 rw [sumR_one hi fun k hk hne => if_neg fun e => hne (bas_inj hb hk hi e), if_pos rfl]
omit hb in
theorem vl_fre {k : Nat} (h : ¬ inB d k) : vl d k = 0 := sumR_zero fun i hi => if_neg fun e => h ⟨i, hi, e⟩
theorem cv_fre {j : Nat} (hj : j < d.c) : cv d (d.fre j) = d.cst j := by
 unfold cv
 rw [sumR_one hj fun k hk hne => if_neg fun e => hne (fre_inj hb hk hj e), if_pos rfl]
theorem cv_bas {k : Nat} (h : inB d k) : cv d k = 0 := by
 obtain ⟨i, hi, rfl⟩ := h
 exact sumR_zero fun j hj => if_neg fun e => fre_ne_bas hb hi hj e
theorem not_inB_fre {j : Nat} (hj : j < d.c) : ¬ inB d (d.fre j) := fun ⟨_, hi, e⟩ => fre_ne_bas hb hi hj e.symm
theorem free_of {k : Nat} (hk : k < N) (h : ¬ inB d k) : ∃ j, j < d.c ∧ d.fre j = k := (free_or_basic hb hk).resolve_right h
def ptq (d : Dict) (q : Nat) (y : Rat) (k : Nat) : Rat := sumR d.r (fun i => if d.bas i = k then d.b i - d.a i q * y else 0) + (if d.fre q = k then y else 0)
theorem ptq_bas {q i : Nat} {y : Rat} (hq : q < d.c) (hi : i < d.r) : ptq d q y (d.bas i) = d.b i - d.a i q * y := by
 unfold ptq
 rw [sumR_one hi fun k hk hne => if_neg fun e => hne (bas_inj hb hk hi e), if_pos rfl, if_neg (fre_ne_bas hb hi hq)]
 grind
theorem ptq_fre {q j : Nat} {y : Rat} (hq : q < d.c) (hj : j < d.c) : ptq d q y (d.fre j) = if j = q then y else 0 := by
 unfold ptq
 rw [sumR_zero fun i hi => if_neg fun e => fre_ne_bas hb hi hj e.symm]
 by_cases e : j = q
 ·subst e; simp; grind
 ·rw [if_neg e, if_neg fun h => e (fre_inj hb hj hq h.symm)]; grind
theorem ptq_sol {q : Nat} {y : Rat} (hq : q < d.c) : sol d (ptq d q y) := by
 intro i hi
 rw [ptq_bas hb hq hi, sumR_one hq (fun j hj hne => by rw [ptq_fre hb hq hj, if_neg hne]; grind), ptq_fre hb hq hq, if_pos rfl]
theorem ptq_obj {q : Nat} {y : Rat} (hq : q < d.c) : obj d (ptq d q y) = d.v + d.cst q * y := by
 unfold obj
 rw [sumR_one hq (fun j hj hne => by rw [ptq_fre hb hq hj, if_neg hne]; grind), ptq_fre hb hq hq, if_pos rfl]
theorem vl_sol : sol d (vl d) := by
 intro i hi
 rw [vl_bas hb hi, sumR_zero fun j hj => by rw [vl_fre (not_inB_fre hb hj)]; grind]
 grind
theorem vl_obj : obj d (vl d) = d.v := by
 unfold obj
 rw [sumR_zero fun j hj => by rw [vl_fre (not_inB_fre hb hj)]; grind]
 grind
theorem obj_cv {x : Nat → Rat} : obj d x = d.v + sumR N fun k => cv d k * x k := by
 have := hb fun k => cv d k * x k
 rw [this, sumR_zero (n := d.r) fun i hi => by rw [cv_bas hb ⟨i, hi, rfl⟩]; grind]
 unfold obj
 rw [sumR_congr (g := fun j => cv d (d.fre j) * x (d.fre j)) fun j hj => by rw [cv_fre hb hj]]
 grind
end
end Go.LP

namespace Go.LP
theorem lt_or_le (a b : Rat) : a < b ∨ b ≤ a := by
 by_cases h : a < b
 ·exact .inl h
 ·exact .inr (by grind)
theorem inv_pos' {a : Rat} (h : 0 < a) : 0 < 1 / a := by
 have h1 : a * (1 / a) = 1 := by grind
 rcases lt_or_le 0 (1 / a) with h2 | h2
 ·exact h2
 ·exfalso
  have : 0 ≤ a * (-(1 / a)) := Rat.mul_nonneg (by grind) (by grind)
  grind
def Bland (d : Dict) (p q : Nat) : Prop := p < d.r ∧ q < d.c ∧ 0 < d.cst q ∧ (∀ j, j < d.c → 0 < d.cst j → d.fre q ≤ d.fre j) ∧ 0 < d.a p q ∧
 ∀ i, i < d.r → 0 < d.a i q → d.b p * d.a i q ≤ d.b i * d.a p q ∧ (d.b p * d.a i q = d.b i * d.a p q → d.bas p ≤ d.bas i)
def feas (d : Dict) : Prop := ∀ i, i < d.r → 0 ≤ d.b i
theorem ratio_feas {d : Dict} {p q : Nat} (hp : p < d.r) (hf : feas d) (ha : 0 < d.a p q) (hr : ∀ i, i < d.r → 0 < d.a i q → d.b p * d.a i q ≤ d.b i * d.a p q) : feas (pivot d p q) := by
 have hi := inv_pos' ha
 intro i hir
 simp only [pivot] at hir ⊢
 by_cases e : i = p
 ·rw [if_pos e]; exact Rat.mul_nonneg (hf p hp) (by grind)
 ·rw [if_neg e]
  have h0 : 0 ≤ d.b p * (1 / d.a p q) := Rat.mul_nonneg (hf p hp) (by grind)
  by_cases h : 0 < d.a i q
  ·have h1 := hr i hir h
   have h2 : 0 ≤ (d.b i * d.a p q - d.b p * d.a i q) * (1 / d.a p q) := Rat.mul_nonneg (by grind) (by grind)
   have h3 : (d.b i * d.a p q - d.b p * d.a i q) * (1 / d.a p q) = d.b i - d.a i q * (d.b p * (1 / d.a p q)) := by grind
   rwa [h3] at h2
  ·have h1 : 0 ≤ (- d.a i q) * (d.b p * (1 / d.a p q)) := Rat.mul_nonneg (by grind) h0
   have := hf i hir
   grind
theorem Bland.feas {d : Dict} {p q : Nat} (h : Bland d p q) (hf : feas d) : feas (pivot d p q) :=
 ratio_feas h.1 hf h.2.2.2.2.1 fun i hi ha => (h.2.2.2.2.2 i hi ha).1
theorem Bland.v_le {d : Dict} {p q : Nat} (h : Bland d p q) (hf : LP.feas d) : d.v ≤ (pivot d p q).v := by
 have hi := inv_pos' h.2.2.2.2.1
 have h0 : 0 ≤ d.cst q * (d.b p * (1 / d.a p q)) := Rat.mul_nonneg (by have := h.2.2.1; grind) (Rat.mul_nonneg (hf p h.1) (by grind))
 simp only [pivot]
 grind
theorem Bland.v_eq {d : Dict} {p q : Nat} (h : Bland d p q) (hv : (pivot d p q).v = d.v) : d.b p = 0 := by
 have hi := inv_pos' h.2.2.2.2.1
 have hc := h.2.2.1
 simp only [pivot] at hv
 have e : d.cst q * (d.b p * (1 / d.a p q)) = 0 := by grind
 have h1 : d.b p * (1 / d.a p q) = 0 := by grind
 grind
theorem vl_deg {d : Dict} {p q : Nat} (h : d.b p = 0) (k : Nat) : vl (pivot d p q) k = vl d k := by
 unfold vl
 simp only [pivot]
 refine sumR_congr fun i _ => ?_
 by_cases e : i = p
 ·subst e
  simp only [h, upd, if_true]
  have : (0 : Rat) * (1 / d.a i q) = 0 := by grind
  rw [this]
  split <;> split <;> rfl
 ·simp only [h, upd, if_neg e]
  have : d.b i - d.a i q * (0 * (1 / d.a p q)) = d.b i := by grind
  rw [this]
theorem core {d d' : Dict} {N p q q' : Nat} (hb : Bij d N) (hb' : Bij d' N) (ho : ∀ x, sol d x → obj d x = obj d' x) (hv : d.v = d'.v) (hB : Bland d p q)
  (hq' : q' < d'.c) (ht : d'.fre q' = d.bas p) (hc' : 0 < d'.cst q') (hm' : ∀ j, j < d'.c → 0 < d'.cst j → d'.fre q' ≤ d'.fre j)
  (hs : d.fre q < d.bas p) (hr : ∀ k, inB d k → ¬ inB d' k → k ≤ d.bas p ∧ vl d k = 0) (hp0 : d.b p = 0) (_hf : feas d) : False := by
 obtain ⟨hp, hq, hc, hmin, ha, hrat⟩ := hB
 have key : ∀ y : Rat, d.cst q * y = cv d' (d.fre q) * y + (sumR d.r (fun i => cv d' (d.bas i) * d.b i) - sumR d.r (fun i => cv d' (d.bas i) * d.a i q) * y) := fun y => by
  have h1 := ho _ (ptq_sol hb hq (y := y))
  rw [ptq_obj hb hq, obj_cv hb', hb (fun k => cv d' k * ptq d q y k)] at h1
  rw [sumR_one hq (fun j hj hne => by rw [ptq_fre hb hq hj, if_neg hne]; grind), ptq_fre hb hq hq, if_pos rfl] at h1
  rw [sumR_congr (g := fun i => cv d' (d.bas i) * d.b i - cv d' (d.bas i) * d.a i q * y) fun i hi => by rw [ptq_bas hb hq hi]; grind] at h1
  rw [sumR_sub, sumR_mul'] at h1
  grind
 have k0 := key 0
 have k1 := key 1
 have neg_of : ∀ {k : Nat}, k < d.bas p → k < N → cv d' k ≤ 0 := fun {k} hk hkN => by
  rcases lt_or_le 0 (cv d' k) with h | h
  ·exfalso
   by_cases hin : inB d' k
   ·rw [cv_bas hb' hin] at h; grind
   ·obtain ⟨j, hj, rfl⟩ := free_of hb' hkN hin
    rw [cv_fre hb' hj] at h
    have := hm' j hj h
    omega
  ·exact h
 have c1 := neg_of hs (fre_lt hb hq)
 have c2 : sumR d.r (fun i => cv d' (d.bas i) * d.a i q) < 0 := by grind
 obtain ⟨i, hi, hneg⟩ := sumR_exists_neg c2
 have hnin : ¬ inB d' (d.bas i) := fun h => by rw [cv_bas hb' h] at hneg; grind
 obtain ⟨h1, h2⟩ := hr _ ⟨i, hi, rfl⟩ hnin
 rw [vl_bas hb hi] at h2
 have hne : d.bas i ≠ d.bas p := fun e => by
  have e2 := bas_inj hb hi hp e
  subst e2
  rw [← ht, cv_fre hb' hq'] at hneg
  have : 0 < d'.cst q' * d.a i q := Rat.mul_pos hc' ha
  grind
 have hlt : d.bas i < d.bas p := by omega
 have c3 := neg_of hlt (bas_lt hb hi)
 have c4 : 0 < d.a i q := by
  rcases lt_or_le 0 (d.a i q) with h | h
  ·exact h
  ·exfalso
   have : 0 ≤ (- cv d' (d.bas i)) * (- d.a i q) := Rat.mul_nonneg (by grind) (by grind)
   grind
 have := (hrat i hi c4).2 (by rw [h2, hp0]; grind)
 omega
structure Run (D : Nat → Dict) (pp qq : Nat → Nat) (K N : Nat) : Prop where
 bij : Bij (D 0) N
 feas : feas (D 0)
 step : ∀ k, k < K → Bland (D k) (pp k) (qq k) ∧ D (k + 1) = pivot (D k) (pp k) (qq k)
section
variable {D : Nat → Dict} {pp qq : Nat → Nat} {K N : Nat} (h : Run D pp qq K N)
include h
theorem Run.bijs : ∀ k, k ≤ K → Bij (D k) N
 | 0, _ => h.bij
 | k + 1, hk => by
  obtain ⟨h1, h2⟩ := h.step k (by omega)
  rw [h2]
  exact pivot_bij h1.1 h1.2.1 (Run.bijs k (by omega))
theorem Run.feass : ∀ k, k ≤ K → LP.feas (D k)
 | 0, _ => h.feas
 | k + 1, hk => by
  obtain ⟨h1, h2⟩ := h.step k (by omega)
  rw [h2]
  exact h1.feas (Run.feass k (by omega))
theorem Run.same {i : Nat} {x : Nat → Rat} : ∀ j, i ≤ j → j ≤ K → ((sol (D i) x ↔ sol (D j) x) ∧ (sol (D i) x → obj (D i) x = obj (D j) x)) := by
 intro j hij
 induction j with
 | zero =>
   intro _; have : i = 0 := by omega
   subst this; exact ⟨Iff.rfl, fun _ => rfl⟩
 | succ j ih =>
  intro hj
  by_cases e : i = j + 1
  ·subst e; exact ⟨Iff.rfl, fun _ => rfl⟩
  ·obtain ⟨g1, g2⟩ := ih (by omega) (by omega)
   obtain ⟨h1, h2⟩ := h.step j (by omega)
   have ha : (D j).a (pp j) (qq j) ≠ 0 := by have := h1.2.2.2.2.1; grind
   rw [h2]
   exact ⟨g1.trans (sol_pivot_iff h1.1 h1.2.1 ha).symm, fun hx => (g2 hx).trans (obj_pivot h1.1 h1.2.1 ha (g1.1 hx)).symm⟩
theorem Run.v_le {i : Nat} : ∀ j, i ≤ j → j ≤ K → (D i).v ≤ (D j).v := by
 intro j hij
 induction j with
 | zero =>
   intro _; have : i = 0 := by omega
   subst this; grind
 | succ j ih =>
  intro hj
  by_cases e : i = j + 1
  ·subst e; grind
  ·have g := ih (by omega) (by omega)
   obtain ⟨h1, h2⟩ := h.step j (by omega)
   have := h1.v_le (h.feass j (by omega))
   rw [← h2] at this
   grind
abbrev en (D : Nat → Dict) (qq : Nat → Nat) (m : Nat) : Nat := (D m).fre (qq m)
abbrev lv (D : Nat → Dict) (pp : Nat → Nat) (m : Nat) : Nat := (D m).bas (pp m)
theorem Run.next {m k : Nat} (hm : m < K) : inB (D (m + 1)) k ↔ (k = en D qq m ∨ (inB (D m) k ∧ k ≠ lv D pp m)) := by
 obtain ⟨h1, h2⟩ := h.step m hm
 have hb := h.bijs m (by omega)
 rw [h2]
 constructor
 ·rintro ⟨i, hi, e⟩
  simp only [pivot, upd] at hi e
  by_cases hip : i = pp m
  ·rw [if_pos hip] at e; exact .inl e.symm
  ·rw [if_neg hip] at e
   refine .inr ⟨⟨i, hi, e⟩, fun e2 => hip (bas_inj hb hi h1.1 (e.trans e2))⟩
 ·rintro (rfl | ⟨⟨i, hi, rfl⟩, hne⟩)
  ·exact ⟨pp m, h1.1, by simp [pivot, upd]⟩
  ·refine ⟨i, hi, ?_⟩
   have : i ≠ pp m := fun e => hne (by rw [e])
   simp [pivot, upd, this]
theorem Run.en_free {m : Nat} (hm : m < K) : ¬ inB (D m) (en D qq m) := not_inB_fre (h.bijs m (by omega)) (h.step m hm).1.2.1
omit h in
theorem Run.lv_basic {m : Nat} (h : Run D pp qq K N) (hm : m < K) : inB (D m) (lv D pp m) := ⟨pp m, (h.step m hm).1.1, rfl⟩
theorem Run.stay_free {k i j : Nat} (hj : j ≤ K) (hne : ∀ m, i ≤ m → m < j → en D qq m ≠ k) : ∀ x y, i ≤ x → x ≤ y → y ≤ j → ¬ inB (D x) k → ¬ inB (D y) k := by
 intro x y hx hxy
 induction y with
 | zero =>
   intro _ hf; have : x = 0 := by omega
   subst this; exact hf
 | succ y ih =>
  intro hy hf
  by_cases e : x = y + 1
  ·subst e; exact hf
  ·have g := ih (by omega) (by omega) hf
   rw [h.next (by omega)]
   rintro (e2 | ⟨e2, _⟩)
   ·exact hne y (by omega) (by omega) e2.symm
   ·exact g e2
theorem Run.stay_basic {k i j : Nat} (hj : j ≤ K) (hne : ∀ m, i ≤ m → m < j → lv D pp m ≠ k) : ∀ x y, i ≤ x → x ≤ y → y ≤ j → inB (D x) k → inB (D y) k := by
 intro x y hx hxy
 induction y with
 | zero =>
   intro _ hf; have : x = 0 := by omega
   subst this; exact hf
 | succ y ih =>
  intro hy hf
  by_cases e : x = y + 1
  ·subst e; exact hf
  ·have g := ih (by omega) (by omega) hf
   rw [h.next (by omega)]
   exact .inr ⟨g, fun e2 => hne y (by omega) (by omega) e2.symm⟩
theorem Run.enters {k i j x y : Nat} (hj : j ≤ K) (hij : inB (D i) k ↔ inB (D j) k) (hx : i ≤ x ∧ x ≤ j) (hy : i ≤ y ∧ y ≤ j) (h1 : inB (D x) k) (h2 : ¬ inB (D y) k) : ∃ m, i ≤ m ∧ m < j ∧ en D qq m = k := by
 apply Classical.byContradiction
 intro hno
 have hne : ∀ m, i ≤ m → m < j → en D qq m ≠ k := fun m a b e => hno ⟨m, a, b, e⟩
 have f1 := h.stay_free hj hne y j hy.1 hy.2 (Nat.le_refl _) h2
 have f2 : ¬ inB (D i) k := fun e => f1 (hij.1 e)
 exact h.stay_free hj hne i x (Nat.le_refl _) hx.1 hx.2 f2 h1
theorem Run.leaves {k i j x y : Nat} (hj : j ≤ K) (hij : inB (D i) k ↔ inB (D j) k) (hx : i ≤ x ∧ x ≤ j) (hy : i ≤ y ∧ y ≤ j) (h1 : inB (D x) k) (h2 : ¬ inB (D y) k) : ∃ m, i ≤ m ∧ m < j ∧ lv D pp m = k := by
 apply Classical.byContradiction
 intro hno
 have hne : ∀ m, i ≤ m → m < j → lv D pp m ≠ k := fun m a b e => hno ⟨m, a, b, e⟩
 have f1 := h.stay_basic hj hne x j hx.1 hx.2 (Nat.le_refl _) h1
 have f2 : inB (D i) k := hij.2 f1
 exact h2 (h.stay_basic hj hne i y (Nat.le_refl _) hy.1 hy.2 f2)
omit h in
theorem exists_max (f : Nat → Nat) (i : Nat) : ∀ j, i < j → ∃ m, i ≤ m ∧ m < j ∧ ∀ m', i ≤ m' → m' < j → f m' ≤ f m := by
 intro j
 induction j with
 | zero => intro hj; omega
 | succ j ih =>
  intro hj
  by_cases e : i = j
  ·subst e; exact ⟨i, Nat.le_refl _, by omega, fun m' a b => by
    have : m' = i := by omega
    rw [this]
    exact Nat.le_refl _⟩
  ·obtain ⟨m, a, b, g⟩ := ih (by omega)
   by_cases hlt : f m ≤ f j
   ·refine ⟨j, by omega, by omega, fun m' a' b' => ?_⟩
    by_cases e2 : m' = j
    ·rw [e2]; exact Nat.le_refl _
    ·exact Nat.le_trans (g m' a' (by omega)) hlt
   ·refine ⟨m, a, by omega, fun m' a' b' => ?_⟩
    by_cases e2 : m' = j
    ·rw [e2]; omega
    ·exact g m' a' (by omega)
theorem Run.no_repeat {i j : Nat} (hij : i < j) (hj : j ≤ K) (hB : ∀ k, inB (D i) k ↔ inB (D j) k) : False := by
 have bi := h.bijs i (by omega)
 have bj := h.bijs j hj
 have hvij : (D i).v = (D j).v := by
  have s1 := vl_sol bi
  have s2 := (h.same j (by omega) hj (i := i)).2 s1
  rw [vl_obj bi] at s2
  rw [s2]
  unfold obj
  rw [sumR_zero fun l hl => by rw [vl_fre fun e => not_inB_fre bj hl ((hB _).1 e)]; grind]
  grind
 have hv : ∀ m, i ≤ m → m ≤ j → (D m).v = (D i).v := fun m a b => by
  have g1 := h.v_le m a (by omega)
  have g2 := h.v_le j b hj
  grind
 have hdeg : ∀ m, i ≤ m → m < j → (D m).b (pp m) = 0 := fun m a b => by
  obtain ⟨h1, h2⟩ := h.step m (by omega)
  apply h1.v_eq
  rw [← h2, hv (m + 1) (by omega) (by omega), hv m a (by omega)]
 have hvl : ∀ k m, i ≤ m → m ≤ j → vl (D m) k = vl (D i) k := fun k m a => by
  induction m with
  | zero =>
    intro _; have : i = 0 := by omega
    rw [this]
  | succ m ih =>
   intro b
   by_cases e : i = m + 1
   ·rw [e]
   ·rw [(h.step m (by omega)).2, vl_deg (hdeg m (by omega) (by omega)), ih (by omega) (by omega)]
 obtain ⟨e, e1, e2, emax⟩ := exists_max (en D qq) i j hij
 have hfr := h.en_free (m := e) (by omega)
 have hin : inB (D (e + 1)) (en D qq e) := (h.next (by omega)).2 (.inl rfl)
 obtain ⟨l, l1, l2, hl⟩ := h.leaves hj (hB (en D qq e)) (x := e + 1) (y := e) ⟨by omega, by omega⟩ ⟨by omega, by omega⟩ hin hfr
 have hBl := (h.step l (by omega)).1
 have hBe := (h.step e (by omega)).1
 have hobj : ∀ x, sol (D l) x → obj (D l) x = obj (D e) x := fun x hx => by
  rcases Nat.le_total l e with hle | hle
  ·exact (h.same e hle (by omega) (i := l)).2 hx
  ·exact ((h.same l hle (by omega) (i := e)).2 ((h.same l hle (by omega) (i := e)).1.2 hx)).symm
 refine core (h.bijs l (by omega)) (h.bijs e (by omega)) hobj (by rw [hv l l1 (by omega), hv e e1 (by omega)]) hBl hBe.2.1 hl.symm hBe.2.2.1 hBe.2.2.2.1 ?_ ?_ (hdeg l l1 l2) (h.feass l (by omega))
 ·have g := emax l l1 l2
  have hne : en D qq l ≠ en D qq e := fun e3 => by
   have := h.en_free (m := l) (by omega)
   rw [e3, ← hl] at this
   exact this (h.lv_basic (by omega))
  rw [show (D l).bas (pp l) = en D qq e from hl]
  simp only [en] at g hne ⊢
  omega
 ·intro k hk1 hk2
  obtain ⟨m, m1, m2, rfl⟩ := h.enters hj (hB k) (x := l) (y := e) ⟨l1, by omega⟩ ⟨e1, by omega⟩ hk1 hk2
  rw [show (D l).bas (pp l) = en D qq e from hl]
  refine ⟨emax m m1 m2, ?_⟩
  rw [hvl _ l l1 (by omega), ← hvl _ e e1 (by omega)]
  exact vl_fre hk2
end
def code (d : Dict) : Nat → Nat
 | 0 => 0
 | n + 1 => 2 * code d n + (if (List.range d.r).any (fun i => d.bas i == n) = true then 1 else 0)
theorem any_inB {d : Dict} {n : Nat} : (List.range d.r).any (fun i => d.bas i == n) = true ↔ inB d n := by
 simp [inB]
theorem code_lt {d : Dict} : ∀ n, code d n < 2 ^ n
 | 0 => by simp [code]
 | n + 1 => by have := code_lt (d := d) n; simp only [code, Nat.pow_succ]; split <;> omega
theorem code_inj {d d' : Dict} : ∀ n, code d n = code d' n → ∀ k, k < n → (inB d k ↔ inB d' k)
 | 0, _, k, hk => by omega
 | n + 1, he, k, hk => by
  simp only [code] at he
  have h1 : code d n = code d' n := by split at he <;> split at he <;> omega
  by_cases e : k = n
  ·subst e
   rw [← any_inB, ← any_inB]
   rw [h1] at he
   cases h2 : (List.range d.r).any (fun i => d.bas i == k) <;> cases h3 : (List.range d'.r).any (fun i => d'.bas i == k) <;> simp only [h2, h3, Bool.false_eq_true, if_true, if_false] at he ⊢ <;> omega
  ·exact code_inj n h1 k (by omega)
theorem pigeon : ∀ (M K : Nat) (f : Nat → Nat), (∀ k, k < K → f k < M) → (∀ i j, i < j → j < K → f i ≠ f j) → K ≤ M := by
 intro M
 induction M with
 | zero => intro K f h _; rcases K with _ | K; exact Nat.le_refl _; exact absurd (h 0 (by omega)) (by omega)
 | succ M ih =>
  intro K f h hne
  rcases K with _ | K
  ·omega
  ·-- the last one is moved out of the way
   have : K ≤ M := by
    refine ih K (fun k => if f k = M then f K else f k) (fun k hk => ?_) (fun i j hij hj => ?_)
    ·have h1 := h k (by omega)
     have h2 := h K (by omega)
     have h3 := hne k K hk (by omega)
     by_cases e : f k = M
     ·simp only [e, if_true]; omega
     ·simp only [e, if_false]; omega
    ·have g1 := hne i j hij (by omega)
     have g2 := hne i K (by omega) (by omega)
     have g3 := hne j K hj (by omega)
     by_cases e1 : f i = M <;> by_cases e2 : f j = M <;> simp only [e1, e2, if_true, if_false] <;> omega
   omega
theorem Run.le {D : Nat → Dict} {pp qq : Nat → Nat} {K N : Nat} (h : Run D pp qq K N) : K < 2 ^ N := by
 have := pigeon (2 ^ N) (K + 1) (fun k => code (D k) N) (fun k _ => code_lt N) (fun i j hij hj e => by
  refine h.no_repeat hij (by omega) fun k => ?_
  by_cases hk : k < N
  ·exact code_inj N e k hk
  ·constructor
   ·rintro ⟨i', hi', rfl⟩; exact absurd (bas_lt (h.bijs i (by omega)) hi') hk
   ·rintro ⟨i', hi', rfl⟩; exact absurd (bas_lt (h.bijs j (by omega)) hi') hk)
 omega
end Go.LP

namespace Go.LP
def sz (K : Nat) (q : Rat) : Prop := q.num.natAbs ≤ 2 ^ K ∧ q.den ≤ 2 ^ K
theorem sz_mono {K L : Nat} {q : Rat} (h : sz K q) (hl : K ≤ L) : sz L q :=
 ⟨Nat.le_trans h.1 (Nat.pow_le_pow_right (by omega) hl), Nat.le_trans h.2 (Nat.pow_le_pow_right (by omega) hl)⟩
theorem sz_norm {K : Nat} {n : Int} {d : Nat} (hd : d ≠ 0) (h1 : n.natAbs ≤ 2 ^ K) (h2 : d ≤ 2 ^ K) : sz K (Rat.normalize n d hd) := by
 rw [Rat.normalize_eq]
 exact ⟨Nat.le_trans (Int.natAbs_ediv_le_natAbs _ _) h1, Nat.le_trans (Nat.div_le_self _ _) h2⟩
theorem sz_zero {K : Nat} : sz K 0 := ⟨Nat.zero_le _, Nat.pow_pos (by omega)⟩
theorem sz_one {K : Nat} : sz K 1 := ⟨Nat.pow_pos (by omega), Nat.pow_pos (by omega)⟩
theorem sz_mul {K L : Nat} {a b : Rat} (ha : sz K a) (hb : sz L b) : sz (K + L) (a * b) := by
 rw [Rat.mul_def]
 refine sz_norm _ ?_ ?_
 ·rw [Int.natAbs_mul, Nat.pow_add]; exact Nat.mul_le_mul ha.1 hb.1
 ·rw [Nat.pow_add]; exact Nat.mul_le_mul ha.2 hb.2
theorem sz_add {K L : Nat} {a b : Rat} (ha : sz K a) (hb : sz L b) : sz (K + L + 1) (a + b) := by
 rw [Rat.add_def]
 refine sz_norm _ ?_ ?_
 ·refine Nat.le_trans (Int.natAbs_add_le _ _) ?_
  rw [Int.natAbs_mul, Int.natAbs_mul, Nat.pow_succ, Nat.pow_add]
  have h1 := Nat.mul_le_mul ha.1 hb.2
  have h2 := Nat.mul_le_mul hb.1 ha.2
  rw [Nat.mul_comm (2 ^ L)] at h2
  simp only [Int.natAbs_natCast]
  omega
 ·rw [Nat.pow_succ, Nat.pow_add]
  have := Nat.mul_le_mul ha.2 hb.2
  omega
theorem sz_neg {K : Nat} {a : Rat} (ha : sz K a) : sz K (-a) := by
 unfold sz
 rw [Rat.neg_num, Rat.neg_den, Int.natAbs_neg]
 exact ha
theorem sz_sub {K L : Nat} {a b : Rat} (ha : sz K a) (hb : sz L b) : sz (K + L + 1) (a - b) := by
 rw [Rat.sub_eq_add_neg]; exact sz_add ha (sz_neg hb)
theorem sz_inv {K : Nat} {a : Rat} (ha : sz K a) : sz K (1 / a) := by
 have : 1 / a = a⁻¹ := by grind
 rw [this]
 unfold sz
 rw [Rat.num_inv, Rat.den_inv]
 constructor
 ·rw [Int.natAbs_mul, Int.natAbs_natCast, Int.natAbs_sign]
  have := ha.2
  split <;> omega
 ·split
  ·exact Nat.pow_pos (by omega)
  ·exact ha.1
structure szD (K : Nat) (d : Dict) : Prop where
 a : ∀ i j, i < d.r → j < d.c → sz K (d.a i j)
 b : ∀ i, i < d.r → sz K (d.b i)
 cst : ∀ j, j < d.c → sz K (d.cst j)
 v : sz K d.v
theorem szD_mono {K L : Nat} {d : Dict} (h : szD K d) (hl : K ≤ L) : szD L d :=
 ⟨fun i j hi hj => sz_mono (h.a i j hi hj) hl, fun i hi => sz_mono (h.b i hi) hl, fun j hj => sz_mono (h.cst j hj) hl, sz_mono h.v hl⟩
theorem szD_pivot {K : Nat} {d : Dict} {p q : Nat} (hp : p < d.r) (hq : q < d.c) (h : szD K d) : szD (4 * K + 1) (pivot d p q) := by
 have hi := sz_inv (h.a p q hp hq)
 constructor
 ·intro i j hir hjc
  simp only [pivot] at hir hjc ⊢
  split <;> split
  ·exact sz_mono hi (by omega)
  ·exact sz_mono (sz_mul (h.a p j hp hjc) hi) (by omega)
  ·exact sz_mono (sz_neg (sz_mul (h.a i q hir hq) hi)) (by omega)
  ·exact sz_mono (sz_sub (h.a i j hir hjc) (sz_mul (h.a i q hir hq) (sz_mul (h.a p j hp hjc) hi))) (by omega)
 ·intro i hir
  simp only [pivot] at hir ⊢
  split
  ·exact sz_mono (sz_mul (h.b p hp) hi) (by omega)
  ·exact sz_mono (sz_sub (h.b i hir) (sz_mul (h.a i q hir hq) (sz_mul (h.b p hp) hi))) (by omega)
 ·intro j hjc
  simp only [pivot] at hjc ⊢
  split
  ·exact sz_mono (sz_neg (sz_mul (h.cst q hq) hi)) (by omega)
  ·exact sz_mono (sz_sub (h.cst j hjc) (sz_mul (h.cst q hq) (sz_mul (h.a p j hp hjc) hi))) (by omega)
 ·simp only [pivot]
  exact sz_mono (sz_add h.v (sz_mul (h.cst q hq) (sz_mul (h.b p hp) hi))) (by omega)
structure Same (d e : Dict) (N : Nat) : Prop where
 bd : Bij d N
 be : Bij e N
 sol : ∀ x, sol d x ↔ sol e x
 obj : ∀ x, LP.sol d x → obj d x = obj e x
theorem Same.refl {d : Dict} {N : Nat} (h : Bij d N) : Same d d N := ⟨h, h, fun _ => Iff.rfl, fun _ _ => rfl⟩
theorem Same.symm {d e : Dict} {N : Nat} (h : Same d e N) : Same e d N := ⟨h.be, h.bd, fun x => (h.sol x).symm, fun x hx => (h.obj x ((h.sol x).2 hx)).symm⟩
theorem Same.trans {d e f : Dict} {N : Nat} (h : Same d e N) (k : Same e f N) : Same d f N :=
 ⟨h.bd, k.be, fun x => (h.sol x).trans (k.sol x), fun x hx => (h.obj x hx).trans (k.obj x ((h.sol x).1 hx))⟩
theorem Same.pivot {d : Dict} {N p q : Nat} (h : Bij d N) (hp : p < d.r) (hq : q < d.c) (ha : d.a p q ≠ 0) : Same (pivot d p q) d N :=
 ⟨pivot_bij hp hq h, h, fun _ => sol_pivot_iff hp hq ha, fun _ hx => obj_pivot hp hq ha ((sol_pivot_iff hp hq ha).1 hx)⟩
def far (d : Dict) (f : Nat → Nat) : Nat → Nat
 | 0 => 0
 | n + 1 => far d f n + (if (List.range d.r).any (fun i => d.bas i == f n) = true then 0 else 1)
theorem far_le {d : Dict} {f : Nat → Nat} : ∀ n, far d f n ≤ n
 | 0 => Nat.le_refl _
 | n + 1 => by have := far_le (d := d) (f := f) n; simp only [far]; split <;> omega
theorem far_zero {d : Dict} {f : Nat → Nat} : ∀ n, far d f n = 0 → ∀ i, i < n → inB d (f i)
 | 0, _, i, hi => by omega
 | n + 1, h, i, hi => by
  simp only [far] at h
  by_cases e : i = n
  ·subst e
   apply any_inB.1
   cases h2 : (List.range d.r).any (fun j => d.bas j == f i)
   ·rw [h2] at h; simp at h
   ·rfl
  ·exact far_zero n (by omega) i (by omega)
theorem far_pos {d : Dict} {f : Nat → Nat} : ∀ n, far d f n ≠ 0 → ∃ i, i < n ∧ ¬ inB d (f i)
 | 0, h => absurd rfl h
 | n + 1, h => by
  by_cases e : inB d (f n)
  ·have h2 := any_inB.2 e
   simp only [far, h2, if_true] at h
   obtain ⟨i, hi, hf⟩ := far_pos n (by omega)
   exact ⟨i, by omega, hf⟩
  ·exact ⟨n, by omega, e⟩
theorem far_upd {d : Dict} {f : Nat → Nat} {p k : Nat} (hk : inB d k) (hp : ¬ inB d (f p)) : ∀ n, far d (upd f p k) n + (if p < n then 1 else 0) = far d f n
 | 0 => by simp [far]
 | n + 1 => by
  have ih := far_upd (d := d) (f := f) (p := p) (k := k) hk hp n
  by_cases e : p = n
  ·subst e
   have h1 := any_inB.2 hk
   have h2 : (List.range d.r).any (fun i => d.bas i == f p) = false := by
    cases h : (List.range d.r).any (fun i => d.bas i == f p)
    ·rfl
    ·exact absurd (any_inB.1 h) hp
   simp only [far, upd, if_true, h1, h2, Bool.false_eq_true, if_false] at ih ⊢
   have : (upd f p k) = fun i => if i = p then k else f i := rfl
   simp only [Nat.lt_irrefl, if_false] at ih
   have e2 : ¬ p < p := by omega
   simp only [show p < p + 1 by omega, if_true]
   omega
  ·have e3 : upd f p k n = f n := by simp [upd, Ne.symm e]
   simp only [far, e3]
   have : (p < n + 1) ↔ (p < n) := by omega
   simp only [this]
   omega
section
variable {d e : Dict} {N : Nat} (h : Same d e N)
include h
theorem Same.entries {K : Nat} (hB : ∀ k, inB e k → inB d k) (hB2 : ∀ k, inB d k → inB e k) (hs : szD K d) : szD K e := by
 have hF : ∀ j, j < e.c → ∃ j', j' < d.c ∧ d.fre j' = e.fre j := fun j hj => free_of h.bd (fre_lt h.be hj) fun hin => not_inB_fre h.be hj (hB2 _ hin)
 have hR : ∀ i, i < e.r → ∃ i', i' < d.r ∧ d.bas i' = e.bas i := fun i hi => hB _ ⟨i, hi, rfl⟩
 have hpt : ∀ j j' y, j < e.c → j' < d.c → d.fre j' = e.fre j → ∀ k, k < N → ¬ inB d k → ptq e j y k = ptq d j' y k := fun j j' y hj hj' ejj k hk hnk => by
  obtain ⟨l, hl, rfl⟩ := free_of h.bd hk hnk
  obtain ⟨l', hl', el⟩ := free_of h.be hk fun hin => hnk (hB _ hin)
  rw [ptq_fre h.bd hj' hl, ← el, ptq_fre h.be hj hl']
  by_cases e1 : l' = j
  ·subst e1
   rw [if_pos rfl, if_pos (fre_inj h.bd hl hj' (by rw [ejj, el]))]
  ·rw [if_neg e1, if_neg fun e2 => e1 (by subst e2; exact fre_inj h.be hl' hj (by rw [el, ejj]))]
 -- the point of 'e' is the point of 'd'
 have key : ∀ j j' y i i', j < e.c → j' < d.c → d.fre j' = e.fre j → i < e.r → i' < d.r → d.bas i' = e.bas i → e.b i - e.a i j * y = d.b i' - d.a i' j' * y := fun j j' y i i' hj hj' ejj hi hi' eii => by
  have s1 := (h.sol _).2 (ptq_sol h.be hj (y := y))
  have s2 := s1 i' hi'
  rw [eii, ptq_bas h.be hj hi] at s2
  rw [s2]
  rw [sumR_congr (g := fun l => d.a i' l * ptq d j' y (d.fre l)) fun l hl => by rw [hpt j j' y hj hj' ejj _ (fre_lt h.bd hl) (not_inB_fre h.bd hl)]]
  rw [sumR_one hj' (fun l hl hne => by rw [ptq_fre h.bd hj' hl, if_neg hne]; grind), ptq_fre h.bd hj' hj', if_pos rfl]
 have keyo : ∀ j j' y, j < e.c → j' < d.c → d.fre j' = e.fre j → e.v + e.cst j * y = d.v + d.cst j' * y := fun j j' y hj hj' ejj => by
  have s1 := (h.sol _).2 (ptq_sol h.be hj (y := y))
  have s2 := h.obj _ s1
  rw [ptq_obj h.be hj] at s2
  rw [← s2]
  unfold LP.obj
  rw [sumR_congr (g := fun l => d.cst l * ptq d j' y (d.fre l)) fun l hl => by rw [hpt j j' y hj hj' ejj _ (fre_lt h.bd hl) (not_inB_fre h.bd hl)]]
  rw [sumR_one hj' (fun l hl hne => by rw [ptq_fre h.bd hj' hl, if_neg hne]; grind), ptq_fre h.bd hj' hj', if_pos rfl]
 have hvl : ∀ k, k < N → vl e k = 0 ∨ inB d k := fun k hk => by
  by_cases hin : inB e k
  ·exact .inr (hB _ hin)
  ·exact .inl (vl_fre hin)
 have svl := (h.sol _).2 (vl_sol h.be)
 have z : ∀ l, l < d.c → vl e (d.fre l) = 0 := fun l hl => vl_fre fun hin => not_inB_fre h.bd hl (hB _ hin)
 constructor
 ·intro i j hi hj
  obtain ⟨i', hi', ei⟩ := hR i hi
  obtain ⟨j', hj', ej⟩ := hF j hj
  have k0 := key j j' 0 i i' hj hj' ej hi hi' ei
  have k1 := key j j' 1 i i' hj hj' ej hi hi' ei
  have : e.a i j = d.a i' j' := by grind
  rw [this]; exact hs.a i' j' hi' hj'
 ·intro i hi
  obtain ⟨i', hi', ei⟩ := hR i hi
  have s2 := svl i' hi'
  rw [ei, vl_bas h.be hi, sumR_zero fun l hl => by rw [z l hl]; grind] at s2
  have : e.b i = d.b i' := by grind
  rw [this]; exact hs.b i' hi'
 ·intro j hj
  obtain ⟨j', hj', ej⟩ := hF j hj
  have k0 := keyo j j' 0 hj hj' ej
  have k1 := keyo j j' 1 hj hj' ej
  have : e.cst j = d.cst j' := by grind
  rw [this]; exact hs.cst j' hj'
 ·have s2 := h.obj _ svl
  rw [vl_obj h.be] at s2
  unfold LP.obj at s2
  rw [sumR_zero fun l hl => by rw [z l hl]; grind] at s2
  have : e.v = d.v := by grind
  rw [this]; exact hs.v
theorem Same.exchange {i : Nat} (hi : i < e.r) (hn : ¬ inB d (e.bas i)) : ∃ j, j < e.c ∧ e.a i j ≠ 0 ∧ inB d (e.fre j) := by
 apply Classical.byContradiction
 intro hno
 obtain ⟨q, hq, eq⟩ := free_of h.bd (bas_lt h.be hi) hn
 have key : ∀ y : Rat, y = e.b i := fun y => by
  have s1 := (h.sol _).1 (ptq_sol h.bd hq (y := y)) i hi
  rw [← eq, ptq_fre h.bd hq hq, if_pos rfl] at s1
  rw [sumR_zero fun j hj => ?_] at s1
  ·grind
  ·by_cases ha : e.a i j = 0
   ·rw [ha]; grind
   ·have hnf : ¬ inB d (e.fre j) := fun hin => hno ⟨j, hj, ha, hin⟩
    obtain ⟨l, hl, el⟩ := free_of h.bd (fre_lt h.be hj) hnf
    rw [← el, ptq_fre h.bd hq hl, if_neg fun e2 => fre_ne_bas h.be hi hj (by rw [← el, e2, eq])]
    grind
 have k0 := key 0
 have k1 := key 1
 grind
end
def grow (K : Nat) : Nat → Nat
 | 0 => K
 | n + 1 => 4 * grow K n + 1
theorem grow_mono {K : Nat} {m n : Nat} (h : m ≤ n) : grow K m ≤ grow K n := by
 induction n with
 | zero =>
   have : m = 0 := by omega
   rw [this]; exact Nat.le_refl _
 | succ n ih =>
  by_cases e : m = n + 1
  ·rw [e]; exact Nat.le_refl _
  ·have := ih (by omega)
   simp only [grow]; omega
theorem Same.size {d : Dict} {N K : Nat} (hs : szD K d) : ∀ n (e : Dict), Same d e N → e.r = d.r → e.c = d.c → far d e.bas e.r ≤ n → szD (grow K n) e := by
 intro n
 induction n with
 | zero =>
  intro e h hr hc hn
  have hB : ∀ k, inB e k → inB d k := fun k ⟨i, hi, ek⟩ => by
   have := far_zero _ (Nat.le_zero.1 hn) i hi
   rwa [ek] at this
  refine h.entries hB (fun k hk => ?_) hs
  -- as many basic variables in both
  classical
  apply Classical.byContradiction
  intro hnk
  have hkN : k < N := by obtain ⟨i, hi, rfl⟩ := hk; exact bas_lt h.bd hi
  have c1 : sumR N (fun x => if inB d x then (1 : Rat) else 0) = sumR d.r (fun _ => 1) := by
   rw [h.bd fun x => if inB d x then (1 : Rat) else 0, sumR_zero fun j hj => if_neg (not_inB_fre h.bd hj), sumR_congr (n := d.r) (g := fun _ => 1) fun i hi => if_pos ⟨i, hi, rfl⟩]
   grind
  have c2 : sumR N (fun x => if inB e x then (1 : Rat) else 0) = sumR e.r (fun _ => 1) := by
   rw [h.be fun x => if inB e x then (1 : Rat) else 0, sumR_zero fun j hj => if_neg (not_inB_fre h.be hj), sumR_congr (n := e.r) (g := fun _ => 1) fun i hi => if_pos ⟨i, hi, rfl⟩]
   grind
  rw [hr, ← c1] at c2
  rw [sumR_split hkN, sumR_split (f := fun x => if inB d x then (1 : Rat) else 0) hkN, if_neg hnk, if_pos hk] at c2
  have : sumR N (fun j => if j = k then 0 else if inB e j then (1 : Rat) else 0) ≤ sumR N (fun j => if j = k then 0 else if inB d j then (1 : Rat) else 0) := sumR_le fun j _ => by
   by_cases e1 : j = k
   ·rw [if_pos e1, if_pos e1]; grind
   ·rw [if_neg e1, if_neg e1]
    by_cases e2 : inB e j
    ·rw [if_pos e2, if_pos (hB _ e2)]; grind
    ·rw [if_neg e2]; split <;> grind
  grind
 | succ n ih =>
  intro e h hr hc hn
  by_cases h0 : far d e.bas e.r ≤ n
  ·exact szD_mono (ih e h hr hc h0) (grow_mono (by omega))
  ·obtain ⟨i, hi, hni⟩ := far_pos e.r (by omega : far d e.bas e.r ≠ 0)
   obtain ⟨j, hj, ha, hin⟩ := h.exchange hi hni
   have hS := h.trans (Same.pivot h.be hi hj ha).symm
   have hfar := far_upd (f := e.bas) hin hni e.r
   rw [if_pos hi] at hfar
   have := ih (LP.pivot e i j) hS hr hc (by simp only [LP.pivot]; omega)
   have h2 := szD_pivot (p := i) (q := j) (d := LP.pivot e i j) hi hj this
   rwa [pivot_pivot ha] at h2
theorem Same.size_r {d e : Dict} {N K : Nat} (hs : szD K d) (h : Same d e N) (hr : e.r = d.r) (hc : e.c = d.c) : szD (grow K d.r) e :=
 Same.size hs d.r e h hr hc (by rw [hr]; exact far_le _)
end Go.LP

namespace Go.LP
theorem sumR_app (n m : Nat) (g : Nat → Rat) : sumR (n + m) g = sumR n g + sumR m (fun i => g (n + i)) := by
 induction m with
 | zero => simp only [Nat.add_zero, sumR]; grind
 | succ m ih => rw [← Nat.add_assoc]; simp only [sumR]; rw [ih]; grind
section
variable (n m : Nat) (A : Nat → Nat → Rat) (bb gg : Nat → Rat)
def dG : Dict := ⟨m, n, A, bb, gg, 0, fun i => n + i, fun j => j⟩
def dA : Dict := ⟨m, n + 1, fun i j => if j < n then A i j else -1, bb, fun j => if j < n then 0 else -1, 0, fun i => n + i, fun j => if j < n then j else n + m⟩
def xu (u : Nat → Rat) (k : Nat) : Rat := if k < n then u k else bb (k - n) - sumR n fun j => A (k - n) j * u j
end
section
variable {n m : Nat} {A : Nat → Nat → Rat} {bb gg : Nat → Rat}
theorem dG_bij : Bij (dG n m A bb gg) (n + m) := fun g => sumR_app n m g
theorem dA_bij : Bij (dA n m A bb) (n + m + 1) := fun g => by
 simp only [dA, sumR]
 rw [sumR_app, if_neg (Nat.lt_irrefl n), sumR_congr (n := n) (f := fun j => g (if j < n then j else n + m)) (g := g) fun i hi => by rw [if_pos hi]]
 grind
theorem xu_lt {u : Nat → Rat} {k : Nat} (h : k < n) : xu n A bb u k = u k := if_pos h
theorem xu_ge {u : Nat → Rat} {i : Nat} : xu n A bb u (n + i) = bb i - sumR n fun j => A i j * u j := by
 unfold xu
 rw [if_neg (by omega), Nat.add_sub_cancel_left]
theorem xu_sol {u : Nat → Rat} : sol (dG n m A bb gg) (xu n A bb u) := by
 intro i hi
 simp only [dG] at hi ⊢
 rw [xu_ge]
 congr 1
 exact sumR_congr fun j hj => by rw [xu_lt hj]
theorem sol_dG {x : Nat → Rat} (h : sol (dG n m A bb gg) x) {i : Nat} (hi : i < m) : x (n + i) = bb i - sumR n fun j => A i j * x j := h i hi
theorem obj_dG {x : Nat → Rat} : obj (dG n m A bb gg) x = sumR n fun j => gg j * x j := by
 simp only [obj, dG]; grind
theorem dual_eq {d : Dict} (h : Same d (dG n m A bb gg) (n + m)) (u : Nat → Rat) : sumR n (fun j => gg j * u j) = d.v + sumR n (fun k => cv d k * u k) + sumR m (fun i => cv d (n + i) * (bb i - sumR n fun j => A i j * u j)) := by
 have h1 := h.obj _ ((h.sol _).2 (xu_sol (u := u)))
 rw [obj_dG, obj_cv h.bd, sumR_app] at h1
 rw [sumR_congr (n := n) (f := fun j => gg j * xu n A bb u j) (g := fun j => gg j * u j) fun j hj => by rw [xu_lt hj],
  sumR_congr (n := n) (f := fun k => cv d k * xu n A bb u k) (g := fun k => cv d k * u k) fun j hj => by rw [xu_lt hj],
  sumR_congr (n := m) (g := fun i => cv d (n + i) * (bb i - sumR n fun j => A i j * u j)) fun i hi => by rw [xu_ge]] at h1
 grind
theorem dual_v {d : Dict} (h : Same d (dG n m A bb gg) (n + m)) : sumR m (fun i => -cv d (n + i) * bb i) = d.v := by
 have h1 := dual_eq h fun _ => 0
 rw [sumR_zero fun j _ => by grind, sumR_zero (n := n) (f := fun k => cv d k * 0) fun j _ => by grind,
  sumR_congr (n := m) (g := fun i => cv d (n + i) * bb i) fun i _ => by rw [sumR_zero fun j _ => by grind]; grind] at h1
 rw [sumR_congr (g := fun i => -(cv d (n + i) * bb i)) fun i _ => by grind, sumR_neg]
 grind
theorem dual_col {d : Dict} (h : Same d (dG n m A bb gg) (n + m)) {j : Nat} (hj : j < n) : sumR m (fun i => -cv d (n + i) * A i j) = gg j - cv d j := by
 have h1 := dual_eq h fun k => if k = j then 1 else 0
 have h2 := dual_v h
 rw [sumR_one hj fun i _ hne => by rw [if_neg hne]; grind, sumR_one (f := fun k => cv d k * if k = j then 1 else 0) hj fun i _ hne => by rw [if_neg hne]; grind,
  sumR_congr (n := m) (g := fun i => -(-cv d (n + i) * bb i) + -cv d (n + i) * A i j) fun i _ => by
   rw [sumR_one hj fun l _ hne => by rw [if_neg hne]; grind]
   rw [if_pos rfl]; grind, sumR_add, sumR_neg] at h1
 simp only [if_true] at h1
 grind
theorem vl_nonneg {d : Dict} {N : Nat} (_hb : Bij d N) (hf : feas d) (k : Nat) : 0 ≤ vl d k := by
 refine sumR_nonneg fun i hi => ?_
 split
 ·exact hf i hi
 ·grind
theorem cv_nonpos {d : Dict} (hc : ∀ j, j < d.c → d.cst j ≤ 0) (k : Nat) : cv d k ≤ 0 := by
 have : 0 ≤ sumR d.c fun j => -(if d.fre j = k then d.cst j else 0) := sumR_nonneg fun j hj => by
  split
  ·have := hc j hj; grind
  ·grind
 rw [sumR_neg] at this
 unfold cv
 grind
theorem slack_nonneg {x : Nat → Rat} (h : sol (dG n m A bb gg) x) (hx : ∀ k, 0 ≤ x k) {i : Nat} (hi : i < m) : sumR n (fun j => A i j * x j) ≤ bb i := by
 have := sol_dG h hi
 have := hx (n + i)
 grind
structure Opt (n m : Nat) (A : Nat → Nat → Rat) (bb gg : Nat → Rat) (x y : Nat → Rat) (v : Rat) : Prop where
 x0 : ∀ k, 0 ≤ x k
 row : ∀ i, i < m → sumR n (fun j => A i j * x j) ≤ bb i
 y0 : ∀ i, 0 ≤ y i
 col : ∀ j, j < n → gg j ≤ sumR m (fun i => y i * A i j)
 vx : sumR n (fun j => gg j * x j) = v
 vy : sumR m (fun i => y i * bb i) = v
theorem opt_of {d : Dict} (h : Same d (dG n m A bb gg) (n + m)) (hf : feas d) (hc : ∀ j, j < d.c → d.cst j ≤ 0) : Opt n m A bb gg (vl d) (fun i => -cv d (n + i)) d.v := by
 have s1 := (h.sol _).1 (vl_sol h.bd)
 refine ⟨vl_nonneg h.bd hf, fun i hi => slack_nonneg s1 (vl_nonneg h.bd hf) hi, fun i => by have := cv_nonpos hc (n + i); grind, fun j hj => ?_, ?_, dual_v h⟩
 ·rw [dual_col h hj]; have := cv_nonpos hc j; grind
 ·have := h.obj _ (vl_sol h.bd)
  rw [vl_obj h.bd, obj_dG] at this
  exact this.symm
def rayq (d : Dict) (q k : Nat) : Rat := sumR d.r (fun i => if d.bas i = k then - d.a i q else 0) + (if d.fre q = k then 1 else 0)
theorem rayq_eq {d : Dict} {q k : Nat} : rayq d q k = ptq d q 1 k - ptq d q 0 k := by
 unfold rayq ptq
 rw [sumR_congr (g := fun i => (if d.bas i = k then d.b i - d.a i q * 1 else 0) - (if d.bas i = k then d.b i - d.a i q * 0 else 0)) fun i _ => by split <;> grind, sumR_sub]
 split <;> grind
structure Unb (n m : Nat) (A : Nat → Nat → Rat) (bb gg : Nat → Rat) (x ray : Nat → Rat) : Prop where
 x0 : ∀ k, 0 ≤ x k
 row : ∀ i, i < m → sumR n (fun j => A i j * x j) ≤ bb i
 r0 : ∀ k, 0 ≤ ray k
 rr : ∀ i, i < m → sumR n (fun j => A i j * ray j) ≤ 0
 up : 0 < sumR n (fun j => gg j * ray j)
theorem unb_of {d : Dict} (h : Same d (dG n m A bb gg) (n + m)) (hf : feas d) {q : Nat} (hq : q < d.c) (hc : 0 < d.cst q) (ha : ∀ i, i < d.r → d.a i q ≤ 0) : Unb n m A bb gg (vl d) (rayq d q) := by
 have s0 := (h.sol _).1 (vl_sol h.bd)
 have s1 := (h.sol _).1 (ptq_sol h.bd hq (y := 1))
 have s2 := (h.sol _).1 (ptq_sol h.bd hq (y := 0))
 have r0 : ∀ k, 0 ≤ rayq d q k := fun k => by
  unfold rayq
  have : 0 ≤ sumR d.r (fun i => if d.bas i = k then - d.a i q else 0) := sumR_nonneg fun i hi => by
   split
   ·have := ha i hi; grind
   ·grind
  split <;> grind
 refine ⟨vl_nonneg h.bd hf, fun i hi => slack_nonneg s0 (vl_nonneg h.bd hf) hi, r0, fun i hi => ?_, ?_⟩
 ·have e1 := sol_dG s1 hi
  have e2 := sol_dG s2 hi
  have e3 := r0 (n + i)
  rw [rayq_eq, e1, e2] at e3
  rw [sumR_congr (g := fun j => A i j * ptq d q 1 j - A i j * ptq d q 0 j) fun j _ => by rw [rayq_eq]; grind, sumR_sub]
  grind
 ·have e1 := h.obj _ (ptq_sol h.bd hq (y := 1))
  have e2 := h.obj _ (ptq_sol h.bd hq (y := 0))
  rw [ptq_obj h.bd hq, obj_dG] at e1 e2
  rw [sumR_congr (g := fun j => gg j * ptq d q 1 j - gg j * ptq d q 0 j) fun j _ => by rw [rayq_eq]; grind, sumR_sub]
  grind
theorem sol_dA {x : Nat → Rat} (h : sol (dA n m A bb) x) {i : Nat} (hi : i < m) : x (n + i) = bb i - sumR n (fun j => A i j * x j) + x (n + m) := by
 have := h i hi
 simp only [dA, sumR] at this
 rw [if_neg (Nat.lt_irrefl n), if_neg (Nat.lt_irrefl n), sumR_congr (n := n) (g := fun j => A i j * x j) fun j hj => by rw [if_pos hj, if_pos hj]] at this
 grind
theorem sol_dA' {x : Nat → Rat} (h : ∀ i, i < m → x (n + i) = bb i - sumR n (fun j => A i j * x j) + x (n + m)) : sol (dA n m A bb) x := by
 intro i hi
 have := h i hi
 simp only [dA, sumR]
 rw [if_neg (Nat.lt_irrefl n), if_neg (Nat.lt_irrefl n), sumR_congr (n := n) (g := fun j => A i j * x j) fun j hj => by rw [if_pos hj, if_pos hj]]
 grind
theorem obj_dA {x : Nat → Rat} : obj (dA n m A bb) x = - x (n + m) := by
 simp only [obj, dA, sumR]
 rw [if_neg (Nat.lt_irrefl n), if_neg (Nat.lt_irrefl n), sumR_zero fun j hj => by rw [if_pos hj]; grind]
 grind
structure Inf (n m : Nat) (A : Nat → Nat → Rat) (bb : Nat → Rat) (y : Nat → Rat) : Prop where
 y0 : ∀ i, 0 ≤ y i
 col : ∀ j, j < n → 0 ≤ sumR m (fun i => y i * A i j)
 vy : sumR m (fun i => y i * bb i) < 0
theorem inf_of {d : Dict} (h : Same d (dA n m A bb) (n + m + 1)) (hc : ∀ j, j < d.c → d.cst j ≤ 0) (hv : d.v < 0) : Inf n m A bb (fun i => -cv d (n + i)) := by
 have key : ∀ u : Nat → Rat, 0 = d.v + sumR n (fun k => cv d k * u k) + sumR m (fun i => cv d (n + i) * (bb i - sumR n fun j => A i j * u j)) := fun u => by
  have hx : ∀ i, i < m → (fun k => if k = n + m then 0 else xu n A bb u k) (n + i) = bb i - sumR n (fun j => A i j * (fun k => if k = n + m then 0 else xu n A bb u k) j) + (fun k => if k = n + m then 0 else xu n A bb u k) (n + m) := fun i hi => by
   simp only [if_true]
   rw [if_neg (by omega), xu_ge, sumR_congr (n := n) (f := fun j => A i j * if j = n + m then 0 else xu n A bb u j) (g := fun j => A i j * u j) fun j hj => by rw [if_neg (by omega), xu_lt hj]]
   grind
  have h1 := h.obj _ ((h.sol _).2 (sol_dA' (x := fun k => if k = n + m then 0 else xu n A bb u k) hx))
  rw [obj_dA, obj_cv h.bd] at h1
  simp only [sumR, if_true] at h1
  rw [sumR_app, sumR_congr (n := n) (f := fun k => cv d k * if k = n + m then 0 else xu n A bb u k) (g := fun k => cv d k * u k) fun j hj => by rw [if_neg (by omega), xu_lt hj],
   sumR_congr (n := m) (g := fun i => cv d (n + i) * (bb i - sumR n fun j => A i j * u j)) fun i hi => by rw [if_neg (by omega), xu_ge]] at h1
  grind
 have hvy : sumR m (fun i => -cv d (n + i) * bb i) = d.v := by
  have h1 := key fun _ => 0
  rw [sumR_zero (n := n) (f := fun k => cv d k * 0) fun j _ => by grind,
   sumR_congr (n := m) (g := fun i => cv d (n + i) * bb i) fun i _ => by rw [sumR_zero fun j _ => by grind]; grind] at h1
  rw [sumR_congr (g := fun i => -(cv d (n + i) * bb i)) fun i _ => by grind, sumR_neg]
  grind
 refine ⟨fun i => by have := cv_nonpos hc (n + i); grind, fun j hj => ?_, by rw [hvy]; exact hv⟩
 have h1 := key fun k => if k = j then 1 else 0
 rw [sumR_one (f := fun k => cv d k * if k = j then 1 else 0) hj fun i _ hne => by rw [if_neg hne]; grind,
  sumR_congr (n := m) (g := fun i => -(-cv d (n + i) * bb i) + -cv d (n + i) * A i j) fun i _ => by
   rw [sumR_one hj fun l _ hne => by rw [if_neg hne]; grind]
   rw [if_pos rfl]; grind, sumR_add, sumR_neg] at h1
 simp only [if_true] at h1
 have := cv_nonpos hc j
 grind
theorem weak {x y : Nat → Rat} (hx : ∀ j, j < n → 0 ≤ x j) (hr : ∀ i, i < m → sumR n (fun j => A i j * x j) ≤ bb i) (hy : ∀ i, i < m → 0 ≤ y i) (hc : ∀ j, j < n → gg j ≤ sumR m (fun i => y i * A i j)) :
  sumR n (fun j => gg j * x j) ≤ sumR m (fun i => y i * bb i) := by
 have h1 : sumR n (fun j => gg j * x j) ≤ sumR n (fun j => sumR m (fun i => y i * A i j) * x j) := sumR_le fun j hj => by
  have := Rat.mul_nonneg (show 0 ≤ sumR m (fun i => y i * A i j) - gg j by have := hc j hj; grind) (hx j hj)
  grind
 have h2 : sumR m (fun i => y i * sumR n (fun j => A i j * x j)) ≤ sumR m (fun i => y i * bb i) := sumR_le fun i hi => by
  have := Rat.mul_nonneg (hy i hi) (show 0 ≤ bb i - sumR n (fun j => A i j * x j) by have := hr i hi; grind)
  grind
 have h3 : sumR n (fun j => sumR m (fun i => y i * A i j) * x j) = sumR m (fun i => y i * sumR n (fun j => A i j * x j)) := by
  rw [sumR_congr (n := n) (g := fun j => sumR m (fun i => y i * A i j * x j)) fun j _ => by rw [sumR_mul'], sumR_comm]
  exact sumR_congr fun i _ => by rw [← sumR_mul]; exact sumR_congr fun j _ => by grind
 grind
end
end Go.LP

namespace Go.Proofs.Ytdeifcfjkmfocaa
open Go Go.Am Go.Dig Go.LP
theorem len_of {K x : Nat} (h : x ≤ 2 ^ K) : (digs x).length ≤ K / 32 + 1 := digs_len_le.2 (by
 have : B ^ (K / 32 + 1) = 2 ^ (32 * (K / 32 + 1)) := by rw [show B = 2 ^ 32 from rfl, ← Nat.pow_mul]
 rw [this]
 exact Nat.lt_of_le_of_lt h (Nat.pow_lt_pow_right (by omega) (by omega)))
theorem sz_len {K : Nat} {q : Rat} (h : sz K q) : (digs q.num.natAbs).length ≤ K / 32 + 1 ∧ (digs q.den).length ≤ K / 32 + 1 := ⟨len_of h.1, len_of h.2⟩
theorem sg_not (s : Bool) (N : Nat) : sg (!s) N = -sg s N := by cases s <;> simp [sg]
theorem frac_num (q : Rat) : mkRat (sg (decide (q.num < 0)) q.num.natAbs) q.den = q := by rw [sg_num, Rat.mkRat_self]
theorem neg_rat (q : Rat) : fracO (!decide (q.num < 0)) q.num.natAbs q.den = frac (-q) := by
 rw [fracO_rat q.den_nz, sg_not, ← Rat.neg_mkRat, frac_num]
theorem int_rat (n : Int) : fracO (decide (n < 0)) n.natAbs 1 = frac (n : Rat) := by
 rw [fracO_rat (by decide), sg_num]
 congr 1
 rw [← Rat.mkRat_self (n : Rat)]; rfl
theorem div_rat (p q : Rat) (h : q ≠ 0) : fracO (!(decide (p.num < 0) == decide (q.num < 0))) (p.num.natAbs * q.den) (p.den * q.num.natAbs) = frac (p / q) := by
 have hq : q.num.natAbs ≠ 0 := fun e => h (Rat.num_eq_zero.1 (by omega))
 have hd : p.den * q.num.natAbs ≠ 0 := Nat.mul_ne_zero p.den_nz hq
 rw [fracO_rat hd]
 congr 1
 have e1 := sg_num p.num
 have e2 := sg_num q.num
 have e3 := frac_num p
 have e4 := frac_num q
 have hx : p / q = mkRat (sg (decide (p.num < 0)) p.num.natAbs) p.den * (Rat.divInt (q.den : Int) (sg (decide (q.num < 0)) q.num.natAbs)) := by
  rw [e3, e2, Rat.div_def, Rat.inv_def]
 rw [hx]
 generalize p.num.natAbs = x at *
 generalize q.num.natAbs = y at *
 generalize decide (p.num < 0) = s at *
 generalize decide (q.num < 0) = t at *
 have hy : (y : Int) ≠ 0 := by omega
 cases t
 ·have : Rat.divInt (q.den : Int) (sg false y) = mkRat q.den y := rfl
  rw [this, Rat.mkRat_mul_mkRat]
  congr 1
  cases s <;> simp [sg, Int.neg_mul]
 ·have : Rat.divInt (q.den : Int) (sg true y) = mkRat (-q.den) y := by
   rw [show sg true y = -(y : Int) from rfl, Rat.divInt_neg']; rfl
  rw [this, Rat.mkRat_mul_mkRat]
  congr 1
  cases s <;> simp [sg, Int.neg_mul, Int.mul_neg]
section
variable {K : Nat} {p q : Rat} (hK : K ≤ 137438953472) (hp : sz K p) (hq : sz K q)
include hK hp
theorem neg_frac : SoundCall Try.prog F_f_Neg [frac p] (frac (-p)) := by
 have h1 := sz_len hp
 rw [← neg_rat]
 exact neg_sound (by omega) (by omega) p.den_nz
include hq
theorem mul_frac : SoundCall Try.prog F_f_Mul [frac p, frac q] (frac (p * q)) := by
 have h1 := sz_len hp
 have h2 := sz_len hq
 rw [← mul_rat]
 exact mulF_sound (by omega) (by omega) (by omega) (by omega) p.den_nz q.den_nz
theorem add_frac : SoundCall Try.prog F_f_Add [frac p, frac q] (frac (p + q)) := by
 have h1 := sz_len hp
 have h2 := sz_len hq
 rw [← add_rat]
 exact addF_sound (by omega) (by omega) (by omega) (by omega) p.den_nz q.den_nz
theorem sub_frac : SoundCall Try.prog F_f_Sub [frac p, frac q] (frac (p - q)) := by
 have k1 := neg_frac hK hq
 have k2 := add_frac hK hp (sz_neg hq)
 rw [Rat.sub_eq_add_neg]
 obtain ⟨a, ha⟩ : ∃ a, a = p + -q := ⟨_, rfl⟩
 obtain ⟨b, hb⟩ : ∃ b, b = -q := ⟨_, rfl⟩
 rw [← ha] at k2 ⊢
 rw [← hb] at k1 k2
 refine sound' t_f_Sub (by simp) ?_
 simp [c_f_Sub]
 refine eCall_i k1 (by simp) (by simp) ?_
 simp
 refine eCall_i k2 (by simp) (by simp) ?_
 simp [r_f_Sub]
theorem div_frac (h : q ≠ 0) : SoundCall Try.prog F_f_Div [frac p, frac q] (.tuple [frac (p / q), iv 0]) := by
 have h1 := sz_len hp
 have h2 := sz_len hq
 have hq0 : q.num.natAbs ≠ 0 := fun e => h (Rat.num_eq_zero.1 (by omega))
 rw [← div_rat p q h]
 have l1 := mul_len h1.1 h2.2
 have l2 := mul_len h1.2 h2.1
 have k1 := mul_sound (m1 := .plain) (m2 := .plain) (ok_digs p.num.natAbs) (ok_digs q.den) (by omega) (by omega) (by omega) rfl rfl
 have k2 := mul_sound (m1 := .plain) (m2 := .plain) (ok_digs p.den) (ok_digs q.num.natAbs) (by omega) (by omega) (by omega) rfl rfl
 simp only [val_digs] at k1 k2
 have k := make_sound (neg := !(decide (p.num < 0) == decide (q.num < 0))) (N := p.num.natAbs * q.den) (D := p.den * q.num.natAbs) (by omega) (by omega) (Nat.mul_ne_zero p.den_nz hq0)
 unfold frac
 generalize p.num.natAbs = a at *
 generalize q.num.natAbs = b at *
 generalize decide (p.num < 0) = s at *
 generalize decide (q.num < 0) = t at *
 unfold fracO at *
 generalize a * q.den / Nat.gcd (a * q.den) (p.den * b) = x at *
 generalize p.den * b / Nat.gcd (a * q.den) (p.den * b) = y at *
 refine sound' t_f_Div (by simp) ?_
 simp [c_f_Div, eBin_neq_bool ub_bool]
 refine eCall_i k1 (by simp) (by simp) ?_
 simp
 refine eCall_i k2 (by simp) (by simp) ?_
 simp
 refine eCall_i k (by simp) (by simp) ?_
 simp [r_f_Div]
end
end Go.Proofs.Ytdeifcfjkmfocaa

namespace Go.Proofs.Ytdeifcfjkmfocaa
open Go Go.Am Go.Dig Go.LP
def cmpR (p q : Rat) : Int := if p < q then -1 else if q < p then 1 else 0
def sgnR (q : Rat) : Int := if q = 0 then 0 else if q < 0 then -1 else 1
theorem num_neg_iff {q : Rat} : q.num < 0 ↔ q < 0 := by
 have := Rat.lt_iff q 0
 simpa using this.symm
theorem cmpR_eq (p q : Rat) : cmpR p q = if p.num * q.den < q.num * p.den then -1 else if q.num * p.den < p.num * q.den then 1 else 0 := by
 unfold cmpR
 simp only [Rat.lt_iff]
theorem cmp_abs (p q : Rat) : (if decide (p.num < 0) = decide (q.num < 0) then (if decide (p.num < 0) = true then cmpN (q.num.natAbs * p.den) (p.num.natAbs * q.den) else cmpN (p.num.natAbs * q.den) (q.num.natAbs * p.den))
  else if decide (p.num < 0) = true then -1 else 1) = cmpR p q := by
 have d1 : (0 : Int) < p.den := by have := p.den_pos; omega
 have d2 : (0 : Int) < q.den := by have := q.den_pos; omega
 rw [cmpR_eq]
 unfold cmpN
 have a1 : ((p.num.natAbs * q.den : Nat) : Int) = (p.num.natAbs : Int) * q.den := Int.natCast_mul _ _
 have a2 : ((q.num.natAbs * p.den : Nat) : Int) = (q.num.natAbs : Int) * p.den := Int.natCast_mul _ _
 by_cases h1 : p.num < 0 <;> by_cases h2 : q.num < 0
 ·have e1 : (p.num.natAbs : Int) = -p.num := by omega
  have e2 : (q.num.natAbs : Int) = -q.num := by omega
  rw [e1, Int.neg_mul] at a1
  rw [e2, Int.neg_mul] at a2
  simp only [h1, h2, if_true, decide_true]
  generalize p.num * q.den = x at *
  generalize q.num * p.den = y at *
  repeat' split
  all_goals first | rfl | omega
 ·have m1 : p.num * q.den < 0 := Int.mul_neg_of_neg_of_pos h1 d2
  have m2 : 0 ≤ q.num * p.den := Int.mul_nonneg (by omega) (by omega)
  simp only [h1, h2, decide_true, decide_false, Bool.true_eq_false, if_false, if_true]
  rw [if_pos (by omega)]
 ·have m1 : 0 ≤ p.num * q.den := Int.mul_nonneg (by omega) (by omega)
  have m2 : q.num * p.den < 0 := Int.mul_neg_of_neg_of_pos h2 d1
  simp only [h1, h2, decide_true, decide_false, Bool.false_eq_true, if_false]
  rw [if_neg (by omega), if_pos (by omega)]
 ·have e1 : (p.num.natAbs : Int) = p.num := by omega
  have e2 : (q.num.natAbs : Int) = q.num := by omega
  rw [e1] at a1
  rw [e2] at a2
  simp only [h1, h2, decide_false, if_true, Bool.false_eq_true, if_false]
  generalize p.num * q.den = x at *
  generalize q.num * p.den = y at *
  repeat' split
  all_goals first | rfl | omega
theorem fromInt_frac {n : Int} (h1 : -9223372036854775808 ≤ n) (h2 : n < 9223372036854775808) : SoundCall Try.prog F_f_FromInt [iv n] (frac n) := by
 rw [← int_rat]; exact fromInt_sound h1 h2
theorem sign_frac {q : Rat} : SoundCall Try.prog F_f_Sign [frac q] (iv (sgnR q)) := by
 unfold sgnR frac
 refine sound' t_f_Sign (by simp) ?_
 by_cases h0 : q = 0
 ·subst h0
  simp [c_f_Sign, r_f_Sign, digs_zero]
 ·have hn : q.num.natAbs ≠ 0 := fun e => h0 (Rat.num_eq_zero.1 (by omega))
  have hl0 : ¬ digs q.num.natAbs = [] := by rw [digs_eq_nil]; exact hn
  have hl : ¬ (digs q.num.natAbs).length = 0 := by rw [List.length_eq_zero_iff]; exact hl0
  have hli : ¬ ((digs q.num.natAbs).length : Int) = 0 := by omega
  by_cases h1 : q < 0
  ·have h2 := num_neg_iff.2 h1
   simp [c_f_Sign, r_f_Sign, h0, h1, hl, h2]
  ·have h2 : ¬ q.num < 0 := fun h => h1 (num_neg_iff.1 h)
   simp [c_f_Sign, r_f_Sign, h0, h1, hl, h2]
theorem cmp_frac {K : Nat} {p q : Rat} (hK : K ≤ 137438953472) (hp : sz K p) (hq : sz K q) : SoundCall Try.prog F_f_Cmp [frac p, frac q] (iv (cmpR p q)) := by
 have h1 := sz_len hp
 have h2 := sz_len hq
 rw [← cmp_abs]
 have l1 := mul_len h1.1 h2.2
 have l2 := mul_len h2.1 h1.2
 have kx := cross_sound (s := decide (p.num < 0)) (t := decide (q.num < 0)) (N := p.num.natAbs) (D := p.den) (M := q.num.natAbs) (E := q.den) (by omega) (by omega) (by omega) (by omega)
 have k1 := cmp_sound (m1 := .plain) (m2 := .plain) (ok_digs (p.num.natAbs * q.den)) (ok_digs (q.num.natAbs * p.den)) (by omega) (by omega)
 have k2 := cmp_sound (m1 := .plain) (m2 := .plain) (ok_digs (q.num.natAbs * p.den)) (ok_digs (p.num.natAbs * q.den)) (by omega) (by omega)
 simp only [val_digs] at k1 k2
 unfold frac
 generalize p.num.natAbs * q.den = x at *
 generalize q.num.natAbs * p.den = y at *
 generalize decide (p.num < 0) = s at *
 generalize decide (q.num < 0) = t at *
 refine sound' t_f_Cmp (by simp) ?_
 by_cases hst : s = t
 ·have e : (s == t) = true := by simp [hst]
  rw [if_pos hst]
  simp [c_f_Cmp, eBin_neq_bool ub_bool, e]
  refine eCall_i kx (by simp) (by simp) ?_
  cases s
  ·simp
   refine eCall_i k1 (by simp) (by simp) ?_
   simp [r_f_Cmp]
  ·simp
   refine eCall_i k2 (by simp) (by simp) ?_
   simp [r_f_Cmp]
 ·have e : (s == t) = false := by simp [hst]
  rw [if_neg hst]
  cases s <;> simp [c_f_Cmp, eBin_neq_bool ub_bool, e, r_f_Cmp]
def vfr (s : Bool) (a c : List Nat) : Bool :=
 decide (a = digs (val a)) && decide (c = digs (val c)) && !decide (c = []) && !(s && decide (a = [])) && (Nat.gcd (val a) (val c) == 1)
theorem vfr_frac (q : Rat) : vfr (decide (q.num < 0)) (digs q.num.natAbs) (digs q.den) = true := by
 have h1 : ¬ q.den = 0 := q.den_nz
 have h2 : Nat.gcd q.num.natAbs q.den = 1 := q.reduced
 have h3 : ¬ (q.num < 0 ∧ q.num.natAbs = 0) := by omega
 simp only [vfr, val_digs, digs_eq_nil, h1, h2, beq_self_eq_true, decide_true, Bool.true_and, Bool.and_true, decide_false, Bool.not_false, Bool.not_eq_true', Bool.and_eq_false_iff, decide_eq_false_iff_not]
 by_cases hn : q.num < 0
 ·right; omega
 ·left; exact hn
theorem vfr_inv {s : Bool} {a c : List Nat} (h : vfr s a c = true) : ∃ q : Rat, s = decide (q.num < 0) ∧ a = digs q.num.natAbs ∧ c = digs q.den := by
 simp only [vfr, Bool.and_eq_true, beq_iff_eq, decide_eq_true_eq, Bool.not_eq_true', decide_eq_false_iff_not, Bool.and_eq_false_iff] at h
 obtain ⟨⟨⟨⟨h1, h2⟩, h3⟩, h4⟩, h5⟩ := h
 have hc : val c ≠ 0 := fun e => h3 (by rw [h2, e, digs_zero])
 have hs : (sg s (val a)).natAbs = val a := by unfold sg; split <;> omega
 refine ⟨⟨sg s (val a), val c, hc, by rw [hs]; exact h5⟩, ?_, ?_, h2⟩
 ·show s = decide (sg s (val a) < 0)
  cases s
  ·simp [sg]
  ·have : val a ≠ 0 := fun e => by
    rcases h4 with h4 | h4
    ·cases h4
    ·exact h4 (by rw [h1, e, digs_zero])
   simp [sg]; omega
 ·show a = digs (sg s (val a)).natAbs
  rw [hs]; exact h1
theorem e_kind {ox oy : Operand} {s b : Bool} {K : AV → Option Entry → Prop} :
  eBin Try.prog .eql T_fraction_kind ox oy [.agg [bv s, bv b], .agg [bv true, bv true]] K = K (bv (s && b)) none := by
 rw [eBin_eql_agg kd_fraction_kind gd_fraction_kind ag_fraction_kind (xs := [.bool s, .bool b]) (ys := [.bool true, .bool true]) rfl rfl rfl rfl]
 cases s <;> cases b <;> rfl
theorem valid_frac {s : Bool} {a c : List Nat} {m1 m2 : Am.Mode} (ha : ok a) (hc : ok c) (hna : a.length < 17179869184) (hnc : c.length < 17179869184) (f1 : stm m1 = m1) (f2 : stm m2 = m2) :
  SoundCall Try.prog F_f_Valid [.agg [bv s, nl m1 a, nl m2 c]] (bv (vfr s a c)) := by
 have k1 := valid_sound (m := m1) ha (by omega)
 have k2 := valid_sound (m := m2) hc (by omega)
 have kg := gcd_sound (m1 := m1) (m2 := m2) ha hc (by omega) (by omega) f1 f2
 have kf := fromUint_sound (x := 1) (by decide)
 have hvc : c ≠ [] → c = digs (val c) → val c ≠ 0 := fun h e h0 => h (by rw [e, h0, digs_zero])
 have hgl : c ≠ [] → c = digs (val c) → (digs (Nat.gcd (val a) (val c))).length < 17179869184 := fun h e => by
  have h1 : val c < B ^ c.length := by
   have := digs_len_le (x := val c) (n := c.length)
   rw [← this, ← e]; exact Nat.le_refl _
  exact Nat.lt_of_le_of_lt (digs_len_le.2 (Nat.lt_of_le_of_lt (Nat.gcd_le_right _ (Nat.pos_of_ne_zero (hvc h e))) h1)) hnc
 have kc : (digs (Nat.gcd (val a) (val c))).length < 17179869184 → SoundCall Try.prog F_n_Cmp [nD (Nat.gcd (val a) (val c)), nD 1] (iv (cmpN (Nat.gcd (val a) (val c)) 1)) := fun h => by
  have := cmp_sound (m1 := .plain) (m2 := .plain) (ok_digs (Nat.gcd (val a) (val c))) (ok_digs 1) (by omega) (by rw [show digs 1 = [1] by decide +kernel]; decide)
  simp only [val_digs] at this
  exact this
 unfold vfr
 generalize Nat.gcd (val a) (val c) = g at *
 generalize val a = x at *
 generalize hy : val c = y at *
 have hkk : SoundCall Try.prog F_f_kindOf [.agg [bv s, nl m1 a, nl m2 c]] (.agg [bv s, bv (decide (a = []))]) := by
  refine sound' t_f_kindOf (by simp) ?_
  simp [c_f_kindOf, r_f_kindOf]
 have hcl : c = [] → c.length = 0 := fun h => by rw [h]; rfl
 have hcl' : c ≠ [] → ¬ c.length = 0 := fun h h' => h (List.length_eq_zero_iff.1 h')
 generalize d1 : decide (a = digs x) = b1 at *
 generalize d2 : decide (c = digs y) = b2 at *
 refine sound' t_f_Valid (by simp) ?_
 simp [c_f_Valid]
 refine eCall_i k1 (by simp [f1]) (by simp) ?_
 cases b1
 ·simp [r_f_Valid]
 simp
 refine eCall_i k2 (by simp [f2]) (by simp) ?_
 cases b2
 ·simp [r_f_Valid]
 by_cases e3 : c = []
 ·simp [e3, r_f_Valid]
 simp [e3]
 refine eCall_i hkk (by simp [f1, f2]) (by simp) ?_
 have hg := hgl e3 (of_decide_eq_true d2)
 have hfin : decide (cmpN g 1 = 0) = (g == 1) := by
  have h2 : cmpN g 1 = 0 ↔ g = 1 := by unfold cmpN; split <;> (try split) <;> omega
  simp only [h2]
  by_cases h1 : g = 1 <;> simp [h1]
 generalize decide (a = []) = z at *
 cases s <;> cases z
 all_goals simp [e_kind, r_f_Valid]
 all_goals
  refine eCall_i kg (by simp [f1, f2]) (by simp) ?_
  simp
  refine eCall_i kf (by simp) (by simp) ?_
  simp
  refine eCall_i (kc hg) (by simp) (by simp) ?_
  simp [← hfin]
end Go.Proofs.Ytdeifcfjkmfocaa

namespace Go.Proofs.Ytdeifcfjkmfocaa
open Go Go.Am Go.Dig Go.LP
theorem neg_ratR (q : Rat) : frA (!decide (q.num < 0) && decide (q.num.natAbs ≠ 0)) q.num.natAbs q.den = frac (-q) := by
 unfold frac
 rw [Rat.neg_num, Rat.neg_den, Int.natAbs_neg]
 have : (!decide (q.num < 0) && decide (q.num.natAbs ≠ 0)) = decide (-q.num < 0) := by
  by_cases h : q.num < 0
  ·have h2 : ¬ -q.num < 0 := by omega
   simp [h]; omega
  ·by_cases h0 : q.num.natAbs = 0
   ·have h2 : ¬ -q.num < 0 := by omega
    simp [h0]; omega
   ·have h2 : -q.num < 0 := by omega
    simp [h, h0]; omega
 rw [this]
theorem fromInt_refq {n : Int} (h1 : -9223372036854775808 ≤ n) (h2 : n < 9223372036854775808) : SoundCall Try.prog F_p_FromInt [iv n] (frac n) := by
 rw [← int_rat]; exact fromInt_ref h1 h2
theorem cmpR_sub (p q : Rat) : sgnR (p - q) = cmpR p q := by
 unfold sgnR cmpR
 by_cases h1 : p < q
 ·have : ¬ p - q = 0 := by grind
  have h2 : p - q < 0 := by grind
  simp [h1, this, h2]
 ·by_cases h3 : q < p
  ·have : ¬ p - q = 0 := by grind
   have h2 : ¬ p - q < 0 := by grind
   simp [h1, h3, this, h2]
  ·have : p - q = 0 := by grind
   simp [h1, h3, this]
theorem sign_refq {q : Rat} : SoundCall Try.prog F_p_Sign [frac q] (iv (sgnR q)) := by
 unfold sgnR frac
 refine sound' t_p_Sign (by simp) ?_
 by_cases h0 : q = 0
 ·subst h0
  simp [c_p_Sign, r_p_Sign, digs_zero]
 ·have hn : q.num.natAbs ≠ 0 := fun e => h0 (Rat.num_eq_zero.1 (by omega))
  have hl0 : ¬ digs q.num.natAbs = [] := by rw [digs_eq_nil]; exact hn
  have hl : ¬ (digs q.num.natAbs).length = 0 := by rw [List.length_eq_zero_iff]; exact hl0
  have hli : ¬ ((digs q.num.natAbs).length : Int) = 0 := by omega
  by_cases h1 : q < 0
  ·have h2 := num_neg_iff.2 h1
   simp [c_p_Sign, r_p_Sign, h0, h1, h2]
  ·have h2 : ¬ q.num < 0 := fun h => h1 (num_neg_iff.1 h)
   simp [c_p_Sign, r_p_Sign, h0, h1, hl, h2]
section
variable {K : Nat} {p q : Rat} (hK : K ≤ 137438953472) (hp : sz K p) (hq : sz K q)
include hK hp
theorem neg_refq : SoundCall Try.prog F_p_Neg [frac p] (frac (-p)) := by
 have h1 := sz_len hp
 rw [← neg_ratR]
 exact neg_ref (by omega) (by omega)
include hq
theorem mul_refq : SoundCall Try.prog F_p_Mul [frac p, frac q] (frac (p * q)) := by
 have h1 := sz_len hp
 have h2 := sz_len hq
 rw [← mul_rat]
 exact mulF_ref (by omega) (by omega) (by omega) (by omega) p.den_nz q.den_nz
theorem add_refq : SoundCall Try.prog F_p_Add [frac p, frac q] (frac (p + q)) := by
 have h1 := sz_len hp
 have h2 := sz_len hq
 rw [← add_rat]
 exact addF_ref (by omega) (by omega) (by omega) (by omega) p.den_nz q.den_nz
theorem sub_refq : SoundCall Try.prog F_p_Sub [frac p, frac q] (frac (p - q)) := by
 have k1 := neg_refq hK hq
 have k2 := add_refq hK hp (sz_neg hq)
 rw [Rat.sub_eq_add_neg]
 obtain ⟨a, ha⟩ : ∃ a, a = p + -q := ⟨_, rfl⟩
 obtain ⟨b, hb⟩ : ∃ b, b = -q := ⟨_, rfl⟩
 rw [← ha] at k2 ⊢
 rw [← hb] at k1 k2
 refine sound' t_p_Sub (by simp) ?_
 simp [c_p_Sub]
 refine eCall_i k1 (by simp) (by simp) ?_
 simp
 refine eCall_i k2 (by simp) (by simp) ?_
 simp [r_p_Sub]
theorem cmp_refq : SoundCall Try.prog F_p_Cmp [frac p, frac q] (iv (cmpR p q)) := by
 have k1 := sub_refq hK hp hq
 have k2 := sign_refq (q := p - q)
 rw [cmpR_sub] at k2
 generalize cmpR p q = c at *
 obtain ⟨a, ha⟩ : ∃ a, a = p - q := ⟨_, rfl⟩
 rw [← ha] at k1 k2
 refine sound' t_p_Cmp (by simp) ?_
 simp [c_p_Cmp]
 refine eCall_i k1 (by simp) (by simp) ?_
 simp
 refine eCall_i k2 (by simp) (by simp) ?_
 simp [r_p_Cmp]
end
theorem imp_plain {sz : Nat} {m : Am.Mode} {rows : List (List AV)} (h : stm m = m) : AV.imp (.list sz m rows) (.list sz .plain rows) := by
 cases m with
 | plain => exact AV.imp.refl
 | full => exact imp_full
 | own l => cases h
theorem digs_one : digs 1 = [1] := by decide +kernel
theorem valid_refq {s : Bool} {a c : List Nat} {m1 m2 : Am.Mode} (ha : ok a) (hc : ok c) (hna : a.length < 17179869184) (hnc : c.length < 17179869184) (f1 : stm m1 = m1) (f2 : stm m2 = m2) :
  SoundCall Try.prog F_p_Valid [.agg [bv s, nl m1 a, nl m2 c]] (bv (vfr s a c)) := by
 have k1 := valid_ref (m := m1) ha (by omega)
 have k2 := valid_ref (m := m2) hc (by omega)
 have kg : a = digs (val a) → c = digs (val c) → SoundCall Try.prog F_q_GCD [nl m1 a, nl m2 c] (nD (Nat.gcd (val a) (val c))) := fun h1 h2 => by
  have := gcd_ref (A := val a) (D := val c) (by rw [← h1]; omega) (by rw [← h2]; omega)
  unfold nD at this
  rw [← h1, ← h2] at this
  exact imp_arg2 (imp_arg2l this (imp_plain f1)) (imp_plain f2)
 have ha0 : a = [] → val a = 0 := fun h => by rw [h]; rfl
 have hc1 : c = digs (val c) → ((val c == 1) = decide (c = [1])) := fun h => by
  by_cases h1 : val c = 1
  ·rw [h1, digs_one] at h; rw [h1, decide_eq_true h]; rfl
  ·have : ¬ c = [1] := fun e => h1 (by rw [e]; rfl)
   simp [h1, this]
 have hgd : ∀ g, (g == 1) = decide (digs g = [1]) := fun g => by
  by_cases h1 : g = 1
  ·subst h1; simp [digs_one]
  ·have : ¬ digs g = [1] := fun e => h1 (digs_inj (by rw [e, digs_one]))
   simp [h1, this]
 have hone : ∀ l : List Nat, (decide (l = [1])) = (decide (l.length = 1) && decide (l[0]? = some 1)) := fun l => by
  match l with
  | [] => rfl
  | [z] => simp
  | _ :: _ :: _ => simp
 unfold vfr
 generalize hx : val a = x at *
 generalize hy : val c = y at *
 generalize hg : Nat.gcd x y = g at *
 have hcl' : c ≠ [] → ¬ c.length = 0 := fun h h' => h (List.length_eq_zero_iff.1 h')
 generalize d1 : decide (a = digs x) = b1 at *
 generalize d2 : decide (c = digs y) = b2 at *
 refine sound' t_p_Valid (by simp) ?_
 simp [c_p_Valid]
 refine eCall_i k1 (by simp [f1]) (by simp) ?_
 cases b1
 ·simp [r_p_Valid]
 simp
 refine eCall_i k2 (by simp [f2]) (by simp) ?_
 cases b2
 ·simp [r_p_Valid]
 by_cases e3 : c = []
 ·simp [e3, r_p_Valid]
 by_cases e4 : a = []
 ·have hx0 := ha0 e4
  rw [hx0, Nat.gcd_zero_left] at hg
  have hg1 := hc1 (of_decide_eq_true d2)
  rw [hg] at hg1
  rw [hg1]
  match c, e3 with
  | [z], _ =>
   cases s
   ·by_cases hz : z = 1
    ·subst hz; simp [e4, r_p_Valid]
    ·have hz' : ¬ (z : Int) = 1 := by omega
     simp [e4, hz, hz', r_p_Valid]
   ·simp [e4, r_p_Valid]
  | z :: z2 :: l, _ =>
   have hl : ¬ ((l.length : Int) + 1 + 1 = 1) := by omega
   have hl2 : ¬ ((l.length : Int) + 1 + 1 = 0) := by omega
   cases s <;> simp [e4, hl, hl2, r_p_Valid]
 ·have kg' := kg (of_decide_eq_true d1) (of_decide_eq_true d2)
  rw [hgd g]
  have hl0 : ¬ (a.length : Int) = 0 := by
   have : a.length ≠ 0 := fun h => e4 (List.length_eq_zero_iff.1 h)
   omega
  simp [e3, e4]
  refine eCall_i kg' (by simp [f1, f2]) (by simp) ?_
  match hl : digs g with
  | [] => simp [hl, r_p_Valid]
  | [z] =>
   by_cases hz : z = 1
   ·subst hz; simp [hl, r_p_Valid]
   ·have hz' : ¬ (z : Int) = 1 := by omega
    simp [hl, hz, hz', r_p_Valid]
  | z :: z2 :: l =>
   have hl2 : ¬ ((l.length : Int) + 1 + 1 = 1) := by omega
   simp [hl, hl2, r_p_Valid]
end Go.Proofs.Ytdeifcfjkmfocaa

namespace Go.Proofs.Ytdeifcfjkmfocaa
open Go Go.Am Go.Dig Go.LP
theorem ex_eq (x : AV) : ∃ y : AV, y = x := ⟨_, rfl⟩
noncomputable def f0 (q : Rat) : AV := Classical.choose (ex_eq (bv (decide (q.num < 0))))
noncomputable def f1 (q : Rat) : AV := Classical.choose (ex_eq (nD q.num.natAbs))
noncomputable def f2 (q : Rat) : AV := Classical.choose (ex_eq (nD q.den))
theorem f0_eq (q : Rat) : f0 q = bv (decide (q.num < 0)) := Classical.choose_spec (ex_eq _)
theorem f1_eq (q : Rat) : f1 q = nD q.num.natAbs := Classical.choose_spec (ex_eq _)
theorem f2_eq (q : Rat) : f2 q = nD q.den := Classical.choose_spec (ex_eq _)
noncomputable def fr (q : Rat) : List AV := [f0 q, f1 q, f2 q]
@[simp] theorem fr_fold (q : Rat) : [f0 q, f1 q, f2 q] = fr q := rfl
theorem fr_eq (q : Rat) : fr q = [bv (decide (q.num < 0)), nD q.num.natAbs, nD q.den] := by unfold fr; rw [f0_eq, f1_eq, f2_eq]
noncomputable abbrev fq (q : Rat) : AV := .agg (fr q)
theorem frac_fq (q : Rat) : frac q = fq q := by unfold fq; rw [fr_eq]
abbrev zz : List AV := [.val (.bool false), .list 0 .full [], .list 0 .full []]
@[simp] theorem f0_rf (q : Rat) : rf (f0 q) = true := by rw [f0_eq]; rfl
@[simp] theorem f0_strip (q : Rat) : strip (f0 q) = f0 q := by rw [f0_eq]; rfl
@[simp] theorem f0_dg (q : Rat) (l : Nat) : dg l (f0 q) = f0 q := by rw [f0_eq]; simp
@[simp] theorem f0_frz (q : Rat) (l : Nat) (e : Entry) : frz l e (f0 q) = f0 q := by rw [f0_eq]; rfl
@[simp] theorem f0_rn (q : Rat) (a b : Nat) : rn a b (f0 q) = f0 q := by rw [f0_eq]; rfl
@[simp] theorem f0_low (q : Rat) (M : Nat) : Am.low M (f0 q) = true := by rw [f0_eq]; rfl
@[simp] theorem f0_refs (q : Rat) (k : Nat) : refsTo k (f0 q) = false := by rw [f0_eq]; rfl
@[simp] theorem f0_tok (q : Rat) (k : Nat) : tokB k (f0 q) = false := by rw [f0_eq]; rfl
@[simp] theorem f1_rf (q : Rat) : rf (f1 q) = true := by rw [f1_eq]; rfl
@[simp] theorem f1_strip (q : Rat) : strip (f1 q) = f1 q := by rw [f1_eq]; rfl
@[simp] theorem f1_dg (q : Rat) (l : Nat) : dg l (f1 q) = f1 q := by rw [f1_eq]; simp
@[simp] theorem f1_frz (q : Rat) (l : Nat) (e : Entry) : frz l e (f1 q) = f1 q := by rw [f1_eq]; rfl
@[simp] theorem f1_rn (q : Rat) (a b : Nat) : rn a b (f1 q) = f1 q := by rw [f1_eq]; rfl
@[simp] theorem f1_low (q : Rat) (M : Nat) : Am.low M (f1 q) = true := by rw [f1_eq]; rfl
@[simp] theorem f1_refs (q : Rat) (k : Nat) : refsTo k (f1 q) = false := by rw [f1_eq]; rfl
@[simp] theorem f1_tok (q : Rat) (k : Nat) : tokB k (f1 q) = false := by rw [f1_eq]; rfl
@[simp] theorem f2_rf (q : Rat) : rf (f2 q) = true := by rw [f2_eq]; rfl
@[simp] theorem f2_strip (q : Rat) : strip (f2 q) = f2 q := by rw [f2_eq]; rfl
@[simp] theorem f2_dg (q : Rat) (l : Nat) : dg l (f2 q) = f2 q := by rw [f2_eq]; simp
@[simp] theorem f2_frz (q : Rat) (l : Nat) (e : Entry) : frz l e (f2 q) = f2 q := by rw [f2_eq]; rfl
@[simp] theorem f2_rn (q : Rat) (a b : Nat) : rn a b (f2 q) = f2 q := by rw [f2_eq]; rfl
@[simp] theorem f2_low (q : Rat) (M : Nat) : Am.low M (f2 q) = true := by rw [f2_eq]; rfl
@[simp] theorem f2_refs (q : Rat) (k : Nat) : refsTo k (f2 q) = false := by rw [f2_eq]; rfl
@[simp] theorem f2_tok (q : Rat) (k : Nat) : tokB k (f2 q) = false := by rw [f2_eq]; rfl
@[simp] theorem fr_len {q : Rat} : (fr q).length = 3 := by simp [fr_eq]
@[simp] theorem fr_rf {q : Rat} : (fr q).all rf = true := by rw [fr_eq]; simp
@[simp] theorem fr_strip {q : Rat} : (fr q).map strip = fr q := by rw [fr_eq]; simp
@[simp] theorem fr_dg {q : Rat} {l : Nat} : (fr q).map (dg l) = fr q := by rw [fr_eq]; simp
@[simp] theorem fr_frz {q : Rat} {l : Nat} {e : Entry} : (fr q).map (frz l e) = fr q := by rw [fr_eq]; rfl
@[simp] theorem fr_rn {q : Rat} {a b : Nat} : (fr q).map (rn a b) = fr q := by rw [fr_eq]; rfl
@[simp] theorem fr_low {q : Rat} {M : Nat} : (fr q).all (Am.low M) = true := by rw [fr_eq]; rfl
@[simp] theorem fr_ref {q : Rat} {k : Nat} : anyRef k (fr q) = false := by rw [fr_eq]; simp
@[simp] theorem fr_tok {q : Rat} {k : Nat} : (fr q).any (tokB k) = false := by rw [fr_eq]; rfl
@[simp] theorem goLoad_fr {q : Rat} : goLoad (fr q) 0 (some 3) = some (fq q) := by
 rw [goLoad_all fr_len fr_rf, fr_strip]
@[simp] theorem splice_fr {q : Rat} {a b c : AV} : splice [a, b, c] 0 (fr q) = fr q := by rw [fr_eq]; simp [splice]
@[simp] theorem splice_frr {p q : Rat} : splice (fr p) 0 (fr q) = fr q := by simp [splice]
@[simp] theorem splice_tab {q : Rat} {a b c d e x y z g h : AV} : splice [a, b, c, d, e, x, y, z, g, h] 5 (fr q) = [a, b, c, d, e, f0 q, f1 q, f2 q, g, h] := by unfold fr; simp [splice, -fr_fold]
@[simp] theorem fr_drop {q : Rat} : (fr q).drop 3 = [] := by rw [fr_eq]; rfl
section
variable {K : Nat} {p q : Rat}
theorem fromInt_q {n : Int} (h1 : -9223372036854775808 ≤ n) (h2 : n < 9223372036854775808) : SoundCall Try.prog F_f_FromInt [iv n] (fq n) := by rw [← frac_fq]; exact fromInt_frac h1 h2
theorem sign_q : SoundCall Try.prog F_f_Sign [fq q] (iv (sgnR q)) := by rw [← frac_fq]; exact sign_frac
theorem fromInt_r {n : Int} (h1 : -9223372036854775808 ≤ n) (h2 : n < 9223372036854775808) : SoundCall Try.prog F_p_FromInt [iv n] (fq n) := by rw [← frac_fq]; exact fromInt_refq h1 h2
theorem sign_r : SoundCall Try.prog F_p_Sign [fq q] (iv (sgnR q)) := by rw [← frac_fq]; exact sign_refq
variable (hK : K ≤ 137438953472) (hp : sz K p) (hq : sz K q)
include hK hp
theorem neg_q : SoundCall Try.prog F_f_Neg [fq p] (fq (-p)) := by simp only [← frac_fq]; exact neg_frac hK hp
include hq
theorem mul_q : SoundCall Try.prog F_f_Mul [fq p, fq q] (fq (p * q)) := by simp only [← frac_fq]; exact mul_frac hK hp hq
theorem add_q : SoundCall Try.prog F_f_Add [fq p, fq q] (fq (p + q)) := by simp only [← frac_fq]; exact add_frac hK hp hq
theorem sub_q : SoundCall Try.prog F_f_Sub [fq p, fq q] (fq (p - q)) := by simp only [← frac_fq]; exact sub_frac hK hp hq
theorem mul_r : SoundCall Try.prog F_p_Mul [fq p, fq q] (fq (p * q)) := by simp only [← frac_fq]; exact mul_refq hK hp hq
theorem div_q (h : q ≠ 0) : SoundCall Try.prog F_f_Div [fq p, fq q] (.tuple [fq (p / q), iv 0]) := by simp only [← frac_fq]; exact div_frac hK hp hq h
theorem cmp_q : SoundCall Try.prog F_f_Cmp [fq p, fq q] (iv (cmpR p q)) := by simp only [← frac_fq]; exact cmp_frac hK hp hq
theorem cmp_r : SoundCall Try.prog F_p_Cmp [fq p, fq q] (iv (cmpR p q)) := by simp only [← frac_fq]; exact cmp_refq hK hp hq
end
noncomputable def fZ (f : Nat → Rat) (k n : Nat) : List (List AV) := (List.range n).map fun j => if j < k then fr (f j) else zz
noncomputable def fR (f : Nat → Rat) (n : Nat) : List (List AV) := (List.range n).map fun j => fr (f j)
noncomputable abbrev fL (f : Nat → Rat) (n : Nat) : AV := .list 3 .plain (fR f n)
@[simp] theorem fR_len {f : Nat → Rat} {n : Nat} : (fR f n).length = n := by simp [fR]
@[simp] theorem fZ_len {f : Nat → Rat} {k n : Nat} : (fZ f k n).length = n := by simp [fZ]
theorem fR_get {f : Nat → Rat} {n i : Nat} (h : i < n) : (fR f n)[i]? = some (fr (f i)) := by simp [fR, h]
theorem fZ_get {f : Nat → Rat} {k n i : Nat} (h : i < n) (hk : i < k) : (fZ f k n)[i]? = some (fr (f i)) := by simp [fZ, h, hk]
theorem fZ_get' {f : Nat → Rat} {k n i : Nat} (h : i < n) (hk : ¬ i < k) : (fZ f k n)[i]? = some zz := by simp [fZ, h, hk]
@[simp] theorem fR_getE {f : Nat → Rat} {n i : Nat} {h : i < (fR f n).length} : (fR f n)[i] = fr (f i) := by simp [fR]
@[simp] theorem fZ_getK {f : Nat → Rat} {n k : Nat} {h : k < (fZ f k n).length} : (fZ f k n)[k] = zz := by simp [fZ]
theorem fR_congr {f g : Nat → Rat} {n : Nat} (h : ∀ i, i < n → f i = g i) : fR f n = fR g n := by
 unfold fR
 exact List.map_congr_left fun i hi => by rw [h i (by simpa using hi)]
theorem fR_set {f : Nat → Rat} {n i : Nat} {x : Rat} : (fR f n).set i (fr x) = fR (upd f i x) n := by
 apply List.ext_getElem?
 intro j
 rw [List.getElem?_set]
 by_cases hij : i = j
 ·subst hij
  rw [if_pos rfl, fR_len]
  by_cases hi : i < n
  ·rw [if_pos hi, fR_get hi]; simp [upd]
  ·rw [if_neg hi]; simp [fR, hi]
 ·rw [if_neg hij]
  by_cases hj : j < n
  ·rw [fR_get hj, fR_get hj]; simp [upd, Ne.symm hij]
  ·simp [fR, hj]
theorem fZ_set {f : Nat → Rat} {k n : Nat} (hk : k < n) : (fZ f k n).set k (fr (f k)) = fZ f (k + 1) n := by
 apply List.ext_getElem?
 intro j
 rw [List.getElem?_set]
 by_cases hij : k = j
 ·subst hij
  rw [if_pos rfl, fZ_len, if_pos hk, fZ_get hk (by omega)]
 ·rw [if_neg hij]
  by_cases hj : j < n
  ·by_cases hjk : j < k
   ·rw [fZ_get hj hjk, fZ_get hj (by omega)]
   ·rw [fZ_get' hj hjk, fZ_get' hj (by omega)]
  ·simp [fZ, hj]
theorem fZ_zero {f : Nat → Rat} {n : Nat} : List.replicate n zz = fZ f 0 n := by
 apply List.ext_getElem?
 intro j
 by_cases h : j < n
 ·rw [fZ_get' h (by omega)]; simp [h]
 ·simp [fZ, h]
theorem fZ_full {f : Nat → Rat} {n : Nat} : fZ f n n = fR f n := by
 unfold fZ fR
 exact List.map_congr_left fun i hi => by rw [if_pos (by simpa using hi)]
theorem fR_succ {f : Nat → Rat} {n : Nat} : fR f (n + 1) = fR f n ++ [fr (f n)] := by simp [fR, List.range_succ]
theorem fR_all {f : Nat → Rat} {n : Nat} {g : List AV → Bool} (h : ∀ q, g (fr q) = true) : (fR f n).all g = true :=
 List.all_eq_true.2 fun r hr => by
  obtain ⟨j, _, rfl⟩ := List.mem_map.1 hr
  exact h _
theorem fR_map {f : Nat → Rat} {n : Nat} {g : List AV → List AV} (h : ∀ q, g (fr q) = fr q) : (fR f n).map g = fR f n :=
 map_self fun r hr => by
  obtain ⟨j, _, rfl⟩ := List.mem_map.1 hr
  exact h _
@[simp] theorem fR_rf {f : Nat → Rat} {n : Nat} : rowsRf (fR f n) = true := fR_all fun _ => fr_rf
@[simp] theorem fR_st {f : Nat → Rat} {n : Nat} : rowsSt (fR f n) = fR f n := fR_map fun _ => fr_strip
@[simp] theorem fR_dg {f : Nat → Rat} {n l : Nat} : rowsDg l (fR f n) = fR f n := fR_map fun _ => fr_dg
@[simp] theorem fR_frz {f : Nat → Rat} {n l : Nat} {e : Entry} : ((fR f n).map fun r => r.map (frz l e)) = fR f n := fR_map fun _ => fr_frz
@[simp] theorem fR_rn {f : Nat → Rat} {n a b : Nat} : ((fR f n).map fun r => r.map (rn a b)) = fR f n := fR_map fun _ => fr_rn
@[simp] theorem fR_low {f : Nat → Rat} {n M : Nat} : ((fR f n).all fun r => r.all (Am.low M)) = true := fR_all fun _ => fr_low
theorem anyRefR_all {k : Nat} : ∀ {rows : List (List AV)}, (∀ r ∈ rows, anyRef k r = false) → anyRefR k rows = false
 | [], _ => rfl
 | r :: rows, h => by simp [anyRefR, h r (by simp), anyRefR_all (rows := rows) fun r hr => h r (by simp [hr])]
@[simp] theorem fR_ref {f : Nat → Rat} {n k : Nat} : anyRefR k (fR f n) = false := anyRefR_all fun r hr => by
 obtain ⟨j, _, rfl⟩ := List.mem_map.1 hr
 exact fr_ref
@[simp] theorem fR_nil {f : Nat → Rat} {n : Nat} : (fR f n = []) = (n = 0) := by
 rw [← List.length_eq_zero_iff, fR_len]
@[simp] theorem fR_take {f : Nat → Rat} {n : Nat} : (fR f n).take n = fR f n := List.take_of_length_le (by simp)
@[simp] theorem fR_any {f : Nat → Rat} {n k : Nat} : ((fR f n).any fun r => r.any (tokB k)) = false :=
 List.any_eq_false.2 fun r hr => by
  obtain ⟨j, _, rfl⟩ := List.mem_map.1 hr
  simp
theorem sgnR_zero {q : Rat} : sgnR q = 0 ↔ q = 0 := by
 unfold sgnR; split
 ·simp [*]
 ·rename_i h; split <;> simp [h]
theorem sgnR_neg {q : Rat} : sgnR q < 0 ↔ q < 0 := by
 unfold sgnR; split
 ·rename_i h; subst h; simp
 ·split <;> simp [*]
theorem sgnR_pos {q : Rat} : 0 < sgnR q ↔ 0 < q := by
 unfold sgnR; split
 ·rename_i h; subst h; simp
 ·rename_i h
  split
  ·rename_i h2; simp; grind
  ·rename_i h2; simp; grind
theorem cmpR_lt {p q : Rat} : cmpR p q < 0 ↔ p < q := by
 unfold cmpR; split
 ·simp [*]
 ·split <;> simp [*]
theorem cmpR_gt {p q : Rat} : 0 < cmpR p q ↔ q < p := by
 unfold cmpR; split
 ·simp; grind
 ·split <;> simp [*]
theorem cmpR_eq0 {p q : Rat} : cmpR p q = 0 ↔ p = q := by
 unfold cmpR; split
 ·simp; grind
 ·split
  ·simp; grind
  ·simp; grind
end Go.Proofs.Ytdeifcfjkmfocaa

namespace Go.Proofs.Ytdeifcfjkmfocaa
open Go Go.Am Go.Dig Go.LP
def elm (l : Nat → Rat) (f : Rat) (c : Nat) (pr : Nat → Rat) (j : Nat) : Rat := (if j = c then 0 else l j) - f * pr j
noncomputable def stEl (l pr : Nat → Rat) (n c : Nat) (b pb f : Rat) (k : Nat) : St :=
 {env := [(2, iv c), (3, fL pr n), (6, .ptr 6 0), (9, .ptr 9 0), (11, .ptr 11 0), (12, .ptr 12 0), (13, .sl 27 3 0 n), (28, fL l n), (29, iv n), (30, iv k)],
  sto := [(6, .var (fr b)), (9, .var (fr pb)), (11, .var zz), (12, .var (fr f)), (27, .arr 3 (fZ (elm l f c pr) k n))] }
theorem eliminate_sound {n c K : Nat} {l pr : Nat → Rat} {b pb : Rat} (hn : n < 1000000) (hc : c < n) (hK : K ≤ 30000000000) (hl : ∀ j, j < n → sz K (l j)) (hp : ∀ j, j < n → sz K (pr j)) (hb : sz K b) (hpb : sz K pb) :
  SoundCall Try.prog F_s_eliminate [fL l n, fq b, iv c, fL pr n, fq pb] (.tuple [fL (elm l (l c) c pr) n, fq (b - l c * pb)]) := by
 obtain ⟨f, hf⟩ : ∃ f, l c = f := ⟨_, rfl⟩
 have szf : sz K f := by rw [← hf]; exact hl c hc
 rw [hf]
 have e0 : (c : Int) < n := by omega
 have ks := sign_q (q := f)
 have k1 := mul_q (by omega) szf hpb
 have k2 := sub_q (K := K + K) (by omega) (sz_mono hb (by omega)) (sz_mul szf hpb)
 refine sound' t_s_eliminate (by simp) ?_
 simp [c_s_eliminate, e0, hc, hf]
 refine eCall_i ks (by simp) (by simp) ?_
 by_cases h0 : f = 0
 ·have h1 : sgnR f = 0 := sgnR_zero.2 h0
  have h2 : fR (elm l f c pr) n = fR l n := fR_congr fun j hj => by
   unfold elm
   rw [h0]
   split
   ·rename_i e; subst e; rw [hf, h0]; grind
   ·grind
  have h3 : b - f * pb = b := by rw [h0]; grind
  simp [h1, r_s_eliminate, h2, h3]
 ·have h1 : ¬ sgnR f = 0 := fun h => h0 (sgnR_zero.1 h)
  simp [h1, eMk]
  refine ⟨by omega, by omega, ?_⟩
  rw [fZ_zero (f := elm l f c pr)]
  refine awp_forW (stEl l pr n c b pb f) (fun _ => True) n (by simp [stEl]) trivial (fun k hk _ => ?_) (fun _ => ?_)
  ·have e : (k : Int) < n := by omega
   have w := wrap_succ (k := k) (by omega)
   have hs := fZ_set (f := elm l f c pr) hk
   have g1 := mul_q (by omega) szf (hp k hk)
   have g2 := neg_q (K := K + K) (by omega) (sz_mul szf (hp k hk))
   have g3 := sign_q (q := pr k)
   have g4 := sub_q (K := K + K) (by omega) (sz_mono (hl k hk) (by omega)) (sz_mul szf (hp k hk))
   by_cases hkc : k = c
   ·subst hkc
    have ev : elm l f k pr k = -(f * pr k) := by unfold elm; rw [if_pos rfl]; grind
    rw [ev] at hs
    simp [c_s_eliminate_l0, stEl, e, hk]
    refine eCall_i g1 (by simp) (by simp) ?_
    simp
    refine eCall_i g2 (by simp) (by simp) ?_
    simp [hk, w, hs, stEl]
   ·have ec : ¬ (k : Int) = c := by omega
    have ev : elm l f c pr k = l k - f * pr k := by unfold elm; rw [if_neg hkc]
    rw [ev] at hs
    simp [c_s_eliminate_l0, stEl, e, hk, ec]
    refine eCall_i g3 (by simp) (by simp) ?_
    by_cases hz : pr k = 0
    ·have z1 : sgnR (pr k) = 0 := sgnR_zero.2 hz
     have z2 : l k - f * pr k = l k := by rw [hz]; grind
     rw [z2] at hs
     simp [z1, hk, w, hs, stEl]
    ·have z1 : ¬ sgnR (pr k) = 0 := fun h => hz (sgnR_zero.1 h)
     simp [z1, hk]
     refine eCall_i g1 (by simp) (by simp) ?_
     simp
     refine eCall_i g4 (by simp) (by simp) ?_
     simp [hk, w, hs, stEl]
  ·simp [c_s_eliminate_l0, c_s_eliminate_k1, r_s_eliminate, stEl, fZ_full]
   refine eCall_i k1 (by simp) (by simp) ?_
   simp
   refine eCall_i k2 (by simp) (by simp) ?_
   simp
end Go.Proofs.Ytdeifcfjkmfocaa

namespace Go.Proofs.Ytdeifcfjkmfocaa
open Go Go.Am Go.Dig Go.LP
def mR (g : Nat → List AV) (n : Nat) : List (List AV) := (List.range n).map g
section
variable {g h : Nat → List AV} {n i : Nat}
@[simp] theorem mR_len : (mR g n).length = n := by simp [mR]
theorem mR_get (hi : i < n) : (mR g n)[i]? = some (g i) := by simp [mR, hi]
@[simp] theorem mR_getE {hi : i < (mR g n).length} : (mR g n)[i] = g i := by simp [mR]
theorem mR_congr (e : ∀ i, i < n → g i = h i) : mR g n = mR h n := List.map_congr_left fun i hi => e i (by simpa using hi)
theorem mR_set {x : List AV} : (mR g n).set i x = mR (upd g i x) n := by
 apply List.ext_getElem?
 intro j
 rw [List.getElem?_set]
 by_cases hij : i = j
 ·subst hij
  rw [if_pos rfl, mR_len]
  by_cases hi : i < n
  ·rw [if_pos hi, mR_get hi]; simp [upd]
  ·rw [if_neg hi]; simp [mR, hi]
 ·rw [if_neg hij]
  by_cases hj : j < n
  ·rw [mR_get hj, mR_get hj]; simp [upd, Ne.symm hij]
  ·simp [mR, hj]
theorem mR_succ : mR g (n + 1) = mR g n ++ [g n] := by simp [mR, List.range_succ]
theorem mR_all {f : List AV → Bool} (h : ∀ i, f (g i) = true) : (mR g n).all f = true :=
 List.all_eq_true.2 fun r hr => by
  obtain ⟨j, _, rfl⟩ := List.mem_map.1 hr
  exact h _
theorem mR_map {f : List AV → List AV} (h : ∀ i, f (g i) = g i) : (mR g n).map f = mR g n :=
 map_self fun r hr => by
  obtain ⟨j, _, rfl⟩ := List.mem_map.1 hr
  exact h _
theorem mR_ref {k : Nat} (h : ∀ i, anyRef k (g i) = false) : anyRefR k (mR g n) = false := anyRefR_all fun r hr => by
 obtain ⟨j, _, rfl⟩ := List.mem_map.1 hr
 exact h _
end
def nR (f : Nat → Nat) (n : Nat) : List (List AV) := mR (fun i => [iv (f i)]) n
noncomputable def cR (a : Nat → Nat → Rat) (cl : Nat → Nat) (n : Nat) : List (List AV) := mR (fun i => [fL (a i) (cl i)]) n
section
variable {f : Nat → Nat} {a : Nat → Nat → Rat} {cl : Nat → Nat} {n i k : Nat} {e : Entry}
@[simp] theorem nR_len : (nR f n).length = n := mR_len
@[simp] theorem cR_len : (cR a cl n).length = n := mR_len
@[simp] theorem nR_getE {hi : i < (nR f n).length} : (nR f n)[i] = [iv (f i)] := mR_getE
@[simp] theorem cR_getE {hi : i < (cR a cl n).length} : (cR a cl n)[i] = [fL (a i) (cl i)] := mR_getE
theorem nR_set {x : Nat} : (nR f n).set i [iv x] = nR (upd f i x) n := by
 unfold nR
 rw [mR_set]
 exact mR_congr fun j _ => by unfold upd; split <;> rfl
theorem cR_set {x : Nat → Rat} {l : Nat} : (cR a cl n).set i [fL x l] = cR (upd a i x) (upd cl i l) n := by
 unfold cR
 rw [mR_set]
 exact mR_congr fun j _ => by unfold upd; split <;> rfl
theorem cR_congr {a' : Nat → Nat → Rat} {cl' : Nat → Nat} (h : ∀ i, i < n → cl i = cl' i ∧ ∀ j, j < cl i → a i j = a' i j) : cR a cl n = cR a' cl' n :=
 mR_congr fun i hi => by
  obtain ⟨h1, h2⟩ := h i hi
  rw [← h1, show fL (a i) (cl i) = fL (a' i) (cl i) from congrArg _ (fR_congr h2)]
@[simp] theorem nR_frz : ((nR f n).map fun r => r.map (frz k e)) = nR f n := mR_map fun _ => rfl
@[simp] theorem cR_frz : ((cR a cl n).map fun r => r.map (frz k e)) = cR a cl n := mR_map fun _ => by simp
@[simp] theorem nR_dg : rowsDg k (nR f n) = nR f n := mR_map fun _ => by simp
@[simp] theorem cR_dg : rowsDg k (cR a cl n) = cR a cl n := mR_map fun _ => by simp
@[simp] theorem nR_ref : anyRefR k (nR f n) = false := mR_ref fun _ => by simp
@[simp] theorem cR_ref : anyRefR k (cR a cl n) = false := mR_ref fun _ => by simp
@[simp] theorem nR_rf : rowsRf (nR f n) = true := mR_all fun _ => by simp
@[simp] theorem cR_rf : rowsRf (cR a cl n) = true := mR_all fun _ => by simp
@[simp] theorem nR_st : rowsSt (nR f n) = nR f n := mR_map fun _ => by simp
@[simp] theorem cR_st : rowsSt (cR a cl n) = cR a cl n := mR_map fun _ => by simp
end
end Go.Proofs.Ytdeifcfjkmfocaa

namespace Go.Proofs.Ytdeifcfjkmfocaa
open Go Go.Am Go.Dig Go.LP
def rest (ρ : List (Nat × Entry)) : Prop := ∀ p ∈ ρ, (p.1 < 1000 ∨ (3000 ≤ p.1 ∧ p.1 < 4000)) ∧ lowE 1000 p.2 = true
def far (k : Nat) : Bool := decide ((1000 ≤ k ∧ k < 3000) ∨ 4000 ≤ k)
section
variable {ρ : List (Nat × Entry)} {l : List (Nat × Entry)} {k : Nat} {e : Entry}
theorem rest_lk (h : rest ρ) (hk : far k = true) : lk ρ k = none := by
 have hk : (1000 ≤ k ∧ k < 3000) ∨ 4000 ≤ k := of_decide_eq_true hk
 cases hl : lk ρ k with
 | none => rfl
 | some e => have := (h _ (lk_mem hl)).1; simp at this; omega
theorem lk_app {_l' : List (Nat × Entry)} (h : lk ρ k = none) : lk (ρ ++ l) k = lk l k := by
 induction ρ with
 | nil => rfl
 | cons p ρ ih =>
  obtain ⟨m, x⟩ := p
  simp only [lk, List.cons_append] at h ⊢
  split at h
  ·cases h
  ·rename_i hne; rw [if_neg hne]; exact ih h
theorem rlk (h : rest ρ) (hk : far k = true) : lk (ρ ++ l) k = lk l k := lk_app (_l' := []) (rest_lk h hk)
theorem rpt (h : rest ρ) (hk : far k = true) : pt (ρ ++ l) k e = ρ ++ pt l k e := by
 have := rest_lk h hk
 clear h
 induction ρ with
 | nil => rfl
 | cons p ρ ih =>
  obtain ⟨m, x⟩ := p
  simp only [lk] at this
  split at this
  ·cases this
  ·rename_i hne; simp only [List.cons_append, pt]; rw [if_neg hne, ih this]
theorem del_app {D : List Nat} : del D (ρ ++ l) = del D ρ ++ del D l := by
 induction ρ with
 | nil => rfl
 | cons p ρ ih =>
  obtain ⟨m, x⟩ := p
  simp only [List.cons_append, del]
  split
  ·exact ih
  ·rw [ih]; rfl
theorem rdel0 {D : List Nat} (h : rest ρ) (hD : D.all far = true) : del D ρ = ρ := by
 induction ρ with
 | nil => rfl
 | cons p ρ ih =>
  obtain ⟨m, x⟩ := p
  simp only [del]
  have h1 := (h (m, x) (by simp)).1
  have : D.elem m = false := by
   cases hc : D.elem m with
   | false => rfl
   | true => have := List.all_eq_true.1 hD m (by simpa using hc); simp [far] at this h1; omega
  rw [this, ih fun p hp => h p (by simp [hp])]; rfl
theorem rdel {D : List Nat} (h : rest ρ) (hD : D.all far = true) : del D (ρ ++ l) = ρ ++ del D l := by rw [del_app, rdel0 h hD]
theorem rest_low (h : rest ρ) (hk : 1000 ≤ k) : noRefS k ρ = true := by
 induction ρ with
 | nil => rfl
 | cons p ρ ih =>
  obtain ⟨m, x⟩ := p
  have h1 := (h (m, x) (by simp)).2
  simp only [noRefS, lowE_refs hk h1, ih fun p hp => h p (by simp [hp])]; rfl
theorem noRefS_app : noRefS k (ρ ++ l) = (noRefS k ρ && noRefS k l) := by
 induction ρ with
 | nil => rfl
 | cons p ρ ih =>
  obtain ⟨m, x⟩ := p
  simp only [List.cons_append, noRefS, ih, Bool.and_assoc]
theorem rnoRef (h : rest ρ) (hk : 1000 ≤ k) : noRefS k (ρ ++ l) = noRefS k l := by rw [noRefS_app, rest_low h hk]; rfl
theorem rfrz {e0 : Entry} (h : rest ρ) (hk : 1000 ≤ k) : ((ρ ++ l).map fun p => (p.1, frzE k e0 p.2)) = ρ ++ l.map fun p => (p.1, frzE k e0 p.2) := by
 rw [List.map_append]
 congr 1
 exact map_self fun p hp => by rw [lowE_frz hk (h p hp).2]
theorem frzE_var {c : List AV} : frzE k e (.var c) = .var (c.map (frz k e)) := rfl
theorem frzE_uarr {n : Nat} {r : List (List AV)} : frzE k e (.uarr n r) = .uarr n (r.map fun r => r.map (frz k e)) := rfl
theorem rdg0 (h : rest ρ) (hk : 1000 ≤ k) : (ρ.map fun p => (p.1, dgE k p.2)) = ρ := map_self fun p hp => by rw [lowE_dg hk (h p hp).2]
end
theorem eno {k : Nat} {f : List (Nat × AV)} (h : lowF 2000 f) (hk : 2000 ≤ k) : noRef k f = true := lowF_noRef hk h
theorem ono {k : Nat} {f : List (List (Nat × AV))} (h : lowO 2000 f) (hk : 2000 ≤ k) : noRefO k f = true := lowO_noRef hk h
theorem efrz {k : Nat} {e : Entry} {f : List (Nat × AV)} (h : lowF 2000 f) (hk : 2000 ≤ k) : (f.map fun p => (p.1, frz k e p.2)) = f := lowF_frz hk h
theorem ofrz {k : Nat} {e : Entry} {f : List (List (Nat × AV))} (h : lowO 2000 f) (hk : 2000 ≤ k) : (f.map fun f => f.map fun p => (p.1, frz k e p.2)) = f := lowO_frz hk h
theorem edg {k : Nat} {f : List (Nat × AV)} (h : lowF 2000 f) (hk : 2000 ≤ k) : (f.map fun p => (p.1, dg k p.2)) = f := lowF_dg hk h
theorem odg {k : Nat} {f : List (List (Nat × AV))} (h : lowO 2000 f) (hk : 2000 ≤ k) : (f.map fun f => f.map fun p => (p.1, dg k p.2)) = f := lowO_dg hk h
noncomputable abbrev tC (n m : Nat) (d : Dict) : List AV := [iv n, iv m, .us 1961 1 0 m, .us 1972 3 0 m, fL d.cst d.c, f0 d.v, f1 d.v, f2 d.v, .us 1987 1 0 m, .us 2029 1 0 d.c]
noncomputable def tL (n m : Nat) (d : Dict) : List (Nat × Entry) :=
 [(1015, .var (tC n m d)), (1961, .uarr 1 (cR d.a (fun _ => d.c) m)), (1972, .uarr 3 (fR d.b m)), (1987, .uarr 1 (nR d.bas m)), (2029, .uarr 1 (nR d.fre d.c))]
@[simp] theorem goLoad_tab {q : Rat} {a b c d e g h : AV} : goLoad [a, b, c, d, e, f0 q, f1 q, f2 q, g, h] 5 (some 3) = some (fq q) := by
 simp [goLoad]
def entE (d : Dict) : Nat → Int
 | 0 => -1
 | k + 1 => if 0 < d.cst k ∧ (entE d k < 0 ∨ d.fre k < d.fre (entE d k).toNat) then k else entE d k
theorem entE_lt (d : Dict) : ∀ k, -1 ≤ entE d k ∧ entE d k < k
 | 0 => by simp [entE]
 | k + 1 => by have := entE_lt d k; simp only [entE]; split <;> omega
noncomputable def stEn (n m : Nat) (d : Dict) (ρ : List (Nat × Entry)) (out : List (List (Nat × AV))) (k : Nat) : St :=
 {env := [(0, .ptr 1015 0), (3, iv (entE d k)), (9, .us 2029 1 0 d.c), (10, iv d.c), (11, iv k)], sto := ρ ++ tL n m d, out := out, base := 5000 }
theorem enteringI {n m : Nat} {d : Dict} {ρ : List (Nat × Entry)} {s : St} {K : AV → St → Prop} (hs : s.sto = ρ ++ tL n m d) (hρ : rest ρ) (hc : d.c < 1000000) (h : K (iv (entE d d.c)) s) :
  CallI Try.prog F__tb_entering [.ptr 1015 0] s K := by
 obtain ⟨env, σ, out, base⟩ := s
 simp only at hs
 subst hs
 refine soundI' 5000 t__tb_entering (by simp) ?_
 simp [c__tb_entering, tL, rlk hρ, far]
 refine awp_forW (stEn n m d ρ (env :: out)) (fun _ => True) d.c (by simp [stEn, tL, entE]) trivial (fun k hk _ => ?_) (fun _ => ?_)
 ·have e : (k : Int) < d.c := by omega
  have w := wrap_succ (k := k) (by omega)
  have g3 := sign_q (q := d.cst k)
  obtain ⟨b1, b2⟩ := entE_lt d k
  simp [c__tb_entering_l0, stEn, tL, e, hk, rlk hρ, far]
  refine eCall_i g3 (by simp) (by simp) ?_
  by_cases h0 : 0 < d.cst k
  ·have h0' : 0 < sgnR (d.cst k) := sgnR_pos.2 h0
   by_cases h1 : entE d k < 0
   ·have ev : entE d (k + 1) = k := by simp only [entE]; rw [if_pos ⟨h0, .inl h1⟩]
    simp [h0', h1, w, stEn, ev, tL]
   ·have b3 : (entE d k).toNat < d.c := by omega
    have b4 : (0 : Int) ≤ entE d k := by omega
    have b5 : entE d k < d.c := by omega
    by_cases h2 : d.fre k < d.fre (entE d k).toNat
    ·have ev : entE d (k + 1) = k := by simp only [entE]; rw [if_pos ⟨h0, .inr h2⟩]
     simp [h0', h1, h2, b3, b4, b5, w, stEn, ev, tL, rlk hρ, far]
    ·have ev : entE d (k + 1) = entE d k := by simp only [entE]; rw [if_neg fun h => h.2.elim h1 h2]
     simp [h0', h1, h2, b3, b4, b5, w, stEn, ev, tL, rlk hρ, far]
  ·have h0' : ¬ 0 < sgnR (d.cst k) := fun h => h0 (sgnR_pos.1 h)
   have ev : entE d (k + 1) = entE d k := by simp only [entE]; rw [if_neg fun h => h0 h.1]
   simp [h0', w, stEn, ev, tL]
 ·simp [c__tb_entering_l0, c__tb_entering_k1, r__tb_entering, stEn]
  exact h
end Go.Proofs.Ytdeifcfjkmfocaa

namespace Go.Proofs.Ytdeifcfjkmfocaa
open Go Go.Am Go.Dig Go.LP
def rat (d : Dict) (q i : Nat) : Rat := d.b i / d.a i q
def leaE (d : Dict) (q : Nat) : Nat → Int
 | 0 => -1
 | k + 1 => if 0 < d.a k q ∧ (leaE d q k < 0 ∨ rat d q k < rat d q (leaE d q k).toNat ∨ (rat d q k = rat d q (leaE d q k).toNat ∧ d.bas k ≤ d.bas (leaE d q k).toNat)) then k else leaE d q k
theorem leaE_lt (d : Dict) (q : Nat) : ∀ k, -1 ≤ leaE d q k ∧ leaE d q k < k
 | 0 => by simp [leaE]
 | k + 1 => by have := leaE_lt d q k; simp only [leaE]; split <;> omega
noncomputable def lst (d : Dict) (q k : Nat) : List AV := if leaE d q k < 0 then zz else fr (rat d q (leaE d q k).toNat)
@[simp] theorem lst_ref {d : Dict} {q k j : Nat} : anyRef j (lst d q k) = false := by unfold lst; split <;> simp
noncomputable def stLe (n m : Nat) (d : Dict) (q : Nat) (ρ : List (Nat × Entry)) (out : List (List (Nat × AV))) (k : Nat) : St :=
 {env := [(0, .ptr 1015 0), (1, iv q), (5, iv (leaE d q k)), (6, .ptr 5006 0), (15, .us 1961 1 0 m), (16, iv m), (17, iv k)], sto := ρ ++ (tL n m d ++ [(5006, .var (lst d q k))]), out := out, base := 5000 }
theorem sz_div {K L : Nat} {a b : Rat} (ha : sz K a) (hb : sz L b) : sz (K + L) (a / b) := by
 rw [show a / b = a * (1 / b) by grind]
 exact sz_mul ha (sz_inv hb)
theorem leavingI {n m q L : Nat} {d : Dict} {ρ : List (Nat × Entry)} {s : St} {K : AV → St → Prop} (hs : s.sto = ρ ++ tL n m d) (hρ : rest ρ) (hE : lowF 2000 s.env) (hO : lowO 2000 s.out) (hm : m < 1000000) (hq : q < d.c)
  (hL : L ≤ 30000000000) (ha : ∀ i, i < m → sz L (d.a i q)) (hb : ∀ i, i < m → sz L (d.b i)) (h : K (iv (leaE d q m)) s) :
  CallI Try.prog F__tb_leaving [.ptr 1015 0, iv q] s K := by
 obtain ⟨env, σ, out, base⟩ := s
 simp only at hs hE hO
 subst hs
 refine soundI' 5000 t__tb_leaving (by simp) ?_
 simp [c__tb_leaving, tL, rlk hρ, rpt hρ, far]
 refine awp_forW (stLe n m d q ρ (env :: out)) (fun _ => True) m (by simp [stLe, tL, leaE, lst]) trivial (fun k hk _ => ?_) (fun _ => ?_)
 ·have e : (k : Int) < m := by omega
  have eq : (q : Int) < d.c := by omega
  have w := wrap_succ (k := k) (by omega)
  obtain ⟨r1, hr1⟩ : ∃ r, r = rat d q k := ⟨_, rfl⟩
  obtain ⟨r2, hr2⟩ : ∃ r, r = rat d q (leaE d q k).toNat := ⟨_, rfl⟩
  have g1 := sign_q (q := d.a k q)
  have g2 : d.a k q ≠ 0 → SoundCall Try.prog F_f_Div [fq (d.b k), fq (d.a k q)] (.tuple [fq r1, iv 0]) := fun h => by rw [hr1]; exact div_q (by omega) (hb k hk) (ha k hk) h
  obtain ⟨b1, b2⟩ := leaE_lt d q k
  have z1 : sz (L + L) r1 := by rw [hr1]; exact sz_div (hb k hk) (ha k hk)
  have z2 : 0 ≤ leaE d q k → sz (L + L) r2 := fun h => by rw [hr2]; exact sz_div (hb _ (by omega)) (ha _ (by omega))
  simp [c__tb_leaving_l0, stLe, tL, e, hk, rlk hρ, far, eq, hq]
  refine eCall_i g1 (by simp) (by simp) ?_
  by_cases h0 : 0 < d.a k q
  ·have h0' : ¬ sgnR (d.a k q) ≤ 0 := by have := sgnR_pos.2 h0; omega
   have h00 : d.a k q ≠ 0 := by grind
   simp [h0', rlk hρ, far, e, eq, hk, hq]
   refine eCall_i (g2 h00) (by simp) (by simp) ?_
   by_cases h1 : leaE d q k < 0
   ·have ev : leaE d q (k + 1) = k := by simp only [leaE]; rw [if_pos ⟨h0, .inl h1⟩]
    have ev1 : lst d q k = zz := by unfold lst; rw [if_pos h1]
    have ev2 : lst d q (k + 1) = fr r1 := by unfold lst; rw [ev, if_neg (by omega), hr1]; rfl
    have h1' : ¬ 0 ≤ leaE d q k := by omega
    simp [h1', rlk hρ, rpt hρ, rdel hρ, rnoRef hρ, eno hE, ono hO, far, stLe, tL, ev, ev1, ev2, w]
   ·have h1' : 0 ≤ leaE d q k := by omega
    have b3 : (leaE d q k).toNat < m := by omega
    have b5 : leaE d q k < m := by omega
    have ev1 : lst d q k = fr r2 := by unfold lst; rw [if_neg h1, hr2]
    have g3 := cmp_q (by omega) z1 (z2 h1')
    simp [h1', rlk hρ, rpt hρ, far, ev1]
    refine eCall_i g3 (by simp) (by simp) ?_
    by_cases c1 : r1 < r2
    ·have ev : leaE d q (k + 1) = k := by simp only [leaE]; rw [if_pos ⟨h0, .inr (.inl (by rw [← hr1, ← hr2]; exact c1))⟩]
     have ev2 : lst d q (k + 1) = fr r1 := by unfold lst; rw [ev, if_neg (by omega), hr1]; rfl
     have k1 : ¬ 0 < cmpR r1 r2 := by have := cmpR_lt.2 c1; omega
     have k2 : ¬ cmpR r1 r2 = 0 := by have := cmpR_lt.2 c1; omega
     simp [k1, k2, rlk hρ, rpt hρ, rdel hρ, rnoRef hρ, eno hE, ono hO, far, stLe, tL, ev, ev2, w]
    ·by_cases c2 : r1 = r2
     ·have k2 : cmpR r1 r2 = 0 := cmpR_eq0.2 c2
      have k1 : ¬ 0 < cmpR r1 r2 := by omega
      by_cases c3 : d.bas k ≤ d.bas (leaE d q k).toNat
      ·have ev : leaE d q (k + 1) = k := by simp only [leaE]; rw [if_pos ⟨h0, .inr (.inr ⟨by rw [← hr1, ← hr2]; exact c2, c3⟩)⟩]
       have ev2 : lst d q (k + 1) = fr r1 := by unfold lst; rw [ev, if_neg (by omega), hr1]; rfl
       have c3' : ¬ d.bas (leaE d q k).toNat < d.bas k := by omega
       simp [k2, c3', hk, e, b3, b5, h1', rlk hρ, rpt hρ, rdel hρ, rnoRef hρ, eno hE, ono hO, far, stLe, tL, ev, ev2, w]
      ·have ev : leaE d q (k + 1) = leaE d q k := by simp only [leaE]; rw [if_neg]; rw [← hr1, ← hr2]; simp [h1, c1, c3]
       have ev2 : lst d q (k + 1) = fr r2 := by unfold lst; rw [ev, if_neg (by omega), hr2]
       have c3' : d.bas (leaE d q k).toNat < d.bas k := by omega
       simp [k2, c3', hk, e, b3, b5, h1', rlk hρ, rdel hρ, rnoRef hρ, eno hE, ono hO, far, stLe, tL, ev, ev2, w]
     ·have ev : leaE d q (k + 1) = leaE d q k := by simp only [leaE]; rw [if_neg]; rw [← hr1, ← hr2]; simp [h1, c1, c2]
      have ev2 : lst d q (k + 1) = fr r2 := by unfold lst; rw [ev, if_neg (by omega), hr2]
      have k1 : 0 < cmpR r1 r2 := cmpR_gt.2 (by grind)
      simp [k1, rlk hρ, rdel hρ, rnoRef hρ, eno hE, ono hO, far, stLe, tL, ev, ev2, w]
  ·have h0' : sgnR (d.a k q) ≤ 0 := Int.not_lt.1 fun h => h0 (sgnR_pos.1 h)
   have ev : leaE d q (k + 1) = leaE d q k := by simp only [leaE]; rw [if_neg fun h => h0 h.1]
   have ev2 : lst d q (k + 1) = lst d q k := by unfold lst; rw [ev]
   simp [h0', w, stLe, ev, ev2, tL, rlk hρ, rdel hρ, rnoRef hρ, eno hE, ono hO, far]
 ·simp [c__tb_leaving_l0, c__tb_leaving_k1, r__tb_leaving, stLe, tL, rdel hρ, far, rnoRef hρ, eno hE, ono hO]
  exact h
end Go.Proofs.Ytdeifcfjkmfocaa

namespace Go.Proofs.Ytdeifcfjkmfocaa
open Go Go.Am Go.Dig Go.LP
def prow (d : Dict) (p q : Nat) : Nat → Rat := upd (fun j => d.a p j * (1 / d.a p q)) q (1 / d.a p q)
def pkD (d : Dict) (p q k : Nat) : Dict :=
 {d with a := fun i => if i < k ∧ i ≠ p then elm (d.a i) (d.a i q) q (prow d p q) else d.a i, b := fun i => if i < k ∧ i ≠ p then d.b i - d.a i q * (d.b p * (1 / d.a p q)) else d.b i }
theorem pkD_zero {d : Dict} {p q : Nat} : pkD d p q 0 = d := by simp [pkD]
theorem pkD_skip {d : Dict} {p q : Nat} : pkD d p q (p + 1) = pkD d p q p := by
 simp only [pkD, Dict.mk.injEq, true_and, and_true]
 constructor
 ·funext i; by_cases h : i < p
  ·rw [if_pos ⟨by omega, by omega⟩, if_pos ⟨h, by omega⟩]
  ·rw [if_neg (by omega), if_neg (by omega)]
 ·funext i; by_cases h : i < p
  ·rw [if_pos ⟨by omega, by omega⟩, if_pos ⟨h, by omega⟩]
  ·rw [if_neg (by omega), if_neg (by omega)]
theorem pivot_a {d : Dict} {p q i : Nat} (hi : i < d.r) : (pivot d p q).a i = (upd (pkD d p q d.r).a p (prow d p q)) i := by
 funext j
 simp only [pivot, upd, pkD]
 by_cases h : i = p
 ·subst h; simp only [if_true, prow, upd]
 ·simp only [h, hi, if_false, if_true, ne_eq, not_false_eq_true, and_self, elm, prow, upd]
  split <;> grind
theorem pivot_b {d : Dict} {p q i : Nat} (hi : i < d.r) : (pivot d p q).b i = (upd (pkD d p q d.r).b p (d.b p * (1 / d.a p q))) i := by
 simp only [pivot, upd, pkD]
 by_cases h : i = p
 ·subst h; simp only [if_true]
 ·simp only [h, hi, if_false, if_true, ne_eq, not_false_eq_true, and_self]
section
variable {d : Dict} {p q k : Nat}
@[simp] theorem pkD_c : (pkD d p q k).c = d.c := rfl
@[simp] theorem pkD_r : (pkD d p q k).r = d.r := rfl
@[simp] theorem pkD_cst : (pkD d p q k).cst = d.cst := rfl
@[simp] theorem pkD_v : (pkD d p q k).v = d.v := rfl
@[simp] theorem pkD_bas : (pkD d p q k).bas = d.bas := rfl
@[simp] theorem pkD_fre : (pkD d p q k).fre = d.fre := rfl
theorem pivot_cst : (pivot d p q).cst = elm d.cst (d.cst q) q (prow d p q) := by
 funext j
 simp only [pivot, elm, prow, upd]
 split <;> grind
end
noncomputable def stP0 (n m : Nat) (d : Dict) (p q : Nat) (v : Rat) (f : Nat → Rat) (ρ : List (Nat × Entry)) (out : List (List (Nat × AV))) (k : Nat) : St :=
 {env := [(0, .ptr 1015 0), (1, iv p), (2, iv q), (6, .ptr 5006 0), (8, .sl 5034 3 0 d.c), (41, fL (d.a p) d.c), (42, iv d.c), (43, iv k)],
  sto := ρ ++ (tL n m d ++ [(5006, .var (fr v)), (5034, .arr 3 (fZ f k d.c))]), out := out, base := 5000 }
noncomputable def stP1 (n m : Nat) (d : Dict) (p q : Nat) (v : Rat) (f : Nat → Rat) (ρ : List (Nat × Entry)) (out : List (List (Nat × AV))) (k : Nat) : St :=
 {env := [(0, .ptr 1015 0), (1, iv p), (2, iv q), (8, fL f d.c), (11, .ptr 5011 0), (72, iv m), (73, iv k)],
  sto := ρ ++ (tL n m (pkD d p q k) ++ [(5011, .var (fr v))]), out := out, base := 5000 }
theorem pivotI {n m p q L : Nat} {d : Dict} {ρ : List (Nat × Entry)} {s : St} {K : AV → St → Prop} (hs : s.sto = ρ ++ tL n m d) (hρ : rest ρ) (hE : lowF 2000 s.env) (hO : lowO 2000 s.out) (hm : m < 1000000) (hc : d.c < 1000000) (hr : d.r = m) (hp : p < m) (hq : q < d.c)
  (hL : L ≤ 10000000000) (hsz : szD L d) (ha0 : d.a p q ≠ 0) (h : K (.tuple []) ⟨s.env, ρ ++ tL n m (pivot d p q), s.out, s.base⟩) :
  CallI Try.prog F__tb_pivot [.ptr 1015 0, iv p, iv q] s K := by
 obtain ⟨env, σ, out, base⟩ := s
 simp only at hs hE hO h
 subst hs
 have ep : (p : Int) < m := by omega
 have eq : (q : Int) < d.c := by omega
 have sa : ∀ i j, i < m → j < d.c → sz L (d.a i j) := fun i j h1 h2 => hsz.a i j (by omega) h2
 have sb : ∀ i, i < m → sz L (d.b i) := fun i h1 => hsz.b i (by omega)
 obtain ⟨inv, hinv⟩ : ∃ x, 1 / d.a p q = x := ⟨_, rfl⟩
 have sinv : sz L inv := by rw [← hinv]; exact sz_inv (sa p q hp hq)
 have one : sz L 1 := by
  have : 1 ≤ 2 ^ L := Nat.one_le_two_pow
  exact ⟨this, this⟩
 have g1 : SoundCall Try.prog F_f_FromInt [iv 1] (fq 1) := fromInt_q (n := 1) (by decide) (by decide)
 have g2 := div_q (by omega) one (sa p q hp hq) ha0
 rw [hinv] at g2
 have g3 := mul_q (by omega) (sb p hp) sinv
 obtain ⟨bnd, hbnd⟩ : ∃ x, d.b p * inv = x := ⟨_, rfl⟩
 have sbnd : sz (L + L) bnd := by rw [← hbnd]; exact sz_mul (sb p hp) sinv
 rw [hbnd] at g3
 refine soundI' 5000 t__tb_pivot (by simp) ?_
 simp [c__tb_pivot, tL, rlk hρ, far]
 refine eCall_i g1 (by simp) (by simp) ?_
 simp [rlk hρ, far, ep, eq, hp, hq]
 refine eCall_i g2 (by simp) (by simp) ?_
 simp [rlk hρ, rpt hρ, far, ep, hp, eMk]
 refine ⟨by omega, by omega, ?_⟩
 rw [fZ_zero (f := fun j => d.a p j * inv)]
 refine awp_forW (stP0 n m d p q inv (fun j => d.a p j * inv) ρ (env :: out)) (fun _ => True) d.c (by simp [stP0, tL]) trivial (fun k hk _ => ?_) (fun _ => ?_)
 ·have e : (k : Int) < d.c := by omega
  have w := wrap_succ (k := k) (by omega)
  have f1 := mul_q (by omega) (sa p k hp hk) sinv
  have hset := fZ_set (f := fun j => d.a p j * inv) hk
  simp [c__tb_pivot_l0, stP0, tL, e, hk, tL, rlk hρ, rpt hρ, far]
  refine eCall_i f1 (by simp) (by simp) ?_
  simp [hk, w, hset, stP0, tL, rlk hρ, rpt hρ, rdel hρ, rnoRef hρ, eno hE, ono hO, far]
 ·have hprow : upd (fun j => d.a p j * inv) q inv = prow d p q := by unfold prow; rw [hinv]
  have hset : (fR (fun j => d.a p j * inv) d.c).set q (fr inv) = fR (prow d p q) d.c := by rw [fR_set, hprow]
  have spr : ∀ j, j < d.c → sz (L + L) (prow d p q j) := fun j hj => by
   rw [← hprow]; unfold upd; split
   ·exact sz_mono sinv (by omega)
   ·exact sz_mul (sa p j hp hj) sinv
  generalize hpr : prow d p q = pr at *
  simp [c__tb_pivot_l0, stP0, tL, rlk hρ, rpt hρ, rdel hρ, rnoRef hρ, eno hE, ono hO, rfrz hρ, efrz hE, ofrz hO, far, fZ_full, c__tb_pivot_k3, hq, eq, ep, hp, hset, eFreeze, frzE_var, frzE_uarr, frz_plain, frz_us]
  refine eCall_i g3 (by simp) (by simp) ?_
  simp [rlk hρ, rpt hρ, rdel hρ, rnoRef hρ, eno hE, ono hO, far]
  refine awp_forW (stP1 n m d p q bnd pr ρ (env :: out)) (fun _ => True) m (by simp [stP1, tL, pkD_zero]) trivial (fun k hk _ => ?_) (fun _ => ?_)
  ·have e : (k : Int) < m := by omega
   have w := wrap_succ (k := k) (by omega)
   have pa : (pkD d p q k).a k = d.a k := by simp [pkD]
   have pb : (pkD d p q k).b k = d.b k := by simp [pkD]
   have pc : (pkD d p q k).c = d.c := rfl
   by_cases hkp : k = p
   ·subst hkp
    simp [c__tb_pivot_l1, stP1, tL, e, w, pkD_skip]
   ·have ek : ¬ (k : Int) = p := by omega
    have f1 := eliminate_sound (K := L + L) (pb := bnd) hc hq (by omega) (fun j hj => sz_mono (sa k j hk hj) (by omega)) spr (sz_mono (sb k hk) (by omega)) sbnd
    simp [c__tb_pivot_l1, stP1, tL, rlk hρ, far, e, hk, ek, pa, pb]
    refine eCall_i f1 (by simp) (by simp) ?_
    have hs1 : (cR (pkD d p q k).a (fun _ => d.c) m).set k [fL (elm (d.a k) (d.a k q) q pr) d.c] = cR (pkD d p q (k + 1)).a (fun _ => d.c) m := by
     rw [cR_set]
     refine cR_congr fun i hi => ⟨by unfold upd; split <;> rfl, fun j hj => ?_⟩
     by_cases hik : i = k
     ·subst hik
      simp only [upd, if_true, pkD]
      rw [if_pos ⟨by omega, hkp⟩, hpr]
     ·have : (i < k + 1) = (i < k) := by simp only [eq_iff_iff]; omega
      simp only [upd, if_neg hik, pkD, this]
    have hs2 : (fR (pkD d p q k).b m).set k (fr (d.b k - d.a k q * bnd)) = fR (pkD d p q (k + 1)).b m := by
     rw [fR_set]
     refine fR_congr fun i hi => ?_
     by_cases hik : i = k
     ·subst hik
      simp only [upd, if_true, pkD]
      rw [if_pos ⟨by omega, hkp⟩, hinv, hbnd]
     ·have : (i < k + 1) = (i < k) := by simp only [eq_iff_iff]; omega
      simp only [upd, if_neg hik, pkD, this]
    simp [tL, rlk hρ, rpt hρ, far, hs1, hs2, hk, e, w, stP1]
  ·have f1 := eliminate_sound (K := L + L) (pb := bnd) hc hq (by omega) (fun j hj => sz_mono (hsz.cst j hj) (by omega)) spr (sz_mono hsz.v (by omega)) sbnd
   have f2 := mul_q (K := L + L) (by omega) (sz_mono (hsz.cst q hq) (by omega)) sbnd
   have f3 := add_q (K := L + (L + L)) (by omega) (sz_mono hsz.v (by omega)) (sz_mul (hsz.cst q hq) sbnd)
   have e1 : (cR (pkD d p q m).a (fun _ => d.c) m).set p [fL pr d.c] = cR (pivot d p q).a (fun _ => d.c) m := by
    rw [cR_set]
    refine cR_congr fun i hi => ⟨by unfold upd; split <;> rfl, fun j hj => ?_⟩
    rw [pivot_a (by omega), hpr, hr]
   have e2 : (fR (pkD d p q m).b m).set p (fr bnd) = fR (pivot d p q).b m := by
    rw [fR_set]
    refine fR_congr fun i hi => ?_
    rw [pivot_b (by omega), hinv, hbnd, hr]
   have e3 : (nR d.bas m).set p [iv (d.fre q)] = nR (pivot d p q).bas m := nR_set
   have e4 : (nR d.fre d.c).set q [iv (d.bas p)] = nR (pivot d p q).fre d.c := nR_set
   have e5 : elm d.cst (d.cst q) q pr = (pivot d p q).cst := by rw [pivot_cst, hpr]
   have e6 : d.v + d.cst q * bnd = (pivot d p q).v := by simp only [pivot]; rw [hinv, hbnd]
   have e7 : (pivot d p q).c = d.c := rfl
   rw [e5] at f1
   rw [e6] at f3
   generalize pivot d p q = d' at *
   simp [c__tb_pivot_l1, stP1, tL, rlk hρ, rpt hρ, far, c__tb_pivot_k2, hq, eq]
   refine eCall_i f1 (by simp) (by simp) ?_
   simp [rlk hρ, rpt hρ, far]
   refine eCall_i f2 (by simp) (by simp) ?_
   simp
   refine eCall_i f3 (by simp) (by simp) ?_
   simp [rlk hρ, rpt hρ, rdel hρ, rnoRef hρ, eno hE, ono hO, far, r__tb_pivot, hp, hq, ep, eq, e1, e2, e3, e4]
   simp only [tL, tC, e7] at h
   exact h
end Go.Proofs.Ytdeifcfjkmfocaa

namespace Go.Proofs.Ytdeifcfjkmfocaa
open Go Go.Am Go.Dig Go.LP
theorem entE_neg {d : Dict} : ∀ k, entE d k < 0 → ∀ j, j < k → d.cst j ≤ 0
 | 0, _, j, hj => by omega
 | k + 1, h, j, hj => by
  simp only [entE] at h
  split at h
  ·omega
  ·rename_i hn
   by_cases e : j = k
   ·subst e
    have : ¬ 0 < d.cst j := fun h0 => hn ⟨h0, .inl h⟩
    grind
   ·exact entE_neg k h j (by omega)
theorem entE_pos {d : Dict} : ∀ k, 0 ≤ entE d k → 0 < d.cst (entE d k).toNat ∧ ∀ j, j < k → 0 < d.cst j → d.fre (entE d k).toNat ≤ d.fre j
 | 0, h => by simp [entE] at h
 | k + 1, h => by
  have b := entE_lt d k
  simp only [entE] at h ⊢
  split
  ·rename_i hc
   refine ⟨by simpa using hc.1, fun j hj h0 => ?_⟩
   by_cases e : j = k
   ·subst e; simp
   ·by_cases h1 : entE d k < 0
    ·have := entE_neg k h1 j (by omega); grind
    ·have h2 := hc.2.resolve_left h1
     have := (entE_pos k (by omega)).2 j (by omega) h0
     simp; omega
  ·rename_i hc
   rw [if_neg hc] at h
   obtain ⟨h1, h2⟩ := entE_pos k h
   refine ⟨h1, fun j hj h0 => ?_⟩
   by_cases e : j = k
   ·subst e
    have : ¬ d.fre j < d.fre (entE d j).toNat := fun h => hc ⟨h0, .inr h⟩
    omega
   ·exact h2 j (by omega) h0
theorem leaE_neg {d : Dict} {q : Nat} : ∀ k, leaE d q k < 0 → ∀ i, i < k → d.a i q ≤ 0
 | 0, _, j, hj => by omega
 | k + 1, h, j, hj => by
  simp only [leaE] at h
  split at h
  ·omega
  ·rename_i hn
   by_cases e : j = k
   ·subst e
    have : ¬ 0 < d.a j q := fun h0 => hn ⟨h0, .inl h⟩
    grind
   ·exact leaE_neg k h j (by omega)
theorem leaE_pos {d : Dict} {q : Nat} : ∀ k, 0 ≤ leaE d q k → 0 < d.a (leaE d q k).toNat q ∧ ∀ i, i < k → 0 < d.a i q → rat d q (leaE d q k).toNat ≤ rat d q i ∧ (rat d q (leaE d q k).toNat = rat d q i → d.bas (leaE d q k).toNat ≤ d.bas i)
 | 0, h => by simp [leaE] at h
 | k + 1, h => by
  have b := leaE_lt d q k
  simp only [leaE] at h ⊢
  split
  ·rename_i hc
   simp only [Int.toNat_natCast]
   refine ⟨hc.1, fun i hi h0 => ?_⟩
   by_cases e : i = k
   ·subst e; exact ⟨by grind, fun _ => Nat.le_refl _⟩
   ·by_cases h1 : leaE d q k < 0
    ·have := leaE_neg k h1 i (by omega); grind
    ·obtain ⟨g1, g2⟩ := (leaE_pos k (by omega)).2 i (by omega) h0
     rcases hc.2 with h2 | h2 | h2
     ·omega
     ·exact ⟨by grind, fun h => by grind⟩
     ·refine ⟨by grind, fun h => Nat.le_trans h2.2 (g2 (by grind))⟩
  ·rename_i hc
   rw [if_neg hc] at h
   obtain ⟨h1, h2⟩ := leaE_pos k h
   refine ⟨h1, fun i hi h0 => ?_⟩
   by_cases e : i = k
   ·subst e
    have h3 : ¬ rat d q i < rat d q (leaE d q i).toNat := fun h => hc ⟨h0, .inr (.inl h)⟩
    refine ⟨by grind, fun h => ?_⟩
    have h4 : ¬ d.bas i ≤ d.bas (leaE d q i).toNat := fun h5 => hc ⟨h0, .inr (.inr ⟨h.symm, h5⟩)⟩
    omega
   ·exact h2 i (by omega) h0
theorem rat_cross {b1 a1 b2 a2 : Rat} (h1 : 0 < a1) (h2 : 0 < a2) : (b1 / a1 ≤ b2 / a2 ↔ b1 * a2 ≤ b2 * a1) ∧ (b1 / a1 = b2 / a2 ↔ b1 * a2 = b2 * a1) := by
 have e1 : b1 = b1 / a1 * a1 := by grind
 have e2 : b2 = b2 / a2 * a2 := by grind
 generalize b1 / a1 = x at *
 generalize b2 / a2 = y at *
 have hp : 0 < a1 * a2 := Rat.mul_pos h1 h2
 have k1 : b2 * a1 - b1 * a2 = (y - x) * (a1 * a2) := by rw [e1, e2]; grind
 clear e1 e2
 constructor
 ·constructor
  ·intro h
   have := Rat.mul_nonneg (show 0 ≤ y - x by grind) (show 0 ≤ a1 * a2 by grind)
   rw [← k1] at this; grind
  ·intro h
   rcases lt_or_le y x with h3 | h3
   ·have := Rat.mul_pos (show 0 < x - y by grind) hp
    have e : (x - y) * (a1 * a2) = -((y - x) * (a1 * a2)) := by grind
    rw [e, ← k1] at this; grind
   ·exact h3
 ·constructor
  ·intro h
   have : (y - x) * (a1 * a2) = 0 := by rw [h]; grind
   rw [← k1] at this; grind
  ·intro h
   have h5 : (y - x) * (a1 * a2) = 0 := by rw [← k1]; grind
   rcases Rat.mul_eq_zero.1 h5 with h | h
   ·grind
   ·rw [h] at hp; exact absurd hp (by grind)
def qq' (d : Dict) : Nat := (entE d d.c).toNat
def pp' (d : Dict) : Nat := (leaE d (qq' d) d.r).toNat
def goOn (d : Dict) : Prop := 0 ≤ entE d d.c ∧ 0 ≤ leaE d (qq' d) d.r
theorem goOn_bland {d : Dict} (h : goOn d) : Bland d (pp' d) (qq' d) := by
 have b1 := entE_lt d d.c
 have b2 := leaE_lt d (qq' d) d.r
 obtain ⟨h1, h2⟩ := h
 obtain ⟨g1, g2⟩ := entE_pos d.c h1
 obtain ⟨g3, g4⟩ := leaE_pos d.r h2
 refine ⟨by unfold pp'; omega, by unfold qq'; omega, g1, g2, g3, fun i hi h0 => ?_⟩
 obtain ⟨g5, g6⟩ := g4 i hi h0
 obtain ⟨c1, c2⟩ := rat_cross (b1 := d.b (pp' d)) (b2 := d.b i) g3 h0
 exact ⟨c1.1 g5, fun h => g6 (c2.2 h)⟩
def nextD (d : Dict) : Dict := pivot d (pp' d) (qq' d)
def runD (d : Dict) : Nat → Dict
 | 0 => d
 | k + 1 => nextD (runD d k)
theorem run_ends {d : Dict} {N : Nat} (hb : Bij d N) (hf : feas d) : ∃ K, (∀ k, k < K → goOn (runD d k)) ∧ ¬ goOn (runD d K) := by
 apply Classical.byContradiction
 intro hno
 have all : ∀ k, ∀ j, j < k → goOn (runD d j) := by
  intro k
  induction k with
  | zero => intro j hj; omega
  | succ k ih =>
   intro j hj
   by_cases e : j = k
   ·subst e
    exact Classical.byContradiction fun h => hno ⟨j, ih, h⟩
   ·exact ih j (by omega)
 have r : Run (runD d) (fun k => pp' (runD d k)) (fun k => qq' (runD d k)) (2 ^ N) N := ⟨hb, hf, fun k hk => ⟨goOn_bland (all _ k hk), rfl⟩⟩
 have := r.le
 omega
theorem run_same {d : Dict} {N K : Nat} (hb : Bij d N) (hf : feas d) (h : ∀ k, k < K → goOn (runD d k)) : ∀ k, k ≤ K → Same (runD d k) d N ∧ feas (runD d k) ∧ (runD d k).r = d.r ∧ (runD d k).c = d.c := by
 intro k
 induction k with
 | zero => intro _; exact ⟨Same.refl hb, hf, rfl, rfl⟩
 | succ k ih =>
  intro hk
  obtain ⟨h1, h2, h3, h4⟩ := ih (by omega)
  have hB := goOn_bland (h k (by omega))
  have ha : (runD d k).a (pp' (runD d k)) (qq' (runD d k)) ≠ 0 := by have := hB.2.2.2.2.1; grind
  exact ⟨(Same.pivot h1.bd hB.1 hB.2.1 ha).trans h1, hB.feas h2, h3, h4⟩
structure Fin (d e : Dict) (N : Nat) (x : AV) : Prop where
 same : Same e d N
 feas : feas e
 r : e.r = d.r
 c : e.c = d.c
 out : (x = .tuple [iv 0, bv true] ∧ ∀ j, j < e.c → e.cst j ≤ 0) ∨ ∃ q : Nat, x = .tuple [iv q, bv false] ∧ q < e.c ∧ 0 < e.cst q ∧ ∀ i, i < e.r → e.a i q ≤ 0
noncomputable def stOp (n m : Nat) (d : Dict) (ρ : List (Nat × Entry)) (out : List (List (Nat × AV))) (k : Nat) : St :=
 {env := [(0, .ptr 1015 0)], sto := ρ ++ tL n m (runD d k), out := out, base := 4500 }
theorem eCallI_of {P : Program} {f : FuncId} {xs : List AV} {s : St} {dst : Option Nat} {K : St → Prop} (h : CallI P f xs s fun r s' => s'.base = s.base ∧ K (s'.put dst r)) : eCallI P f xs s dst K := h
theorem ok_entering : okFn Try.prog F__tb_entering = true := by kernel_rfl
theorem ok_leaving : okFn Try.prog F__tb_leaving = true := by kernel_rfl
theorem ok_pivot : okFn Try.prog F__tb_pivot = true := by kernel_rfl
theorem low_iv {M : Nat} {n : Int} : Am.low M (iv n) = true := rfl
theorem low_bv {M : Nat} {b : Bool} : Am.low M (bv b) = true := rfl
theorem low_ptr {M k off : Nat} : Am.low M (.ptr k off) = decide (k < M) := rfl
def finR (e : Dict) : AV := if entE e e.c < 0 then .tuple [iv 0, bv true] else .tuple [iv (qq' e), bv false]
theorem fin_of {d e : Dict} {N : Nat} (h1 : Same e d N) (h2 : LP.feas e) (h3 : e.r = d.r) (h4 : e.c = d.c) (hJe : ¬ goOn e) : Fin d e N (finR e) := by
 have b1 := entE_lt e e.c
 have b2 := leaE_lt e (qq' e) e.r
 refine ⟨h1, h2, h3, h4, ?_⟩
 unfold finR
 by_cases g1 : entE e e.c < 0
 ·rw [if_pos g1]; exact .inl ⟨rfl, entE_neg _ g1⟩
 ·rw [if_neg g1]
  have g2 : leaE e (qq' e) e.r < 0 := by
   rcases Int.lt_or_le (leaE e (qq' e) e.r) 0 with h | h
   ·exact h
   ·exact absurd ⟨by omega, h⟩ hJe
  exact .inr ⟨qq' e, rfl, by unfold qq'; omega, (entE_pos (d := e) e.c (by omega)).1, leaE_neg _ g2⟩
theorem optimizeI {N : Nat} {d : Dict} (hb : Bij d N) (hf : feas d) : ∃ e, Fin d e N (finR e) ∧ ∀ {n m L : Nat} {ρ : List (Nat × Entry)} {s : St} {K : AV → St → Prop}, s.sto = ρ ++ tL n m d → rest ρ → lowF 2000 s.env → lowO 2000 s.out → m < 1000000 → d.c < 1000000 → d.r = m →
  L ≤ 10000000000 → (∀ e, Same e d N → e.r = d.r → e.c = d.c → szD L e) → K (finR e) ⟨s.env, ρ ++ tL n m e, s.out, s.base⟩ →
  CallI Try.prog F__tb_optimize [.ptr 1015 0] s K := by
 obtain ⟨J, hJ, hJe⟩ := run_ends hb hf
 have hrun := run_same hb hf hJ
 obtain ⟨hf1, hf2, hf3, hf4⟩ := hrun J (by omega)
 refine ⟨runD d J, fin_of hf1 hf2 hf3 hf4 hJe, ?_⟩
 intro n m L ρ s K hs hρ hE hO hm hc hr hL hsz h
 obtain ⟨env, σ, out, base⟩ := s
 simp only at hs hE hO h
 subst hs
 have hO2 : lowO 2000 (env :: out) := lowO_cons.2 ⟨hE, hO⟩
 refine soundI' 4500 t__tb_optimize (by simp) ?_
 simp [c__tb_optimize]
 refine awp_againW (stOp n m d ρ (env :: out)) (fun _ => True) J (by simp [stOp, runD]) trivial (fun k hk _ => ?_) (fun _ => ?_)
 ·obtain ⟨h1, h2, h3, h4⟩ := hrun k (by omega)
  have hg := hJ k hk
  have hB := goOn_bland hg
  have b1 := entE_lt (runD d k) (runD d k).c
  have b2 := leaE_lt (runD d k) (qq' (runD d k)) (runD d k).r
  have hz := hsz _ h1 h3 h4
  have ea : entE (runD d k) (runD d k).c = (qq' (runD d k) : Nat) := by unfold qq'; have := hg.1; omega
  have eb : leaE (runD d k) (qq' (runD d k)) (runD d k).r = (pp' (runD d k) : Nat) := by unfold pp'; have := hg.2; omega
  have e3 : runD d (k + 1) = pivot (runD d k) (pp' (runD d k)) (qq' (runD d k)) := rfl
  have hrm : (runD d k).r = m := by omega
  rw [hrm] at eb
  generalize hd2 : runD d (k + 1) = d2 at *
  generalize hd1 : runD d k = d1 at *
  generalize qq' d1 = q at *
  generalize pp' d1 = p at *
  have hst1 : stOp n m d ρ (env :: out) k = { env := [(0, .ptr 1015 0)], sto := ρ ++ tL n m d1, out := env :: out, base := 4500 } := by unfold stOp; rw [hd1]
  rw [hst1]
  have nq : ¬ ((q : Int) < 0) := by omega
  have np : ¬ ((p : Int) < 0) := by omega
  simp [c__tb_optimize_l0, ok_entering]
  refine eCallI_of (enteringI (s := ⟨_, ρ ++ tL n m d1, env :: out, 4500⟩) (d := d1) (ρ := ρ) (n := n) (m := m) rfl hρ (by omega) ?_)
  rw [ea]
  simp [ok_leaving, nq]
  refine eCallI_of (leavingI (s := ⟨_, ρ ++ tL n m d1, env :: out, 4500⟩) (d := d1) (ρ := ρ) (n := n) (m := m) (L := L) rfl hρ ?_ hO2 hm hB.2.1 (by omega) (fun i hi => hz.a i q (by omega) hB.2.1) (fun i hi => hz.b i (by omega)) ?_)
  ·simp [lowF_cons, lowF_nil, low_iv, low_bv, low_ptr]
  rw [eb]
  simp [ok_pivot, np]
  refine eCallI_of (pivotI (s := ⟨_, ρ ++ tL n m d1, env :: out, 4500⟩) (d := d1) (ρ := ρ) (n := n) (m := m) (L := L) rfl hρ ?_ hO2 hm (by omega) hrm (by have := hB.1; omega) hB.2.1 hL hz (by have := hB.2.2.2.2.1; grind) ?_)
  ·simp [lowF_cons, lowF_nil, low_iv, low_bv, low_ptr]
  rw [← e3]
  simp [stOp]
  exact .inl (by rw [hd2])
 ·obtain ⟨h1, h2, h3, h4⟩ := hrun J (by omega)
  have b1 := entE_lt (runD d J) (runD d J).c
  have b2 := leaE_lt (runD d J) (qq' (runD d J)) (runD d J).r
  have hz := hsz _ h1 h3 h4
  have hrm : (runD d J).r = m := by omega
  generalize hd1 : runD d J = d1 at *
  have hst1 : stOp n m d ρ (env :: out) J = { env := [(0, .ptr 1015 0)], sto := ρ ++ tL n m d1, out := env :: out, base := 4500 } := by unfold stOp; rw [hd1]
  rw [hst1]
  simp [c__tb_optimize_l0, ok_entering]
  refine eCallI_of (enteringI (s := ⟨_, ρ ++ tL n m d1, env :: out, 4500⟩) (d := d1) (ρ := ρ) (n := n) (m := m) rfl hρ (by omega) ?_)
  by_cases g1 : entE d1 d1.c < 0
  ·have hfr : finR d1 = .tuple [iv 0, bv true] := if_pos g1
   rw [hfr] at h
   simp [g1, r__tb_optimize]
   exact h
  ·have hfr : finR d1 = .tuple [iv (qq' d1), bv false] := if_neg g1
   rw [hfr] at h
   have ea : entE d1 d1.c = (qq' d1 : Nat) := by unfold qq'; omega
   have g2 : leaE d1 (qq' d1) d1.r < 0 := by
    rcases Int.lt_or_le (leaE d1 (qq' d1) d1.r) 0 with h | h
    ·exact h
    ·exact absurd ⟨by omega, h⟩ hJe
   have hq : qq' d1 < d1.c := by unfold qq'; omega
   rw [hrm] at g2
   rw [ea]
   generalize qq' d1 = q at *
   have nq : ¬ ((q : Int) < 0) := by omega
   simp [ok_leaving, nq]
   refine eCallI_of (leavingI (s := ⟨_, ρ ++ tL n m d1, env :: out, 4500⟩) (d := d1) (ρ := ρ) (n := n) (m := m) (L := L) rfl hρ ?_ hO2 hm hq (by omega) (fun i hi => hz.a i q (by omega) hq) (fun i hi => hz.b i (by omega)) ?_)
   ·simp [lowF_cons, lowF_nil, low_iv, low_bv, low_ptr]
   simp [g2, r__tb_optimize]
   exact h
end Go.Proofs.Ytdeifcfjkmfocaa

namespace Go.Proofs.Ytdeifcfjkmfocaa
open Go Go.Am Go.Dig Go.LP
section
variable {k n : Nat} {c : List AV} {r : List (List AV)}
theorem dgE_var : dgE k (.var c) = .var (c.map (dg k)) := rfl
theorem dgE_uarr : dgE k (.uarr n r) = .uarr n (rowsDg k r) := rfl
theorem eno1 {k : Nat} {f : List (Nat × AV)} (h : lowF 1000 f) (hk : 1000 ≤ k) : noRef k f = true := lowF_noRef hk h
theorem ono1 {k : Nat} {f : List (List (Nat × AV))} (h : lowO 1000 f) (hk : 1000 ≤ k) : noRefO k f = true := lowO_noRef hk h
theorem edg1 {k : Nat} {f : List (Nat × AV)} (h : lowF 1000 f) (hk : 1000 ≤ k) : (f.map fun p => (p.1, dg k p.2)) = f := lowF_dg hk h
theorem odg1 {k : Nat} {f : List (List (Nat × AV))} (h : lowO 1000 f) (hk : 1000 ≤ k) : (f.map fun f => f.map fun p => (p.1, dg k p.2)) = f := lowO_dg hk h
end
@[simp] theorem eAppendU_moreL {sz by_ d l sz1 off len sz' : Nat} {rows1 rows : List (List AV)} {s : St} {K : St → Prop} (h : lk s.sto l = some (.uarr sz rows1)) :
  eAppendU sz by_ s (some d) K [.us l sz1 off len, .lit sz' rows] = (sz' = sz ∧ 0 < sz ∧ (len + rows.length) * by_ ≤ 140737488355328 ∧ len + rows.length ≤ 9223372036854775807 ∧ sz1 = sz ∧ off = 0 ∧ len = rows1.length ∧
   K ({ (s.dg l) with sto := pt (s.dg l).sto l (.uarr sz (rowsDg l (rows1 ++ rows))) }.put (some d) (.us l sz 0 (len + rows.length)))) := by
 simp [eAppendU, addRowsU, h]
@[simp] theorem goLoad_row {x : AV} {q : Rat} : goLoad (x :: fr q) 1 (some 3) = some (fq q) := by
 simp only [goLoad, fr, List.length_cons, List.length_nil, List.drop_succ_cons, List.drop_zero, List.take]
 simp
abbrev nilA : AV := .list 0 .full []
noncomputable def oR (a : Nat → Nat → Rat) (md : Nat → Am.Mode) (cl : Nat → Nat) (n : Nat) : List (List AV) := mR (fun i => [.list 3 (md i) (fR (a i) (cl i))]) n
def om (i : Nat) : Am.Mode := .own (1000000 + i)
noncomputable def pR (A : Nat → Nat → Rat) (bb : Nat → Rat) (n m : Nat) : List (List AV) := mR (fun i => [fL (A i) n, f0 (bb i), f1 (bb i), f2 (bb i)]) m
noncomputable abbrev pA (A : Nat → Nat → Rat) (bb gg : Nat → Rat) (n m : Nat) : AV := .agg [fL gg n, .list 4 .plain (pR A bb n m)]
section
variable {a : Nat → Nat → Rat} {bb : Nat → Rat} {md : Nat → Am.Mode} {cl : Nat → Nat} {n m i k : Nat} {e : Entry}
@[simp] theorem oR_len : (oR a md cl n).length = n := mR_len
@[simp] theorem pR_len : (pR a bb n m).length = m := mR_len
@[simp] theorem oR_getE {hi : i < (oR a md cl n).length} : (oR a md cl n)[i] = [.list 3 (md i) (fR (a i) (cl i))] := mR_getE
@[simp] theorem pR_getE {hi : i < (pR a bb n m).length} : (pR a bb n m)[i] = [fL (a i) n, f0 (bb i), f1 (bb i), f2 (bb i)] := mR_getE
@[simp] theorem oR_ref : anyRefR k (oR a md cl n) = false := mR_ref fun _ => by simp
@[simp] theorem pR_rf : rowsRf (pR a bb n m) = true := mR_all fun _ => by simp
@[simp] theorem pR_st : rowsSt (pR a bb n m) = pR a bb n m := mR_map fun _ => by simp
end
theorem mR_congr2 {g h : Nat → List AV} {n : Nat} {f : List AV → List AV} (e : ∀ i, i < n → f (g i) = h i) : (mR g n).map f = mR h n := by
 unfold mR
 rw [List.map_map]
 exact List.map_congr_left fun i hi => e i (by simpa using hi)
@[simp] theorem nR_rn {f : Nat → Nat} {n a b : Nat} : ((nR f n).map fun r => r.map (rn a b)) = nR f n := mR_map fun _ => rfl
@[simp] theorem pR_rn {a : Nat → Nat → Rat} {bb : Nat → Rat} {n m k l : Nat} : ((pR a bb n m).map fun r => r.map (rn k l)) = pR a bb n m := mR_map fun _ => by
 simp [rn, rn1]
theorem oR_rn {A : Nat → Nat → Rat} {cl : Nat → Nat} {n k l : Nat} (hk : k < 1000000) (hl : n ≤ l) : ((oR A om cl n).map fun r => r.map (rn k (1000000 + l))) = oR A om cl n := mR_congr2 fun i hi => by
 have : sw k (1000000 + l) (1000000 + i) = 1000000 + i := by unfold sw; rw [if_neg (by omega), if_neg (by omega)]
 simp [rn, rn1, om, this]
theorem oR_dg {A : Nat → Nat → Rat} {cl : Nat → Nat} {n k : Nat} (hk : k < 1000000) : rowsDg k (oR A om cl n) = oR A om cl n := mR_congr2 fun i hi => by
 have : ¬ 1000000 + i = k := by omega
 simp [om, dg, this]
theorem rowsDg_app {k : Nat} {a b : List (List AV)} : rowsDg k (a ++ b) = rowsDg k a ++ rowsDg k b := List.map_append
theorem anyRefR_app {k : Nat} {a b : List (List AV)} : anyRefR k (a ++ b) = (anyRefR k a || anyRefR k b) := by
 induction a with
 | nil => rfl
 | cons r a ih => simp only [List.cons_append, anyRefR, ih, Bool.or_assoc]
section
variable {a b : Nat}
theorem rnE_var {c : List AV} : rnE a b (.var c) = .var (c.map (rn a b)) := rfl
theorem rnE_uarr {n : Nat} {r : List (List AV)} : rnE a b (.uarr n r) = .uarr n (r.map fun r => r.map (rn a b)) := rfl
theorem rn_ptr {k o : Nat} : rn a b (.ptr k o) = .ptr (sw a b k) o := rfl
theorem rn_us {k s o l : Nat} : rn a b (.us k s o l) = .us (sw a b k) s o l := rfl
theorem rn_val {v : Value} : rn a b (.val v) = .val v := rfl
theorem rn_plain {s : Nat} {r : List (List AV)} : rn a b (.list s .plain r) = .list s .plain r := rfl
theorem rn_full {s : Nat} {r : List (List AV)} : rn a b (.list s .full r) = .list s .full r := rfl
theorem rn_own {s l : Nat} {r : List (List AV)} : rn a b (.list s (.own l) r) = .list s (.own (sw a b l)) r := rfl
end
theorem rrn0 {ρ : List (Nat × Entry)} {k l : Nat} (h : rest ρ) (hk : far k = true) (hl : far l = true) : (ρ.map fun p => (sw k l p.1, rnE k l p.2)) = ρ := map_self fun p hp => by
 have hk : (1000 ≤ k ∧ k < 3000) ∨ 4000 ≤ k := of_decide_eq_true hk
 have hl : (1000 ≤ l ∧ l < 3000) ∨ 4000 ≤ l := of_decide_eq_true hl
 obtain ⟨h1, h2⟩ := h p hp
 have : sw k l p.1 = p.1 := by unfold sw; rw [if_neg (by omega), if_neg (by omega)]
 rw [this, lowE_rn (by omega) (by omega) h2]
noncomputable def cst0 (k : Nat) : AV := if k = 0 then nilA else .list 3 (.own 2039) (fR (fun _ => 0) k)
theorem cst0_dg {l k : Nat} (h : ¬ l = 2039) : dg l (cst0 k) = cst0 k := by
 unfold cst0
 split
 ·simp
 ·simp only [dg]; rw [if_neg (fun e => h e.symm)]
theorem cst0_rn {l j k : Nat} (h : ¬ l = 2039) (hj : ¬ j = 2039) : rn l j (cst0 k) = cst0 k := by
 unfold cst0
 split
 ·rfl
 ·simp only [rn, rn1, sw]; rw [if_neg (fun e => h e.symm), if_neg (fun e => hj e.symm)]
@[simp] theorem cst0_refs {l k : Nat} : refsTo l (cst0 k) = false := by unfold cst0; split <;> rfl
theorem nR_app {f : Nat → Nat} {k : Nat} : nR f k ++ [[iv (f k)]] = nR f (k + 1) := mR_succ.symm
theorem oR_app {a : Nat → Nat → Rat} {md : Nat → Am.Mode} {cl : Nat → Nat} {k : Nat} : oR a md cl k ++ [[.list 3 (md k) (fR (a k) (cl k))]] = oR a md cl (k + 1) := mR_succ.symm
noncomputable def stN0 (A : Nat → Nat → Rat) (bb gg : Nat → Rat) (n m : Nat) (ρ : List (Nat × Entry)) (out : List (List (Nat × AV))) (k : Nat) : St :=
 {env := [(1, .ptr 1001 0), (3, .ptr 1015 0), (18, iv n), (19, iv k)],
  sto := ρ ++ [(1001, .var [fL gg n, .list 4 .plain (pR A bb n m)]), (1015, .var [iv n, iv m, nilA, nilA, cst0 k, f0 0, f1 0, f2 0, nilA, .us 2029 1 0 k]), (2029, .uarr 1 (nR id k))], out := out, base := 1000 }
noncomputable def stN1 (A : Nat → Nat → Rat) (bb _gg : Nat → Rat) (n m : Nat) (ρ : List (Nat × Entry)) (out : List (List (Nat × AV))) (k : Nat) : St :=
 {env := [(3, .ptr 1015 0), (44, .list 4 .plain (pR A bb n m)), (45, iv m), (46, iv k)],
  sto := ρ ++ [(1015, .var [iv n, iv m, .us 1961 1 0 k, .us 1972 3 0 k, cst0 n, f0 0, f1 0, f2 0, .us 1987 1 0 k, .us 2029 1 0 n]), (2029, .uarr 1 (nR id n)),
   (1961, .uarr 1 (oR A om (fun _ => n) k)), (1972, .uarr 3 (fR bb k)), (1987, .uarr 1 (nR (fun i => n + i) k))], out := out, base := 1000 }
theorem newTableauI {n m : Nat} {A : Nat → Nat → Rat} {bb gg : Nat → Rat} {ρ : List (Nat × Entry)} {s : St} {K : AV → St → Prop} (hs : s.sto = ρ) (hρ : rest ρ) (hE : lowF 1000 s.env) (hO : lowO 1000 s.out) (hm : m < 1000000) (hn : n < 1000000)
  (h : K (.ptr 1015 0) ⟨s.env, ρ ++ [(1015, .var [iv n, iv m, .us 1961 1 0 m, .us 1972 3 0 m, cst0 n, f0 0, f1 0, f2 0, .us 1987 1 0 m, .us 2029 1 0 n]), (2029, .uarr 1 (nR id n)),
   (1961, .uarr 1 (oR A om (fun _ => n) m)), (1972, .uarr 3 (fR bb m)), (1987, .uarr 1 (nR (fun i => n + i) m))], s.out, s.base⟩) :
  CallI Try.prog F_s_newTableau [pA A bb gg n m] s K := by
 obtain ⟨env, σ, out, base⟩ := s
 simp only at hs hE hO h
 subst hs
 have g0 : SoundCall Try.prog F_f_FromInt [iv 0] (fq 0) := fromInt_q (n := 0) (by decide) (by decide)
 have hpt : ∀ k e, far k = true → pt σ k e = σ ++ [(k, e)] := fun k e hk => by
  have := rpt (l := []) (e := e) hρ hk
  simpa using this
 have hlk : ∀ k, far k = true → lk σ k = none := fun k hk => rest_lk hρ hk
 refine soundI' 1000 t_s_newTableau (by simp) ?_
 simp [c_s_newTableau, hpt, hlk, rlk hρ, far]
 refine eCall_i g0 (by simp) (by simp) ?_
 simp [rlk hρ, rpt hρ, far]
 have hE2 : lowF 2000 env := lowF_mono (by omega) hE
 have hO2 : lowO 2000 out := lowO_mono (by omega) hO
 have hne : ∀ k, k ≠ 0 → cst0 k = .list 3 (.own 2039) (fR (fun _ => 0) k) := fun k hk => by unfold cst0; rw [if_neg hk]
 have hz : cst0 0 = nilA := rfl
 refine awp_forS (stN0 A bb gg n m σ (env :: out)) (fun _ => True) n ?_ trivial (fun k hk _ => ?_) (fun _ => ?_)
 ·refine St.imp.trans (St.imp_tok 2029 1 (by simp [rlk hρ, far])) ?_
  simp [St.dg, rdg0 hρ, edg1 hE, odg1 hO, rpt hρ, far, -dgE, dgE_var]
  refine St.imp.trans (St.imp_cell_nil (k := 1015) (j := 9) (l := 2029) (sz := 1) (by simp [rlk hρ, far]; rfl) (by simp; rfl) (by simp [rlk hρ, far])) ?_
  simp [rpt hρ, far, stN0, hz]
  exact St.imp.refl
 ·have e : (k : Int) < n := by omega
  have w := wrap_succ (k := k) (by omega)
  have hap : nR id k ++ [[iv k]] = nR id (k + 1) := nR_app (f := id)
  have hfp : fR (fun _ => 0) k ++ [fr 0] = fR (fun _ => 0) (k + 1) := fR_succ.symm
  have hne1 := hne (k + 1) (by omega)
  have hcd : ∀ l, ¬ l = 2039 → dg l (cst0 k) = cst0 k := fun l h => cst0_dg h
  simp [c_s_newTableau_l0, stN0, e, rlk hρ, rpt hρ, far, rdg0 hρ, edg1 hE, odg1 hO, -dgE, dgE_var, dgE_uarr, hap, hcd]
  refine ⟨by omega, by omega, ?_⟩
  refine eCall_i g0 (by simp) (by simp) ?_
  by_cases k0 : k = 0
  ·subst k0
   have w1 : IntKind.i64.wrap 1 = 1 := by decide
   have h1 : fR (fun _ => (0 : Rat)) 1 = [fr 0] := rfl
   simp [hz, rlk hρ, rpt hρ, far, rdg0 hρ, edg1 hE, odg1 hO, -dgE, dgE_var, dgE_uarr, w1, stN0, hne 1 (by omega), h1]
   refine St.imp.trans (St.imp_rn 1039 2039) ?_
   have hr0 := rrn0 (k := 1039) (l := 2039) hρ rfl rfl
   have he := lowF_rn (k := 1039) (by omega) (j := 2039) (by omega) hE
   have ho := lowO_rn (k := 1039) (by omega) (j := 2039) (by omega) hO
   simp only [St.rn, List.map_append, hr0]
   simp only [List.map_cons, List.map_nil, rnE_var, rnE_uarr, rn_ptr, rn_us, rn_val, rn_plain, rn_own, rn_full, nR_rn, f0_rn, f1_rn, f2_rn, sw, Nat.reduceEqDiff, if_true, if_false, he, ho]
   exact St.imp.refl
  ·simp [hne k k0, rlk hρ, rpt hρ, far, rdg0 hρ, edg1 hE, odg1 hO, -dgE, dgE_var, dgE_uarr, hfp, w, stN0, hne1]
   exact ⟨by omega, by omega, St.imp.refl⟩
 ·have hcd : ∀ l, ¬ l = 2039 → dg l (cst0 n) = cst0 n := fun l h => cst0_dg h
  simp [c_s_newTableau_l0, stN0, c_s_newTableau_k3, rlk hρ, rdel hρ, far, -dgE, rnoRef hρ, eno1 hE, ono1 hO]
  refine awp_forS (stN1 A bb gg n m σ (env :: out)) (fun _ => True) m ?_ trivial (fun k hk _ => ?_) (fun _ => ?_)
  ·refine St.imp.trans (St.imp_tok 1961 1 (by simp [rlk hρ, far])) ?_
   simp [St.dg, rpt hρ, far, rdg0 hρ, edg1 hE, odg1 hO, -dgE, dgE_var, dgE_uarr, hcd]
   refine St.imp.trans (St.imp_cell_nil (k := 1015) (j := 2) (l := 1961) (sz := 1) (by simp [rlk hρ, far]; rfl) (by simp; rfl) (by simp [rlk hρ, far])) ?_
   simp [rpt hρ, far]
   refine St.imp.trans (St.imp_tok 1972 3 (by simp [rlk hρ, far])) ?_
   simp [St.dg, rpt hρ, far, rdg0 hρ, edg1 hE, odg1 hO, -dgE, dgE_var, dgE_uarr, hcd]
   refine St.imp.trans (St.imp_cell_nil (k := 1015) (j := 3) (l := 1972) (sz := 3) (by simp [rlk hρ, far]; rfl) (by simp; rfl) (by simp [rlk hρ, far])) ?_
   simp [rpt hρ, far]
   refine St.imp.trans (St.imp_tok 1987 1 (by simp [rlk hρ, far])) ?_
   simp [St.dg, rpt hρ, far, rdg0 hρ, edg1 hE, odg1 hO, -dgE, dgE_var, dgE_uarr, hcd]
   refine St.imp.trans (St.imp_cell_nil (k := 1015) (j := 8) (l := 1987) (sz := 1) (by simp [rlk hρ, far]; rfl) (by simp; rfl) (by simp [rlk hρ, far])) ?_
   simp [rpt hρ, far, stN1]
   exact St.imp.refl
  ·have e : (k : Int) < m := by omega
   have w := wrap_succ (k := k) (by omega)
   have hau : rowsAU 1 [[nilA]] [0] [.list 3 (.own 1059) (fR (A k) n)] = some [[.list 3 (.own 1059) (fR (A k) n)]] := rfl
   have hd1 : ∀ l, ¬ l = 1059 → rowsDg l [[.list 3 (.own 1059) (fR (A k) n)]] = [[.list 3 (.own 1059) (fR (A k) n)]] := fun l h => by
    have : ¬ 1059 = l := fun e => h e.symm
    simp [rowsDg, dg, this]
   have hfb : fR bb k ++ [fr (bb k)] = fR bb (k + 1) := fR_succ.symm
   have hnb : nR (fun i => n + i) k ++ [[iv (n + k : Nat)]] = nR (fun i => n + i) (k + 1) := nR_app (f := fun i => n + i)
   have hnb' : nR (fun i => n + i) k ++ [[iv ((n : Int) + k)]] = nR (fun i => n + i) (k + 1) := by rw [← hnb, Int.natCast_add]
   have wn : IntKind.i64.wrap (n + k) = (n : Int) + (k : Int) := by rw [wrap64] <;> omega
   simp [c_s_newTableau_l1, stN1, e, hk, rlk hρ, rpt hρ, rdel hρ, far, rdg0 hρ, edg1 hE, odg1 hO, -dgE, dgE_var, dgE_uarr, hcd, rnoRef hρ, eno1 hE, ono1 hO, hau, oR_dg, rowsDg_app, hd1, hfb, wn, w, anyRefR_app]
   refine ⟨by omega, by omega, by omega, by omega, by omega, by omega, by omega, by omega, ?_⟩
   refine St.imp.trans (St.imp_rn 1059 (1000000 + k)) ?_
   have ho : om k = .own (1000000 + k) := rfl
   have hap := oR_app (a := A) (md := om) (cl := fun _ => n) (k := k)
   rw [ho] at hap
   have s1 : ∀ l, l < 1000000 → ¬ l = 1059 → sw 1059 (1000000 + k) l = l := fun l h1 h2 => by unfold sw; rw [if_neg h2, if_neg (by omega)]
   have s2 : sw 1059 (1000000 + k) 1059 = 1000000 + k := by unfold sw; rw [if_pos rfl]
   have hf : far (1000000 + k) = true := decide_eq_true (by omega)
   have hc := cst0_rn (l := 1059) (j := 1000000 + k) (k := n) (by omega) (by omega)
   have hr := oR_rn (A := A) (cl := fun _ => n) (n := k) (k := 1059) (l := k) (by omega) (Nat.le_refl _)
   have he := lowF_rn (k := 1059) (by omega) (j := 1000000 + k) (by omega) hE
   have ho' := lowO_rn (k := 1059) (by omega) (j := 1000000 + k) (by omega) hO
   have hq : rowsDg 1987 [[iv ((n : Int) + k)]] = [[iv ((n + k : Nat) : Int)]] := by rw [Int.natCast_add]; rfl
   have hr0 := rrn0 (k := 1059) (l := 1000000 + k) hρ rfl hf
   simp only [St.rn, List.map_append, List.map_cons, List.map_nil, hr0, s1, s2, rnE_var, rnE_uarr, rn_ptr, rn_us, rn_val, rn_plain, rn_own, hr, hc, he, ho', nR_rn, fR_rn, f0_rn, f1_rn, f2_rn, hap, hq, Nat.reduceLT, Nat.reduceEqDiff, not_false_eq_true, Int.natCast_add]
   rw [hnb']
   exact St.imp.refl
  ·simp [c_s_newTableau_l1, stN1, c_s_newTableau_k2, r_s_newTableau, -dgE]
   exact h
end Go.Proofs.Ytdeifcfjkmfocaa

namespace Go.Proofs.Ytdeifcfjkmfocaa
open Go Go.Am Go.Dig Go.LP
noncomputable def stZi (n : Nat) (out : List (List (Nat × AV))) (k : Nat) : St := { env := [(3, .sl 1006 3 0 n), (8, iv n), (9, iv k)], sto := [(1006, .arr 3 (fZ (fun _ => 0) k n))], out := out, base := 1000 }
theorem zerosI {n : Nat} {s : St} {K : AV → St → Prop} (hs : s.sto = []) (hn : n < 1000000) (h : K (.sl 1006 3 0 n) ⟨s.env, [(1006, .arr 3 (fR (fun _ => 0) n))], s.out, s.base⟩) :
  CallI Try.prog F_s_zeros [iv n] s K := by
 obtain ⟨env, σ, out, base⟩ := s
 simp only at hs h
 subst hs
 refine soundI' 1000 t_s_zeros (by simp) ?_
 simp [c_s_zeros, eMk]
 refine ⟨by omega, by omega, ?_⟩
 rw [fZ_zero (f := fun _ => 0)]
 have k0 : SoundCall Try.prog F_f_FromInt [iv 0] (fq 0) := fromInt_q (n := 0) (by decide) (by decide)
 refine awp_forW (stZi n (env :: out)) (fun _ => True) n (by simp [stZi]) trivial (fun k hk _ => ?_) (fun _ => ?_)
 ·have e : (k : Int) < n := by omega
  have w := wrap_succ (k := k) (by omega)
  have hs := fZ_set (f := fun _ => 0) hk
  simp [c_s_zeros_l0, stZi, e]
  refine eCall_i k0 (by simp) (by simp) ?_
  simp [splice, hk, w, hs, stZi]
 ·simp [c_s_zeros_l0, c_s_zeros_k1, r_s_zeros, stZi, fZ_full]
  exact h
theorem ok_zeros : okFn Try.prog F_s_zeros = true := by kernel_rfl
noncomputable def tR (n m : Nat) (d : Dict) : AV := .ro [iv n, iv m, .list 1 .plain (cR d.a (fun _ => d.c) m), fL d.b m, fL d.cst d.c, f0 d.v, f1 d.v, f2 d.v, .list 1 .plain (nR d.bas m), .list 1 .plain (nR d.fre d.c)]
def priD (n m : Nat) (d : Dict) : Nat → Nat → Rat
 | 0 => fun _ => 0
 | k + 1 => if n ≤ d.fre k ∧ d.fre k < n + m then upd (priD n m d k) (d.fre k - n) (-d.cst k) else priD n m d k
noncomputable def stPr (n m : Nat) (d : Dict) (k : Nat) : St :=
 {env := [(0, tR n m d), (3, .sl 1006 3 0 m), (14, .list 1 .plain (nR d.fre d.c)), (15, iv d.c), (16, iv k)], sto := [(1006, .arr 3 (fR (priD n m d k) m))] }
theorem prices_sound {n m L : Nat} {d : Dict} (hm : m < 1000000) (hn : n < 1000000) (hc : d.c < 1000000) (hfre : ∀ j, j < d.c → d.fre j < 4000000) (hL : L ≤ 100000000000) (hsz : ∀ j, j < d.c → sz L (d.cst j)) :
  SoundCall Try.prog F__tb_prices [tR n m d] (fL (priD n m d d.c) m) := by
 refine sound' t__tb_prices (by simp [tR]) ?_
 simp [c__tb_prices, tR, ok_zeros]
 refine eCallI_of (zerosI rfl hm ?_)
 simp
 refine awp_forW (stPr n m d) (fun _ => True) d.c (by simp [stPr, tR, priD]) trivial (fun k hk _ => ?_) (fun _ => ?_)
 ·have e : (k : Int) < d.c := by omega
  have w := wrap_succ (k := k) (by omega)
  have g := neg_q (K := L) (by omega) (hsz k hk)
  have hf := hfre k hk
  obtain ⟨f, hfe⟩ : ∃ f, d.fre k = f := ⟨_, rfl⟩
  rw [hfe] at hf
  have w1 : IntKind.i64.wrap ((n : Int) + m) = (n : Int) + m := by rw [wrap64] <;> omega
  by_cases h1 : n ≤ f
  ·by_cases h2 : f < n + m
   ·have ev : priD n m d (k + 1) = upd (priD n m d k) (f - n) (-d.cst k) := by simp only [priD]; rw [hfe, if_pos ⟨h1, h2⟩]
    have h1' : (n : Int) ≤ f := by omega
    have h2' : (f : Int) < n + m := by omega
    have w2 : IntKind.i64.wrap ((f : Int) - n) = ((f - n : Nat) : Int) := by rw [wrap64] <;> omega
    have h3 : f - n < m := by omega
    have h4 : ((f - n : Nat) : Int) < m := by omega
    generalize f - n = g0 at *
    simp [c__tb_prices_l0, stPr, tR, e, hk, hfe, w1, h1', h2', w2]
    refine eCall_i g (by simp) (by simp) ?_
    simp [splice, h3, h4, w, stPr, tR, ev, fR_set]
   ·have ev : priD n m d (k + 1) = priD n m d k := by simp only [priD]; rw [hfe, if_neg fun h => h2 h.2]
    have h1' : (n : Int) ≤ f := by omega
    have h2' : ¬ (f : Int) < n + m := by omega
    simp [c__tb_prices_l0, stPr, tR, e, hk, hfe, w1, h1', h2', w, ev]
  ·have ev : priD n m d (k + 1) = priD n m d k := by simp only [priD]; rw [hfe, if_neg fun h => h1 h.1]
   have h1' : ¬ (n : Int) ≤ f := by omega
   simp [c__tb_prices_l0, stPr, tR, e, hk, hfe, h1', w, ev]
 ·simp [c__tb_prices_l0, c__tb_prices_k1, r__tb_prices, stPr]
def poiD (n : Nat) (d : Dict) : Nat → Nat → Rat
 | 0 => fun _ => 0
 | k + 1 => if d.bas k < n then upd (poiD n d k) (d.bas k) (d.b k) else poiD n d k
noncomputable def stPo (n m : Nat) (d : Dict) (k : Nat) : St :=
 {env := [(0, tR n m d), (3, .sl 1006 3 0 n), (14, .list 1 .plain (nR d.bas m)), (15, iv m), (16, iv k)], sto := [(1006, .arr 3 (fR (poiD n d k) n))] }
theorem point_sound {n m : Nat} {d : Dict} (hm : m < 1000000) (hn : n < 1000000) :
  SoundCall Try.prog F__tb_point [tR n m d] (fL (poiD n d m) n) := by
 refine sound' t__tb_point (by simp [tR]) ?_
 simp [c__tb_point, tR, ok_zeros]
 refine eCallI_of (zerosI rfl hn ?_)
 simp
 refine awp_forW (stPo n m d) (fun _ => True) m (by simp [stPo, tR, poiD]) trivial (fun k hk _ => ?_) (fun _ => ?_)
 ·have e : (k : Int) < m := by omega
  have w := wrap_succ (k := k) (by omega)
  obtain ⟨f, hfe⟩ : ∃ f, d.bas k = f := ⟨_, rfl⟩
  by_cases h1 : f < n
  ·have ev : poiD n d (k + 1) = upd (poiD n d k) f (d.b k) := by simp only [poiD]; rw [hfe, if_pos h1]
   have h1' : (f : Int) < n := by omega
   simp [c__tb_point_l0, stPo, tR, e, hk, hfe, h1, h1', w, ev, splice, fR_set]
  ·have ev : poiD n d (k + 1) = poiD n d k := by simp only [poiD]; rw [hfe, if_neg h1]
   have h1' : ¬ (f : Int) < n := by omega
   simp [c__tb_point_l0, stPo, tR, e, hk, hfe, h1', w, ev]
 ·simp [c__tb_point_l0, c__tb_point_k1, r__tb_point, stPo]
def rayD (n : Nat) (d : Dict) (q : Nat) : Nat → Nat → Rat
 | 0 => if d.fre q < n then upd (fun _ => 0) (d.fre q) 1 else fun _ => 0
 | k + 1 => if d.bas k < n then upd (rayD n d q k) (d.bas k) (-d.a k q) else rayD n d q k
noncomputable def stRa (n m q : Nat) (d : Dict) (k : Nat) : St :=
 {env := [(0, tR n m d), (1, iv q), (5, .sl 1006 3 0 n), (38, .list 1 .plain (nR d.bas m)), (39, iv m), (40, iv k)], sto := [(1006, .arr 3 (fR (rayD n d q k) n))] }
theorem ray_sound {n m q L : Nat} {d : Dict} (hm : m < 1000000) (hn : n < 1000000) (hq : q < d.c) (hL : L ≤ 100000000000) (hsz : ∀ i, i < m → sz L (d.a i q)) :
  SoundCall Try.prog F__tb_ray [tR n m d, iv q] (fL (rayD n d q m) n) := by
 have h1g : SoundCall Try.prog F_f_FromInt [iv 1] (fq 1) := fromInt_q (n := 1) (by decide) (by decide)
 have eq0 : (q : Int) < d.c := by omega
 obtain ⟨f, hfe⟩ : ∃ f, d.fre q = f := ⟨_, rfl⟩
 have loop : awp Try.prog (.loop c__tb_ray_l0) (stRa n m q d 0) (blockC 0 (seqC Try.prog c__tb_ray_k1 (retC r__tb_ray (fL (rayD n d q m) n)))) := by
  refine awp_forW (stRa n m q d) (fun _ => True) m (by simp [stRa]) trivial (fun k hk _ => ?_) (fun _ => ?_)
  ·have e : (k : Int) < m := by omega
   have w := wrap_succ (k := k) (by omega)
   have g := neg_q (K := L) (by omega) (hsz k hk)
   obtain ⟨f, hfe⟩ : ∃ f, d.bas k = f := ⟨_, rfl⟩
   by_cases h1 : f < n
   ·have ev : rayD n d q (k + 1) = upd (rayD n d q k) f (-d.a k q) := by simp only [rayD]; rw [hfe, if_pos h1]
    have h1' : (f : Int) < n := by omega
    simp [c__tb_ray_l0, stRa, tR, e, hk, hq, eq0, hfe, h1']
    refine eCall_i g (by simp) (by simp) ?_
    simp [stRa, tR, h1, h1', w, ev, splice, fR_set]
   ·have ev : rayD n d q (k + 1) = rayD n d q k := by simp only [rayD]; rw [hfe, if_neg h1]
    have h1' : ¬ (f : Int) < n := by omega
    simp [c__tb_ray_l0, stRa, tR, e, hk, hfe, h1', w, ev]
  ·simp [c__tb_ray_l0, c__tb_ray_k1, r__tb_ray, stRa]
 refine sound' t__tb_ray (by simp [tR]) ?_
 simp [c__tb_ray, tR, ok_zeros]
 refine eCallI_of (zerosI rfl hn ?_)
 by_cases h1 : f < n
 ·have h1' : (f : Int) < n := by omega
  have ev : rayD n d q 0 = upd (fun _ => 0) f 1 := by simp only [rayD]; rw [hfe, if_pos h1]
  simp [hq, eq0, hfe, h1']
  refine eCall_i h1g (by simp) (by simp) ?_
  simp [h1, h1', splice, fR_set]
  simpa [stRa, tR, ev] using loop
 ·have h1' : ¬ (f : Int) < n := by omega
  have ev : rayD n d q 0 = fun _ => 0 := by simp only [rayD]; rw [hfe, if_neg h1]
  simp [hq, eq0, hfe, h1']
  simpa [stRa, tR, ev] using loop
end Go.Proofs.Ytdeifcfjkmfocaa

namespace Go.Proofs.Ytdeifcfjkmfocaa
open Go Go.Am Go.Dig Go.LP
noncomputable def stZj (n : Nat) (σ : List (Nat × Entry)) (out : List (List (Nat × AV))) (k : Nat) : St := { env := [(3, .sl 5006 3 0 n), (8, iv n), (9, iv k)], sto := σ ++ [(5006, .arr 3 (fZ (fun _ => 0) k n))], out := out, base := 5000 }
theorem zerosT {n n' m : Nat} {d : Dict} {ρ : List (Nat × Entry)} {s : St} {K : AV → St → Prop} (hs : s.sto = ρ ++ tL n' m d) (hρ : rest ρ) (hn : n < 1000000)
  (h : K (.sl 5006 3 0 n) ⟨s.env, ρ ++ (tL n' m d ++ [(5006, .arr 3 (fR (fun _ => 0) n))]), s.out, s.base⟩) :
  CallI Try.prog F_s_zeros [iv n] s K := by
 obtain ⟨env, σ, out, base⟩ := s
 simp only at hs h
 subst hs
 refine soundI' 5000 t_s_zeros (by simp) ?_
 simp [c_s_zeros, eMk, tL, rlk hρ, rpt hρ, far]
 refine ⟨by omega, by omega, ?_⟩
 rw [fZ_zero (f := fun _ => 0)]
 have k0 : SoundCall Try.prog F_f_FromInt [iv 0] (fq 0) := fromInt_q (n := 0) (by decide) (by decide)
 refine awp_forW (stZj n (ρ ++ tL n' m d) (env :: out)) (fun _ => True) n (by simp [stZj, tL]) trivial (fun k hk _ => ?_) (fun _ => ?_)
 ·have e : (k : Int) < n := by omega
  have w := wrap_succ (k := k) (by omega)
  have hs := fZ_set (f := fun _ => 0) hk
  simp [c_s_zeros_l0, stZj, tL, e]
  refine eCall_i k0 (by simp) (by simp) ?_
  simp [splice, hk, w, hs, stZj, rlk hρ, rpt hρ, far]
 ·simp [c_s_zeros_l0, c_s_zeros_k1, r_s_zeros, stZj, tL, fZ_full]
  exact h
noncomputable def stFi (ls : List (Nat × AV)) (σ : List (Nat × Entry)) (f : Nat → Rat) (len : Nat) (out : List (List (Nat × AV))) (last : Bool) : St :=
 if last then ⟨ls ++ [(3, fL f len)], σ, out, 4500⟩ else ⟨ls ++ [(3, .sl 5006 3 0 len)], σ ++ [(5006, .arr 3 (fR f len))], out, 4500⟩
theorem stFi_false {ls : List (Nat × AV)} {σ : List (Nat × Entry)} {f : Nat → Rat} {len : Nat} {out : List (List (Nat × AV))} : stFi ls σ f len out false = ⟨ls ++ [(3, .sl 5006 3 0 len)], σ ++ [(5006, .arr 3 (fR f len))], out, 4500⟩ := rfl
theorem noRef_of_low {M k len : Nat} {ls : List (Nat × AV)} {f : Nat → Rat} (hl : lowF M ls) (hk : M ≤ k) : noRef k (ls ++ [(3, fL f len)]) = true :=
 lowF_noRef (M := M) hk fun p hp => by
  rcases List.mem_append.1 hp with h | h
  ·exact hl p h
  ·simp only [List.mem_singleton] at h; subst h; rfl
theorem stFi_imp {ls : List (Nat × AV)} {n m : Nat} {d : Dict} {ρ : List (Nat × Entry)} {f : Nat → Rat} {len : Nat} {out : List (List (Nat × AV))} {last : Bool} (hρ : rest ρ) (hl : lowF 3000 ls) (hO : lowO 2000 out) :
  St.imp (stFi ls (ρ ++ tL n m d) f len out false) (stFi ls (ρ ++ tL n m d) f len out last) := by
 cases last with
 | false => exact St.imp.refl
 | true =>
  refine St.imp_freeze (k := 5006) ?_
  have hn1 : noRef 5006 (ls ++ [(3, fL f len)]) = true := noRef_of_low hl (by omega)
  have e1 := lowF_frz (k := 5006) (e := .arr 3 (fR f len)) (by omega) hl
  simp [eFreeze, stFi, tL, rlk hρ, rdel hρ, rnoRef hρ, ono hO, rfrz hρ, ofrz hO, far, frzE_var, frzE_uarr, frz_plain, frz_us, e1, hn1]
abbrev lsA (d : Dict) (k : Nat) : List (Nat × AV) := [(0, .ptr 1015 0), (14, .us 2029 1 0 d.c), (15, iv d.c), (16, iv k)]
theorem lsA_low {d : Dict} {k : Nat} : lowF 3000 (lsA d k) := by simp [lowF_cons, lowF_nil, low_iv, low_ptr]; rfl
theorem pricesI {n m L : Nat} {d : Dict} {ρ : List (Nat × Entry)} {s : St} {K : AV → St → Prop} (hs : s.sto = ρ ++ tL n m d) (hρ : rest ρ) (hE : lowF 2000 s.env) (hO : lowO 2000 s.out) (hm : m < 1000000) (hn : n < 1000000) (hc : d.c < 1000000) (hfre : ∀ j, j < d.c → d.fre j < 4000000) (hL : L ≤ 100000000000) (hsz : ∀ j, j < d.c → sz L (d.cst j))
  (h : K (fL (priD n m d d.c) m) ⟨s.env, ρ ++ tL n m d, s.out, s.base⟩) : CallI Try.prog F__tb_prices [.ptr 1015 0] s K := by
 obtain ⟨env, σ, out, base⟩ := s
 simp only at hs hE hO h
 subst hs
 have hO2 : lowO 2000 (env :: out) := lowO_cons.2 ⟨hE, hO⟩
 refine soundI' 4500 t__tb_prices (by simp) ?_
 simp [c__tb_prices, ok_zeros, tL, rlk hρ, far]
 refine eCallI_of (zerosT (d := d) (n' := n) (m := m) rfl hρ hm ?_)
 simp [tL, rlk hρ, far]
 refine awp_forS (fun k => stFi (lsA d k) (ρ ++ tL n m d) (priD n m d k) m (env :: out) (k == d.c)) (fun _ => True) d.c (St.imp.trans (St.imp_of (by simp [stFi, tL, priD])) (stFi_imp hρ lsA_low hO2)) trivial (fun k hk _ => ?_) (fun _ => ?_)
 ·have e : (k : Int) < d.c := by omega
  have hlast : (k == d.c) = false := by simp; omega
  rw [hlast]
  have fin := stFi_imp (last := k + 1 == d.c) (n := n) (m := m) (d := d) (f := priD n m d (k + 1)) (len := m) hρ (lsA_low (d := d) (k := k + 1)) hO2
  have w := wrap_succ (k := k) (by omega)
  have g := neg_q (K := L) (by omega) (hsz k hk)
  have hf := hfre k hk
  obtain ⟨f, hfe⟩ : ∃ f, d.fre k = f := ⟨_, rfl⟩
  rw [hfe] at hf
  have w1 : IntKind.i64.wrap ((n : Int) + m) = (n : Int) + m := by rw [wrap64] <;> omega
  by_cases h1 : n ≤ f
  ·by_cases h2 : f < n + m
   ·have ev : priD n m d (k + 1) = upd (priD n m d k) (f - n) (-d.cst k) := by simp only [priD]; rw [hfe, if_pos ⟨h1, h2⟩]
    have h1' : (n : Int) ≤ f := by omega
    have h2' : (f : Int) < n + m := by omega
    have w2 : IntKind.i64.wrap ((f : Int) - n) = ((f - n : Nat) : Int) := by rw [wrap64] <;> omega
    have h3 : f - n < m := by omega
    have h4 : ((f - n : Nat) : Int) < m := by omega
    rw [ev] at fin
    generalize f - n = g0 at *
    simp [c__tb_prices_l0, stFi_false, tL, rlk hρ, far, e, hk, hfe, w1, h1', h2', w2]
    refine eCall_i g (by simp) (by simp) ?_
    simp [splice, h3, h4, w, fR_set, rlk hρ, rpt hρ, far]
    rw [ev]
    refine St.imp.trans (St.imp_of ?_) fin
    simp [stFi, tL]
   ·have ev : priD n m d (k + 1) = priD n m d k := by simp only [priD]; rw [hfe, if_neg fun h => h2 h.2]
    have h1' : (n : Int) ≤ f := by omega
    have h2' : ¬ (f : Int) < n + m := by omega
    simp [c__tb_prices_l0, stFi_false, tL, rlk hρ, far, e, hk, hfe, w1, h1', h2', w]
    refine St.imp.trans (St.imp_of ?_) fin
    simp [stFi, tL, ev]
  ·have ev : priD n m d (k + 1) = priD n m d k := by simp only [priD]; rw [hfe, if_neg fun h => h1 h.1]
   have h1' : ¬ (n : Int) ≤ f := by omega
   simp [c__tb_prices_l0, stFi_false, tL, rlk hρ, far, e, hk, hfe, h1', w]
   refine St.imp.trans (St.imp_of ?_) fin
   simp [stFi, tL, ev]
 ·simp [c__tb_prices_l0, c__tb_prices_k1, r__tb_prices, stFi]
  exact h
end Go.Proofs.Ytdeifcfjkmfocaa

namespace Go.LP
def sk (j k : Nat) : Nat := if k < j then k else k + 1
theorem sk_ne {j k : Nat} : sk j k ≠ j := by unfold sk; split <;> omega
theorem sk_lt {j k n : Nat} (hj : j < n) (h : k < n - 1) : sk j k < n := by unfold sk; split <;> omega
theorem sumR_skip {j : Nat} {f : Nat → Rat} : ∀ {n : Nat}, j < n + 1 → sumR (n + 1) f = sumR n (fun k => f (sk j k)) + f j
 | 0, h => by
  obtain rfl : j = 0 := by omega
  simp [sumR]
 | n + 1, h => by
  by_cases e : j = n + 1
  ·subst e
   simp only [sumR]
   rw [sumR_congr (n := n) (f := fun k => f (sk (n + 1) k)) (g := f) fun k hk => by unfold sk; rw [if_pos (by omega)]]
   unfold sk; rw [if_pos (by omega)]
  ·have ih := sumR_skip (f := f) (n := n) (show j < n + 1 by omega)
   rw [show sumR (n + 1 + 1) f = sumR (n + 1) f + f (n + 1) from rfl, ih]
   simp only [sumR]
   rw [show sk j n = n + 1 by unfold sk; rw [if_neg (by omega)]]
   grind
def dropD (d : Dict) (j : Nat) : Dict := ⟨d.r, d.c - 1, fun i k => d.a i (sk j k), d.b, fun k => d.cst (sk j k), d.v, d.bas, fun k => d.fre (sk j k)⟩
theorem feas_deg {d : Dict} {p q : Nat} (h : feas d) (hb : d.b p = 0) : feas (pivot d p q) := by
 intro i hi
 have := h i hi
 simp only [pivot, hb]
 split <;> grind
section
variable {n m : Nat} {A : Nat → Nat → Rat} {bb gg : Nat → Rat}
theorem start_a {p : Nat} : (dA n m A bb).a p n ≠ 0 := by
 simp only [dA, Nat.lt_irrefl, if_false]
 grind
theorem start_same {p : Nat} (hp : p < m) : Same (pivot (dA n m A bb) p n) (dA n m A bb) (n + m + 1) := Same.pivot dA_bij hp (Nat.lt_succ_self n) start_a
theorem start_feas {p : Nat} (h0 : bb p < 0) (hmin : ∀ i, i < m → bb p ≤ bb i) : feas (pivot (dA n m A bb) p n) := by
 intro i hi
 have := hmin i hi
 simp only [pivot, dA, Nat.lt_irrefl, if_false]
 split <;> grind
section
variable {d : Dict} (h : Same d (dA n m A bb) (n + m + 1))
include h
theorem ph1_obj {x : Nat → Rat} (hx : sol d x) : obj d x = - x (n + m) := by rw [h.obj x hx, obj_dA]
theorem ph1_v (hf : feas d) : d.v ≤ 0 := by
 have h1 := ph1_obj h (vl_sol h.bd)
 rw [vl_obj h.bd] at h1
 have := vl_nonneg h.bd hf (n + m)
 grind
theorem ph1_bounded (hf : feas d) {q : Nat} (hq : q < d.c) (hc : 0 < d.cst q) (ha : ∀ i, i < d.r → d.a i q ≤ 0) : False := by
 have hv := ph1_v h hf
 have hy0 : 0 ≤ 1 / d.cst q := by have := inv_pos' hc; grind
 have hy : 0 ≤ (1 - d.v) * (1 / d.cst q) := Rat.mul_nonneg (by grind) hy0
 have h1 := ph1_obj h (ptq_sol h.bd hq (y := (1 - d.v) * (1 / d.cst q)))
 rw [ptq_obj h.bd hq] at h1
 have h2 : d.v + d.cst q * ((1 - d.v) * (1 / d.cst q)) = 1 := by grind
 have h3 : 0 ≤ ptq d q ((1 - d.v) * (1 / d.cst q)) (n + m) := by
  unfold ptq
  generalize (1 - d.v) * (1 / d.cst q) = y at *
  have : 0 ≤ sumR d.r (fun i => if d.bas i = n + m then d.b i - d.a i q * y else 0) := sumR_nonneg fun i hi => by
   split
   ·have h4 := hf i hi
    have h5 := Rat.mul_nonneg (show 0 ≤ - d.a i q by have := ha i hi; grind) hy
    grind
   ·grind
  split <;> grind
 rw [h2] at h1
 grind
theorem ph1_piv {i : Nat} (hi : i < d.r) (hb : d.bas i = n + m) : ∃ j, j < d.c ∧ d.a i j ≠ 0 := by
 apply Classical.byContradiction
 intro hno
 have hz : ∀ j, j < d.c → d.a i j = 0 := fun j hj => Classical.byContradiction fun e => hno ⟨j, hj, e⟩
 have hx := (h.sol _).2 (sol_dA' (n := n) (m := m) (A := A) (bb := bb) (x := fun k => if k < n then 0 else if k = n + m then d.b i + 1 else bb (k - n) + (d.b i + 1)) fun l hl => by
  rw [if_neg (by omega), if_neg (by omega), if_neg (by omega), if_pos rfl, Nat.add_sub_cancel_left, sumR_zero fun j hj => by rw [if_pos hj]; grind]
  grind)
 have h1 := hx i hi
 rw [hb, sumR_zero fun j hj => by rw [hz j hj]; grind] at h1
 dsimp only at h1
 rw [if_neg (by omega), if_pos rfl] at h1
 grind
theorem ph1_b0 {i : Nat} (hi : i < d.r) (hb : d.bas i = n + m) (hv : d.v = 0) : d.b i = 0 := by
 have h1 := ph1_obj h (vl_sol h.bd)
 rw [vl_obj h.bd, ← hb, vl_bas h.bd hi] at h1
 grind
theorem drop_bij {j : Nat} (hj : j < d.c) (hfre : d.fre j = n + m) : Bij (dropD d j) (n + m) := by
 intro g
 have h1 := h.bd fun k => if k = n + m then 0 else g k
 obtain ⟨c, hc⟩ : ∃ c, d.c = c + 1 := ⟨d.c - 1, by omega⟩
 simp only [sumR, if_true] at h1
 rw [hc, sumR_skip (j := j) (by omega)] at h1
 simp only [dropD, hc, Nat.add_sub_cancel]
 rw [hfre, if_pos rfl, sumR_congr (n := n + m) (g := g) fun k hk => if_neg (by omega),
  sumR_congr (n := c) (g := fun k => g (d.fre (sk j k))) fun k hk => if_neg fun e => sk_ne (fre_inj h.bd (sk_lt (n := d.c) (k := k) hj (by omega)) hj (by rw [e, hfre])),
  sumR_congr (n := d.r) (g := fun i => g (d.bas i)) fun i hi => if_neg fun e => fre_ne_bas h.bd hi hj (by rw [e, hfre])] at h1
 grind
theorem drop_sol {j : Nat} (hj : j < d.c) (hfre : d.fre j = n + m) (x : Nat → Rat) : sol (dropD d j) x ↔ sol (dG n m A bb gg) x := by
 obtain ⟨c, hc⟩ : ∃ c, d.c = c + 1 := ⟨d.c - 1, by omega⟩
 have e1 : sol (dropD d j) x ↔ sol d (fun k => if k = n + m then 0 else x k) := by
  refine forall_congr' fun i => forall_congr' fun hi => ?_
  simp only [dropD, hc, Nat.add_sub_cancel]
  rw [if_neg fun e => fre_ne_bas h.bd hi hj (by rw [e, hfre]), sumR_skip (j := j) (by omega), hfre, if_pos rfl,
   sumR_congr (n := c) (f := fun k => d.a i (sk j k) * (if d.fre (sk j k) = n + m then 0 else x (d.fre (sk j k)))) (g := fun k => d.a i (sk j k) * x (d.fre (sk j k))) fun k hk => by
    rw [if_neg fun e => sk_ne (fre_inj h.bd (sk_lt (n := d.c) (k := k) hj (by omega)) hj (by rw [e, hfre]))]]
  grind
 rw [e1, h.sol]
 constructor
 ·intro hx i hi
  have := sol_dA hx hi
  rw [if_neg (by simp only [dG] at hi; omega), if_pos rfl, sumR_congr (n := n) (g := fun j => A i j * x j) fun k hk => by rw [if_neg (by omega)]] at this
  simp only [dG]
  grind
 ·intro hx
  refine sol_dA' fun i hi => ?_
  have := sol_dG hx hi
  rw [if_neg (by omega), if_pos rfl, sumR_congr (n := n) (g := fun j => A i j * x j) fun k hk => by rw [if_neg (by omega)]]
  grind
end
end
theorem vl_sz {d : Dict} {N L : Nat} (hb : Bij d N) (hs : szD L d) (k : Nat) : sz L (vl d k) := by
 by_cases h : inB d k
 ·obtain ⟨i, hi, rfl⟩ := h
  rw [vl_bas hb hi]; exact hs.b i hi
 ·rw [vl_fre h]; exact sz_zero
theorem cv_sz {d : Dict} {N L : Nat} (hb : Bij d N) (hs : szD L d) (k : Nat) : sz L (cv d k) := by
 by_cases h : ∃ j, j < d.c ∧ d.fre j = k
 ·obtain ⟨j, hj, rfl⟩ := h
  rw [cv_fre hb hj]; exact hs.cst j hj
 ·have : cv d k = 0 := sumR_zero fun j hj => if_neg fun e => h ⟨j, hj, e⟩
  rw [this]; exact sz_zero
theorem rayq_sz {d : Dict} {N L q : Nat} (hb : Bij d N) (hs : szD L d) (hq : q < d.c) (k : Nat) : sz L (rayq d q k) := by
 by_cases h : inB d k
 ·obtain ⟨i, hi, rfl⟩ := h
  have e : rayq d q (d.bas i) = - d.a i q := by rw [rayq_eq, ptq_bas hb hq hi, ptq_bas hb hq hi]; grind
  rw [e]; exact sz_neg (hs.a i q hi hq)
 ·unfold rayq
  rw [sumR_zero fun i hi => if_neg fun e => h ⟨i, hi, e⟩]
  split
  ·rw [show (0 : Rat) + 1 = 1 by grind]; exact sz_one
  ·rw [show (0 : Rat) + 0 = 0 by grind]; exact sz_zero
def sgV (n : Nat) (g : Nat → Rat) (d : Dict) (k : Nat) : Rat := sumR k fun i => if d.bas i < n then g (d.bas i) * d.b i else 0
def sgC (n : Nat) (g : Nat → Rat) (d : Dict) (k j : Nat) : Rat := (if d.fre j < n then g (d.fre j) else 0) - sumR k fun i => if d.bas i < n then g (d.bas i) * d.a i j else 0
def goalD (n : Nat) (g : Nat → Rat) (d : Dict) : Dict := { d with cst := sgC n g d d.r, v := sgV n g d d.r }
section
variable {n m : Nat} {A : Nat → Nat → Rat} {bb gg : Nat → Rat}
theorem goal_same {d : Dict} (hb : Bij d (n + m)) (hs : ∀ x, sol d x ↔ sol (dG n m A bb gg) x) : Same (goalD n gg d) (dG n m A bb gg) (n + m) := by
 refine ⟨hb, dG_bij, hs, fun x hx => ?_⟩
 have hx' : sol d x := hx
 rw [obj_dG]
 have h1 := hb fun k => if k < n then gg k * x k else 0
 rw [sumR_app, sumR_congr (n := n) (g := fun k => gg k * x k) fun k hk => if_pos hk, sumR_zero (n := m) fun k hk => if_neg (by omega)] at h1
 have h2 : sumR d.r (fun i => if d.bas i < n then gg (d.bas i) * x (d.bas i) else 0) = sgV n gg d d.r - sumR d.c fun j => sumR d.r (fun i => if d.bas i < n then gg (d.bas i) * d.a i j else 0) * x (d.fre j) := by
  rw [sumR_congr (n := d.c) (g := fun j => sumR d.r fun i => if d.bas i < n then gg (d.bas i) * d.a i j * x (d.fre j) else 0) fun j hj => by
   rw [← sumR_mul']; exact sumR_congr fun i hi => by split <;> grind]
  rw [← sumR_comm, sgV, ← sumR_sub]
  refine sumR_congr fun i hi => ?_
  by_cases e : d.bas i < n
  ·simp only [if_pos e]
   rw [hx' i hi, sumR_congr (n := d.c) (f := fun j => gg (d.bas i) * d.a i j * x (d.fre j)) (g := fun j => gg (d.bas i) * (d.a i j * x (d.fre j))) fun j hj => by grind, sumR_mul]
   grind
  ·simp only [if_neg e]
   rw [sumR_zero fun j hj => rfl]
   grind
 have h3 : sumR d.c (fun j => sgC n gg d d.r j * x (d.fre j)) = sumR d.c (fun j => if d.fre j < n then gg (d.fre j) * x (d.fre j) else 0) - sumR d.c fun j => sumR d.r (fun i => if d.bas i < n then gg (d.bas i) * d.a i j else 0) * x (d.fre j) := by
  rw [← sumR_sub]
  refine sumR_congr fun j hj => ?_
  unfold sgC
  split <;> grind
 show sgV n gg d d.r + sumR d.c (fun j => sgC n gg d d.r j * x (d.fre j)) = _
 rw [h3]
 grind
end
end Go.LP
