/- What the proof rests on, part 10: X9 X10 X11 X12 X13 X14 X15 X16 X17 L LP6 X18 LR X19 LP7 LL. -/
import Derived.Test.YtdeifcfjkmfocaaP9
set_option maxRecDepth 100000
set_option maxHeartbeats 4000000
namespace Go.Proofs.Ytdeifcfjkmfocaa
open Go Go.Am Go.Dig Go.LP
theorem sgV_sz {n k L : Nat} {g : Nat → Rat} {d : Dict} (hg : ∀ j, j < n → sz L (g j)) (hb : ∀ i, i < k → sz L (d.b i)) : sz (k * (2 * L + 1)) (sgV n g d k) := by
 induction k with
 | zero => exact sz_zero
 | succ k ih =>
  have h1 := ih fun i hi => hb i (by omega)
  have e : (k + 1) * (2 * L + 1) = k * (2 * L + 1) + (L + L) + 1 := by rw [Nat.succ_mul]; omega
  rw [e]
  refine sz_add h1 ?_
  dsimp only
  split
  ·rename_i h; exact sz_mul (hg _ h) (hb k (by omega))
  ·exact sz_zero
theorem sgC_sz {n k L j : Nat} {g : Nat → Rat} {d : Dict} (hg : ∀ j, j < n → sz L (g j)) (ha : ∀ i, i < k → sz L (d.a i j)) : sz (L + k * (2 * L + 1) + 1) (sgC n g d k j) := by
 refine sz_sub ?_ ?_
 ·split
  ·rename_i h; exact hg _ h
  ·exact sz_zero
 ·induction k with
  | zero => exact sz_zero
  | succ k ih =>
   have h1 := ih fun i hi => ha i (by omega)
   have e : (k + 1) * (2 * L + 1) = k * (2 * L + 1) + (L + L) + 1 := by rw [Nat.succ_mul]; omega
   rw [e]
   refine sz_add h1 ?_
   dsimp only
   split
   ·rename_i h; exact sz_mul (hg _ h) (ha k (by omega))
   ·exact sz_zero
def wv (d : Dict) (v : Rat) : Dict := { d with v := v }
noncomputable def stG0 (n m : Nat) (g : Nat → Rat) (d : Dict) (ρ : List (Nat × Entry)) (out : List (List (Nat × AV))) (k : Nat) : St :=
 {env := [(0, .ptr 1015 0), (1, fL g n), (4, .sl 5020 3 0 d.c), (24, .us 2029 1 0 d.c), (25, iv d.c), (26, iv k)],
  sto := ρ ++ (tL n m (wv d 0) ++ [(5020, .arr 3 (fZ (sgC n g d 0) k d.c))]), out := out, base := 5000 }
noncomputable def stG3o (n m : Nat) (g : Nat → Rat) (d : Dict) (ρ : List (Nat × Entry)) (out : List (List (Nat × AV))) (k : Nat) : St :=
 {env := [(0, .ptr 1015 0), (1, fL g n), (4, .sl 5020 3 0 d.c), (52, .us 1987 1 0 m), (53, iv m), (54, iv k)],
  sto := ρ ++ (tL n m (wv d (sgV n g d k)) ++ [(5020, .arr 3 (fR (sgC n g d k) d.c))]), out := out, base := 5000 }
noncomputable def stG3 (n m : Nat) (g : Nat → Rat) (d : Dict) (ρ : List (Nat × Entry)) (out : List (List (Nat × AV))) (k : Nat) : St :=
 if k = m then ⟨[(0, .ptr 1015 0), (1, fL g n), (4, fL (sgC n g d k) d.c), (52, .us 1987 1 0 m), (53, iv m), (54, iv k)],
  ρ ++ tL n m (wv d (sgV n g d k)), out, 5000⟩ else stG3o n m g d ρ out k
theorem stG3_lt {n m : Nat} {g : Nat → Rat} {d : Dict} {ρ : List (Nat × Entry)} {out : List (List (Nat × AV))} {k : Nat} (h : k < m) : stG3 n m g d ρ out k = stG3o n m g d ρ out k := if_neg (by omega)
theorem stG3_end {n m : Nat} {g : Nat → Rat} {d : Dict} {ρ : List (Nat × Entry)} {out : List (List (Nat × AV))} : stG3 n m g d ρ out m = ⟨[(0, .ptr 1015 0), (1, fL g n), (4, fL (sgC n g d m) d.c), (52, .us 1987 1 0 m), (53, iv m), (54, iv m)],
  ρ ++ tL n m (wv d (sgV n g d m)), out, 5000⟩ := if_pos rfl
theorem stG3_imp {n m : Nat} {g : Nat → Rat} {d : Dict} {ρ : List (Nat × Entry)} {out : List (List (Nat × AV))} (hρ : rest ρ) (hO : lowO 2000 out) (k : Nat) : St.imp (stG3o n m g d ρ out k) (stG3 n m g d ρ out k) := by
 unfold stG3
 split
 ·refine St.imp_freeze (k := 5020) ?_
  simp [eFreeze, stG3o, tL, rlk hρ, rdel hρ, rnoRef hρ, ono hO, rfrz hρ, ofrz hO, far, wv, frzE_var, frzE_uarr, frz_plain, frz_us]
 ·exact St.imp.refl
noncomputable def stG1 (n m : Nat) (g : Nat → Rat) (d : Dict) (ρ : List (Nat × Entry)) (out : List (List (Nat × AV))) (k : Nat) (l : Nat) : St :=
 {env := [(0, .ptr 1015 0), (1, fL g n), (4, .sl 5020 3 0 d.c), (8, iv (d.bas k)), (52, .us 1987 1 0 m), (53, iv m), (54, iv k), (99, fL (d.a k) d.c), (100, iv d.c), (101, iv l)],
  sto := ρ ++ (tL n m (wv d (sgV n g d (k + 1))) ++ [(5020, .arr 3 (fR (fun j => if j < l then sgC n g d (k + 1) j else sgC n g d k j) d.c))]), out := out, base := 5000 }
theorem setGoalI {n m L : Nat} {g : Nat → Rat} {d : Dict} {ρ : List (Nat × Entry)} {s : St} {K : AV → St → Prop} (hs : s.sto = ρ ++ tL n m d) (hρ : rest ρ) (hE : lowF 2000 s.env) (hO : lowO 2000 s.out) (hm : m < 1000000) (_hn : n < 1000000) (hc : d.c < 1000000) (hr : d.r = m)
  (hL : L + (m + 1) * (2 * L + 1) ≤ 100000000000) (hsz : szD L d) (hg : ∀ j, j < n → sz L (g j)) (h : K (.tuple []) ⟨s.env, ρ ++ tL n m (goalD n g d), s.out, s.base⟩) :
  CallI Try.prog F__tb_setGoal [.ptr 1015 0, fL g n] s K := by
 obtain ⟨env, σ, out, base⟩ := s
 simp only at hs hE hO h
 subst hs
 have g0 : SoundCall Try.prog F_f_FromInt [iv 0] (fq 0) := fromInt_q (n := 0) (by decide) (by decide)
 have v0 : sgV n g d 0 = 0 := rfl
 refine soundI' 5000 t__tb_setGoal (by simp) ?_
 simp [c__tb_setGoal, tL]
 refine eCall_i g0 (by simp) (by simp) ?_
 simp [rlk hρ, rpt hρ, far, eMk]
 refine ⟨by omega, by omega, ?_⟩
 rw [fZ_zero (f := sgC n g d 0)]
 refine awp_forW (stG0 n m g d ρ (env :: out)) (fun _ => True) d.c (by simp [stG0, tL, wv]) trivial (fun k hk _ => ?_) (fun _ => ?_)
 ·have e : (k : Int) < d.c := by omega
  have w := wrap_succ (k := k) (by omega)
  have hset := fZ_set (f := sgC n g d 0) hk
  obtain ⟨f, hfe⟩ : ∃ f, d.fre k = f := ⟨_, rfl⟩
  by_cases h1 : f < n
  ·have h1' : (f : Int) < n := by omega
   have ev : sgC n g d 0 k = g f := by simp only [sgC, sumR]; rw [hfe, if_pos h1]; grind
   rw [ev] at hset
   simp [c__tb_setGoal_l0, stG0, tL, rlk hρ, far, wv, e, hk, hfe]
   refine eCall_i g0 (by simp) (by simp) ?_
   simp [tL, rlk hρ, rpt hρ, far, wv, e, hk, h1, h1', w, splice, hset, stG0]
  ·have h1' : ¬ (f : Int) < n := by omega
   have ev : sgC n g d 0 k = 0 := by simp only [sgC, sumR]; rw [hfe, if_neg h1]; grind
   rw [ev] at hset
   simp [c__tb_setGoal_l0, stG0, tL, rlk hρ, far, wv, e, hk, hfe]
   refine eCall_i g0 (by simp) (by simp) ?_
   simp [tL, rlk hρ, rpt hρ, far, wv, e, hk, h1', w, splice, hset, stG0]
 ·simp [c__tb_setGoal_l0, stG0, c__tb_setGoal_k5, tL, rlk hρ, far, wv, fZ_full]
  have hO2 : lowO 2000 (env :: out) := lowO_cons.2 ⟨hE, hO⟩
  refine awp_forS (stG3 n m g d ρ (env :: out)) (fun _ => True) m (St.imp.trans (St.imp_of (by simp [stG3o, tL, wv, v0])) (stG3_imp hρ hO2 0)) trivial (fun k hk _ => ?_) (fun _ => ?_)
  ·rw [stG3_lt hk]
   have fin := stG3_imp (n := n) (m := m) (g := g) (d := d) hρ hO2 (k + 1)
   have e : (k : Int) < m := by omega
   have w := wrap_succ (k := k) (by omega)
   have hkm : k * (2 * L + 1) ≤ m * (2 * L + 1) := Nat.mul_le_mul_right _ (by omega)
   have hms : (m + 1) * (2 * L + 1) = m * (2 * L + 1) + (2 * L + 1) := Nat.succ_mul _ _
   rw [hms] at hL
   obtain ⟨v, hve⟩ : ∃ v, d.bas k = v := ⟨_, rfl⟩
   by_cases h1 : n ≤ v
   ·have h1' : (n : Int) ≤ v := by omega
    have h1n : ¬ v < n := by omega
    have ev : sgV n g d (k + 1) = sgV n g d k := by simp only [sgV, sumR]; rw [hve, if_neg (by omega)]; grind
    have ec : sgC n g d (k + 1) = sgC n g d k := by funext j; simp only [sgC, sumR]; rw [hve, if_neg h1n]; grind
    simp [c__tb_setGoal_l3, c__tb_setGoal_k2, stG3o, tL, rlk hρ, far, wv, e, hk, hve, h1', w]
    refine St.imp.trans (St.imp_of ?_) fin
    simp [stG3o, tL, wv, ev, ec]
   ·have hvn : v < n := by omega
    have hvn' : (v : Int) < n := by omega
    have h1' : ¬ (n : Int) ≤ v := by omega
    have s1 := sign_q (q := g v)
    by_cases h2 : g v = 0
    ·have s2 : sgnR (g v) = 0 := sgnR_zero.2 h2
     have ev : sgV n g d (k + 1) = sgV n g d k := by simp only [sgV, sumR]; rw [hve, if_pos hvn, h2]; grind
     have ec : sgC n g d (k + 1) = sgC n g d k := by funext j; simp only [sgC, sumR]; rw [hve, if_pos hvn, h2]; grind
     simp [c__tb_setGoal_l3, c__tb_setGoal_k2, stG3o, tL, rlk hρ, far, wv, e, hk, hve, h1', hvn, hvn']
     refine eCall_i s1 (by simp) (by simp) ?_
     simp [w, s2]
     refine St.imp.trans (St.imp_of ?_) fin
     simp [stG3o, tL, wv, ev, ec]
    ·have s2 : ¬ sgnR (g v) = 0 := fun h => h2 (sgnR_zero.1 h)
     have sb := hsz.b k (by omega)
     have sv := sgV_sz (k := k) hg (fun i hi => hsz.b i (by omega))
     have g1 := mul_q (K := L) (by omega) (hg v hvn) sb
     have g2 := add_q (K := L + (m + 1) * (2 * L + 1)) (by omega) (sz_mono sv (by omega)) (sz_mono (sz_mul (hg v hvn) sb) (by omega))
     have ev : sgV n g d k + g v * d.b k = sgV n g d (k + 1) := by simp only [sgV, sumR]; rw [hve, if_pos hvn]
     rw [ev] at g2
     have ec : ∀ j, sgC n g d k j - g v * d.a k j = sgC n g d (k + 1) j := fun j => by simp only [sgC, sumR]; rw [hve, if_pos hvn]; grind
     simp [c__tb_setGoal_l3, c__tb_setGoal_k2, stG3o, tL, rlk hρ, far, wv, e, hk, hve, h1', hvn, hvn']
     refine eCall_i s1 (by simp) (by simp) ?_
     simp [rlk hρ, far, e, hk, hvn, hvn', s2]
     refine eCall_i g1 (by simp) (by simp) ?_
     simp
     refine eCall_i g2 (by simp) (by simp) ?_
     simp [rlk hρ, rpt hρ, far, e, hk]
     refine awp_forW (stG1 n m g d ρ (env :: out) k) (fun _ => True) d.c (by simp [stG1, tL, wv, hve]) trivial (fun l hl _ => ?_) (fun _ => ?_)
     ·have e2 : (l : Int) < d.c := by omega
      have w2 := wrap_succ (k := l) (by omega)
      have t1 := sign_q (q := d.a k l)
      have sa := hsz.a k l (by omega) hl
      have sc := sgC_sz (k := k) (j := l) hg (fun i hi => hsz.a i l (by omega) hl)
      have mx : ∀ x, x = sgC n g d (k + 1) l → (fR (fun j => if j < l then sgC n g d (k + 1) j else sgC n g d k j) d.c).set l (fr x) = fR (fun j => if j < l + 1 then sgC n g d (k + 1) j else sgC n g d k j) d.c := fun x hx => by
       rw [fR_set]
       refine fR_congr fun j _ => ?_
       unfold upd
       by_cases ej : j = l
       ·subst ej; rw [if_pos rfl, if_pos (by omega), hx]
       ·rw [if_neg ej]
        dsimp only
        by_cases ej2 : j < l
        ·rw [if_pos ej2, if_pos (by omega)]
        ·rw [if_neg ej2, if_neg (by omega)]
      have mg : (fR (fun j => if j < l then sgC n g d (k + 1) j else sgC n g d k j) d.c)[l]? = some (fr (sgC n g d k l)) := by rw [fR_get hl, if_neg (Nat.lt_irrefl l)]
      have ecl := ec l
      by_cases h3 : d.a k l = 0
      ·have s3 : sgnR (d.a k l) = 0 := sgnR_zero.2 h3
       have ms : fR (fun j => if j < l then sgC n g d (k + 1) j else sgC n g d k j) d.c = fR (fun j => if j < l + 1 then sgC n g d (k + 1) j else sgC n g d k j) d.c := by
        refine fR_congr fun j _ => ?_
        by_cases ej : j = l
        ·subst ej; rw [if_neg (Nat.lt_irrefl j), if_pos (by omega), ← ecl, h3]; grind
        ·by_cases ej2 : j < l
         ·rw [if_pos ej2, if_pos (by omega)]
         ·rw [if_neg ej2, if_neg (by omega)]
       simp [c__tb_setGoal_l1, stG1, tL, rlk hρ, rpt hρ, far, wv, e2, hl, hve]
       refine eCall_i t1 (by simp) (by simp) ?_
       simp [tL, rlk hρ, rdel hρ, rnoRef hρ, eno hE, ono hO, far, wv, s3, w2, stG1, hve, ms]
      ·have s3 : ¬ sgnR (d.a k l) = 0 := fun h => h3 (sgnR_zero.1 h)
       have t2 := mul_q (K := L) (by omega) (hg v hvn) sa
       have t3 := sub_q (K := L + (m + 1) * (2 * L + 1)) (by omega) (sz_mono sc (by omega)) (sz_mono (sz_mul (hg v hvn) sa) (by omega))
       rw [ecl] at t3
       have mx := mx _ rfl
       simp [c__tb_setGoal_l1, stG1, tL, rlk hρ, rpt hρ, far, wv, e2, hl, hve]
       refine eCall_i t1 (by simp) (by simp) ?_
       simp [rlk hρ, far, e2, hl, s3, hvn, hvn']
       refine eCall_i t2 (by simp) (by simp) ?_
       simp
       refine eCall_i t3 (by simp) (by simp) ?_
       simp [tL, rlk hρ, rpt hρ, rdel hρ, rnoRef hρ, eno hE, ono hO, far, wv, e2, hl, splice, mx, w2, stG1, hve]
     ·have hfull : fR (fun j => if j < d.c then sgC n g d (k + 1) j else sgC n g d k j) d.c = fR (sgC n g d (k + 1)) d.c := fR_congr fun j hj => if_pos hj
      simp [c__tb_setGoal_l1, stG1, tL, wv, hfull, w]
      refine St.imp.trans (St.imp_of ?_) fin
      simp [stG3o, tL, wv]
  ·rw [stG3_end]
   simp [c__tb_setGoal_l3, c__tb_setGoal_k4, r__tb_setGoal, tL, rlk hρ, rpt hρ, far, wv]
   simpa [goalD, tL, tC, hr] using h
end Go.Proofs.Ytdeifcfjkmfocaa

namespace Go.Proofs.Ytdeifcfjkmfocaa
open Go Go.Am Go.Dig Go.LP
@[simp] theorem eAppendU_newU {sz by_ d n j sz' off len : Nat} {rows : List (List AV)} {s : St} {K : St → Prop} (h : lk s.sto j = some (.uarr sz rows)) :
  eAppendU sz by_ s (some d) K [.list n .full [], .us j sz' off len] = (sz' = sz ∧ off + len ≤ rows.length ∧ 0 < sz ∧ ((rows.drop off).take len).length * by_ ≤ 140737488355328 ∧ ((rows.drop off).take len).length ≤ 9223372036854775807 ∧ lk s.sto (s.base + d) = none ∧
   K (((s.dg (s.base + d)).put (some d) (.us (s.base + d) sz 0 ((rows.drop off).take len).length)).new (some d) (some (.uarr sz (rowsDg (s.base + d) ((rows.drop off).take len)))))) := by
 simp [eAppendU, addRowsU, h]
@[simp] theorem eAppendU_moreU {sz by_ d l j sz1 off1 len1 sz' off len : Nat} {rows1 rows : List (List AV)} {s : St} {K : St → Prop} (h1 : lk s.sto l = some (.uarr sz rows1)) (h : lk s.sto j = some (.uarr sz rows)) :
  eAppendU sz by_ s (some d) K [.us l sz1 off1 len1, .us j sz' off len] = (sz' = sz ∧ off + len ≤ rows.length ∧ 0 < sz ∧ (len1 + ((rows.drop off).take len).length) * by_ ≤ 140737488355328 ∧ len1 + ((rows.drop off).take len).length ≤ 9223372036854775807 ∧ sz1 = sz ∧ off1 = 0 ∧ len1 = rows1.length ∧
   K ({ (s.dg l) with sto := pt (s.dg l).sto l (.uarr sz (rowsDg l (rows1 ++ ((rows.drop off).take len)))) }.put (some d) (.us l sz 0 (len1 + ((rows.drop off).take len).length)))) := by
 simp [eAppendU, addRowsU, h, h1]
theorem mR_skip {g : Nat → List AV} {j c : Nat} (hj : j < c) : (mR g c).take j ++ (mR g c).drop (j + 1) = mR (fun k => g (sk j k)) (c - 1) := by
 apply List.ext_getElem?
 intro i
 by_cases h : i < j
 ·rw [List.getElem?_append_left (by simp; omega), List.getElem?_take, if_pos h, mR_get (by omega), mR_get (by omega)]
  unfold sk; rw [if_pos h]
 ·rw [List.getElem?_append_right (by simp; omega), List.getElem?_drop]
  have e : j + 1 + (i - ((mR g c).take j).length) = i + 1 := by simp; omega
  rw [e]
  by_cases h2 : i < c - 1
  ·rw [mR_get (by omega), mR_get h2]
   unfold sk; rw [if_neg h]
  ·rw [List.getElem?_eq_none (by simp; omega), List.getElem?_eq_none (by simp; omega)]
theorem fR_skip {f : Nat → Rat} {j c : Nat} (hj : j < c) : (fR f c).take j ++ (fR f c).drop (j + 1) = fR (fun k => f (sk j k)) (c - 1) := mR_skip (g := fun k => fr (f k)) hj
theorem nR_skip {f : Nat → Nat} {j c : Nat} (hj : j < c) : (nR f c).take j ++ (nR f c).drop (j + 1) = nR (fun k => f (sk j k)) (c - 1) := mR_skip (g := fun k => [iv (f k)]) hj
theorem nR_tkdg {f : Nat → Nat} {j c l : Nat} : rowsDg l ((nR f c).take j) = (nR f c).take j := map_self fun r hr => by
 obtain ⟨i, _, rfl⟩ := List.mem_map.1 (List.mem_of_mem_take hr)
 rfl
theorem nR_drdg {f : Nat → Nat} {j c l : Nat} : rowsDg l ((nR f c).drop j) = (nR f c).drop j := map_self fun r hr => by
 obtain ⟨i, _, rfl⟩ := List.mem_map.1 (List.mem_of_mem_drop hr)
 rfl
theorem nR_tkdr {f : Nat → Nat} {j c : Nat} : ((nR f c).drop j).take (c - j) = (nR f c).drop j := List.take_of_length_le (by simp)
theorem least {p : Nat → Prop} : ∀ {n : Nat}, (∃ i, i < n ∧ p i) → ∃ i, i < n ∧ p i ∧ ∀ k, k < i → ¬ p k
 | 0, ⟨i, h, _⟩ => by omega
 | n + 1, ⟨i, h, hp⟩ => by
  by_cases e : ∃ i, i < n ∧ p i
  ·obtain ⟨i, h1, h2, h3⟩ := least e
   exact ⟨i, by omega, h2, h3⟩
  ·refine ⟨i, h, hp, fun k hk hpk => e ⟨k, by omega, hpk⟩⟩
theorem low_fL {M n : Nat} {f : Nat → Rat} : Am.low M (fL f n) = true := rfl
theorem ok_remove : okFn Try.prog F__tb_removeAuxiliary = true := by kernel_rfl
noncomputable def stR3 (n m : Nat) (d : Dict) (ρ : List (Nat × Entry)) (out : List (List (Nat × AV))) (k : Nat) : St :=
 {env := [(0, .ptr 1015 0), (2, iv (n + m : Nat)), (23, .us 1987 1 0 m), (24, iv m), (25, iv k)], sto := ρ ++ tL n m d, out := out, base := 4500 }
noncomputable def stR0 (n m i : Nat) (d : Dict) (ρ : List (Nat × Entry)) (out : List (List (Nat × AV))) (k : Nat) : St :=
 {env := [(0, .ptr 1015 0), (2, iv (n + m : Nat)), (3, iv i), (39, fL (d.a i) d.c), (40, iv d.c), (41, iv k)], sto := ρ ++ tL n m d, out := out, base := 4500 }
noncomputable def stR7 (n m : Nat) (d : Dict) (ρ : List (Nat × Entry)) (out : List (List (Nat × AV))) (k : Nat) : St :=
 {env := [(0, .ptr 1015 0), (2, iv (n + m : Nat)), (58, .us 2029 1 0 d.c), (59, iv d.c), (60, iv k)], sto := ρ ++ tL n m d, out := out, base := 4500 }
noncomputable def sR (d : Dict) (j k m : Nat) : List (List AV) := mR (fun i => if i < k then [fL (fun l => d.a i (sk j l)) (d.c - 1)] else [fL (d.a i) d.c]) m
theorem sR_dg {d : Dict} {j k m l : Nat} : rowsDg l (sR d j k m) = sR d j k m := mR_map fun i => by split <;> simp
@[simp] theorem sR_ref {d : Dict} {j k m l : Nat} : anyRefR l (sR d j k m) = false := mR_ref fun i => by split <;> simp
@[simp] theorem sR_len {d : Dict} {j k m : Nat} : (sR d j k m).length = m := mR_len
noncomputable def tS (n m j k : Nat) (d : Dict) : List (Nat × Entry) :=
 [(1015, .var (tC n m d)), (1961, .uarr 1 (sR d j k m)), (1972, .uarr 3 (fR d.b m)), (1987, .uarr 1 (nR d.bas m)), (2029, .uarr 1 (nR d.fre d.c))]
noncomputable def stR4 (n m j : Nat) (d : Dict) (ρ : List (Nat × Entry)) (out : List (List (Nat × AV))) (k : Nat) : St :=
 {env := [(0, .ptr 1015 0), (7, iv j), (71, .us 1961 1 0 m), (72, iv m), (73, iv k)], sto := ρ ++ tS n m j k d, out := out, base := 4500 }
@[simp] theorem cR_rn {a' : Nat → Nat → Rat} {cl : Nat → Nat} {n a b : Nat} : ((cR a' cl n).map fun r => r.map (rn a b)) = cR a' cl n := mR_map fun _ => by simp [rn, rn1]
noncomputable def tW (n m j : Nat) (d : Dict) : List (Nat × Entry) :=
 [(1015, .var [iv n, iv m, .us 1961 1 0 m, .us 1972 3 0 m, .list 3 (.own 4622) (fR (fun k => d.cst (sk j k)) (d.c - 1)), f0 d.v, f1 d.v, f2 d.v, .us 1987 1 0 m, .us 4603 1 0 (d.c - 1)]),
  (1961, .uarr 1 (sR d j m m)), (1972, .uarr 3 (fR d.b m)), (1987, .uarr 1 (nR d.bas m)), (2029, .uarr 1 (nR d.fre d.c)), (4603, .uarr 1 (nR (fun k => d.fre (sk j k)) (d.c - 1)))]
theorem sR_full {d : Dict} {j m : Nat} : sR d j m m = cR (fun i k => d.a i (sk j k)) (fun _ => d.c - 1) m := mR_congr fun _i hi => if_pos hi
theorem tW_imp {n m j : Nat} {d : Dict} {ρ : List (Nat × Entry)} {env : List (Nat × AV)} {out : List (List (Nat × AV))} {base : Nat} (hρ : rest ρ) (hE : lowF 2000 env) (hO : lowO 2000 out) :
  St.imp ⟨env, ρ ++ tW n m j d, out, base⟩ ⟨env, ρ ++ tL n m (dropD d j), out, base⟩ := by
 refine St.imp.trans (St.imp_cell_weak (k := 1015) (j := 4) (y := fL (fun k => d.cst (sk j k)) (d.c - 1)) (by simp [tW, rlk hρ, far]; rfl) (by simp; rfl) weak.list) ?_
 simp [tW, rpt hρ, far]
 refine St.imp.trans (St.impW_drop (l := 2029) (by simp [rlk hρ, far]; exact ⟨rfl, rfl⟩)).imp ?_
 simp [rdel hρ, far]
 refine St.imp.trans (St.imp_rn 4603 2029) ?_
 have hr0 := rrn0 (k := 4603) (l := 2029) hρ rfl rfl
 have he := lowF_rn (k := 4603) (by omega) (j := 2029) (by omega) hE
 have ho := lowO_rn (k := 4603) (by omega) (j := 2029) (by omega) hO
 simp only [St.rn, List.map_append, hr0, he, ho]
 simp only [List.map_cons, List.map_nil, rnE_var, rnE_uarr, rn_us, rn_val, rn_plain, nR_rn, fR_rn, cR_rn, sR_full, f0_rn, f1_rn, f2_rn, sw, Nat.reduceEqDiff, if_true, if_false]
 exact St.imp.refl
theorem remove7 {n m : Nat} {d : Dict} {ρ : List (Nat × Entry)} {env : List (Nat × AV)} {out : List (List (Nat × AV))} {base : Nat} {K : AV → St → Prop} (hρ : rest ρ) (hE : lowF 2000 env) (hO : lowO 2000 out) (hm : m < 1000000) (_hn : n < 1000000) (hc : d.c < 1000000)
  {j0 : Nat} (hj0 : j0 < d.c) (hf0 : d.fre j0 = n + m) (hmin : ∀ k, k < j0 → ¬ d.fre k = n + m) (h : K (.tuple []) ⟨env, ρ ++ tW n m j0 d, out, base⟩) :
  awp Try.prog (.loop c__tb_removeAuxiliary_l7) (stR7 n m d ρ (env :: out) 0) (blockC 4 (retI r__tb_removeAuxiliary base K)) := by
 refine awp_forW (stR7 n m d ρ (env :: out)) (fun _ => True) j0 (by simp [stR7]) trivial (fun k hk _ => ?_) (fun _ => ?_)
 ·have e : (k : Int) < d.c := by omega
  have hkc : k < d.c := by omega
  have w := wrap_succ (k := k) (by omega)
  have hne : ¬ d.fre k = n + m := hmin k hk
  have hne' : ¬ (d.fre k : Int) = (n : Int) + m := by omega
  simp [c__tb_removeAuxiliary_l7, stR7, tL, e, hkc, rlk hρ, far, hne', w, c__tb_removeAuxiliary_k6]
 ·have e : (j0 : Int) < d.c := by omega
  have hf0' : (d.fre j0 : Int) = (n : Int) + m := by omega
  simp [c__tb_removeAuxiliary_l7, stR7, tL, e, hj0, rlk hρ, far, hf0']
  have hj1 : (j0 : Int) ≤ d.c := by omega
  have hj2 : j0 ≤ d.c := by omega
  have wj : IntKind.i64.wrap ((j0 : Int) + 1) = ((j0 + 1 : Nat) : Int) := wrap_succ (by omega)
  have hj3 : (j0 : Int) + 1 ≤ d.c := by omega
  have hj5 : (0 : Int) ≤ (j0 : Int) + 1 := by omega
  have hj4 : j0 + 1 ≤ d.c := by omega
  refine awp_forS (stR4 n m j0 d ρ (env :: out)) (fun _ => True) m ?_ trivial (fun k hk _ => ?_) (fun _ => ?_)
  ·exact St.imp_of (by simp [stR4, tS, sR, cR])
  ·have e : (k : Int) < m := by omega
   have w := wrap_succ (k := k) (by omega)
   have g : (sR d j0 k m)[k]? = some [fL (d.a k) d.c] := by unfold sR; rw [mR_get hk, if_neg (by omega)]
   have gE : ∀ h, (sR d j0 k m)[k]'h = [fL (d.a k) d.c] := fun h => (List.getElem?_eq_some_iff.1 g).2
   simp [c__tb_removeAuxiliary_l4, stR4, tS, e, hk, gE, rlk hρ, rpt hρ, rdel hρ, far, rdg0 hρ, edg hE, odg hO, -dgE, dgE_var, dgE_uarr, sR_dg, w, hj1, hj2, wj, hj3, hj5]
   refine ⟨by omega, by omega, by omega, by omega, ?_⟩
   rw [fR_skip hj0]
   have hset : (sR d j0 k m).set k [fL (fun l => d.a k (sk j0 l)) (d.c - 1)] = sR d j0 (k + 1) m := by
    unfold sR
    rw [mR_set]
    refine mR_congr fun i _ => ?_
    unfold upd
    by_cases ei : i = k
    ·subst ei; rw [if_pos rfl, if_pos (by omega)]
    ·rw [if_neg ei]
     dsimp only
     by_cases ei2 : i < k
     ·rw [if_pos ei2, if_pos (by omega)]
     ·rw [if_neg ei2, if_neg (by omega)]
   refine St.imp.trans (St.imp_uarr (l := 1961) (sz := 1) (rows' := sR d j0 (k + 1) m) (by simp [rlk hρ, far]; rfl) (by simp) fun i r r' hr hr' => ?_) ?_
   ·rw [← hset] at hr'
    rw [List.getElem?_set] at hr hr'
    by_cases ei : k = i
    ·subst ei
     rw [if_pos rfl] at hr hr'
     split at hr
     ·rename_i h1
      rw [if_pos h1] at hr'
      simp only [Option.some.injEq] at hr hr'
      subst hr hr'
      exact ⟨rfl, fun j c c' hj hj' => by
       cases j with
       | zero => simp only [List.getElem?_cons_zero, Option.some.injEq] at hj hj'; subst hj hj'; exact weak.list
       | succ j => simp at hj⟩
     ·cases hr
    ·rw [if_neg ei] at hr hr'
     rw [hr] at hr'
     cases hr'
     exact ⟨rfl, fun j c c' hj hj' => by rw [hj] at hj'; cases hj'; exact weak.refl⟩
   ·simp [rpt hρ, far]
    exact St.imp.refl
  ·simp [c__tb_removeAuxiliary_l4, stR4, tS, rlk hρ, rpt hρ, rdel hρ, far, rdg0 hρ, edg hE, odg hO, -dgE, dgE_var, dgE_uarr, sR_dg, c__tb_removeAuxiliary_k5, r__tb_removeAuxiliary, nR_tkdg, nR_drdg, nR_tkdr, nR_skip hj0, fR_skip hj0, rowsDg_app, hj1, hj2, wj, hj3, hj4, hj5]
   rw [show j0 + (d.c - (j0 + 1)) = d.c - 1 by omega]
   exact ⟨by omega, by omega, by omega, by omega, by omega, by omega, by omega, by omega, h⟩
theorem removeI {n m L : Nat} {d d1 : Dict} {ρ : List (Nat × Entry)} {s : St} {K : AV → St → Prop} (hs : s.sto = ρ ++ tL n m d) (hρ : rest ρ) (hE : lowF 2000 s.env) (hO : lowO 2000 s.out) (hm : m < 1000000) (hn : n < 1000000) (hc : d.c < 1000000) (hr : d.r = m)
  (hL : L ≤ 10000000000) (hsz : szD L d)
  (h1 : (d1 = d ∧ ∀ i, i < m → d.bas i ≠ n + m) ∨ ∃ i q, i < m ∧ q < d.c ∧ d.bas i = n + m ∧ (∀ k, k < i → d.bas k ≠ n + m) ∧ d.a i q ≠ 0 ∧ (∀ k, k < q → d.a i k = 0) ∧ d1 = pivot d i q)
  {j0 : Nat} (hj0 : j0 < d1.c) (hf0 : d1.fre j0 = n + m) (hmin : ∀ k, k < j0 → ¬ d1.fre k = n + m) (h : K (.tuple []) ⟨s.env, ρ ++ tL n m (dropD d1 j0), s.out, s.base⟩) :
  CallI Try.prog F__tb_removeAuxiliary [.ptr 1015 0] s K := by
 obtain ⟨env, σ, out, base⟩ := s
 simp only at hs hE hO h
 subst hs
 have hO2 : lowO 2000 (env :: out) := lowO_cons.2 ⟨hE, hO⟩
 have wnm : IntKind.i64.wrap ((n : Int) + m) = (n : Int) + m := by rw [wrap64] <;> omega
 refine CallI.post (K := fun r s' => r = .tuple [] ∧ s' = ⟨env, ρ ++ tW n m j0 d1, out, base⟩) ?_ fun r s' ⟨e1, e2⟩ => .inr ⟨e1, ⟨env, ρ ++ tL n m (dropD d1 j0), out, base⟩, by subst e2; exact tW_imp hρ hE hO, by subst e1; exact h⟩
 refine soundI' 4500 t__tb_removeAuxiliary (by simp) ?_
 have k7 := remove7 (n := n) (m := m) (d := d1) (K := fun r s' => r = .tuple [] ∧ s' = ⟨env, ρ ++ tW n m j0 d1, out, base⟩) (base := base) hρ hE hO hm hn (by rcases h1 with ⟨rfl, _⟩ | ⟨i, q, _, _, _, _, _, _, rfl⟩ <;> exact hc) hj0 hf0 hmin ⟨rfl, rfl⟩
 rcases h1 with ⟨rfl, hno⟩ | ⟨i0, q0, hi0, hq0, hb0, hbmin, ha0, hamin, rfl⟩
 ·simp [c__tb_removeAuxiliary, tL, rlk hρ, far, wnm]
  refine awp_forW (stR3 n m d1 ρ (env :: out)) (fun _ => True) m (by simp [stR3, tL]) trivial (fun k hk _ => ?_) (fun _ => ?_)
  ·have e : (k : Int) < m := by omega
   have w := wrap_succ (k := k) (by omega)
   have hne : ¬ (d1.bas k : Int) = (n : Int) + m := by have := hno k hk; omega
   simp [c__tb_removeAuxiliary_l3, stR3, tL, e, hk, rlk hρ, far, hne, w, c__tb_removeAuxiliary_k2]
  ·simp [c__tb_removeAuxiliary_l3, stR3, tL, rlk hρ, far, c__tb_removeAuxiliary_k8]
   simpa [stR7, tL] using k7
 ·simp [c__tb_removeAuxiliary, tL, rlk hρ, far, wnm]
  refine awp_forW (stR3 n m d ρ (env :: out)) (fun _ => True) i0 (by simp [stR3, tL]) trivial (fun k hk _ => ?_) (fun _ => ?_)
  ·have hkm : k < m := by omega
   have e : (k : Int) < m := by omega
   have w := wrap_succ (k := k) (by omega)
   have hne : ¬ (d.bas k : Int) = (n : Int) + m := by have := hbmin k hk; omega
   simp [c__tb_removeAuxiliary_l3, stR3, tL, e, hkm, rlk hρ, far, hne, w, c__tb_removeAuxiliary_k2]
  ·have e : (i0 : Int) < m := by omega
   have heq : (d.bas i0 : Int) = (n : Int) + m := by omega
   simp [c__tb_removeAuxiliary_l3, stR3, tL, e, hi0, rlk hρ, far, heq]
   refine awp_forW (stR0 n m i0 d ρ (env :: out)) (fun _ => True) q0 (by simp [stR0, tL]) trivial (fun k hk _ => ?_) (fun _ => ?_)
   ·have hkc : k < d.c := by omega
    have e2 : (k : Int) < d.c := by omega
    have w := wrap_succ (k := k) (by omega)
    have g := sign_q (q := d.a i0 k)
    have z : sgnR (d.a i0 k) = 0 := sgnR_zero.2 (hamin k hk)
    simp [c__tb_removeAuxiliary_l0, stR0, tL, e2, hkc, rlk hρ, rpt hρ, far]
    refine eCall_i g (by simp) (by simp) ?_
    simp [z, w, stR0, tL, rlk hρ, rdel hρ, rnoRef hρ, eno hE, ono hO, far]
   ·have e2 : (q0 : Int) < d.c := by omega
    have g := sign_q (q := d.a i0 q0)
    have z : ¬ sgnR (d.a i0 q0) = 0 := fun h => ha0 (sgnR_zero.1 h)
    simp [c__tb_removeAuxiliary_l0, stR0, tL, e2, hq0, rlk hρ, rpt hρ, far]
    refine eCall_i g (by simp) (by simp) ?_
    simp [z, ok_pivot, rlk hρ, rdel hρ, rnoRef hρ, eno hE, ono hO, far]
    refine eCallI_of (pivotI (s := ⟨_, ρ ++ tL n m d, env :: out, 4500⟩) (d := d) (ρ := ρ) (n := n) (m := m) (L := L) rfl hρ ?_ hO2 hm hc hr hi0 hq0 hL hsz ha0 ?_)
    ·simp [lowF_cons, lowF_nil, low_iv, low_bv, low_ptr, low_fL]
    simp [c__tb_removeAuxiliary_k1, c__tb_removeAuxiliary_k8, tL, rlk hρ, far]
    simpa [stR7, tL] using k7
end Go.Proofs.Ytdeifcfjkmfocaa

namespace Go.Proofs.Ytdeifcfjkmfocaa
open Go Go.Am Go.Dig Go.LP
theorem pri_sum {n m i : Nat} {d : Dict} (hi : i < m) : ∀ k, (∀ a b, a < k → b < k → d.fre a = d.fre b → a = b) → priD n m d k i = - sumR k fun j => if d.fre j = n + i then d.cst j else 0
 | 0, _ => by simp only [priD, sumR]; grind
 | k + 1, hinj => by
  have ih := pri_sum hi (d := d) (n := n) k fun a b ha hb => hinj a b (by omega) (by omega)
  simp only [priD, sumR]
  by_cases e : d.fre k = n + i
  ·rw [if_pos ⟨by omega, by omega⟩, if_pos e, sumR_zero fun j hj => if_neg fun e2 => by have := hinj j k (by omega) (by omega) (by rw [e, e2]); omega]
   have : d.fre k - n = i := by omega
   rw [this]
   simp only [upd, if_true]
   grind
  ·rw [if_neg e]
   split
   ·rename_i hc
    have : ¬ i = d.fre k - n := by omega
    simp only [upd, if_neg this]
    rw [ih]; grind
   ·rw [ih]; grind
theorem pri_cv {n m i N : Nat} {d : Dict} (hb : Bij d N) (hi : i < m) : priD n m d d.c i = - cv d (n + i) := pri_sum hi d.c fun _ _ ha hb' => fre_inj hb ha hb'
theorem poi_sum {n j : Nat} {d : Dict} (hj : j < n) : ∀ k, (∀ a b, a < k → b < k → d.bas a = d.bas b → a = b) → poiD n d k j = sumR k fun i => if d.bas i = j then d.b i else 0
 | 0, _ => rfl
 | k + 1, hinj => by
  have ih := poi_sum hj (d := d) k fun a b ha hb => hinj a b (by omega) (by omega)
  simp only [poiD, sumR]
  by_cases e : d.bas k = j
  ·rw [if_pos (by omega), if_pos e, sumR_zero fun i hi => if_neg fun e2 => by have := hinj i k (by omega) (by omega) (by rw [e, e2]); omega]
   rw [e]
   simp only [upd, if_true]
   grind
  ·rw [if_neg e]
   split
   ·have : ¬ j = d.bas k := fun h => e h.symm
    simp only [upd, if_neg this]
    rw [ih]; grind
   ·rw [ih]; grind
theorem poi_vl {n j N : Nat} {d : Dict} (hb : Bij d N) (hj : j < n) : poiD n d d.r j = vl d j := poi_sum hj d.r fun _ _ ha hb' => bas_inj hb ha hb'
theorem ray_sum {n j q : Nat} {d : Dict} (hj : j < n) : ∀ k, (∀ a b, a < k → b < k → d.bas a = d.bas b → a = b) → (∀ a, a < k → d.bas a ≠ d.fre q) → rayD n d q k j = (sumR k fun i => if d.bas i = j then - d.a i q else 0) + if d.fre q = j then 1 else 0
 | 0, _, _ => by
  simp only [rayD, sumR]
  by_cases e : d.fre q = j
  ·rw [if_pos (by omega), if_pos e, e]
   simp only [upd, if_true]; grind
  ·rw [if_neg e]
   split
   ·have : ¬ j = d.fre q := fun h => e h.symm
    simp only [upd, if_neg this]; grind
   ·grind
 | k + 1, hinj, hne => by
  have ih := ray_sum hj (d := d) (q := q) k (fun a b ha hb => hinj a b (by omega) (by omega)) fun a ha => hne a (by omega)
  simp only [rayD, sumR]
  by_cases e : d.bas k = j
  ·rw [if_pos (by omega), if_pos e, sumR_zero fun i hi => if_neg fun e2 => by have := hinj i k (by omega) (by omega) (by rw [e, e2]); omega]
   have h2 : ¬ d.fre q = j := fun h => hne k (by omega) (by rw [e, h])
   rw [if_neg h2, e]
   simp only [upd, if_true]
   grind
  ·rw [if_neg e]
   split
   ·have : ¬ j = d.bas k := fun h => e h.symm
    simp only [upd, if_neg this]
    rw [ih]; grind
   ·rw [ih]; grind
theorem ray_q {n j q N : Nat} {d : Dict} (hb : Bij d N) (hq : q < d.c) (hj : j < n) : rayD n d q d.r j = rayq d q j :=
 ray_sum hj d.r (fun _ _ ha hb' => bas_inj hb ha hb') fun _a ha e => fre_ne_bas hb ha hq e.symm
def wrsE (bb : Nat → Rat) : Nat → Int
 | 0 => -1
 | k + 1 => if bb k < 0 ∧ (wrsE bb k < 0 ∨ bb k < bb (wrsE bb k).toNat) then k else wrsE bb k
theorem wrsE_lt (bb : Nat → Rat) : ∀ k, -1 ≤ wrsE bb k ∧ wrsE bb k < k
 | 0 => by simp [wrsE]
 | k + 1 => by have := wrsE_lt bb k; simp only [wrsE]; split <;> omega
theorem wrsE_neg {bb : Nat → Rat} : ∀ k, wrsE bb k < 0 → ∀ i, i < k → 0 ≤ bb i
 | 0, _, i, hi => by omega
 | k + 1, h, i, hi => by
  simp only [wrsE] at h
  split at h
  ·omega
  ·rename_i hn
   by_cases e : i = k
   ·subst e
    have : ¬ bb i < 0 := fun h0 => hn ⟨h0, .inl h⟩
    grind
   ·exact wrsE_neg k h i (by omega)
theorem wrsE_pos {bb : Nat → Rat} : ∀ k, 0 ≤ wrsE bb k → bb (wrsE bb k).toNat < 0 ∧ ∀ i, i < k → bb (wrsE bb k).toNat ≤ bb i
 | 0, h => by simp [wrsE] at h
 | k + 1, h => by
  have b := wrsE_lt bb k
  simp only [wrsE] at h ⊢
  split
  ·rename_i hc
   refine ⟨by simpa using hc.1, fun i hi => ?_⟩
   simp only [Int.toNat_natCast]
   by_cases e : i = k
   ·subst e; grind
   ·by_cases h1 : wrsE bb k < 0
    ·have := wrsE_neg k h1 i (by omega); have := hc.1; grind
    ·have h2 := hc.2.resolve_left h1
     have := (wrsE_pos (bb := bb) k (by omega)).2 i (by omega)
     grind
  ·rename_i hc
   rw [if_neg hc] at h
   obtain ⟨h1, h2⟩ := wrsE_pos k h
   refine ⟨h1, fun i hi => ?_⟩
   by_cases e : i = k
   ·subst e
    have : ¬ bb i < bb (wrsE bb i).toNat := fun h3 => hc ⟨by grind, .inr h3⟩
    grind
   ·exact h2 i (by omega)
noncomputable def tN (n m : Nat) (A : Nat → Nat → Rat) (bb : Nat → Rat) : List (Nat × Entry) :=
 [(1015, .var [iv n, iv m, .us 1961 1 0 m, .us 1972 3 0 m, cst0 n, f0 0, f1 0, f2 0, .us 1987 1 0 m, .us 2029 1 0 n]), (2029, .uarr 1 (nR id n)),
   (1961, .uarr 1 (oR A om (fun _ => n) m)), (1972, .uarr 3 (fR bb m)), (1987, .uarr 1 (nR (fun i => n + i) m))]
theorem cst0_weak {n : Nat} : weak (cst0 n) (fL (fun _ => 0) n) := by
 unfold cst0
 split
 ·rename_i h; subst h; exact weak.nil
 ·exact weak.list
theorem mR_weak {g h : Nat → List AV} {n : Nat} (e : ∀ i, i < n → ∃ x y, g i = [x] ∧ h i = [y] ∧ weak x y) : ∀ (i : Nat) r r', (mR g n)[i]? = some r → (mR h n)[i]? = some r' → r'.length = r.length ∧ ∀ (j : Nat) c c', r[j]? = some c → r'[j]? = some c' → weak c c' := by
 intro i r r' hr hr'
 have hi : i < n := by have := (List.getElem?_eq_some_iff.1 hr).1; simpa using this
 rw [mR_get hi] at hr hr'
 obtain ⟨x, y, e1, e2, hw⟩ := e i hi
 simp only [Option.some.injEq] at hr hr'
 subst hr hr'
 rw [e1, e2]
 refine ⟨rfl, fun j c c' hj hj' => ?_⟩
 cases j with
 | zero => simp only [List.getElem?_cons_zero, Option.some.injEq] at hj hj'; subst hj hj'; exact hw
 | succ j => simp at hj
def dZ (n m : Nat) (A : Nat → Nat → Rat) (bb : Nat → Rat) : Dict := dG n m A bb fun _ => 0
theorem lk_app_congr {ρ l l' : List (Nat × Entry)} (h : lk l = lk l') : lk (ρ ++ l) = lk (ρ ++ l') := by
 funext k
 induction ρ with
 | nil => exact congrFun h k
 | cons p ρ ih =>
  obtain ⟨q, x⟩ := p
  simp only [List.cons_append, lk]
  split
  ·rfl
  ·exact ih
theorem impW_lk {s t : St} (h1 : s.env = t.env) (h2 : lk s.sto = lk t.sto) (h3 : s.out = t.out) : St.impW s t := by
 intro F a w I β lam hI
 have e : t.look = s.look := by
  funext ⟨d, k⟩
  cases d <;> simp only [St.look, h1, h3]
 rw [e, ← h2]
 exact hI
theorem impW_env {s : St} {env : List (Nat × AV)} (h : subE s.env env) : St.impW s { s with env := env } := by
 intro F a w I β lam hI
 refine { hI with env := fun t x hx => hI.env t x ?_ }
 obtain ⟨d, t⟩ := t
 cases d with
 | zero => exact subE_lk h hx
 | succ d => exact hx
theorem tN_impW {n m : Nat} {A : Nat → Nat → Rat} {bb : Nat → Rat} {ρ : List (Nat × Entry)} {env : List (Nat × AV)} {out : List (List (Nat × AV))} {base : Nat} (hρ : rest ρ) :
  St.impW ⟨env, ρ ++ tN n m A bb, out, base⟩ ⟨env, ρ ++ tL n m (dZ n m A bb), out, base⟩ := by
 refine St.impW.trans (St.impW_cell_weak (k := 1015) (j := 4) (y := fL (fun _ => 0) n) (by simp [tN, rlk hρ, far]; rfl) rfl cst0_weak) ?_
 simp [tN, rpt hρ, far]
 refine St.impW.trans (St.impW_uarr (l := 1961) (sz := 1) (rows' := cR A (fun _ => n) m) (by simp [rlk hρ, far]; rfl) (by simp) (mR_weak fun i hi => ⟨_, _, rfl, rfl, weak.list⟩)) ?_
 simp [rpt hρ, far]
 refine impW_lk rfl (lk_app_congr (subE_eq ?_ ?_)) rfl
 ·simp [tL, dZ, dG, subE_cons, subE_nil]; rfl
 ·simp [tL, dZ, dG, subE_cons, subE_nil]; rfl
theorem ok_prices : okFn Try.prog F__tb_prices = true := by kernel_rfl
theorem ok_optimize : okFn Try.prog F__tb_optimize = true := by kernel_rfl
noncomputable def stS0 (n m : Nat) (A : Nat → Nat → Rat) (bb : Nat → Rat) (ρ : List (Nat × Entry)) (out : List (List (Nat × AV))) (k : Nat) : St :=
 {env := [(0, .ptr 1015 0), (4, iv (wrsE bb k)), (12, .us 1972 3 0 m), (13, iv m), (14, iv k)], sto := ρ ++ tN n m A bb, out := out, base := 4000 }
noncomputable def aR (A : Nat → Nat → Rat) (n k m : Nat) : List (List AV) := mR (fun i => if i < k then [fL (fun j => if j < n then A i j else -1) (n + 1)] else [.list 3 (om i) (fR (A i) n)]) m
noncomputable def stS1 (n m p : Nat) (A : Nat → Nat → Rat) (bb : Nat → Rat) (ρ : List (Nat × Entry)) (out : List (List (Nat × AV))) (k : Nat) : St :=
 {env := [(0, .ptr 1015 0), (4, iv p), (7, .ptr 4007 0), (47, iv m), (48, iv k)],
  sto := ρ ++ [(1015, .var [iv n, iv m, .us 1961 1 0 m, .us 1972 3 0 m, cst0 n, f0 0, f1 0, f2 0, .us 1987 1 0 m, .us 2029 1 0 n]), (2029, .uarr 1 (nR id n)),
   (1961, .uarr 1 (aR A n k m)), (1972, .uarr 3 (fR bb m)), (1987, .uarr 1 (nR (fun i => n + i) m)), (4007, .var (fr (-1)))], out := out, base := 4000 }
structure Ready (n m L : Nat) (A : Nat → Nat → Rat) (bb : Nat → Rat) (e : Dict) : Prop where
 bij : Bij e (n + m)
 sol : ∀ x, sol e x ↔ sol (dZ n m A bb) x
 feas : feas e
 r : e.r = m
 c : e.c = n
 sz : szD L e
theorem start_l0 {n m L : Nat} {A : Nat → Nat → Rat} {bb : Nat → Rat} {ρ : List (Nat × Entry)} {env : List (Nat × AV)} {out : List (List (Nat × AV))} {Q : Exit → St → Prop} (hρ : rest ρ) (hE : lowF 2000 env) (hO : lowO 2000 out) (hm : m < 900000) (hL : L ≤ 10000000000) (hb : ∀ i, i < m → sz L (bb i))
  (h : Q (.exit 0) ⟨[(0, .ptr 1015 0), (4, iv (wrsE bb m)), (12, .us 1972 3 0 m), (13, iv m), (14, iv m), (15, bv false)], ρ ++ tN n m A bb, env :: out, 4000⟩) :
  awp Try.prog (.loop c__tb_start_l0) (stS0 n m A bb ρ (env :: out) 0) Q := by
 refine awp_forW (stS0 n m A bb ρ (env :: out)) (fun _ => True) m (by simp [stS0]) trivial (fun k hk _ => ?_) (fun _ => ?_)
 ·have e : (k : Int) < m := by omega
  have w := wrap_succ (k := k) (by omega)
  obtain ⟨b1, b2⟩ := wrsE_lt bb k
  have g1 := sign_q (q := bb k)
  simp [c__tb_start_l0, stS0, tN, e, hk, rlk hρ, rpt hρ, far]
  refine eCall_i g1 (by simp) (by simp) ?_
  by_cases h0 : bb k < 0
  ·have h0' : sgnR (bb k) < 0 := sgnR_neg.2 h0
   by_cases h1 : wrsE bb k < 0
   ·have ev : wrsE bb (k + 1) = k := by simp only [wrsE]; rw [if_pos ⟨h0, .inl h1⟩]
    simp [h0', h1, w, stS0, tN, ev, rlk hρ, rdel hρ, rnoRef hρ, eno hE, ono hO, far]
   ·have b3 : (wrsE bb k).toNat < m := by omega
    have b4 : (0 : Int) ≤ wrsE bb k := by omega
    have b5 : wrsE bb k < m := by omega
    have g2 := cmp_q (by omega) (hb k hk) (hb _ b3)
    simp [h0', h1, b3, b4, b5, rlk hρ, far]
    refine eCall_i g2 (by simp) (by simp) ?_
    by_cases h2 : bb k < bb (wrsE bb k).toNat
    ·have ev : wrsE bb (k + 1) = k := by simp only [wrsE]; rw [if_pos ⟨h0, .inr h2⟩]
     have h2' : cmpR (bb k) (bb (wrsE bb k).toNat) < 0 := cmpR_lt.2 h2
     simp [h2', w, stS0, tN, ev, rlk hρ, rdel hρ, rnoRef hρ, eno hE, ono hO, far]
    ·have ev : wrsE bb (k + 1) = wrsE bb k := by simp only [wrsE]; rw [if_neg fun h => h.2.elim h1 h2]
     have h2' : ¬ cmpR (bb k) (bb (wrsE bb k).toNat) < 0 := fun h => h2 (cmpR_lt.1 h)
     simp [h2', w, stS0, tN, ev, rlk hρ, rdel hρ, rnoRef hρ, eno hE, ono hO, far]
  ·have h0' : ¬ sgnR (bb k) < 0 := fun h => h0 (sgnR_neg.1 h)
   have ev : wrsE bb (k + 1) = wrsE bb k := by simp only [wrsE]; rw [if_neg fun h => h0 h.1]
   simp [h0', w, stS0, tN, ev, rlk hρ, rdel hρ, rnoRef hρ, eno hE, ono hO, far]
 ·simp [c__tb_start_l0, stS0]
  exact h
def sec : ACode → ACode
 | .seq _ b => b
 | c => c
def Next (n m : Nat) (e : Dict) (res : AV) (e2 : Dict) : Prop :=
 (e.v < 0 ∧ res = .tuple [fL (priD n m e e.c) m, bv false] ∧ e2 = e) ∨
 (¬ e.v < 0 ∧ res = .tuple [nilA, bv true] ∧ ∃ d1 j0, ((d1 = e ∧ ∀ i, i < m → e.bas i ≠ n + m) ∨ ∃ i q, i < m ∧ q < e.c ∧ e.bas i = n + m ∧ (∀ k, k < i → e.bas k ≠ n + m) ∧ e.a i q ≠ 0 ∧ (∀ k, k < q → e.a i k = 0) ∧ d1 = pivot e i q) ∧
  j0 < d1.c ∧ d1.fre j0 = n + m ∧ (∀ k, k < j0 → ¬ d1.fre k = n + m) ∧ e2 = dropD d1 j0)
noncomputable def tM (X n m : Nat) (A : Nat → Nat → Rat) (bb : Nat → Rat) : List (Nat × Entry) :=
 [(1015, .var [iv n, iv m, .us 1961 1 0 m, .us 1972 3 0 m, .list 3 (.own X) (fR (dA n m A bb).cst (n + 1)), f0 0, f1 0, f2 0, .us 1987 1 0 m, .us 2029 1 0 (n + 1)]), (2029, .uarr 1 (nR (dA n m A bb).fre (n + 1))),
  (1961, .uarr 1 (cR (dA n m A bb).a (fun _ => n + 1) m)), (1972, .uarr 3 (fR bb m)), (1987, .uarr 1 (nR (fun i => n + i) m))]
theorem tM_impW {X n m : Nat} {A : Nat → Nat → Rat} {bb : Nat → Rat} {ρ : List (Nat × Entry)} {env : List (Nat × AV)} {out : List (List (Nat × AV))} {base : Nat} (hρ : rest ρ) :
  St.impW ⟨env, ρ ++ tM X n m A bb, out, base⟩ ⟨env, ρ ++ tL n m (dA n m A bb), out, base⟩ := by
 refine St.impW.trans (St.impW_cell_weak (k := 1015) (j := 4) (y := fL (dA n m A bb).cst (n + 1)) (by simp [tM, rlk hρ, far]; rfl) rfl weak.list) ?_
 simp [tM, rpt hρ, far]
 refine impW_lk rfl (lk_app_congr (subE_eq ?_ ?_)) rfl
 ·simp [tL, dA, subE_cons, subE_nil]
 ·simp [tL, dA, subE_cons, subE_nil]
theorem aR_zero {A : Nat → Nat → Rat} {n m : Nat} : aR A n 0 m = oR A om (fun _ => n) m := mR_congr fun i _ => if_neg (by omega)
theorem aR_full {A : Nat → Nat → Rat} {bb : Nat → Rat} {n m : Nat} : aR A n m m = cR (dA n m A bb).a (fun _ => n + 1) m := mR_congr fun _i hi => if_pos hi
theorem start_walk {n m p L : Nat} {A : Nat → Nat → Rat} {bb : Nat → Rat} {e e2 : Dict} {res : AV} (hm : m < 900000) (hn : n < 900000) (hL : L ≤ 10000000000) (hb : ∀ i, i < m → sz L (bb i)) (hw : wrsE bb m = (p : Nat)) (hp : p < m)
  (szA : szD L (dA n m A bb)) (sze : szD L e) (her : e.r = m) (hec : e.c = n + 1) (hfre : ∀ j, j < e.c → e.fre j < 4000000)
  (hopt : ∀ {ρ : List (Nat × Entry)} {s : St} {K : AV → St → Prop}, s.sto = ρ ++ tL n m (pivot (dA n m A bb) p n) → rest ρ → lowF 2000 s.env → lowO 2000 s.out → K (finR e) ⟨s.env, ρ ++ tL n m e, s.out, s.base⟩ → CallI Try.prog F__tb_optimize [.ptr 1015 0] s K)
  (hx : Next n m e res e2) {ρ : List (Nat × Entry)} {s : St} {K : AV → St → Prop} (hs : s.sto = ρ ++ tN n m A bb) (hρ : rest ρ) (hE : lowF 2000 s.env) (hO : lowO 2000 s.out) (h : K res ⟨s.env, ρ ++ tL n m e2, s.out, s.base⟩) :
  CallI Try.prog F__tb_start [.ptr 1015 0] s K := by
 obtain ⟨env, σ, out, base⟩ := s
 simp only at hs hE hO h
 subst hs
 have hO2 : lowO 2000 (env :: out) := lowO_cons.2 ⟨hE, hO⟩
 have g0 : SoundCall Try.prog F_f_FromInt [iv (-1)] (fq (-1)) := fromInt_q (n := -1) (by decide) (by decide)
 refine soundI' 4000 t__tb_start (by simp) ?_
 simp [c__tb_start, tN, rlk hρ, far]
 refine start_l0 (n := n) (A := A) hρ hE hO hm hL hb ?_
 have hp0 : ¬ (p : Int) < 0 := by omega
 simp [c__tb_start_k3, hw, hp0, r__tb_start]
 refine eCall_i g0 (by simp) (by simp) ?_
 simp [tN, rlk hρ, rpt hρ, far]
 refine awp_forS (stS1 n m p A bb ρ (env :: out)) (fun _ => True) m (St.imp_of (by simp [stS1, aR_zero])) trivial (fun k hk _ => ?_) (fun _ => ?_)
 ·have e1 : (k : Int) < m := by omega
  have w := wrap_succ (k := k) (by omega)
  have g : (aR A n k m)[k]? = some [.list 3 (om k) (fR (A k) n)] := by unfold aR; rw [mR_get hk, if_neg (by omega)]
  have gE : ∀ h, (aR A n k m)[k]'h = [.list 3 (om k) (fR (A k) n)] := fun h => (List.getElem?_eq_some_iff.1 g).2
  have aL : (aR A n k m).length = m := mR_len
  have hf : far (1000000 + k) = true := decide_eq_true (by omega)
  have l1 : ∀ l, lk (ρ ++ l) (1000000 + k) = lk l (1000000 + k) := fun l => rlk hρ hf
  have hd0 := rdg0 (k := 1000000 + k) hρ (by omega)
  have hd1 := edg (k := 1000000 + k) hE (by omega)
  have hd2 := odg (k := 1000000 + k) hO (by omega)
  have hd3 := cst0_dg (l := 1000000 + k) (k := n) (by omega)
  have n0 : ∀ j, j < 1000000 → ¬ j = 1000000 + k := fun j hj => by omega
  have hdg : rowsDg (1000000 + k) (aR A n k m) = mR (fun i => if i < k then [fL (fun j => if j < n then A i j else -1) (n + 1)] else [.list 3 (if i = k then .plain else om i) (fR (A i) n)]) m := by
   unfold aR rowsDg
   refine mR_congr2 fun i hi => ?_
   by_cases h1 : i < k
   ·rw [if_pos h1, if_pos h1]; simp
   ·rw [if_neg h1, if_neg h1]
    by_cases h2 : i = k
    ·subst h2; simp [om, dg]
    ·rw [if_neg h2]
     simp [om, dg, h2]
  have wn : (n + 1) * 56 ≤ 140737488355328 := by omega
  have wn2 : n ≤ 9223372036854775806 := by omega
  have hfa : fR (A k) n ++ [fr (-1)] = fR (fun j => if j < n then A k j else -1) (n + 1) := by
   rw [fR_succ, if_neg (Nat.lt_irrefl n)]
   rw [fR_congr (f := fun j => if j < n then A k j else -1) (g := A k) fun j hj => if_pos hj]
  simp [c__tb_start_l1, stS1, e1, hk, gE, aL, om, rlk hρ, rpt hρ, rdel hρ, far, w, l1, hd0, hd1, hd2, hd3, n0, hdg, -dgE, dgE_var, dgE_uarr, wn, wn2, hfa]
  rw [mR_set]
  refine St.imp.trans (St.imp_uarr (l := 1961) (sz := 1) (rows' := aR A n (k + 1) m) (by simp [rlk hρ, far]; rfl) (by simp [aR]) ?_) ?_
  ·unfold aR
   refine mR_weak fun i hi => ?_
   by_cases h1 : i = k
   ·subst h1
    exact ⟨.list 3 (.own (1000000 + i)) (fR (fun j => if j < n then A i j else -1) (n + 1)), fL (fun j => if j < n then A i j else -1) (n + 1), by simp [upd], by rw [if_pos (by omega)], weak.list⟩
   ·by_cases h2 : i < k
    ·exact ⟨fL (fun j => if j < n then A i j else -1) (n + 1), _, by simp only [upd, if_neg h1, if_pos h2], by rw [if_pos (by omega)], weak.refl⟩
    ·exact ⟨.list 3 (om i) (fR (A i) n), .list 3 (om i) (fR (A i) n), by simp only [upd, if_neg h1, if_neg h2]; rfl, by rw [if_neg (by omega)], weak.refl⟩
  ·simp [rpt hρ, far]
   exact St.imp.refl
 ·have wn1 : (n + 1) * 8 ≤ 140737488355328 := by omega
  have wn : (n + 1) * 56 ≤ 140737488355328 := by omega
  have wn2 : n ≤ 9223372036854775806 := by omega
  have wnm : IntKind.i64.wrap ((n : Int) + m) = ((n + m : Nat) : Int) := by rw [wrap64] <;> omega
  have hdg := cst0_dg (l := 2029) (k := n) (by omega)
  have hfe : nR id n ++ [[iv ((n : Int) + m)]] = nR (dA n m A bb).fre (n + 1) := by
   unfold nR
   rw [mR_succ]
   simp only [dA, Nat.lt_irrefl, if_false, Int.natCast_add]
   congr 1
   exact mR_congr fun i hi => by rw [if_pos hi]; rfl
  simp [c__tb_start_l1, stS1, c__tb_start_k2, rlk hρ, rpt hρ, far, rdg0 hρ, edg hE, odg hO, -dgE, dgE_var, dgE_uarr, hdg, wn1, wn2, wnm, aR_full (bb := bb), hfe]
  have hcs : fR (fun _ => 0) n ++ [fr (-1)] = fR (dA n m A bb).cst (n + 1) := by
   rw [fR_succ]
   simp only [dA, Nat.lt_irrefl, if_false]
   rw [fR_congr (f := fun j => if j < n then (0 : Rat) else -1) (g := fun _ => 0) fun j hj => if_pos hj]
  have hc0 : (n = 0 ∧ cst0 n = nilA) ∨ cst0 n = .list 3 (.own 2039) (fR (fun _ => 0) n) := by
   unfold cst0
   split
   ·exact .inl ⟨by assumption, rfl⟩
   ·exact .inr rfl
  have wn3 : IntKind.i64.wrap (n : Int) = n := by rw [wrap64] <;> omega
  have hds : (dA n m A bb).c = n + 1 := rfl
  have pv : ∀ (X : Nat) (env0 : List (Nat × AV)), subE env0 [(0, .ptr 1015 0)] → ∀ {K : AV → St → Prop}, K (.tuple []) ⟨[(0, .ptr 1015 0)], ρ ++ tL n m (pivot (dA n m A bb) p n), env :: out, 4000⟩ → CallI Try.prog F__tb_pivot [.ptr 1015 0, iv p, iv n] ⟨env0, ρ ++ tM X n m A bb, env :: out, 4000⟩ K := fun X env0 h0 K hK =>
   CallI.pre (St.impW.trans (tM_impW hρ) (impW_env h0)) (pivotI (s := ⟨[(0, .ptr 1015 0)], ρ ++ tL n m (dA n m A bb), env :: out, 4000⟩) (d := dA n m A bb) (ρ := ρ) (n := n) (m := m) (L := L) rfl hρ (by simp [lowF_cons, lowF_nil, low_ptr]) hO2 (by omega) (by simp only [dA]; omega) rfl hp (by simp only [dA]; omega) hL szA start_a hK)
  have sg := sign_q (q := e.v)
  have fin : eCallI Try.prog F__tb_optimize [AV.ptr 1015 0]
    {env := [(0, AV.ptr 1015 0), (105, AV.ptr 1015 0)], sto := ρ ++ tL n m (pivot (dA n m A bb) p n), out := env :: out, base := 4000 } (some 106)
    (opsC Try.prog [] (endC [105, 106] [] (seqC Try.prog (sec (sec (sec (sec c__tb_start_k2)))) (retI r__tb_start base K)))) := by
   refine eCallI_of (hopt rfl hρ (by simp [lowF_cons, lowF_nil, low_ptr]) hO2 ?_)
   simp [sec, c__tb_start_k2, tL, rlk hρ, far]
   refine eCall_i sg (by simp) (by simp) ?_
   rcases hx with ⟨hv, rfl, rfl⟩ | ⟨hv, rfl, d1, j0, h1, hj0, hf0, hmin, rfl⟩
   ·have hv' : sgnR e2.v < 0 := sgnR_neg.2 hv
    simp [hv', ok_prices]
    refine eCallI_of (pricesI (s := ⟨_, ρ ++ tL n m e2, env :: out, 4000⟩) (n := n) (m := m) (d := e2) (ρ := ρ) (L := L) rfl hρ ?_ hO2 (by omega) (by omega) (by omega) hfre (by omega) sze.cst ?_)
    ·simp [lowF_cons, lowF_nil, low_bv, low_ptr]
    simp [r__tb_start]
    exact h
   ·have hv' : ¬ sgnR e.v < 0 := fun h => hv (sgnR_neg.1 h)
    simp [hv', ok_remove]
    refine eCallI_of (removeI (s := ⟨_, ρ ++ tL n m e, env :: out, 4000⟩) (d := e) (d1 := d1) (ρ := ρ) (n := n) (m := m) (L := L) rfl hρ (by simp [lowF_cons, lowF_nil, low_bv, low_ptr]) hO2 (by omega) (by omega) (by omega) her hL sze h1 hj0 hf0 hmin ?_)
    simp [r__tb_start]
    exact h
  rcases hc0 with ⟨hn0, hc⟩ | hc
  ·have hcs2 : [fr (-1)] = fR (dA n m A bb).cst (n + 1) := by rw [← hcs, hn0]; rfl
   simp [hc, hcs2, rlk hρ, rpt hρ, rdel hρ, far, rdg0 hρ, edg hE, odg hO, -dgE, dgE_var, dgE_uarr, wn, wn2, wn3, rnoRef hρ, eno hE, ono hO, ok_pivot]
   refine eCallI_of (pv 4093 _ (by simp [subE_cons, subE_nil]) ?_)
   simp [ok_optimize]
   exact fin
  ·simp [hc, hcs, rlk hρ, rpt hρ, rdel hρ, far, rdg0 hρ, edg hE, odg hO, -dgE, dgE_var, dgE_uarr, wn, wn2, wn3, rnoRef hρ, eno hE, ono hO, ok_pivot]
   refine eCallI_of (pv 2039 _ (by simp [subE_cons, subE_nil]) ?_)
   simp [ok_optimize]
   exact fin
theorem startI {n m S : Nat} {A : Nat → Nat → Rat} {bb : Nat → Rat} (hm : m < 900000) (hn : n < 900000) (hS : grow S m ≤ 10000000000) (ha : ∀ i j, i < m → j < n → sz S (A i j)) (hb : ∀ i, i < m → sz S (bb i)) :
  (∃ e y, (Inf n m A bb y ∧ ∀ i, sz (grow S m) (y i)) ∧ ∀ {ρ : List (Nat × Entry)} {s : St} {K : AV → St → Prop}, s.sto = ρ ++ tN n m A bb → rest ρ → lowF 2000 s.env → lowO 2000 s.out → K (.tuple [fL y m, bv false]) ⟨s.env, ρ ++ tL n m e, s.out, s.base⟩ → CallI Try.prog F__tb_start [.ptr 1015 0] s K) ∨
  (∃ e, Ready n m (grow S m) A bb e ∧ ∀ {ρ : List (Nat × Entry)} {s : St} {K : AV → St → Prop}, s.sto = ρ ++ tN n m A bb → rest ρ → lowF 2000 s.env → lowO 2000 s.out → K (.tuple [nilA, bv true]) ⟨s.env, ρ ++ tL n m e, s.out, s.base⟩ → CallI Try.prog F__tb_start [.ptr 1015 0] s K) := by
 have hSm : S ≤ grow S m := grow_mono (m := 0) (Nat.zero_le m)
 have sm1 : sz S (-1) := sz_neg sz_one
 have szA : szD S (dA n m A bb) := ⟨fun i j hi hj => by
   simp only [dA] at hi ⊢
   split
   ·exact ha i j hi (by assumption)
   ·exact sm1, fun i hi => hb i hi, fun j hj => by
   simp only [dA]
   split
   ·exact sz_zero
   ·exact sm1, sz_zero⟩
 have szZ : szD (grow S m) (dZ n m A bb) := szD_mono ⟨fun i j hi hj => ha i j hi hj, fun i hi => hb i hi, fun j hj => sz_zero, sz_zero⟩ hSm
 have bw := wrsE_lt bb m
 by_cases hw : wrsE bb m < 0
 ·refine .inr ⟨dZ n m A bb, ⟨dG_bij, fun _ => Iff.rfl, fun i hi => wrsE_neg m hw i hi, rfl, rfl, szZ⟩, ?_⟩
  intro ρ s K hs hρ hE hO h
  obtain ⟨env, σ, out, base⟩ := s
  simp only at hs hE hO h
  subst hs
  refine CallI.post (K := fun r s' => r = .tuple [nilA, bv true] ∧ s' = ⟨env, ρ ++ tN n m A bb, out, base⟩) ?_ fun r s' ⟨e1, e2⟩ => .inl ⟨_, by subst e2; exact tN_impW hρ, by subst e1; exact h⟩
  refine soundI' 4000 t__tb_start (by simp) ?_
  simp [c__tb_start, tN, rlk hρ, far]
  refine start_l0 (n := n) (A := A) hρ hE hO hm hS (fun i hi => sz_mono (hb i hi) hSm) ?_
  simp [c__tb_start_k3, hw, r__tb_start]
  rfl
 ·obtain ⟨p, hp⟩ : ∃ p : Nat, wrsE bb m = p := ⟨(wrsE bb m).toNat, by omega⟩
  have hpm : p < m := by omega
  obtain ⟨w1, w2⟩ := wrsE_pos m (by omega : 0 ≤ wrsE bb m)
  rw [hp] at w1 w2
  simp only [Int.toNat_natCast] at w1 w2
  have hS1 : Same (pivot (dA n m A bb) p n) (dA n m A bb) (n + m + 1) := start_same hpm
  have hF1 : feas (pivot (dA n m A bb) p n) := start_feas w1 w2
  have hsize : ∀ e, Same e (pivot (dA n m A bb) p n) (n + m + 1) → e.r = (pivot (dA n m A bb) p n).r → e.c = (pivot (dA n m A bb) p n).c → szD (grow S m) e := fun e he h1 h2 =>
   Same.size_r (d := dA n m A bb) szA (he.trans hS1).symm h1 h2
  obtain ⟨e, hfin, hopt⟩ := optimizeI hS1.bd hF1
  have hSe : Same e (dA n m A bb) (n + m + 1) := hfin.same.trans hS1
  have her : e.r = m := hfin.r
  have hec : e.c = n + 1 := hfin.c
  have sze : szD (grow S m) e := hsize e hfin.same hfin.r hfin.c
  have hcst : ∀ j, j < e.c → e.cst j ≤ 0 := by
   rcases hfin.out with ⟨_, h⟩ | ⟨q, _, hq, hc, hall⟩
   ·exact h
   ·exact absurd (ph1_bounded hSe hfin.feas hq hc hall) id
  have hfre : ∀ j, j < e.c → e.fre j < 4000000 := fun j hj => by have := fre_lt hSe.bd hj; omega
  have hwalk := fun {e2 : Dict} {res : AV} (hx : Next n m e res e2) {ρ : List (Nat × Entry)} {s : St} {K : AV → St → Prop} => start_walk (n := n) (m := m) (p := p) (L := grow S m) (A := A) (bb := bb) (e := e) (ρ := ρ) (s := s) (K := K) hm hn hS (fun i hi => sz_mono (hb i hi) hSm) hp hpm (szD_mono szA hSm) sze her hec hfre
   (fun {ρ s K} hs hρ hE hO hK => hopt hs hρ hE hO (by omega) (by simp only [pivot, dA]; omega) rfl hS hsize hK) hx
  by_cases hv : e.v < 0
  ·refine .inl ⟨e, _, ⟨inf_of hSe hcst hv, fun i => sz_neg (cv_sz hSe.bd sze (n + i))⟩, ?_⟩
   have hy : fL (fun i => - cv e (n + i)) m = fL (priD n m e e.c) m := congrArg _ (fR_congr fun i hi => (pri_cv hSe.bd hi).symm)
   rw [hy]
   exact fun {ρ s K} hs hρ hE hO h => hwalk (.inl ⟨hv, rfl, rfl⟩) hs hρ hE hO h
  ·have hv0 : e.v = 0 := by have := ph1_v hSe hfin.feas; grind
   have fin : ∀ d1 : Dict, ((d1 = e ∧ ∀ i, i < m → e.bas i ≠ n + m) ∨ ∃ i q, i < m ∧ q < e.c ∧ e.bas i = n + m ∧ (∀ k, k < i → e.bas k ≠ n + m) ∧ e.a i q ≠ 0 ∧ (∀ k, k < q → e.a i k = 0) ∧ d1 = pivot e i q) →
     Same d1 (dA n m A bb) (n + m + 1) → feas d1 → d1.r = m → d1.c = n + 1 → (∃ j, j < d1.c ∧ d1.fre j = n + m) → szD (grow S m) d1 →
     (∃ e, Ready n m (grow S m) A bb e ∧ ∀ {ρ : List (Nat × Entry)} {s : St} {K : AV → St → Prop}, s.sto = ρ ++ tN n m A bb → rest ρ → lowF 2000 s.env → lowO 2000 s.out → K (.tuple [nilA, bv true]) ⟨s.env, ρ ++ tL n m e, s.out, s.base⟩ → CallI Try.prog F__tb_start [.ptr 1015 0] s K) := by
    intro d1 h1 hS hF hr hc hex hz
    obtain ⟨j0, hj0, hf0, hmin⟩ := least hex
    refine ⟨dropD d1 j0, ⟨drop_bij hS hj0 hf0, fun x => drop_sol hS hj0 hf0 x, fun i hi => hF i hi, hr, by simp only [dropD]; omega,
     ⟨fun i j hi hj => hz.a i _ hi (sk_lt hj0 hj), fun i hi => hz.b i hi, fun j hj => hz.cst _ (sk_lt hj0 hj), hz.v⟩⟩, ?_⟩
    exact fun {ρ s K} hs hρ hE hO h => hwalk (.inr ⟨hv, rfl, d1, j0, h1, hj0, hf0, hmin, rfl⟩) hs hρ hE hO h
   refine .inr ?_
   by_cases hb0 : ∃ i, i < m ∧ e.bas i = n + m
   ·obtain ⟨i, hi, hbi, hmin⟩ := least hb0
    obtain ⟨q, hq, haq, hqm⟩ := least (ph1_piv hSe (by omega) hbi)
    have hS2 : Same (pivot e i q) (dA n m A bb) (n + m + 1) := (Same.pivot hSe.bd (by omega) hq haq).trans hSe
    refine fin (pivot e i q) (.inr ⟨i, q, hi, hq, hbi, hmin, haq, fun k hk => Classical.byContradiction fun h => hqm k hk h, rfl⟩) hS2 (feas_deg hfin.feas (ph1_b0 hSe (by omega) hbi hv0)) her hec ⟨q, hq, by simp only [pivot, upd, if_true]; exact hbi⟩ ?_
    exact Same.size_r (d := dA n m A bb) szA hS2.symm her hec
   ·refine fin e (.inl ⟨rfl, fun i hi h => hb0 ⟨i, hi, h⟩⟩) hSe hfin.feas her hec ?_ sze
    rcases free_or_basic hSe.bd (show n + m < n + m + 1 by omega) with h | ⟨i, hi, h⟩
    ·exact h
    ·exact absurd ⟨i, by omega, h⟩ hb0
end Go.Proofs.Ytdeifcfjkmfocaa

namespace Go.Proofs.Ytdeifcfjkmfocaa
open Go Go.Am Go.Dig Go.LP
@[simp] theorem mR_take {g : Nat → List AV} {n : Nat} : (mR g n).take n = mR g n := List.take_of_length_le (by simp)
@[simp] theorem cR_take {a : Nat → Nat → Rat} {cl : Nat → Nat} {n : Nat} : (cR a cl n).take n = cR a cl n := mR_take
@[simp] theorem nR_take {f : Nat → Nat} {n : Nat} : (nR f n).take n = nR f n := mR_take
theorem R_vals {I I' : Nat → Nat → Prop} {w : World} {β β' : Blocks} {lam lam' : Owned} {v : Value} {x y : Value} (h : R I w β lam (.tuple [.val x, .val y]) v) : R I' w β' lam' (.tuple [.val x, .val y]) v := by
 have key : ∀ {l : List AV} {vs : Array Value}, l = [.val x, .val y] → vs.size = l.length → (∀ i c, l[i]? = some c → R I w β lam c (vs.getD i undef)) → ∀ i c, l[i]? = some c → R0 I' w c (vs.getD i undef) := by
  intro l vs hl _ h i c hc
  subst hl
  have h1 := h i c hc
  match i, hc with
  | 0, hc =>
   simp only [List.getElem?_cons_zero, Option.some.injEq] at hc
   subst hc
   cases h1 with
   | base h1 => cases h1; exact .val _
  | 1, hc =>
   simp only [List.getElem?_cons_succ, List.getElem?_cons_zero, Option.some.injEq] at hc
   subst hc
   cases h1 with
   | base h1 => cases h1; exact .val _
 cases h with
 | base h => cases h with | tuple _ vs hs hc => exact .base (.tuple _ vs hs (key rfl hs fun i c h => .base (hc i c h)))
 | tuple _ vs hs _ hc => exact .base (.tuple _ vs hs (key rfl hs hc))
theorem postV {P : Program} {f : FuncId} {xs : List AV} {s : St} {x y : Value} {s1 t : St} {K' : AV → St → Prop} (hc : CallI P f xs s fun r s' => r = .tuple [.val x, .val y] ∧ s' = s1) (h : St.imp s1 t) (hk : K' (.tuple [.val x, .val y]) t) : CallI P f xs s K' :=
 fun F a w I β lam hI vs hn hv => Calls.mono (hc F a w I β lam hI vs hn hv) fun e w' ⟨v, e1, r, s', I', β', lam', ⟨hr, hs⟩, hI', hR⟩ => by
  subst hr hs
  obtain ⟨I2, β2, lam2, h2⟩ := h _ _ _ ⟨I', β', lam', hI'⟩
  exact ⟨v, e1, _, t, I2, β2, lam2, hk, h2, R_vals hR⟩
theorem finR_vals (e : Dict) : ∃ x y, finR e = .tuple [.val x, .val y] := by
 unfold finR
 split
 ·exact ⟨_, _, rfl⟩
 ·exact ⟨_, _, rfl⟩
noncomputable def rhoS (A : Nat → Nat → Rat) (bb gg : Nat → Rat) (n m : Nat) : List (Nat × Entry) :=
 [(1, .var [fL gg n, .list 4 .plain (pR A bb n m)]), (2, .var [iv 0, bv false, nilA, nilA, nilA, nilA, nilA])]
noncomputable def rhoT : List (Nat × Entry) := [(2, .var [iv 0, bv false, nilA, nilA, nilA, nilA, nilA])]
theorem rhoS_rest {A : Nat → Nat → Rat} {bb gg : Nat → Rat} {n m : Nat} : rest (rhoS A bb gg n m) := by
 intro p hp
 simp only [rhoS, List.mem_cons, List.not_mem_nil, or_false] at hp
 rcases hp with rfl | rfl
 ·exact ⟨.inl (show (_ : Nat) < 1000 by simp), by simp [lowE]; exact ⟨rfl, rfl⟩⟩
 ·exact ⟨.inl (show (_ : Nat) < 1000 by simp), by simp [lowE]; exact ⟨rfl, rfl, rfl⟩⟩
theorem rhoT_rest : rest rhoT := by
 intro p hp
 simp only [rhoT, List.mem_cons, List.not_mem_nil, or_false] at hp
 subst hp
 exact ⟨.inl (show (_ : Nat) < 1000 by simp), by simp [lowE]; exact ⟨rfl, rfl, rfl⟩⟩
theorem frozen_tab {n m : Nat} {e : Dict} {b : Nat} :
  St.imp ⟨[(2, .ptr 2 0), (5, .ptr 1015 0)], rhoT ++ tL n m e, [], b⟩ ⟨[(2, .ptr 2 0), (5, tR n m e)], rhoT, [], b⟩ := by
 refine St.imp.trans (St.imp_freeze (k := 1961) (by simp [eFreeze, rhoT, tL, frzE_var, frzE_uarr, frz_plain, frz_us, frz_ptr]; rfl)) ?_
 refine St.imp.trans (St.imp_freeze (k := 1972) (by simp [eFreeze, frzE_var, frzE_uarr, frz_plain, frz_us, frz_ptr]; rfl)) ?_
 refine St.imp.trans (St.imp_freeze (k := 1987) (by simp [eFreeze, frzE_var, frzE_uarr, frz_plain, frz_us, frz_ptr]; rfl)) ?_
 refine St.imp.trans (St.imp_freeze (k := 2029) (by simp [eFreeze, frzE_var, frz_plain, frz_us, frz_ptr]; rfl)) ?_
 refine St.imp.trans (St.imp_freeze (k := 1015) (by simp [eFreeze, frzE_var, frz_ptr]; rfl)) ?_
 simp [tR, rhoT]
 exact St.imp.refl
@[simp] theorem goLoad_5 {q : Rat} {a b : AV} : goLoad [f0 q, f1 q, f2 q, a, b] 0 (some 3) = some (fq q) := by simp [goLoad]
@[simp] theorem splice_sol {q : Rat} {a b c d x y z : AV} : splice [a, b, c, d, x, y, z] 1 (fr q) = [a, f0 q, f1 q, f2 q, x, y, z] := by unfold fr; simp [splice, -fr_fold]
theorem low_nilA {M : Nat} : Am.low M nilA = true := rfl
theorem low_pA {A : Nat → Nat → Rat} {bb gg : Nat → Rat} {n m M : Nat} : Am.low M (.agg [.list 3 .plain (fR gg n), .list 4 .plain (pR A bb n m)]) = true := rfl
def SolR (n m L : Nat) (A : Nat → Nat → Rat) (bb gg : Nat → Rat) (r : AV) : Prop :=
 (∃ x y v, (Opt n m A bb gg x y v ∧ (∀ j, sz L (x j)) ∧ (∀ i, sz L (y i)) ∧ sz L v) ∧ r = .agg [iv 1, f0 v, f1 v, f2 v, fL x n, fL y m, nilA]) ∨
 (∃ y, (Inf n m A bb y ∧ ∀ i, sz L (y i)) ∧ r = .agg [iv 2, bv false, nilA, nilA, nilA, fL y m, nilA]) ∨
 (∃ x ray, (Unb n m A bb gg x ray ∧ (∀ j, sz L (x j)) ∧ ∀ j, sz L (ray j)) ∧ r = .agg [iv 3, bv false, nilA, nilA, fL x n, nilA, fL ray n])
theorem ok_newTableau : okFn Try.prog F_s_newTableau = true := by kernel_rfl
theorem ok_start : okFn Try.prog F__tb_start = true := by kernel_rfl
theorem ok_setGoal : okFn Try.prog F__tb_setGoal = true := by kernel_rfl
theorem solve_big {n m S : Nat} {A : Nat → Nat → Rat} {bb gg : Nat → Rat} (hm : m < 900000) (hn : n < 900000) (hS : grow S m + (m + 1) * (2 * grow S m + 1) ≤ 30000000000) (ha : ∀ i j, i < m → j < n → sz S (A i j)) (hb : ∀ i, i < m → sz S (bb i)) (hg : ∀ j, j < n → sz S (gg j))
  (hchk : SoundCall Try.prog F_s_Check [pA A bb gg n m] (iv 0)) :
  ∃ r, SolR n m (grow S m) A bb gg r ∧ SoundCall Try.prog F_s_Solve [pA A bb gg n m] (.tuple [r, iv 0]) := by
 have hSm : S ≤ grow S m := grow_mono (m := 0) (Nat.zero_le m)
 have h0 : 1 * (2 * grow S m + 1) ≤ (m + 1) * (2 * grow S m + 1) := Nat.mul_le_mul_right _ (by omega)
 have hSG : grow S m ≤ 10000000000 := by omega
 have szG : szD S (dG n m A bb gg) := ⟨fun i j hi hj => ha i j hi hj, fun i hi => hb i hi, fun j hj => hg j hj, sz_zero⟩
 have nt : ∀ {s : St} {K : AV → St → Prop}, s.sto = rhoS A bb gg n m → lowF 1000 s.env → lowO 1000 s.out → K (.ptr 1015 0) ⟨s.env, rhoS A bb gg n m ++ tN n m A bb, s.out, s.base⟩ → CallI Try.prog F_s_newTableau [pA A bb gg n m] s K :=
  fun hs hE hO hK => newTableauI hs rhoS_rest hE hO (by omega) (by omega) hK
 rcases startI (S := S) (A := A) (bb := bb) hm hn hSG ha hb with ⟨e, y, hi, hst⟩ | ⟨e, hr, hst⟩
 ·refine ⟨_, .inr (.inl ⟨y, hi, rfl⟩), ?_⟩
  refine sound' t_s_Solve (by simp) ?_
  simp [c_s_Solve]
  refine eCall_i hchk (by simp) (by simp) ?_
  simp [ok_newTableau]
  refine eCallI_of (nt (by simp [rhoS]) (by simp [lowF_cons, lowF_nil, low_iv, low_bv, low_ptr, low_pA]) (by simp [lowO]) ?_)
  simp [ok_start]
  refine eCallI_of (hst rfl rhoS_rest (by simp [lowF_cons, lowF_nil, low_ptr]) (by simp [lowO]) ?_)
  simp [rhoS, tL, r_s_Solve]
 ·have hS2 : Same (goalD n gg e) (dG n m A bb gg) (n + m) := goal_same hr.bij hr.sol
  have hF2 : feas (goalD n gg e) := hr.feas
  have hsize : ∀ e', Same e' (goalD n gg e) (n + m) → e'.r = (goalD n gg e).r → e'.c = (goalD n gg e).c → szD (grow S m) e' := fun e' he h1 h2 =>
   Same.size_r (d := dG n m A bb gg) szG (he.trans hS2).symm (by rw [h1]; exact hr.r) (by rw [h2]; exact hr.c)
  obtain ⟨e2, hfin, hopt⟩ := optimizeI hS2.bd hF2
  have hSe : Same e2 (dG n m A bb gg) (n + m) := hfin.same.trans hS2
  have her : e2.r = m := hfin.r.trans hr.r
  have hec : e2.c = n := hfin.c.trans hr.c
  have sze : szD (grow S m) e2 := hsize e2 hfin.same hfin.r hfin.c
  have hfre : ∀ j, j < e2.c → e2.fre j < 4000000 := fun j hj => by have := fre_lt hSe.bd hj; omega
  obtain ⟨fx, fy, hfr⟩ := finR_vals e2
  have so : ∀ {K : AV → St → Prop}, K (finR e2) ⟨[(2, .ptr 2 0), (5, tR n m e2)], rhoT, [], 0⟩ → CallI Try.prog F__tb_optimize [.ptr 1015 0] ⟨[(2, .ptr 2 0), (5, .ptr 1015 0), (32, .ptr 1015 0)], rhoT ++ tL n m (goalD n gg e), [], 0⟩ K := fun {K} hK => by
   refine CallI.pre (impW_env (env := [(2, .ptr 2 0), (5, .ptr 1015 0)]) (by simp [subE_cons, subE_nil])) ?_
   refine postV (hopt rfl rhoT_rest (by simp [lowF_cons, lowF_nil, low_ptr]) (by simp [lowO]) (by omega) (by rw [show (goalD n gg e).c = n from hr.c]; omega) hr.r hSG hsize ⟨hfr, rfl⟩) frozen_tab ?_
   rw [← hfr]
   exact hK
  have pt := point_sound (n := n) (m := m) (d := e2) (by omega) (by omega)
  have pr := prices_sound (n := n) (m := m) (L := grow S m) (d := e2) (by omega) (by omega) (by omega) hfre (by omega) sze.cst
  have hx : fL (poiD n e2 m) n = fL (vl e2) n := congrArg _ (fR_congr fun j hj => by rw [← her]; exact poi_vl hSe.bd hj)
  have hy : fL (priD n m e2 e2.c) m = fL (fun i => - cv e2 (n + i)) m := congrArg _ (fR_congr fun i hi => pri_cv hSe.bd hi)
  rw [hx] at pt
  rw [hy] at pr
  rcases hfin.out with ⟨ho, hcst⟩ | ⟨q, ho, hq, hc0, hall⟩
  ·refine ⟨_, .inl ⟨_, _, _, ⟨opt_of hSe hfin.feas hcst, vl_sz hSe.bd sze, fun i => sz_neg (cv_sz hSe.bd sze (n + i)), sze.v⟩, rfl⟩, ?_⟩
   rw [ho] at so
   refine sound' t_s_Solve (by simp) ?_
   simp [c_s_Solve]
   refine eCall_i hchk (by simp) (by simp) ?_
   simp [ok_newTableau]
   refine eCallI_of (nt (by simp [rhoS]) (by simp [lowF_cons, lowF_nil, low_iv, low_bv, low_ptr, low_pA]) (by simp [lowO]) ?_)
   simp [ok_start]
   refine eCallI_of (hst rfl rhoS_rest (by simp [lowF_cons, lowF_nil, low_ptr]) (by simp [lowO]) ?_)
   simp [ok_setGoal, rhoS]
   refine eCallI_of (setGoalI (s := ⟨_, rhoS A bb gg n m ++ tL n m e, [], 0⟩) (L := grow S m) (d := e) (g := gg) (ρ := rhoS A bb gg n m) (n := n) (m := m) rfl rhoS_rest ?_ (by simp [lowO]) (by omega) (by omega) (by rw [hr.c]; omega) hr.r (by omega) hr.sz (fun j hj => sz_mono (hg j hj) hSm) ?_)
   ·simp [lowF_cons, lowF_nil, low_bv, low_ptr, low_fL, low_nilA]
   simp [ok_optimize, rhoS, tL]
   refine eCallI_of (so ?_)
   simp [tR, rhoT]
   refine eCall_i pt (by simp [tR]) (by simp) ?_
   simp
   refine eCall_i pr (by simp [tR]) (by simp) ?_
   simp [r_s_Solve]
  ·have ra := ray_sound (n := n) (m := m) (L := grow S m) (d := e2) (q := q) (by omega) (by omega) hq (by omega) (fun i hi => sze.a i q (by omega) hq)
   have hra : fL (rayD n e2 q m) n = fL (rayq e2 q) n := congrArg _ (fR_congr fun j hj => by rw [← her]; exact ray_q hSe.bd hq hj)
   rw [hra] at ra
   refine ⟨_, .inr (.inr ⟨_, _, ⟨unb_of hSe hfin.feas hq hc0 hall, vl_sz hSe.bd sze, rayq_sz hSe.bd sze hq⟩, rfl⟩), ?_⟩
   rw [ho] at so
   refine sound' t_s_Solve (by simp) ?_
   simp [c_s_Solve]
   refine eCall_i hchk (by simp) (by simp) ?_
   simp [ok_newTableau]
   refine eCallI_of (nt (by simp [rhoS]) (by simp [lowF_cons, lowF_nil, low_iv, low_bv, low_ptr, low_pA]) (by simp [lowO]) ?_)
   simp [ok_start]
   refine eCallI_of (hst rfl rhoS_rest (by simp [lowF_cons, lowF_nil, low_ptr]) (by simp [lowO]) ?_)
   simp [ok_setGoal, rhoS]
   refine eCallI_of (setGoalI (s := ⟨_, rhoS A bb gg n m ++ tL n m e, [], 0⟩) (L := grow S m) (d := e) (g := gg) (ρ := rhoS A bb gg n m) (n := n) (m := m) rfl rhoS_rest ?_ (by simp [lowO]) (by omega) (by omega) (by rw [hr.c]; omega) hr.r (by omega) hr.sz (fun j hj => sz_mono (hg j hj) hSm) ?_)
   ·simp [lowF_cons, lowF_nil, low_bv, low_ptr, low_fL, low_nilA]
   simp [ok_optimize, rhoS, tL]
   refine eCallI_of (so ?_)
   simp [tR, rhoT]
   refine eCall_i pt (by simp [tR]) (by simp) ?_
   simp
   refine eCall_i ra (by simp [tR]) (by simp) ?_
   simp [r_s_Solve]
theorem solve_ex {n m S : Nat} {A : Nat → Nat → Rat} {bb gg : Nat → Rat} (hm : m < 900000) (hn : n < 900000) (hS : grow S m + (m + 1) * (2 * grow S m + 1) ≤ 10000000000) (ha : ∀ i j, i < m → j < n → sz S (A i j)) (hb : ∀ i, i < m → sz S (bb i)) (hg : ∀ j, j < n → sz S (gg j))
  (hchk : SoundCall Try.prog F_s_Check [pA A bb gg n m] (iv 0)) :
  ∃ r, SolR n m (grow S m) A bb gg r ∧ SoundCall Try.prog F_s_Solve [pA A bb gg n m] (.tuple [r, iv 0]) := solve_big hm hn (Nat.le_trans hS (by decide)) ha hb hg hchk
end Go.Proofs.Ytdeifcfjkmfocaa

namespace Go.Proofs.Ytdeifcfjkmfocaa
open Go Go.Am Go.Dig Go.LP
structure RF where
 s : Bool
 a : List Nat
 c : List Nat
def RF.fine (x : RF) : Prop := ok x.a ∧ ok x.c ∧ x.a.length < 17179869184 ∧ x.c.length < 17179869184
def RF.v (x : RF) : Bool := vfr x.s x.a x.c
def RF.of (q : Rat) : RF := ⟨decide (q.num < 0), digs q.num.natAbs, digs q.den⟩
noncomputable def h0 (x : RF) : AV := Classical.choose (ex_eq (bv x.s))
noncomputable def h1 (x : RF) : AV := Classical.choose (ex_eq (nl .plain x.a))
noncomputable def h2 (x : RF) : AV := Classical.choose (ex_eq (nl .plain x.c))
theorem h0_eq (x : RF) : h0 x = bv x.s := Classical.choose_spec (ex_eq _)
theorem h1_eq (x : RF) : h1 x = nl .plain x.a := Classical.choose_spec (ex_eq _)
theorem h2_eq (x : RF) : h2 x = nl .plain x.c := Classical.choose_spec (ex_eq _)
noncomputable def hr (x : RF) : List AV := [h0 x, h1 x, h2 x]
@[simp] theorem hr_fold (x : RF) : [h0 x, h1 x, h2 x] = hr x := rfl
noncomputable abbrev hq (x : RF) : AV := .agg (hr x)
theorem h0_of (q : Rat) : h0 (RF.of q) = f0 q := by rw [h0_eq, f0_eq]; rfl
theorem h1_of (q : Rat) : h1 (RF.of q) = f1 q := by rw [h1_eq, f1_eq]; rfl
theorem h2_of (q : Rat) : h2 (RF.of q) = f2 q := by rw [h2_eq, f2_eq]; rfl
theorem hr_of (q : Rat) : hr (RF.of q) = fr q := by unfold hr fr; rw [h0_of, h1_of, h2_of]
theorem hr_eq (x : RF) : hr x = [bv x.s, nl .plain x.a, nl .plain x.c] := by unfold hr; rw [h0_eq, h1_eq, h2_eq]
section
variable {x : RF} {l k a b M : Nat} {e : Entry}
@[simp] theorem h0_rf : rf (h0 x) = true := by rw [h0_eq]; rfl
@[simp] theorem h0_strip : strip (h0 x) = h0 x := by rw [h0_eq]; rfl
@[simp] theorem h0_dg : dg l (h0 x) = h0 x := by rw [h0_eq]; simp
@[simp] theorem h0_frz : frz l e (h0 x) = h0 x := by rw [h0_eq]; rfl
@[simp] theorem h0_rn : rn a b (h0 x) = h0 x := by rw [h0_eq]; rfl
@[simp] theorem h0_low : Am.low M (h0 x) = true := by rw [h0_eq]; rfl
@[simp] theorem h0_refs : refsTo k (h0 x) = false := by rw [h0_eq]; rfl
@[simp] theorem h0_tok : tokB k (h0 x) = false := by rw [h0_eq]; rfl
@[simp] theorem h1_rf : rf (h1 x) = true := by rw [h1_eq]; rfl
@[simp] theorem h1_strip : strip (h1 x) = h1 x := by rw [h1_eq]; rfl
@[simp] theorem h1_dg : dg l (h1 x) = h1 x := by rw [h1_eq]; simp
@[simp] theorem h1_frz : frz l e (h1 x) = h1 x := by rw [h1_eq]; rfl
@[simp] theorem h1_rn : rn a b (h1 x) = h1 x := by rw [h1_eq]; rfl
@[simp] theorem h1_low : Am.low M (h1 x) = true := by rw [h1_eq]; rfl
@[simp] theorem h1_refs : refsTo k (h1 x) = false := by rw [h1_eq]; rfl
@[simp] theorem h1_tok : tokB k (h1 x) = false := by rw [h1_eq]; rfl
@[simp] theorem h2_rf : rf (h2 x) = true := by rw [h2_eq]; rfl
@[simp] theorem h2_strip : strip (h2 x) = h2 x := by rw [h2_eq]; rfl
@[simp] theorem h2_dg : dg l (h2 x) = h2 x := by rw [h2_eq]; simp
@[simp] theorem h2_frz : frz l e (h2 x) = h2 x := by rw [h2_eq]; rfl
@[simp] theorem h2_rn : rn a b (h2 x) = h2 x := by rw [h2_eq]; rfl
@[simp] theorem h2_low : Am.low M (h2 x) = true := by rw [h2_eq]; rfl
@[simp] theorem h2_refs : refsTo k (h2 x) = false := by rw [h2_eq]; rfl
@[simp] theorem h2_tok : tokB k (h2 x) = false := by rw [h2_eq]; rfl
@[simp] theorem hr_len : (hr x).length = 3 := by simp [hr_eq]
@[simp] theorem hr_rf : (hr x).all rf = true := by rw [hr_eq]; simp
@[simp] theorem hr_strip : (hr x).map strip = hr x := by rw [hr_eq]; simp
@[simp] theorem hr_dg : (hr x).map (dg l) = hr x := by rw [hr_eq]; simp
@[simp] theorem hr_ref : anyRef k (hr x) = false := by rw [hr_eq]; simp
@[simp] theorem goLoad_hr : goLoad (hr x) 0 (some 3) = some (hq x) := by rw [goLoad_all hr_len hr_rf, hr_strip]
@[simp] theorem goLoad_hrow {y : AV} : goLoad (y :: hr x) 1 (some 3) = some (hq x) := by
 simp only [goLoad, hr, List.length_cons, List.length_nil, List.drop_succ_cons, List.drop_zero, List.take]
 simp
@[simp] theorem splice_hr {y z w : AV} : splice [y, z, w] 0 (hr x) = hr x := by rw [hr_eq]; simp [splice]
end
theorem h_valid {x : RF} (h : x.fine) : SoundCall Try.prog F_f_Valid [hq x] (bv x.v) := by
 unfold hq; rw [hr_eq]; exact valid_frac h.1 h.2.1 h.2.2.1 h.2.2.2 rfl rfl
theorem h_validr {x : RF} (h : x.fine) : SoundCall Try.prog F_p_Valid [hq x] (bv x.v) := by
 unfold hq; rw [hr_eq]; exact valid_refq h.1 h.2.1 h.2.2.1 h.2.2.2 rfl rfl
noncomputable def hR (f : Nat → RF) (n : Nat) : List (List AV) := mR (fun j => hr (f j)) n
noncomputable abbrev hL (f : Nat → RF) (n : Nat) : AV := .list 3 .plain (hR f n)
section
variable {f : Nat → RF} {n i k : Nat}
@[simp] theorem hR_len : (hR f n).length = n := mR_len
@[simp] theorem hR_getE {hi : i < (hR f n).length} : (hR f n)[i] = hr (f i) := mR_getE
@[simp] theorem hR_rf : rowsRf (hR f n) = true := mR_all fun _ => by simp
@[simp] theorem hR_st : rowsSt (hR f n) = hR f n := mR_map fun _ => by simp
theorem hR_of {g : Nat → Rat} (h : ∀ j, j < n → f j = RF.of (g j)) : hR f n = fR g n := mR_congr fun j hj => by rw [h j hj, hr_of]
end
noncomputable def qR (A : Nat → Nat → RF) (cl : Nat → Nat) (b : Nat → RF) (m : Nat) : List (List AV) := mR (fun i => [hL (A i) (cl i), h0 (b i), h1 (b i), h2 (b i)]) m
noncomputable abbrev rA (G : Nat → RF) (n : Nat) (A : Nat → Nat → RF) (cl : Nat → Nat) (b : Nat → RF) (m : Nat) : AV := .agg [hL G n, .list 4 .plain (qR A cl b m)]
section
variable {A : Nat → Nat → RF} {cl : Nat → Nat} {b : Nat → RF} {m i : Nat}
@[simp] theorem qR_len : (qR A cl b m).length = m := mR_len
@[simp] theorem qR_getE {hi : i < (qR A cl b m).length} : (qR A cl b m)[i] = [hL (A i) (cl i), h0 (b i), h1 (b i), h2 (b i)] := mR_getE
@[simp] theorem qR_rf : rowsRf (qR A cl b m) = true := mR_all fun _ => by simp
@[simp] theorem qR_st : rowsSt (qR A cl b m) = qR A cl b m := mR_map fun _ => by simp
end
noncomputable def allV (f : Nat → RF) (n : Nat) : Bool := @decide (∀ j, j < n → (f j).v = true) (Classical.propDecidable _)
theorem allV_iff {f : Nat → RF} {n : Nat} : allV f n = true ↔ ∀ j, j < n → (f j).v = true := by unfold allV; exact @decide_eq_true_iff _ (Classical.propDecidable _)
noncomputable def stVl (f : Nat → RF) (n k : Nat) : St := { env := [(5, hL f n), (6, iv n), (7, iv k)], sto := [] }
theorem validL {f : Nat → RF} {n : Nat} (hn : n < 1000000) (hf : ∀ j, j < n → (f j).fine) : SoundCall Try.prog F_s_valid [hL f n] (bv (allV f n)) := by
 refine sound' t_s_valid (by simp) ?_
 simp [c_s_valid]
 refine awp_forW (stVl f n) (fun k => ∀ j, j < k → (f j).v = true) n (by simp [stVl]) (fun j hj => by omega) (fun k hk hI => ?_) (fun hI => ?_)
 ·have e : (k : Int) < n := by omega
  have w := wrap_succ (k := k) (by omega)
  simp [c_s_valid_l0, stVl, e, hk]
  refine eCall_i (h_valid (hf k hk)) (by simp) (by simp) ?_
  cases hv : (f k).v with
  | true =>
   simp [w, stVl]
   intro j hj
   by_cases ej : j = k
   ·subst ej; exact hv
   ·exact hI j (by omega)
  | false =>
   have : allV f n = false := by
    cases h : allV f n with
    | false => rfl
    | true => have := allV_iff.1 h k hk; rw [hv] at this; cases this
   simp [r_s_valid, this]
 ·have : allV f n = true := allV_iff.2 hI
  simp [c_s_valid_l0, c_s_valid_k1, r_s_valid, stVl, this]
def goodP (G : Nat → RF) (n : Nat) (A : Nat → Nat → RF) (cl : Nat → Nat) (b : Nat → RF) (m : Nat) : Prop :=
 (∀ j, j < n → (G j).v = true) ∧ ∀ i, i < m → cl i = n ∧ (b i).v = true ∧ ∀ j, j < n → (A i j).v = true
noncomputable def chkE (G : Nat → RF) (n : Nat) (A : Nat → Nat → RF) (cl : Nat → Nat) (b : Nat → RF) (m : Nat) : Int :=
 if 160 < n ∨ 40 < m then 3 else @ite _ (goodP G n A cl b m) (Classical.propDecidable _) 0 2
section
variable {G : Nat → RF} {n : Nat} {A : Nat → Nat → RF} {cl : Nat → Nat} {b : Nat → RF} {m : Nat}
theorem chkE_long (h : 160 < n ∨ 40 < m) : chkE G n A cl b m = 3 := if_pos h
theorem chkE_good (h : ¬ (160 < n ∨ 40 < m)) (hg : goodP G n A cl b m) : chkE G n A cl b m = 0 := by unfold chkE; rw [if_neg h]; exact @if_pos _ (Classical.propDecidable _) hg _ _ _
theorem chkE_bad (h : ¬ (160 < n ∨ 40 < m)) (hg : ¬ goodP G n A cl b m) : chkE G n A cl b m = 2 := by unfold chkE; rw [if_neg h]; exact @if_neg _ (Classical.propDecidable _) hg _ _ _
theorem chkE_zero (h : chkE G n A cl b m = 0) : n ≤ 160 ∧ m ≤ 40 ∧ goodP G n A cl b m := by
 by_cases h1 : 160 < n ∨ 40 < m
 ·rw [chkE_long h1] at h; cases h
 ·by_cases h2 : goodP G n A cl b m
  ·exact ⟨by omega, by omega, h2⟩
  ·rw [chkE_bad h1 h2] at h; cases h
noncomputable def stCk (G : Nat → RF) (n : Nat) (A : Nat → Nat → RF) (cl : Nat → Nat) (b : Nat → RF) (m k : Nat) : St :=
 {env := [(1, .ptr 1 0), (20, .list 4 .plain (qR A cl b m)), (21, iv m), (22, iv k)], sto := [(1, .var [hL G n, .list 4 .plain (qR A cl b m)])] }
theorem check_sx (hn : n < 1000000) (hm : m < 1000000) (hc : ∀ i, i < m → cl i < 1000000) (hG : ∀ j, j < n → (G j).fine) (hA : ∀ i j, i < m → j < cl i → (A i j).fine) (hb : ∀ i, i < m → (b i).fine) :
  SoundCall Try.prog F_s_Check [rA G n A cl b m] (iv (chkE G n A cl b m)) := by
 have kG := validL hn hG
 refine sound' t_s_Check (by simp) ?_
 by_cases hl : 160 < n ∨ 40 < m
 ·rw [chkE_long hl]
  by_cases h1 : 160 < n
  ·have h1' : (160 : Int) < n := by omega
   simp [c_s_Check, h1', r_s_Check]
  ·have h1' : ¬ (160 : Int) < n := by omega
   have h2' : (40 : Int) < m := by omega
   simp [c_s_Check, h1', h2', r_s_Check]
 ·have h1' : ¬ (160 : Int) < n := by omega
  have h2' : ¬ (40 : Int) < m := by omega
  simp [c_s_Check, h1', h2']
  refine eCall_i kG (by simp) (by simp) ?_
  cases hv : allV G n with
  | false =>
   rw [chkE_bad hl fun hg => by rw [allV_iff.2 hg.1] at hv; cases hv]
   simp [r_s_Check]
  | true =>
   simp
   refine awp_forW (stCk G n A cl b m) (fun k => ∀ i, i < k → cl i = n ∧ (b i).v = true ∧ ∀ j, j < n → (A i j).v = true) m (by simp [stCk]) (fun j hj => by omega) (fun k hk hI => ?_) (fun hI => ?_)
   ·have e : (k : Int) < m := by omega
    have w := wrap_succ (k := k) (by omega)
    have kA := validL (f := A k) (n := cl k) (hc k hk) (fun j hj => hA k j hk hj)
    have kb := h_valid (hb k hk)
    by_cases h3 : cl k = n
    ·have kA := kA
     rw [h3] at kA
     simp [c_s_Check_l0, stCk, e, hk, h3]
     refine eCall_i kA (by simp) (by simp) ?_
     cases hva : allV (A k) n with
     | false =>
      rw [chkE_bad hl fun hg => by have := hg.2 k hk; rw [allV_iff.2 this.2.2] at hva; cases hva]
      simp [r_s_Check]
     | true =>
      simp
      refine eCall_i kb (by simp) (by simp) ?_
      cases hvb : (b k).v with
      | false =>
       rw [chkE_bad hl fun hg => by have := hg.2 k hk; rw [hvb] at this; cases this.2.1]
       simp [r_s_Check]
      | true =>
       simp [w, stCk]
       intro i hi
       by_cases ei : i = k
       ·subst ei; exact ⟨h3, hvb, allV_iff.1 hva⟩
       ·exact hI i (by omega)
    ·have h3' : ¬ (cl k : Int) = n := by omega
     rw [chkE_bad hl fun hg => h3 (hg.2 k hk).1]
     simp [c_s_Check_l0, stCk, e, hk, h3', r_s_Check]
   ·rw [chkE_good hl ⟨allV_iff.1 hv, hI⟩]
    simp [c_s_Check_l0, c_s_Check_k1, r_s_Check, stCk]
noncomputable def stR0c (G : Nat → RF) (n : Nat) (A : Nat → Nat → RF) (cl : Nat → Nat) (b : Nat → RF) (m k : Nat) : St :=
 {env := [(1, .ptr 1 0), (3, iv k)], sto := [(1, .var [hL G n, .list 4 .plain (qR A cl b m)])] }
noncomputable def stR3c (G : Nat → RF) (n : Nat) (A : Nat → Nat → RF) (cl : Nat → Nat) (b : Nat → RF) (m k : Nat) : St :=
 {env := [(1, .ptr 1 0), (4, iv k)], sto := [(1, .var [hL G n, .list 4 .plain (qR A cl b m)])] }
noncomputable def stR1c (G : Nat → RF) (n : Nat) (A : Nat → Nat → RF) (cl : Nat → Nat) (b : Nat → RF) (m i k : Nat) : St :=
 {env := [(1, .ptr 1 0), (4, iv i), (5, iv k)], sto := [(1, .var [hL G n, .list 4 .plain (qR A cl b m)])] }
theorem check_r18 (hG : ∀ j, j < n → (G j).fine) (hA : ∀ i j, i < m → j < cl i → (A i j).fine) (hb : ∀ i, i < m → (b i).fine) :
  SoundCall Try.prog F_v_Check [rA G n A cl b m] (iv (chkE G n A cl b m)) := by
 refine sound' t_v_Check (by simp) ?_
 by_cases hl : 160 < n ∨ 40 < m
 ·rw [chkE_long hl]
  by_cases h1 : 160 < n
  ·have h1' : (160 : Int) < n := by omega
   simp [c_v_Check, h1', r_v_Check]
  ·have h1' : ¬ (160 : Int) < n := by omega
   have h2' : (40 : Int) < m := by omega
   simp [c_v_Check, h1', h2', r_v_Check]
 ·have h1' : ¬ (160 : Int) < n := by omega
  have h2' : ¬ (40 : Int) < m := by omega
  simp [c_v_Check, h1', h2']
  refine awp_forW (stR0c G n A cl b m) (fun k => ∀ i, i < k → (G i).v = true) n (by simp [stR0c]) (fun j hj => by omega) (fun k hk hI => ?_) (fun hI0 => ?_)
  ·have e : (k : Int) < n := by omega
   have w := wrap_succ (k := k) (by omega)
   simp [c_v_Check_l0, stR0c, e, hk]
   refine eCall_i (h_validr (hG k hk)) (by simp) (by simp) ?_
   cases hv : (G k).v with
   | false =>
    rw [chkE_bad hl fun hg => by have := hg.1 k hk; rw [hv] at this; cases this]
    simp [r_v_Check]
   | true =>
    simp [w, stR0c]
    intro i hi
    by_cases ei : i = k
    ·subst ei; exact hv
    ·exact hI i (by omega)
  ·simp [c_v_Check_l0, stR0c, c_v_Check_k5]
   refine awp_forW (stR3c G n A cl b m) (fun k => ∀ i, i < k → cl i = n ∧ (b i).v = true ∧ ∀ j, j < n → (A i j).v = true) m (by simp [stR3c]) (fun j hj => by omega) (fun k hk hI => ?_) (fun hI => ?_)
   ·have e : (k : Int) < m := by omega
    have w := wrap_succ (k := k) (by omega)
    have kb := h_validr (hb k hk)
    by_cases h3 : cl k = n
    ·have h3' : (cl k : Int) = n := by omega
     simp [c_v_Check_l3, stR3c, e, hk, h3]
     refine eCall_i kb (by simp) (by simp) ?_
     cases hvb : (b k).v with
     | false =>
      rw [chkE_bad hl fun hg => by have := hg.2 k hk; rw [hvb] at this; cases this.2.1]
      simp [r_v_Check]
     | true =>
      simp
      refine awp_forW (stR1c G n A cl b m k) (fun j => ∀ i, i < j → (A k i).v = true) n (by simp [stR1c]) (fun j hj => by omega) (fun l hl2 hI2 => ?_) (fun hI2 => ?_)
      ·have e2 : (l : Int) < n := by omega
       have w2 := wrap_succ (k := l) (by omega)
       have hl3 : l < cl k := by omega
       have kA := h_validr (hA k l hk hl3)
       simp [c_v_Check_l1, stR1c, e, hk, h3, e2, hl2]
       refine eCall_i kA (by simp) (by simp) ?_
       cases hva : (A k l).v with
       | false =>
        rw [chkE_bad hl fun hg => by have := (hg.2 k hk).2.2 l hl2; rw [hva] at this; cases this]
        simp [r_v_Check]
       | true =>
        simp [w2, stR1c]
        intro i hi
        by_cases ei : i = l
        ·subst ei; exact hva
        ·exact hI2 i (by omega)
      ·simp [c_v_Check_l1, stR1c, c_v_Check_k2, w, stR3c]
       intro i hi
       by_cases ei : i = k
       ·subst ei; exact ⟨h3, hvb, hI2⟩
       ·exact hI i (by omega)
    ·have h3' : ¬ (cl k : Int) = n := by omega
     rw [chkE_bad hl fun hg => h3 (hg.2 k hk).1]
     simp [c_v_Check_l3, stR3c, e, hk, h3', r_v_Check]
   ·rw [chkE_good hl ⟨hI0, hI⟩]
    simp [c_v_Check_l3, stR3c, c_v_Check_k4, r_v_Check]
end
end Go.Proofs.Ytdeifcfjkmfocaa

namespace Go.Proofs.Ytdeifcfjkmfocaa
open Go Go.Am Go.Dig Go.LP
@[simp] theorem hr_0 {x : RF} : (hr x)[0]? = some (h0 x) := rfl
@[simp] theorem hr_1 {x : RF} : (hr x)[1]? = some (h1 x) := rfl
@[simp] theorem hr_2 {x : RF} : (hr x)[2]? = some (h2 x) := rfl
@[simp] theorem hr_1E {x : RF} {h : 1 < (hr x).length} : (hr x)[1] = h1 x := rfl
@[simp] theorem hr_2E {x : RF} {h : 2 < (hr x).length} : (hr x)[2] = h2 x := rfl
def smallF (x : RF) (D : Nat) : Prop := x.a.length ≤ D ∧ x.c.length ≤ D
def lightP (G : Nat → RF) (n : Nat) (A : Nat → Nat → RF) (cl : Nat → Nat) (b : Nat → RF) (m N D : Nat) : Prop :=
 n ≤ N ∧ m ≤ N ∧ (∀ j, j < n → smallF (G j) D) ∧ ∀ i, i < m → (cl i ≤ N ∧ smallF (b i) D) ∧ ∀ j, j < cl i → smallF (A i j) D
noncomputable def lightE (G : Nat → RF) (n : Nat) (A : Nat → Nat → RF) (cl : Nat → Nat) (b : Nat → RF) (m N D : Nat) : Bool := @decide (lightP G n A cl b m N D) (Classical.propDecidable _)
section
variable {G : Nat → RF} {n : Nat} {A : Nat → Nat → RF} {cl : Nat → Nat} {b : Nat → RF} {m N D : Nat}
theorem lightE_true (h : lightP G n A cl b m N D) : lightE G n A cl b m N D = true := by unfold lightE; exact @decide_eq_true _ (Classical.propDecidable _) h
theorem lightE_false (h : ¬ lightP G n A cl b m N D) : lightE G n A cl b m N D = false := by unfold lightE; exact @decide_eq_false _ (Classical.propDecidable _) h
noncomputable def stL0 (G : Nat → RF) (n : Nat) (A : Nat → Nat → RF) (cl : Nat → Nat) (b : Nat → RF) (m N D k : Nat) : St :=
 {env := [(1, iv N), (2, iv D), (3, .ptr 3 0), (7, iv k)], sto := [(3, .var [hL G n, .list 4 .plain (qR A cl b m)])] }
noncomputable def stL3 (G : Nat → RF) (n : Nat) (A : Nat → Nat → RF) (cl : Nat → Nat) (b : Nat → RF) (m N D k : Nat) : St :=
 {env := [(1, iv N), (2, iv D), (3, .ptr 3 0), (8, iv k)], sto := [(3, .var [hL G n, .list 4 .plain (qR A cl b m)])] }
noncomputable def stL1 (G : Nat → RF) (n : Nat) (A : Nat → Nat → RF) (cl : Nat → Nat) (b : Nat → RF) (m N D i k : Nat) : St :=
 {env := [(1, iv N), (2, iv D), (3, .ptr 3 0), (8, iv i), (9, .ptr 9 0), (10, iv k)], sto := [(3, .var [hL G n, .list 4 .plain (qR A cl b m)]), (9, .var [hL (A i) (cl i), h0 (b i), h1 (b i), h2 (b i)])] }
theorem light_r18 (hn : n < 2305843009213693952) (hm : m < 2305843009213693952) (hc : ∀ i, i < m → cl i < 2305843009213693952) :
  SoundCall Try.prog F_v_Light [rA G n A cl b m, iv N, iv D] (bv (lightE G n A cl b m N D)) := by
 refine sound' t_v_Light (by simp) ?_
 by_cases g1 : n ≤ N
 rotate_left
 ·have g1' : (N : Int) < n := by omega
  rw [lightE_false fun h => g1 h.1]
  simp [c_v_Light, g1', r_v_Light]
 have g1' : ¬ (N : Int) < n := by omega
 by_cases g2 : m ≤ N
 rotate_left
 ·have g2' : (N : Int) < m := by omega
  rw [lightE_false fun h => g2 h.2.1]
  simp [c_v_Light, g1', g2', r_v_Light]
 have g2' : ¬ (N : Int) < m := by omega
 simp [c_v_Light, g1', g2']
 refine awp_forW (stL0 G n A cl b m N D) (fun k => ∀ j, j < k → smallF (G j) D) n (by simp [stL0]) (fun j hj => by omega) (fun k hk hI => ?_) (fun hI0 => ?_)
 ·have e : (k : Int) < n := by omega
  have w := wrap_succ (k := k) (by omega)
  by_cases q1 : (G k).a.length ≤ D
  ·have q1' : ¬ (D : Int) < (G k).a.length := by omega
   by_cases q2 : (G k).c.length ≤ D
   ·have q2' : ¬ (D : Int) < (G k).c.length := by omega
    simp [c_v_Light_l0, stL0, e, hk, h1_eq, h2_eq, q1', q2', w]
    intro j hj
    by_cases ej : j = k
    ·subst ej; exact ⟨q1, q2⟩
    ·exact hI j (by omega)
   ·have q2' : (D : Int) < (G k).c.length := by omega
    rw [lightE_false fun h => q2 (h.2.2.1 k hk).2]
    simp [c_v_Light_l0, stL0, e, hk, h1_eq, h2_eq, q1', q2', r_v_Light]
  ·have q1' : (D : Int) < (G k).a.length := by omega
   rw [lightE_false fun h => q1 (h.2.2.1 k hk).1]
   simp [c_v_Light_l0, stL0, e, hk, h1_eq, q1', r_v_Light]
 ·simp [c_v_Light_l0, stL0, c_v_Light_k5]
  refine awp_forW (stL3 G n A cl b m N D) (fun k => ∀ i, i < k → (cl i ≤ N ∧ smallF (b i) D) ∧ ∀ j, j < cl i → smallF (A i j) D) m (by simp [stL3]) (fun j hj => by omega) (fun k hk hI => ?_) (fun hI => ?_)
  ·have e : (k : Int) < m := by omega
   have w := wrap_succ (k := k) (by omega)
   have hck := hc k hk
   by_cases q0 : cl k ≤ N
   rotate_left
   ·have q0' : (N : Int) < cl k := by omega
    rw [lightE_false fun h => q0 (h.2.2.2 k hk).1.1]
    simp [c_v_Light_l3, stL3, e, hk, q0', r_v_Light]
   have q0' : ¬ (N : Int) < cl k := by omega
   by_cases q1 : (b k).a.length ≤ D
   rotate_left
   ·have q1' : (D : Int) < (b k).a.length := by omega
    rw [lightE_false fun h => q1 (h.2.2.2 k hk).1.2.1]
    simp [c_v_Light_l3, stL3, e, hk, q0', q1', h1_eq, r_v_Light]
   have q1' : ¬ (D : Int) < (b k).a.length := by omega
   by_cases q2 : (b k).c.length ≤ D
   rotate_left
   ·have q2' : (D : Int) < (b k).c.length := by omega
    rw [lightE_false fun h => q2 (h.2.2.2 k hk).1.2.2]
    simp [c_v_Light_l3, stL3, e, hk, q0', q1', q2', h1_eq, h2_eq, r_v_Light]
   have q2' : ¬ (D : Int) < (b k).c.length := by omega
   simp [c_v_Light_l3, stL3, e, hk, q0', q1', q2', h1_eq, h2_eq]
   refine awp_forW (stL1 G n A cl b m N D k) (fun l => ∀ j, j < l → smallF (A k j) D) (cl k) (by simp [stL1, h1_eq, h2_eq]) (fun j hj => by omega) (fun l hl hI2 => ?_) (fun hI2 => ?_)
   ·have e2 : (l : Int) < cl k := by omega
    have w2 := wrap_succ (k := l) (by omega)
    by_cases p1 : (A k l).a.length ≤ D
    rotate_left
    ·have p1' : (D : Int) < (A k l).a.length := by omega
     rw [lightE_false fun h => p1 ((h.2.2.2 k hk).2 l hl).1]
     simp [c_v_Light_l1, stL1, e2, hl, p1', h1_eq, r_v_Light]
    have p1' : ¬ (D : Int) < (A k l).a.length := by omega
    by_cases p2 : (A k l).c.length ≤ D
    rotate_left
    ·have p2' : (D : Int) < (A k l).c.length := by omega
     rw [lightE_false fun h => p2 ((h.2.2.2 k hk).2 l hl).2]
     simp [c_v_Light_l1, stL1, e2, hl, p1', p2', h1_eq, h2_eq, r_v_Light]
    have p2' : ¬ (D : Int) < (A k l).c.length := by omega
    simp [c_v_Light_l1, stL1, e2, hl, p1', p2', h1_eq, h2_eq, w2]
    intro j hj
    by_cases ej : j = l
    ·subst ej; exact ⟨p1, p2⟩
    ·exact hI2 j (by omega)
   ·simp [c_v_Light_l1, stL1, c_v_Light_k2, w, stL3]
    intro i hi
    by_cases ei : i = k
    ·subst ei; exact ⟨⟨q0, q1, q2⟩, hI2⟩
    ·exact hI i (by omega)
  ·rw [lightE_true ⟨g1, g2, hI0, hI⟩]
   simp [c_v_Light_l3, stL3, c_v_Light_k4, r_v_Light]
end
end Go.Proofs.Ytdeifcfjkmfocaa

namespace Go.Proofs.Ytdeifcfjkmfocaa
open Go Go.Am Go.Dig Go.LP
noncomputable def stSaA (s t : Bool) (a c a' c' : List Nat) (k : Nat) : St :=
 {env := [(2, .ptr 2 0), (3, .ptr 3 0), (5, iv k)], sto := [(2, .var [bv s, nl .plain a, nl .plain c]), (3, .var [bv t, nl .plain a', nl .plain c'])] }
noncomputable def stSaB (s t : Bool) (a c a' c' : List Nat) (k : Nat) : St :=
 {env := [(2, .ptr 2 0), (3, .ptr 3 0), (6, iv k)], sto := [(2, .var [bv s, nl .plain a, nl .plain c]), (3, .var [bv t, nl .plain a', nl .plain c'])] }
theorem list_eq_of {a b : List Nat} (hl : a.length = b.length) (h : ∀ j, j < a.length → a[j]? = b[j]?) : a = b := by
 apply List.ext_getElem?
 intro j
 by_cases hj : j < a.length
 ·exact h j hj
 ·rw [List.getElem?_eq_none (by omega), List.getElem?_eq_none (by omega)]
theorem same_raw {s t : Bool} {a c a' c' : List Nat} (hn : a.length < 4611686018427387904) (hm : c.length < 4611686018427387904) :
  SoundCall Try.prog F_p_Same [.agg [bv s, nl .plain a, nl .plain c], .agg [bv t, nl .plain a', nl .plain c']] (bv (decide (s = t ∧ a = a' ∧ c = c'))) := by
 refine sound' t_p_Same (by simp) ?_
 by_cases e1 : s = t
 rotate_left
 ·have e1' : (s == t) = false := by simp [e1]
  rw [decide_eq_false fun h => e1 h.1]
  simp [c_p_Same, eBin_neq_bool ub_bool, e1', r_p_Same]
 subst e1
 by_cases e2 : a.length = a'.length
 rotate_left
 ·have e2' : ¬ (a.length : Int) = a'.length := by omega
  rw [decide_eq_false fun h => e2 (by rw [h.2.1])]
  simp [c_p_Same, eBin_neq_bool ub_bool, e2', r_p_Same]
 have e2' : (a.length : Int) = a'.length := by omega
 by_cases e3 : c.length = c'.length
 rotate_left
 ·have e3' : ¬ (c.length : Int) = c'.length := by omega
  rw [decide_eq_false fun h => e3 (by rw [h.2.2])]
  simp [c_p_Same, eBin_neq_bool ub_bool, e2, e3', r_p_Same]
 have e3' : (c.length : Int) = c'.length := by omega
 simp [c_p_Same, eBin_neq_bool ub_bool, e2, e3]
 refine awp_forW (stSaA s s a c a' c') (fun k => ∀ j, j < k → a[j]? = a'[j]?) a.length (by simp [stSaA]) (fun j hj => by omega) (fun k hk hI => ?_) (fun hI0 => ?_)
 ·have e : (k : Int) < a.length := by omega
  have w := wrap_succ (k := k) (by omega)
  have hk' : k < a'.length := by omega
  have e' : (k : Int) < a'.length := by omega
  by_cases h : a[k] = a'[k]
  ·have h' : (a[k] : Int) = a'[k] := by rw [h]
   simp [c_p_Same_l0, stSaA, e, hk, hk', e', h, w]
   intro j hj
   by_cases ej : j = k
   ·subst ej; simp [hk, hk', h]
   ·exact hI j (by omega)
  ·have h' : ¬ (a[k] : Int) = a'[k] := by omega
   rw [decide_eq_false (p := a = a') fun h2 => h (by simp only [h2])]
   simp [c_p_Same_l0, stSaA, e, hk, hk', e', h', r_p_Same]
 ·have hae := list_eq_of e2 hI0
  subst hae
  simp [c_p_Same_l0, stSaA, c_p_Same_k3]
  refine awp_forW (stSaB s s a c a c') (fun k => ∀ j, j < k → c[j]? = c'[j]?) c.length (by simp [stSaB]) (fun j hj => by omega) (fun k hk hI => ?_) (fun hI1 => ?_)
  ·have e : (k : Int) < c.length := by omega
   have w := wrap_succ (k := k) (by omega)
   have hk' : k < c'.length := by omega
   have e' : (k : Int) < c'.length := by omega
   by_cases h : c[k] = c'[k]
   ·have h' : (c[k] : Int) = c'[k] := by rw [h]
    simp [c_p_Same_l1, stSaB, e, hk, hk', e', h, w]
    intro j hj
    by_cases ej : j = k
    ·subst ej; simp [hk, hk', h]
    ·exact hI j (by omega)
   ·have h' : ¬ (c[k] : Int) = c'[k] := by omega
    rw [decide_eq_false (p := c = c') fun h2 => h (by simp only [h2])]
    simp [c_p_Same_l1, stSaB, e, hk, hk', e', h', r_p_Same]
  ·have hce := list_eq_of e3 hI1
   subst hce
   simp [c_p_Same_l1, stSaB, c_p_Same_k2, r_p_Same]
theorem rat_parts {p q : Rat} : (decide (p.num < 0) = decide (q.num < 0) ∧ digs p.num.natAbs = digs q.num.natAbs ∧ digs p.den = digs q.den) ↔ p = q := by
 constructor
 ·rintro ⟨h1, h2, h3⟩
  have h2 := digs_inj h2
  have h3 := digs_inj h3
  have h1 := decide_eq_decide.1 h1
  exact Rat.ext (by omega) h3
 ·rintro rfl; exact ⟨rfl, rfl, rfl⟩
theorem same_q {K : Nat} {p q : Rat} (hK : K ≤ 137438953472) (hp : sz K p) : SoundCall Try.prog F_p_Same [fq p, fq q] (bv (decide (p = q))) := by
 obtain ⟨l1, l2⟩ := sz_len hp
 have h := same_raw (s := decide (p.num < 0)) (t := decide (q.num < 0)) (a := digs p.num.natAbs) (c := digs p.den) (a' := digs q.num.natAbs) (c' := digs q.den) (by omega) (by omega)
 unfold fq
 rw [fr_eq, fr_eq]
 rw [show decide (p = q) = decide (decide (p.num < 0) = decide (q.num < 0) ∧ digs p.num.natAbs = digs q.num.natAbs ∧ digs p.den = digs q.den) from decide_eq_decide.2 rat_parts.symm]
 exact h
end Go.Proofs.Ytdeifcfjkmfocaa
namespace Go.Proofs.Ytdeifcfjkmfocaa
open Go Go.Am Go.Dig Go.LP
theorem fine_of {K : Nat} {q : Rat} (hK : K ≤ 137438953472) (h : sz K q) : (RF.of q).fine := by
 obtain ⟨l1, l2⟩ := sz_len h
 exact ⟨ok_digs _, ok_digs _, by simp only [RF.of]; omega, by simp only [RF.of]; omega⟩
@[simp] theorem fr_0 {q : Rat} : (fr q)[0]? = some (f0 q) := rfl
@[simp] theorem fr_0E {q : Rat} {h : 0 < (fr q).length} : (fr q)[0] = f0 q := rfl
end Go.Proofs.Ytdeifcfjkmfocaa

namespace Go.Proofs.Ytdeifcfjkmfocaa
open Go Go.Am Go.Dig Go.LP
@[simp] theorem goLoad_sol {q : Rat} {a x y z : AV} : goLoad [a, f0 q, f1 q, f2 q, x, y, z] 1 (some 3) = some (fq q) := by simp [goLoad]
@[simp] theorem goLoad_sol0 {a x y z : AV} : goLoad [a, bv false, nilA, nilA, x, y, z] 1 (some 3) = some (.agg [bv false, nilA, nilA]) := by simp [goLoad]
end Go.Proofs.Ytdeifcfjkmfocaa

namespace Go.Proofs.Ytdeifcfjkmfocaa
open Go Go.Am Go.Dig Go.LP
theorem rA_pA {G : Nat → RF} {n : Nat} {A' : Nat → Nat → RF} {cl : Nat → Nat} {b : Nat → RF} {m : Nat} {A : Nat → Nat → Rat} {bb gg : Nat → Rat} (hG : ∀ j, j < n → G j = RF.of (gg j)) (hc : ∀ i, i < m → cl i = n) (hA : ∀ i j, i < m → j < n → A' i j = RF.of (A i j)) (hb : ∀ i, i < m → b i = RF.of (bb i)) :
  rA G n A' cl b m = pA A bb gg n m := by
 unfold rA pA
 rw [hL, hR_of hG]
 have : qR A' cl b m = pR A bb n m := mR_congr fun i hi => by rw [hc i hi, hL, hR_of fun j hj => hA i j hi hj, hb i hi, h0_of, h1_of, h2_of]
 rw [this]
theorem of_v (q : Rat) : (RF.of q).v = true := vfr_frac q
theorem check_pA {n m K : Nat} {A : Nat → Nat → Rat} {bb gg : Nat → Rat} (hn : n ≤ 160) (hm : m ≤ 40) (hK : K ≤ 137438953472) (ha : ∀ i j, i < m → j < n → sz K (A i j)) (hb : ∀ i, i < m → sz K (bb i)) (hg : ∀ j, j < n → sz K (gg j)) :
  SoundCall Try.prog F_s_Check [pA A bb gg n m] (iv 0) := by
 have h := check_sx (G := fun j => RF.of (gg j)) (n := n) (A := fun i j => RF.of (A i j)) (cl := fun _ => n) (b := fun i => RF.of (bb i)) (m := m) (by omega) (by omega) (fun _ _ => by omega) (fun j hj => fine_of hK (hg j hj)) (fun i j hi hj => fine_of hK (ha i j hi hj)) (fun i hi => fine_of hK (hb i hi))
 rw [rA_pA (A := A) (bb := bb) (gg := gg) (fun _ _ => rfl) (fun _ _ => rfl) (fun _ _ _ _ => rfl) (fun _ _ => rfl), chkE_good (by omega) ⟨fun _ _ => of_v _, fun _ _ => ⟨rfl, of_v _, fun _ _ => of_v _⟩⟩] at h
 exact h
def imps (xs ys : List AV) : Prop := xs.length = ys.length ∧ ∀ (i : Nat) x y, xs[i]? = some x → ys[i]? = some y → AV.imp x y
theorem imps_nil : imps [] [] := ⟨rfl, fun i x y h => by simp at h⟩
theorem imps_cons {x y : AV} {xs ys : List AV} (h : AV.imp x y) (hs : imps xs ys) : imps (x :: xs) (y :: ys) :=
 ⟨by simp [hs.1], fun i a b ha hb => by
  cases i with
  | zero => simp only [List.getElem?_cons_zero, Option.some.injEq] at ha hb; subst ha hb; exact h
  | succ i => simp only [List.getElem?_cons_succ] at ha hb; exact hs.2 i a b ha hb⟩
theorem imps_refl {xs : List AV} : imps xs xs := ⟨rfl, fun i x y h h' => by rw [h] at h'; cases h'; exact AV.imp.refl⟩
theorem getE_of {α : Type} {l : List α} {i : Nat} (h : i < l.length) : l[i]? = some l[i] := by simp [h]
theorem imp_agg {xs ys : List AV} (h : imps xs ys) : AV.imp (.agg xs) (.agg ys) := fun I w v hv => by
 cases hv with
 | agg _ vs hs h1 hc =>
  refine .agg _ vs (by rw [hs, h.1]) h1 fun i c hi => ?_
  have : i < xs.length := by rw [h.1]; exact (List.getElem?_eq_some_iff.1 hi).1
  exact h.2 i _ c (getE_of this) hi _ _ _ (hc i _ (getE_of this))
def impr (xs ys : List (List AV)) : Prop := xs.length = ys.length ∧ ∀ (i : Nat) x y, xs[i]? = some x → ys[i]? = some y → imps x y
theorem impr_nil : impr [] [] := ⟨rfl, fun i x y h => by simp at h⟩
theorem impr_cons {x y : List AV} {xs ys : List (List AV)} (h : imps x y) (hs : impr xs ys) : impr (x :: xs) (y :: ys) :=
 ⟨by simp [hs.1], fun i a b ha hb => by
  cases i with
  | zero => simp only [List.getElem?_cons_zero, Option.some.injEq] at ha hb; subst ha hb; exact h
  | succ i => simp only [List.getElem?_cons_succ] at ha hb; exact hs.2 i a b ha hb⟩
theorem imp_rows {sz : Nat} {m : Am.Mode} {xs ys : List (List AV)} (hm : stm m = m) (h : impr xs ys) : AV.imp (.list sz m xs) (.list sz .plain ys) := fun I w v hv => by
 have hv := imp_plain hm I w v hv
 cases hv with
 | listNil _ _ a cap _ _ =>
  have : ys = [] := List.eq_nil_of_length_eq_zero (by rw [← h.1]; rfl)
  subst this
  exact .listNil _ _ _ _ (fun h => by cases h) (fun _ h => by cases h)
 | list _ _ _ b o cap g hcap hm' ho hrow hcell hc =>
  have get : ∀ (i : Nat) r, ys[i]? = some r → ∃ r0, xs[i]? = some r0 ∧ imps r0 r := fun i r hi => by
   have : i < xs.length := by rw [h.1]; exact (List.getElem?_eq_some_iff.1 hi).1
   exact ⟨xs[i], getE_of this, h.2 i _ r (getE_of this) hi⟩
  rw [h.1]
  refine .list _ _ _ b o cap g (by rw [← h.1]; exact hcap) (fun h => by cases h) (fun _ h => by cases h) (fun i r hi => ?_) (fun i r j c hi hj => ?_) fun i r j c hi hj => ?_
  ·obtain ⟨r0, h1, h2⟩ := get i r hi
   rw [← h2.1]; exact hrow i r0 h1
  ·obtain ⟨r0, h1, h2⟩ := get i r hi
   have hj0 : j < r0.length := by rw [h2.1]; exact (List.getElem?_eq_some_iff.1 hj).1
   exact hcell i r0 j _ h1 (getE_of hj0)
  ·obtain ⟨r0, h1, h2⟩ := get i r hi
   have hj0 : j < r0.length := by rw [h2.1]; exact (List.getElem?_eq_some_iff.1 hj).1
   exact h2.2 j _ c (getE_of hj0) hj _ _ _ (hc i r0 j _ h1 (getE_of hj0))
@[simp] theorem splice_row {q : Rat} {a b c d : AV} : splice [a, b, c, d] 1 (fr q) = a :: fr q := by unfold fr; simp [splice, -fr_fold]
theorem mem_fr {q : Rat} {x : AV} : x ∈ fr q ↔ (x = f0 q ∨ x = f1 q ∨ x = f2 q) := by simp [fr, -fr_fold]
theorem whole_s {n : Int} (h1 : -9223372036854775808 ≤ n) (h2 : n < 9223372036854775808) : SoundCall Try.prog F_law18_whole [iv n] (fq n) := by
 refine sound' t_law18_whole (by simp) ?_
 simp [c_law18_whole]
 refine eCall_i (fromInt_r h1 h2) (by simp) (by simp) ?_
 simp [r_law18_whole]
def exA (i j : Nat) : Rat := if i = 0 then (if j = 0 then 1 else 2) else if j = 0 then 3 else 1
def exB (i : Nat) : Rat := if i = 0 then 4 else 6
theorem example_s : SoundCall Try.prog F_law18_example [] (.agg [.list 3 .full [fr 1, fr 1], .list 4 .full [.list 3 .full [fr 1, fr 2] :: fr 4, .list 3 .full [fr 3, fr 1] :: fr 6]]) := by
 have k1 : SoundCall Try.prog F_law18_whole [iv 1] (fq 1) := whole_s (n := 1) (by decide) (by decide)
 have k2 : SoundCall Try.prog F_law18_whole [iv 2] (fq 2) := whole_s (n := 2) (by decide) (by decide)
 have k3 : SoundCall Try.prog F_law18_whole [iv 3] (fq 3) := whole_s (n := 3) (by decide) (by decide)
 have k4 : SoundCall Try.prog F_law18_whole [iv 4] (fq 4) := whole_s (n := 4) (by decide) (by decide)
 have k6 : SoundCall Try.prog F_law18_whole [iv 6] (fq 6) := whole_s (n := 6) (by decide) (by decide)
 refine sound' t_law18_example (by simp) ?_
 simp [c_law18_example]
 refine eCall_i k1 (by simp) (by simp) ?_
 simp
 refine eCall_i k1 (by simp) (by simp) ?_
 simp
 refine eCall_i k1 (by simp) (by simp) ?_
 simp
 refine eCall_i k2 (by simp) (by simp) ?_
 simp
 refine eCall_i k4 (by simp) (by simp) ?_
 simp
 refine eCall_i k3 (by simp) (by simp) ?_
 simp
 refine eCall_i k1 (by simp) (by simp) ?_
 simp
 refine eCall_i k6 (by simp) (by simp) ?_
 have hm : ∀ q : Rat, ∀ x, x ∈ fr q → rf x = true := fun q x hx => by rcases mem_fr.1 hx with rfl | rfl | rfl <;> simp
 simp [r_law18_example]
 trace_state
theorem sz_int {K : Nat} {n : Int} (h : n.natAbs ≤ 2 ^ K) : sz K (n : Rat) := ⟨by simpa using h, by simpa using Nat.one_le_two_pow⟩
theorem ex_a : ∀ i j, sz 3 (exA i j) := fun i j => by
 unfold exA
 split <;> split
 ·exact sz_int (n := 1) (by decide)
 ·exact sz_int (n := 2) (by decide)
 ·exact sz_int (n := 3) (by decide)
 ·exact sz_int (n := 1) (by decide)
theorem ex_b : ∀ i, sz 3 (exB i) := fun i => by
 unfold exB
 split
 ·exact sz_int (n := 4) (by decide)
 ·exact sz_int (n := 6) (by decide)
theorem s31 : sz 3 1 := sz_one
theorem sum2 {f : Nat → Rat} : sumR 2 f = f 0 + f 1 := by simp only [sumR]; grind
theorem sum1 {f : Nat → Rat} : sumR 1 f = f 0 := by simp only [sumR]; grind
theorem sum0 {f : Nat → Rat} : sumR 0 f = 0 := rfl
theorem ex_solve : ∃ x y, SoundCall Try.prog F_s_Solve [.agg [.list 3 .full [fr 1, fr 1], .list 4 .full [.list 3 .full [fr 1, fr 2] :: fr 4, .list 3 .full [fr 3, fr 1] :: fr 6]]] (.tuple [.agg [iv 1, f0 (14 / 5), f1 (14 / 5), f2 (14 / 5), fL x 2, fL y 2, nilA], iv 0]) := by
 have hck := check_pA (n := 2) (m := 2) (K := 3) (A := exA) (bb := exB) (gg := fun _ => 1) (by decide) (by decide) (by decide) (fun i j _ _ => ex_a i j) (fun i _ => ex_b i) (fun _ _ => s31)
 obtain ⟨r, hr, hs⟩ := solve_ex (n := 2) (m := 2) (S := 3) (A := exA) (bb := exB) (gg := fun _ => 1) (by decide) (by decide) (by decide) (fun i j _ _ => ex_a i j) (fun i _ => ex_b i) (fun _ _ => s31) hck
 have himp : AV.imp (.agg [.list 3 .full [fr 1, fr 1], .list 4 .full [.list 3 .full [fr 1, fr 2] :: fr 4, .list 3 .full [fr 3, fr 1] :: fr 6]]) (pA exA exB (fun _ => 1) 2 2) :=
  imp_agg (imps_cons imp_full (imps_cons (imp_rows rfl (impr_cons (imps_cons imp_full imps_refl) (impr_cons (imps_cons imp_full imps_refl) impr_nil))) imps_nil))
 have x0 : ∀ j, j < 2 → (0 : Rat) ≤ (if j = 0 then 8 / 5 else 6 / 5) := fun j _ => by split <;> grind
 have xr : ∀ i, i < 2 → sumR 2 (fun j => exA i j * (if j = 0 then 8 / 5 else 6 / 5)) ≤ exB i := fun i _ => by
  rw [sum2]; simp only [exA, exB]
  split <;> simp <;> grind
 have y0 : ∀ i, i < 2 → (0 : Rat) ≤ (if i = 0 then 2 / 5 else 1 / 5) := fun j _ => by split <;> grind
 have yc : ∀ j, j < 2 → (1 : Rat) ≤ sumR 2 (fun i => (if i = 0 then 2 / 5 else 1 / 5) * exA i j) := fun j _ => by
  rw [sum2]; simp only [exA]
  by_cases h : j = 0 <;> simp [h] <;> grind
 rcases hr with ⟨x, y, v, ⟨ho, _⟩, rfl⟩ | ⟨y, ⟨hi, _⟩, rfl⟩ | ⟨x, ray, ⟨hu, _⟩, rfl⟩
 ·have h1 := Go.LP.weak (n := 2) (m := 2) (A := exA) (bb := exB) (gg := fun _ => 1) x0 xr (fun i _ => ho.y0 i) ho.col
  have h2 := Go.LP.weak (n := 2) (m := 2) (A := exA) (bb := exB) (gg := fun _ => 1) (fun j _ => ho.x0 j) ho.row y0 yc
  rw [ho.vy, sum2] at h1
  rw [ho.vx, sum2] at h2
  simp only [exB] at h1 h2
  have hv : v = 14 / 5 := by simp at h1 h2; grind
  subst hv
  exact ⟨x, y, imp_arg1 hs himp⟩
 ·have h1 := Go.LP.weak (n := 2) (m := 2) (A := exA) (bb := exB) (gg := fun _ => 0) x0 xr (fun i _ => hi.y0 i) hi.col
  rw [sum2] at h1
  have := hi.vy
  exact absurd h1 (by grind)
 ·have h1 := Go.LP.weak (n := 2) (m := 2) (A := exA) (bb := fun _ => 0) (gg := fun _ => 1) (fun j _ => hu.r0 j) hu.rr y0 yc
  have := hu.up
  rw [sum2, sum2] at h1
  rw [sum2] at this
  exact absurd h1 (by grind)
theorem ex_solve2 : ∃ x ray, SoundCall Try.prog F_s_Solve [.agg [.list 3 .full [fr 1], nilA]] (.tuple [.agg [iv 3, bv false, nilA, nilA, fL x 1, nilA, fL ray 1], iv 0]) := by
 have hck := check_pA (n := 1) (m := 0) (K := 3) (A := fun _ _ => 1) (bb := fun _ => 1) (gg := fun _ => 1) (by decide) (by decide) (by decide) (fun i j _ _ => s31) (fun i _ => s31) (fun _ _ => s31)
 obtain ⟨r, hr, hs⟩ := solve_ex (n := 1) (m := 0) (S := 3) (A := fun _ _ => 1) (bb := fun _ => 1) (gg := fun _ => 1) (by decide) (by decide) (by decide) (fun i j _ _ => s31) (fun i _ => s31) (fun _ _ => s31) hck
 have himp : AV.imp (.agg [.list 3 .full [fr 1], nilA]) (pA (fun _ _ => 1) (fun _ => 1) (fun _ => 1) 1 0) :=
  imp_agg (imps_cons imp_full (imps_cons (AV.imp_nil rfl) imps_nil))
 rcases hr with ⟨x, y, v, ⟨ho, _⟩, rfl⟩ | ⟨y, ⟨hi, _⟩, rfl⟩ | ⟨x, ray, ⟨hu, _⟩, rfl⟩
 ·have := ho.col 0 (by omega)
  rw [sum0] at this
  exact absurd this (by grind)
 ·have := hi.vy
  rw [sum0] at this
  exact absurd this (by grind)
 ·exact ⟨x, ray, imp_arg1 hs himp⟩
theorem ex_solve3 : ∃ y, SoundCall Try.prog F_s_Solve [.agg [.list 3 .full [fr 1], .list 4 .full [.list 3 .full [fr 1] :: fr (-1)]]] (.tuple [.agg [iv 2, bv false, nilA, nilA, nilA, fL y 1, nilA], iv 0]) := by
 have sm : sz 3 (-1) := sz_neg sz_one
 have hck := check_pA (n := 1) (m := 1) (K := 3) (A := fun _ _ => 1) (bb := fun _ => -1) (gg := fun _ => 1) (by decide) (by decide) (by decide) (fun i j _ _ => s31) (fun i _ => sm) (fun _ _ => s31)
 obtain ⟨r, hr, hs⟩ := solve_ex (n := 1) (m := 1) (S := 3) (A := fun _ _ => 1) (bb := fun _ => -1) (gg := fun _ => 1) (by decide) (by decide) (by decide) (fun i j _ _ => s31) (fun i _ => sm) (fun _ _ => s31) hck
 have himp : AV.imp (.agg [.list 3 .full [fr 1], .list 4 .full [.list 3 .full [fr 1] :: fr (-1)]]) (pA (fun _ _ => 1) (fun _ => -1) (fun _ => 1) 1 1) :=
  imp_agg (imps_cons imp_full (imps_cons (imp_rows rfl (impr_cons (imps_cons imp_full imps_refl) impr_nil)) imps_nil))
 rcases hr with ⟨x, y, v, ⟨ho, _⟩, rfl⟩ | ⟨y, ⟨hi, _⟩, rfl⟩ | ⟨x, ray, ⟨hu, _⟩, rfl⟩
 ·have h1 := ho.row 0 (by omega)
  have h2 := ho.x0 0
  rw [sum1] at h1
  exact absurd h1 (by grind)
 ·exact ⟨y, imp_arg1 hs himp⟩
 ·have h1 := hu.row 0 (by omega)
  have h2 := hu.x0 0
  rw [sum1] at h1
  exact absurd h1 (by grind)
theorem same_145 : SoundCall Try.prog F_p_Same [fq (14 / 5), .agg [bv false, .list 1 .full [[uv 14]], .list 1 .full [[uv 5]]]] (bv true) := by
 have h := same_q (K := 4) (p := 14 / 5) (q := 14 / 5) (by decide) ⟨by decide +kernel, by decide +kernel⟩
 rw [decide_eq_true rfl] at h
 refine imp_arg2 h ?_
 unfold fq
 rw [fr_eq]
 have e1 : decide ((14 / 5 : Rat).num < 0) = false := by decide +kernel
 have e2 : digs (14 / 5 : Rat).num.natAbs = [14] := by decide +kernel
 have e3 : digs (14 / 5 : Rat).den = [5] := by decide +kernel
 unfold nD
 rw [e1, e2, e3]
 exact imp_agg (imps_cons AV.imp.refl (imps_cons imp_full (imps_cons imp_full imps_nil)))
theorem lives_s : SoundCall Try.prog F_law18_lives [] (bv true) := by
 obtain ⟨x, y, k1⟩ := ex_solve
 obtain ⟨x2, ray2, k2⟩ := ex_solve2
 obtain ⟨y3, k3⟩ := ex_solve3
 have w1 : SoundCall Try.prog F_law18_whole [iv 1] (fq 1) := whole_s (n := 1) (by decide) (by decide)
 have wm : SoundCall Try.prog F_law18_whole [iv (-1)] (fq (-1)) := whole_s (n := -1) (by decide) (by decide)
 have hm : ∀ q : Rat, ∀ x, x ∈ fr q → rf x = true := fun q x hx => by rcases mem_fr.1 hx with rfl | rfl | rfl <;> simp
 refine sound' t_law18_lives (by simp) ?_
 simp [c_law18_lives]
 refine eCall_i (xs := []) (args := []) example_s rfl (.inl rfl) ?_
 simp
 refine eCall_i k1 (by simp) (by simp) ?_
 simp
 refine eCall_i w1 (by simp) (by simp) ?_
 simp
 refine eCall_i k2 (by simp) (by simp) ?_
 simp
 refine eCall_i w1 (by simp) (by simp) ?_
 simp
 refine eCall_i w1 (by simp) (by simp) ?_
 simp
 refine eCall_i wm (by simp) (by simp) ?_
 simp
 refine eCall_i k3 (by simp) (by simp) ?_
 simp
 refine eCall_i same_145 (by simp) (by simp) ?_
 simp [r_law18_lives]
end Go.Proofs.Ytdeifcfjkmfocaa

namespace Go.Proofs.Ytdeifcfjkmfocaa
open Go Go.Am Go.Dig Go.LP
abbrev tyNat : Ty := .slice (.int .u32)
abbrev tyFrac : Ty := .st [.bool, tyNat, tyNat]
theorem nat_of {cs : List AV} (h : TyC tyNat cs) : ∃ a : List Nat, cs = [nl .plain a] ∧ ok a := by
 obtain ⟨rows, rfl, _, h⟩ := h
 obtain ⟨a, rfl, h2⟩ := rows_map (fun d : Nat => [uv d]) (fun d => d < B) (fun r hr => by
  obtain ⟨n, rfl, hn⟩ := hr
  have hn2 : 0 ≤ n ∧ n < 4294967296 := by
   have h := Bool.and_eq_true_iff.1 hn
   have h1 := of_decide_eq_true h.1
   have h2 := of_decide_eq_true h.2
   have e1 : IntKind.min .u32 = 0 := by decide
   have e2 : IntKind.max .u32 = 4294967295 := by decide
   omega
  refine ⟨n.toNat, ?_, ?_⟩
  ·show _ = [AV.val (.int .u32 ((n.toNat : Nat) : Int))]
   rw [show ((n.toNat : Nat) : Int) = n by omega]
  ·show n.toNat < 4294967296
   omega) h
 exact ⟨a, rfl, h2⟩
theorem frac_of {r : List AV} (h : TyC tyFrac r) : ∃ x : RF, r = hr x ∧ (ok x.a ∧ ok x.c) := by
 obtain ⟨a1, b1, rfl, ⟨s, rfl⟩, a2, b2, rfl, h2, a3, b3, rfl, h3, rfl⟩ := h
 obtain ⟨a, rfl, ha⟩ := nat_of h2
 obtain ⟨c, rfl, hc⟩ := nat_of h3
 exact ⟨⟨s, a, c⟩, by rw [hr_eq]; rfl, ha, hc⟩
theorem mR_list {α : Type} (d : α) (g : α → List AV) (l : List α) : mR (fun j => g (l.getD j d)) l.length = l.map g := by
 apply List.ext_getElem?
 intro j
 by_cases h : j < l.length
 ·rw [mR_get h]; simp [h]
 ·rw [List.getElem?_eq_none (by simp; omega), List.getElem?_eq_none (by simp; omega)]
theorem fracs_of {cs : List AV} (h : TyC (.slice tyFrac) cs) : ∃ (f : Nat → RF) (n : Nat), cs = [hL f n] ∧ n < 2305843009213693952 ∧ ∀ j, j < n → ok (f j).a ∧ ok (f j).c := by
 obtain ⟨rows, rfl, hl, h⟩ := h
 obtain ⟨l, rfl, h2⟩ := rows_map hr (fun x => ok x.a ∧ ok x.c) (fun r hr => frac_of hr) h
 refine ⟨fun j => l.getD j ⟨false, [], []⟩, l.length, ?_, ?_, fun j hj => ?_⟩
 ·have := mR_list (⟨false, [], []⟩ : RF) hr l
  unfold hL hR
  rw [this]; rfl
 ·simp [reachBytes] at hl; omega
 ·have : l.getD j ⟨false, [], []⟩ = l[j] := by simp [hj]
  dsimp only
  rw [this]
  exact h2 _ (List.getElem_mem hj)
section
variable {G : Nat → RF} {n : Nat} {A : Nat → Nat → RF} {cl : Nat → Nat} {b : Nat → RF} {m : Nat}
theorem fine_small {x : RF} {D : Nat} (h : ok x.a ∧ ok x.c) (hs : smallF x D) (hD : D ≤ 1000) : x.fine := ⟨h.1, h.2, by have := hs.1; omega, by have := hs.2; omega⟩
end
section
variable {G : Nat → RF} {n : Nat} {A : Nat → Nat → RF} {cl : Nat → Nat} {b : Nat → RF} {m D : Nat}
theorem good_rat (hg : goodP G n A cl b m) : ∃ (A' : Nat → Nat → Rat) (bb gg : Nat → Rat), rA G n A cl b m = pA A' bb gg n m ∧ (∀ j, j < n → G j = RF.of (gg j)) ∧ (∀ i j, i < m → j < n → A i j = RF.of (A' i j)) ∧ ∀ i, i < m → b i = RF.of (bb i) := by
 have key : ∀ x : RF, x.v = true → ∃ q, x = RF.of q := fun x hx => by
  obtain ⟨q, h1, h2, h3⟩ := vfr_inv hx
  exact ⟨q, by cases x; simp only at h1 h2 h3; subst h1 h2 h3; rfl⟩
 have hc : ∀ x : RF, ∃ q, x.v = true → x = RF.of q := fun x => by
  by_cases h : x.v = true
  ·obtain ⟨q, hq⟩ := key x h; exact ⟨q, fun _ => hq⟩
  ·exact ⟨0, fun h2 => absurd h2 h⟩
 refine ⟨fun i j => Classical.choose (hc (A i j)), fun i => Classical.choose (hc (b i)), fun j => Classical.choose (hc (G j)), ?_, fun j hj => ?_, fun i j hi hj => ?_, fun i hi => ?_⟩
 ·exact rA_pA (fun j hj => Classical.choose_spec (hc (G j)) (hg.1 j hj)) (fun i hi => (hg.2 i hi).1) (fun i j hi hj => Classical.choose_spec (hc (A i j)) ((hg.2 i hi).2.2 j hj)) (fun i hi => Classical.choose_spec (hc (b i)) (hg.2 i hi).2.1)
 ·exact Classical.choose_spec (hc (G j)) (hg.1 j hj)
 ·exact Classical.choose_spec (hc (A i j)) ((hg.2 i hi).2.2 j hj)
 ·exact Classical.choose_spec (hc (b i)) (hg.2 i hi).2.1
theorem sz_small {x : RF} {q : Rat} (h : smallF x D) (e : x = RF.of q) : sz (32 * D) q := by
 subst e
 have e1 : 2 ^ (32 * D) = B ^ D := by rw [Nat.pow_mul, show (2 : Nat) ^ 32 = B from rfl]
 obtain ⟨h1, h2⟩ := h
 simp only [RF.of] at h1 h2
 exact ⟨Nat.le_of_lt (by rw [e1]; exact digs_len_le.1 h1), Nat.le_of_lt (by rw [e1]; exact digs_len_le.1 h2)⟩
end
end Go.Proofs.Ytdeifcfjkmfocaa

namespace Go.LP
section
variable {n m : Nat} {A : Nat → Nat → Rat} {bb gg : Nat → Rat}
theorem weakg {x y : Nat → Rat} (hx : ∀ j, j < n → 0 ≤ x j) (hr : ∀ i, i < m → sumR n (fun j => A i j * x j) ≤ bb i) (hy : ∀ i, i < m → 0 ≤ y i) (hc : ∀ j, j < n → 0 ≤ sumR m (fun i => y i * A i j)) : 0 ≤ sumR m (fun i => y i * bb i) := by
 have h := weak (A := A) (bb := bb) (gg := fun _ => 0) hx hr hy hc
 rw [sumR_zero (n := n) (f := fun j => 0 * x j) fun i _ => by grind] at h
 exact h
end
end Go.LP

namespace Go.Proofs.Ytdeifcfjkmfocaa
open Go Go.Am Go.Dig Go.LP
noncomputable def apc (tok sz : Nat) (rows : List (List AV)) : AV := if rows.length = 0 then nilA else .list sz (.own tok) rows
noncomputable def plc (sz : Nat) (rows : List (List AV)) : AV := if rows.length = 0 then nilA else .list sz .plain rows
section
variable {tok sz l k : Nat} {rows : List (List AV)}
theorem apc_nil (h : rows.length = 0) : apc tok sz rows = nilA := if_pos h
theorem apc_some (h : ¬ rows.length = 0) : apc tok sz rows = .list sz (.own tok) rows := if_neg h
@[simp] theorem apc_rf : rf (apc tok sz rows) = true := by unfold apc; split <;> rfl
@[simp] theorem apc_strip : strip (apc tok sz rows) = plc sz rows := by unfold apc plc; split <;> rfl
@[simp] theorem apc_refs : refsTo k (apc tok sz rows) = false := by unfold apc; split <;> rfl
@[simp] theorem plc_rf : rf (plc sz rows) = true := by unfold plc; split <;> rfl
@[simp] theorem plc_strip : strip (plc sz rows) = plc sz rows := by unfold plc; split <;> rfl
@[simp] theorem plc_dg : dg l (plc sz rows) = plc sz rows := by unfold plc; split <;> simp
@[simp] theorem plc_refs : refsTo k (plc sz rows) = false := by unfold plc; split <;> rfl
theorem plc_imp {rows' : List (List AV)} (h : impr rows rows') : AV.imp (plc sz rows) (.list sz .plain rows') := by
 unfold plc
 split
 ·rename_i h0
  have : rows' = [] := List.eq_nil_of_length_eq_zero (by rw [← h.1]; exact h0)
  subst this
  exact AV.imp_nil rfl
 ·exact imp_rows rfl h
end
theorem impr_mR {g h : Nat → List AV} {n : Nat} (e : ∀ i, i < n → imps (g i) (h i)) : impr (mR g n) (mR h n) := ⟨by simp, fun i x y hx hy => by
 have hi : i < n := by have := (List.getElem?_eq_some_iff.1 hx).1; simpa using this
 rw [mR_get hi] at hx hy
 cases hx; cases hy
 exact e i hi⟩
end Go.Proofs.Ytdeifcfjkmfocaa

namespace Go.Proofs.Ytdeifcfjkmfocaa
open Go Go.Am Go.Dig Go.LP
theorem frac_arg {x : AV} (h : AVTy tyFrac x) : ∃ F : RF, x = hq F ∧ ok F.a ∧ ok F.c := by
 obtain ⟨cs, rfl, h⟩ := h
 obtain ⟨F, rfl, h2⟩ := frac_of h
 exact ⟨F, rfl, h2⟩
@[simp] theorem fr_1 {q : Rat} : (fr q)[1]? = some (f1 q) := rfl
@[simp] theorem fr_2 {q : Rat} : (fr q)[2]? = some (f2 q) := rfl
@[simp] theorem fr_1E {q : Rat} {h : 1 < (fr q).length} : (fr q)[1] = f1 q := rfl
@[simp] theorem fr_2E {q : Rat} {h : 2 < (fr q).length} : (fr q)[2] = f2 q := rfl
end Go.Proofs.Ytdeifcfjkmfocaa

namespace Go.Proofs.Ytdeifcfjkmfocaa
open Go Go.Am Go.Dig Go.LP
theorem div_refq {K : Nat} {p q : Rat} (hK : K ≤ 137438953472) (hp : sz K p) (hq : sz K q) (h : q ≠ 0) : SoundCall Try.prog F_p_Div [frac p, frac q] (.tuple [frac (p / q), iv 0]) := by
 have h1 := sz_len hp
 have h2 := sz_len hq
 have hq0 : q.num.natAbs ≠ 0 := fun e => h (Rat.num_eq_zero.1 (by omega))
 rw [← div_rat p q h]
 have l1 := mul_len h1.1 h2.2
 have l2 := mul_len h1.2 h2.1
 have k1 := mul_ref (m1 := .plain) (m2 := .plain) (ok_digs p.num.natAbs) (ok_digs q.den) (by omega) rfl rfl
 have k2 := mul_ref (m1 := .plain) (m2 := .plain) (ok_digs p.den) (ok_digs q.num.natAbs) (by omega) rfl rfl
 simp only [val_digs] at k1 k2
 have k := make_ref (neg := !(decide (p.num < 0) == decide (q.num < 0))) (N := p.num.natAbs * q.den) (D := p.den * q.num.natAbs) (by omega) (by omega) (Nat.mul_ne_zero p.den_nz hq0)
 unfold frac
 generalize p.num.natAbs = a at *
 generalize q.num.natAbs = b at *
 generalize decide (p.num < 0) = s at *
 generalize decide (q.num < 0) = t at *
 obtain ⟨b0, p0, q0, hf⟩ := fracO_eq (!(s == t)) (a * q.den) (p.den * b)
 rw [hf] at k ⊢
 refine sound' t_p_Div (by simp) ?_
 simp [c_p_Div, eBin_neq_bool ub_bool]
 refine eCall_i k1 (by simp) (by simp) ?_
 simp
 refine eCall_i k2 (by simp) (by simp) ?_
 simp
 refine eCall_i k (by simp) (by simp) ?_
 simp [r_p_Div]
theorem div_r {K : Nat} {p q : Rat} (hK : K ≤ 137438953472) (hp : sz K p) (hq : sz K q) (h : q ≠ 0) : SoundCall Try.prog F_p_Div [fq p, fq q] (.tuple [fq (p / q), iv 0]) := by simp only [← frac_fq]; exact div_refq hK hp hq h
end Go.Proofs.Ytdeifcfjkmfocaa

namespace Go.LP
structure LS where
 low : Rat
 high : Rat
 lim : Bool
 emp : Bool
def LS.step (s : LS) (a b : Rat) : LS :=
 if a = 0 then ⟨s.low, s.high, s.lim, s.emp || decide (b < 0)⟩
 else if a < 0 then (if s.low < b / a then ⟨b / a, s.high, s.lim, s.emp⟩ else s)
 else if s.lim = false ∨ b / a < s.high then ⟨s.low, b / a, true, s.emp⟩ else s
def LS.run (a b : Nat → Rat) : Nat → LS
 | 0 => ⟨0, 0, false, false⟩
 | k + 1 => (LS.run a b k).step (a k) (b k)
theorem div_le_pos {a b x : Rat} (h : 0 < a) : a * x ≤ b ↔ x ≤ b / a := by
 have e : b = b / a * a := by grind
 constructor
 ·intro h1
  rcases lt_or_le (b / a) x with h2 | h2
  ·have := Rat.mul_pos (show 0 < x - b / a by grind) h
   grind
  ·exact h2
 ·intro h1
  have := Rat.mul_nonneg (show 0 ≤ b / a - x by grind) (show 0 ≤ a by grind)
  grind
theorem div_le_neg {a b x : Rat} (h : a < 0) : a * x ≤ b ↔ b / a ≤ x := by
 have e : b = b / a * a := by grind
 constructor
 ·intro h1
  rcases lt_or_le x (b / a) with h2 | h2
  ·have := Rat.mul_pos (show 0 < b / a - x by grind) (show 0 < -a by grind)
   grind
  ·exact h2
 ·intro h1
  have := Rat.mul_nonneg (show 0 ≤ x - b / a by grind) (show 0 ≤ -a by grind)
  grind
structure LI (a b : Nat → Rat) (k : Nat) (s : LS) : Prop where
 low0 : 0 ≤ s.low
 mem : ∀ x, 0 ≤ x → ((∀ i, i < k → a i * x ≤ b i) ↔ (s.emp = false ∧ s.low ≤ x ∧ (s.lim = true → x ≤ s.high)))
 lim : s.lim = true ↔ ∃ i, i < k ∧ 0 < a i
theorem run_inv (a b : Nat → Rat) : ∀ k, LI a b k (LS.run a b k)
 | 0 => ⟨by simp [LS.run], fun x hx => by simp [LS.run, hx], by simp [LS.run]⟩
 | k + 1 => by
  obtain ⟨h1, h2, h3⟩ := run_inv a b k
  have hall : ∀ x, (∀ i, i < k + 1 → a i * x ≤ b i) ↔ ((∀ i, i < k → a i * x ≤ b i) ∧ a k * x ≤ b k) := fun x =>
   ⟨fun h => ⟨fun i hi => h i (by omega), h k (by omega)⟩, fun h i hi => by
    by_cases e : i = k
    ·subst e; exact h.2
    ·exact h.1 i (by omega)⟩
  have hlim : (∃ i, i < k + 1 ∧ 0 < a i) ↔ ((∃ i, i < k ∧ 0 < a i) ∨ 0 < a k) :=
   ⟨fun ⟨i, hi, h⟩ => by
    by_cases e : i = k
    ·subst e; exact .inr h
    ·exact .inl ⟨i, by omega, h⟩, fun h => h.elim (fun ⟨i, hi, h⟩ => ⟨i, by omega, h⟩) fun h => ⟨k, by omega, h⟩⟩
  simp only [LS.run]
  generalize LS.run a b k = s at *
  unfold LS.step
  by_cases z : a k = 0
  ·rw [if_pos z]
   refine ⟨h1, fun x hx => ?_, ?_⟩
   ·rw [hall, h2 x hx, z]
    have : (0 : Rat) * x ≤ b k ↔ ¬ b k < 0 := by constructor <;> intro h <;> grind
    rw [this]
    simp only [Bool.or_eq_false_iff, decide_eq_false_iff_not]
    grind
   ·rw [hlim, ← h3, z]
    simp
  ·rw [if_neg z]
   by_cases n : a k < 0
   ·rw [if_pos n]
    have hlim2 : s.lim = true ↔ ∃ i, i < k + 1 ∧ 0 < a i := by
     rw [hlim, ← h3]
     exact ⟨.inl, fun h => h.resolve_right (by grind)⟩
    by_cases l : s.low < b k / a k
    ·rw [if_pos l]
     refine ⟨by grind, fun x hx => ?_, hlim2⟩
     rw [hall, h2 x hx, div_le_neg n]
     constructor
     ·rintro ⟨⟨e1, e2, e3⟩, e4⟩; exact ⟨e1, e4, e3⟩
     ·rintro ⟨e1, e2, e3⟩; exact ⟨⟨e1, by grind, e3⟩, e2⟩
    ·rw [if_neg l]
     refine ⟨h1, fun x hx => ?_, hlim2⟩
     rw [hall, h2 x hx, div_le_neg n]
     constructor
     ·rintro ⟨h, _⟩; exact h
     ·rintro ⟨e1, e2, e3⟩; exact ⟨⟨e1, e2, e3⟩, by grind⟩
   ·rw [if_neg n]
    have p : 0 < a k := by grind
    have hlim2 : ∃ i, i < k + 1 ∧ 0 < a i := ⟨k, by omega, p⟩
    by_cases l : s.lim = false ∨ b k / a k < s.high
    ·rw [if_pos l]
     refine ⟨h1, fun x hx => ?_, by simp [hlim2]⟩
     rw [hall, h2 x hx, div_le_pos p]
     constructor
     ·rintro ⟨⟨e1, e2, e3⟩, e4⟩; exact ⟨e1, e2, fun _ => e4⟩
     ·rintro ⟨e1, e2, e3⟩
      have e3 := e3 rfl
      refine ⟨⟨e1, e2, fun h => ?_⟩, e3⟩
      rcases l with l | l
      ·rw [l] at h; cases h
      ·grind
    ·rw [if_neg l]
     have l1 : s.lim = true := by cases h : s.lim with | true => rfl | false => exact absurd (.inl h) l
     have l2 : s.high ≤ b k / a k := by
      rcases lt_or_le (b k / a k) s.high with h | h
      ·exact absurd (.inr h) l
      ·exact h
     refine ⟨h1, fun x hx => ?_, by simp [l1, hlim2]⟩
     rw [hall, h2 x hx, div_le_pos p]
     constructor
     ·rintro ⟨h, _⟩; exact h
     ·rintro ⟨e1, e2, e3⟩; exact ⟨⟨e1, e2, e3⟩, by have := e3 l1; grind⟩
theorem s1 {f : Nat → Rat} : sumR 1 f = f 0 := by simp only [sumR]; grind
section
variable {m : Nat} {a b : Nat → Rat} {g : Rat} {s : LS} (hs : LI a b m s)
include hs
def LS.bad (s : LS) : Bool := s.emp || (s.lim && decide (s.high < s.low))
theorem ln_mem {x : Rat} (hx : 0 ≤ x) (hr : ∀ i, i < m → sumR 1 (fun _ => a i * x) ≤ b i) : s.emp = false ∧ s.low ≤ x ∧ (s.lim = true → x ≤ s.high) := (hs.mem x hx).1 fun i hi => by have := hr i hi; rwa [s1] at this
theorem ln_bad (hb : s.bad = true) {x : Rat} (hx : 0 ≤ x) (hr : ∀ i, i < m → sumR 1 (fun _ => a i * x) ≤ b i) : False := by
 obtain ⟨h1, h2, h3⟩ := ln_mem hs hx hr
 unfold LS.bad at hb
 rw [h1, Bool.false_or, Bool.and_eq_true] at hb
 have := of_decide_eq_true hb.2
 have := h3 hb.1
 grind
theorem ln_low (hb : s.bad = false) : ∀ i, i < m → sumR 1 (fun _ => a i * s.low) ≤ b i := by
 unfold LS.bad at hb
 rw [Bool.or_eq_false_iff] at hb
 have h := (hs.mem s.low hs.low0).2 ⟨hb.1, by grind, fun h => by
  have h2 := hb.2
  rw [h, Bool.true_and] at h2
  have := of_decide_eq_false h2
  grind⟩
 exact fun i hi => by rw [s1]; exact h i hi
theorem ln_inf (hb : s.bad = false) {z : Nat → Rat} (hi : Inf 1 m (fun i _ => a i) b z) : False := by
 have h := weakg (n := 1) (m := m) (A := fun i _ => a i) (bb := b) (x := fun _ => s.low) (fun _ _ => hs.low0) (ln_low hs hb) (fun i _ => hi.y0 i) hi.col
 have := hi.vy
 grind
theorem ln_free (hb : s.bad = false) (hl : s.lim = false) {x : Rat} (hx : s.low ≤ x) : ∀ i, i < m → sumR 1 (fun _ => a i * x) ≤ b i := by
 unfold LS.bad at hb
 rw [Bool.or_eq_false_iff] at hb
 have h := (hs.mem x (by have := hs.low0; grind)).2 ⟨hb.1, hx, fun h => by rw [hl] at h; cases h⟩
 exact fun i hi => by rw [s1]; exact h i hi
theorem ln_opt_free (hb : s.bad = false) (hl : s.lim = false) (hg : 0 < g) {x y : Nat → Rat} {v : Rat} (ho : Opt 1 m (fun i _ => a i) b (fun _ => g) x y v) : False := by
 have key : ∀ t, s.low ≤ t → g * t ≤ v := fun t ht => by
  have h := weak (n := 1) (m := m) (A := fun i _ => a i) (bb := b) (gg := fun _ => g) (x := fun _ => t) (fun _ _ => by have := hs.low0; grind) (ln_free hs hb hl ht) (fun i _ => ho.y0 i) ho.col
  rw [ho.vy, s1] at h
  exact h
 have h0 := key s.low (by grind)
 have h1 : 0 < 1 / g := inv_pos' hg
 have h2 := key (s.low + 1 / g + (v - g * s.low) * (1 / g)) (by
  have := Rat.mul_nonneg (show 0 ≤ v - g * s.low by grind) (show 0 ≤ 1 / g by grind)
  grind)
 have e : g * (s.low + 1 / g + (v - g * s.low) * (1 / g)) = v + 1 := by grind
 rw [e] at h2
 grind
theorem ln_unb (hc : ¬ (0 < g ∧ s.lim = false)) {x r : Nat → Rat} (hu : Unb 1 m (fun i _ => a i) b (fun _ => g) x r) : False := by
 have h0 := hu.r0 0
 have h1 := hu.up
 rw [s1] at h1
 have hr : 0 < r 0 := by
  rcases lt_or_le 0 (r 0) with h | h
  ·exact h
  ·have : r 0 = 0 := by grind
   rw [this] at h1; grind
 have hg : 0 < g := by
  rcases lt_or_le 0 g with h | h
  ·exact h
  ·have := Rat.mul_nonneg (show 0 ≤ -g by grind) (show 0 ≤ r 0 by grind)
   grind
 have hl : s.lim = true := by
  cases h : s.lim with
  | true => rfl
  | false => exact absurd ⟨hg, h⟩ hc
 obtain ⟨i, hi, ha⟩ := hs.lim.1 hl
 have h2 := hu.rr i hi
 rw [s1] at h2
 have := Rat.mul_pos ha hr
 grind
def LS.best (s : LS) (g : Rat) : Rat := if 0 < g then s.high else s.low
theorem ln_val (hb : s.bad = false) (hc : ¬ (0 < g ∧ s.lim = false)) {x y : Nat → Rat} {v : Rat} (ho : Opt 1 m (fun i _ => a i) b (fun _ => g) x y v) : v = g * s.best g := by
 obtain ⟨h1, h2, h3⟩ := ln_mem hs (ho.x0 0) (fun i hi => by have := ho.row i hi; rw [s1] at this ⊢; exact this)
 have hv := ho.vx
 rw [s1] at hv
 unfold LS.bad at hb
 rw [Bool.or_eq_false_iff] at hb
 have feas : ∀ t, s.low ≤ t → (s.lim = true → t ≤ s.high) → g * t ≤ v := fun t e1 e2 => by
  have hm := (hs.mem t (by have := hs.low0; grind)).2 ⟨hb.1, e1, e2⟩
  have h := weak (n := 1) (m := m) (A := fun i _ => a i) (bb := b) (gg := fun _ => g) (x := fun _ => t) (fun _ _ => by have := hs.low0; grind) (fun i hi => by rw [s1]; exact hm i hi) (fun i _ => ho.y0 i) ho.col
  rw [ho.vy, s1] at h
  exact h
 unfold LS.best
 by_cases hg : 0 < g
 ·rw [if_pos hg]
  have hl : s.lim = true := by
   cases h : s.lim with
   | true => rfl
   | false => exact absurd ⟨hg, h⟩ hc
  have e3 := h3 hl
  have e4 := feas s.high (by grind) (fun _ => by grind)
  have := Rat.mul_nonneg (show 0 ≤ g by grind) (show 0 ≤ s.high - x 0 by grind)
  grind
 ·rw [if_neg hg]
  have e4 := feas s.low (by grind) (fun h => by have := h3 h; grind)
  have := Rat.mul_nonneg (show 0 ≤ -g by grind) (show 0 ≤ x 0 - s.low by grind)
  grind
end
end Go.LP

namespace Go.Proofs.Ytdeifcfjkmfocaa
open Go Go.Am Go.Dig Go.LP
@[simp] theorem splice_hrow {x : RF} {a b c d : AV} : splice [a, b, c, d] 1 (hr x) = a :: hr x := by unfold hr; simp [splice, -hr_fold]
noncomputable def lrow (C Bd : Nat → RF) (i : Nat) : List AV := .list 3 .full [hr (C i)] :: hr (Bd i)
noncomputable def lprog (g : RF) (C Bd : Nat → RF) (m : Nat) : AV := .agg [.list 3 .full [hr g], plc 4 (mR (lrow C Bd) m)]
theorem lprog_imp {g : RF} {C Bd : Nat → RF} {m : Nat} : AV.imp (lprog g C Bd m) (rA (fun _ => g) 1 (fun i _ => C i) (fun _ => 1) Bd m) :=
 imp_agg (imps_cons imp_full (imps_cons (plc_imp (impr_mR fun i _ => imps_cons imp_full imps_refl)) imps_nil))
theorem imp_arg13 {f : FuncId} {x x' y z r : AV} (h : SoundCall Try.prog f [x', y, z] r) (hy : AV.imp x x') : SoundCall Try.prog f [x, y, z] r := fun I vs w h1 h2 h3 =>
 h I vs w h1 h2 fun i a ha => by
  match i, ha with
  | 0, ha =>
   simp only [List.getElem?_cons_zero, Option.some.injEq] at ha
   subst ha
   exact hy _ _ _ (h3 0 x rfl)
  | i + 1, ha => exact h3 (i + 1) a ha
noncomputable def stLn0 (g : RF) (C Bd : Nat → RF) (n1 n2 k : Nat) : St :=
 {env := [(1, hL C n1), (2, hL Bd n2), (3, .ptr 3 0), (7, .ptr 7 0), (8, iv k)], sto := [(3, .var (hr g)), (7, .var [.list 3 .full [hr g], apc 58 4 (mR (lrow C Bd) k)])] }
@[simp] theorem lrow_len {C Bd : Nat → RF} {i : Nat} : (lrow C Bd i).length = 4 := by simp [lrow]
theorem lrow_rf {C Bd : Nat → RF} {i : Nat} : ∀ x, x ∈ lrow C Bd i → rf x = true := fun x hx => by
 have h : (lrow C Bd i).all rf = true := by simp [lrow, hr_eq]
 exact List.all_eq_true.1 h x hx
@[simp] theorem lrow_strip {C Bd : Nat → RF} {i : Nat} : (lrow C Bd i).map strip = lrow C Bd i := by simp [lrow]
@[simp] theorem lrow_dgR {C Bd : Nat → RF} {k l : Nat} : rowsDg l (mR (lrow C Bd) k) = mR (lrow C Bd) k := mR_map fun _ => by simp [lrow]
theorem line_l0 {g : RF} {C Bd : Nat → RF} {n1 n2 m : Nat} {K : Exit → St → Prop} (hm : m ≤ n1 ∧ m ≤ n2) (h12 : n1 ≤ 12 ∧ n2 ≤ 12) (hmn : m = n1 ∨ m = n2)
  (h : ∀ x, K (.exit 0) ⟨[(1, hL C n1), (2, hL Bd n2), (3, .ptr 3 0), (7, .ptr 7 0), (8, iv m), (42, bv x)], [(3, .var (hr g)), (7, .var [.list 3 .full [hr g], apc 58 4 (mR (lrow C Bd) m)])], [], 0⟩) :
  awp Try.prog (.loop c_w_Line_l0) (stLn0 g C Bd n1 n2 0) K := by
 refine awp_forW (stLn0 g C Bd n1 n2) (fun _ => True) m (by simp [stLn0]) trivial (fun k hk _ => ?_) (fun _ => ?_)
 ·have e1 : (k : Int) < n1 := by omega
  have e2 : (k : Int) < n2 := by omega
  have k1 : k < n1 := by omega
  have k2 : k < n2 := by omega
  have w := wrap_succ (k := k) (by omega)
  have hs1 : mR (lrow C Bd) k ++ [lrow C Bd k] = mR (lrow C Bd) (k + 1) := mR_succ.symm
  have hdr : AV.list 3 .full [hr (C k)] :: hr (Bd k) = lrow C Bd k := rfl
  have hrf : (∀ x, x ∈ lrow C Bd k → rf x = true) = True := eq_true lrow_rf
  have h1 : apc 58 4 (mR (lrow C Bd) (k + 1)) = .list 4 (.own 58) (mR (lrow C Bd) (k + 1)) := apc_some (by simp)
  by_cases k0 : k = 0
  ·have h0 : apc 58 4 (mR (lrow C Bd) k) = nilA := apc_nil (by simp [k0])
   have hs0 : [lrow C Bd k] = mR (lrow C Bd) (k + 1) := by rw [← hs1, k0]; rfl
   simp [c_w_Line_l0, stLn0, h0, e1, e2, k1, k2, hdr, hrf, hs0, h1, w]
   omega
  ·have h0 : apc 58 4 (mR (lrow C Bd) k) = .list 4 (.own 58) (mR (lrow C Bd) k) := apc_some (by simpa using k0)
   simp [c_w_Line_l0, stLn0, h0, e1, e2, k1, k2, hdr, hrf, hs1, h1, w]
   omega
 ·rcases hmn with rfl | rfl
  ·simp [c_w_Line_l0, stLn0]
   exact h _
  ·by_cases e : (m : Int) < n1
   ·simp [c_w_Line_l0, stLn0, e]
    exact h _
   ·simp [c_w_Line_l0, stLn0, e]
    exact h _
noncomputable def frow (a bb : Nat → Rat) (i : Nat) : List AV := .list 3 .full [fr (a i)] :: fr (bb i)
noncomputable def stLn1 (g : Rat) (a bb : Nat → Rat) (m k : Nat) : St :=
 {env := [(3, .ptr 3 0), (7, .ptr 7 0), (9, .ptr 9 0), (10, .ptr 10 0), (11, bv (LS.run a bb k).lim), (12, bv (LS.run a bb k).emp), (13, iv k)],
  sto := [(3, .var (fr g)), (7, .var [.list 3 .full [fr g], apc 58 4 (mR (frow a bb) m)]), (9, .var (fr (LS.run a bb k).low)), (10, .var (fr (LS.run a bb k).high))] }
theorem run_sz {a bb : Nat → Rat} {m : Nat} (ha : ∀ i, i < m → sz 64 (a i)) (hb : ∀ i, i < m → sz 64 (bb i)) : ∀ k, k ≤ m → sz 128 (LS.run a bb k).low ∧ sz 128 (LS.run a bb k).high
 | 0, _ => ⟨sz_zero, sz_zero⟩
 | k + 1, hk => by
  obtain ⟨h1, h2⟩ := run_sz ha hb k (by omega)
  have h3 : sz 128 (bb k / a k) := sz_div (hb k (by omega)) (ha k (by omega))
  simp only [LS.run, LS.step]
  split
  ·exact ⟨h1, h2⟩
  ·split
   ·split
    ·exact ⟨h3, h2⟩
    ·exact ⟨h1, h2⟩
   ·split
    ·exact ⟨h1, h3⟩
    ·exact ⟨h1, h2⟩
theorem step_z {s : LS} {a b : Rat} (h : a = 0) : s.step a b = ⟨s.low, s.high, s.lim, s.emp || decide (b < 0)⟩ := by unfold LS.step; rw [if_pos h]
theorem step_n1 {s : LS} {a b : Rat} (h : a < 0) (h2 : s.low < b / a) : s.step a b = ⟨b / a, s.high, s.lim, s.emp⟩ := by unfold LS.step; rw [if_neg (by grind), if_pos h, if_pos h2]
theorem step_n2 {s : LS} {a b : Rat} (h : a < 0) (h2 : ¬ s.low < b / a) : s.step a b = s := by unfold LS.step; rw [if_neg (by grind), if_pos h, if_neg h2]
theorem step_p1 {s : LS} {a b : Rat} (h : 0 < a) (h2 : s.lim = false ∨ b / a < s.high) : s.step a b = ⟨s.low, b / a, true, s.emp⟩ := by unfold LS.step; rw [if_neg (by grind), if_neg (by grind), if_pos h2]
theorem step_p2 {s : LS} {a b : Rat} (h : 0 < a) (h2 : ¬ (s.lim = false ∨ b / a < s.high)) : s.step a b = s := by unfold LS.step; rw [if_neg (by grind), if_neg (by grind), if_neg h2]
theorem neg_num {q : Rat} : decide (q.num < 0) = decide (q < 0) := by rw [decide_eq_decide]; exact num_neg_iff
noncomputable def stS (g : Rat) (a bb : Nat → Rat) (m k : Nat) (s : LS) : St :=
 {env := [(3, .ptr 3 0), (7, .ptr 7 0), (9, .ptr 9 0), (10, .ptr 10 0), (11, bv s.lim), (12, bv s.emp), (13, iv k)],
  sto := [(3, .var (fr g)), (7, .var [.list 3 .full [fr g], apc 58 4 (mR (frow a bb) m)]), (9, .var (fr s.low)), (10, .var (fr s.high))] }
theorem line_l1 {g : Rat} {a bb : Nat → Rat} {m : Nat} {K : Exit → St → Prop} (hm : m ≤ 12) (ha : ∀ i, i < m → sz 64 (a i)) (hb : ∀ i, i < m → sz 64 (bb i))
  (h : K (.exit 2) ⟨[(3, .ptr 3 0), (7, .ptr 7 0), (9, .ptr 9 0), (10, .ptr 10 0), (11, bv (LS.run a bb m).lim), (12, bv (LS.run a bb m).emp), (13, iv m), (75, bv false)], (stLn1 g a bb m m).sto, [], 0⟩) :
  awp Try.prog (.loop c_w_Line_l1) (stLn1 g a bb m 0) K := by
 refine awp_forW (stLn1 g a bb m) (fun _ => True) m (by simp [stLn1]) trivial (fun k hk _ => ?_) (fun _ => ?_)
 ·have e : (k : Int) < m := by omega
  have w := wrap_succ (k := k) (by omega)
  obtain ⟨z1, z2⟩ := run_sz ha hb k (by omega)
  have hap : apc 58 4 (mR (frow a bb) m) = .list 4 (.own 58) (mR (frow a bb) m) := apc_some (by simp; omega)
  have hget : (mR (frow a bb) m)[k]? = some (frow a bb k) := mR_get hk
  have st0 : stLn1 g a bb m k = stS g a bb m k (LS.run a bb k) := rfl
  have st1 : stLn1 g a bb m (k + 1) = stS g a bb m (k + 1) ((LS.run a bb k).step (a k) (bb k)) := rfl
  have ea : frow a bb k = [.list 3 .full [fr (a k)], f0 (bb k), f1 (bb k), f2 (bb k)] := rfl
  have sa := sign_r (q := a k)
  rw [st0]
  generalize LS.run a bb k = s at *
  by_cases h0 : a k = 0
  ·have h1 : sgnR (a k) = 0 := sgnR_zero.2 h0
   have hz := step_z (s := s) (b := bb k) h0
   simp [c_w_Line_l1, stS, e, hk, hap, ea]
   refine eCall_i sa (by simp) (by simp) ?_
   cases he : s.emp <;> simp [h1, he, f0_eq, neg_num, st1, hz, stS, w, hap]
  ·have hne : ¬ sgnR (a k) = 0 := fun h => h0 (sgnR_zero.1 h)
   have kd := div_r (by decide : 128 ≤ 137438953472) (sz_mono (hb k hk) (by decide)) (sz_mono (ha k hk) (by decide)) h0
   have sd : sz 128 (bb k / a k) := sz_div (hb k hk) (ha k hk)
   have kc1 := cmp_r (by decide : 128 ≤ 137438953472) sd z1
   have kc2 := cmp_r (by decide : 128 ≤ 137438953472) sd z2
   simp [c_w_Line_l1, stS, e, hk, hap, ea]
   refine eCall_i sa (by simp) (by simp) ?_
   simp [hne]
   refine eCall_i kd (by simp) (by simp) ?_
   simp
   refine eCall_i sa (by simp) (by simp) ?_
   by_cases hn : a k < 0
   ·have n1 : sgnR (a k) < 0 := sgnR_neg.2 hn
    have n2 : ¬ 0 < sgnR (a k) := by omega
    simp [n1]
    refine eCall_i kc1 (by simp) (by simp) ?_
    by_cases hc : s.low < bb k / a k
    ·have c1 : 0 < cmpR (bb k / a k) s.low := cmpR_gt.2 hc
     have hz := step_n1 hn hc
     simp [c1]
     refine eCall_i sa (by simp) (by simp) ?_
     simp [n2, w, st1, hz, stS, hap]
    ·have c1 : ¬ 0 < cmpR (bb k / a k) s.low := fun h => hc (cmpR_gt.1 h)
     have hz := step_n2 hn hc
     simp [c1]
     refine eCall_i sa (by simp) (by simp) ?_
     simp [n2, w, st1, hz, stS, hap]
   ·have hp : 0 < a k := by grind
    have n1 : ¬ sgnR (a k) < 0 := fun h => hn (sgnR_neg.1 h)
    have n2 : 0 < sgnR (a k) := sgnR_pos.2 hp
    simp [n1]
    refine eCall_i sa (by simp) (by simp) ?_
    cases hl : s.lim with
    | false =>
     have hz := step_p1 (b := bb k) hp (.inl hl)
     simp [n2, w, st1, hz, stS, hap]
    | true =>
     simp [n2]
     refine eCall_i kc2 (by simp) (by simp) ?_
     by_cases hc : bb k / a k < s.high
     ·have c1 : cmpR (bb k / a k) s.high < 0 := cmpR_lt.2 hc
      have hz := step_p1 (b := bb k) hp (.inr hc)
      simp [c1, w, st1, hz, stS, hap]
     ·have c1 : ¬ cmpR (bb k / a k) s.high < 0 := fun h => hc (cmpR_lt.1 h)
      have hz := step_p2 (s := s) (b := bb k) hp (by rw [hl]; simp [hc])
      simp [c1, w, st1, hz, stS, hap, hl]
 ·by_cases h0 : m = 0
  ·have hap : apc 58 4 (mR (frow a bb) m) = nilA := apc_nil (by simp [h0])
   simp only [stLn1, hap] at h ⊢
   simp [c_w_Line_l1, h0]
   simp [h0] at h
   exact h
  ·have hap : apc 58 4 (mR (frow a bb) m) = .list 4 (.own 58) (mR (frow a bb) m) := apc_some (by simpa using h0)
   simp only [stLn1, hap] at h ⊢
   simp [c_w_Line_l1]
   exact h
section
variable {g : Rat} {a bb : Nat → Rat} {m : Nat}
theorem row0 {x : Nat → Rat} (h : ∀ i, i < m → sumR 1 (fun j => a i * x j) ≤ bb i) : ∀ i, i < m → sumR 1 (fun _ => a i * x 0) ≤ bb i := fun i hi => by
 have := h i hi
 rw [s1] at this ⊢
 exact this
noncomputable def stLr (g : Rat) (a bb : Nat → Rat) (m : Nat) (s : LS) (bad : Bool) : St :=
 {env := [(3, .ptr 3 0), (7, .ptr 7 0), (9, .ptr 9 0), (10, .ptr 10 0), (11, bv s.lim), (12, bv bad)],
  sto := [(3, .var (fr g)), (7, .var [.list 3 .full [fr g], apc 58 4 (mR (frow a bb) m)]), (9, .var (fr s.low)), (10, .var (fr s.high))] }
theorem line_rest {s : LS} {r : AV} {L : Nat} (hs : LI a bb m s) (hL : L ≤ 137438953472) (z1 : sz 128 s.low) (z2 : sz 128 s.high) (zg : sz 64 g) (hr : SolR 1 m L (fun i _ => a i) bb (fun _ => g) r)
  (kS : SoundCall Try.prog F_s_Solve [.agg [.list 3 .full [fr g], plc 4 (mR (frow a bb) m)]] (.tuple [r, iv 0])) :
  awp Try.prog (sec c_w_Line_k2) (stLr g a bb m s s.bad) (retC r_w_Line (bv true)) := by
 have sg := sign_r (q := g)
 cases hb : s.bad with
 | true =>
  simp [sec, c_w_Line_k2, stLr]
  refine eCall_i kS (by simp) (by simp) ?_
  rcases hr with ⟨x, y, v, ⟨ho, _⟩, rfl⟩ | ⟨y, ⟨hi, _⟩, rfl⟩ | ⟨x, ray, ⟨hu, _⟩, rfl⟩
  ·exact absurd (ln_bad hs hb (ho.x0 0) (row0 ho.row)) id
  ·simp
   refine eCall_i (xs := []) (args := []) lives_s rfl (.inl rfl) ?_
   simp [r_w_Line]
  ·exact absurd (ln_bad hs hb (hu.x0 0) (row0 hu.row)) id
 | false =>
  simp [sec, c_w_Line_k2, stLr]
  refine eCall_i kS (by simp) (by simp) ?_
  by_cases hg : 0 < g
  ·have g1 : 0 < sgnR g := sgnR_pos.2 hg
   cases hl : s.lim with
   | false =>
    rcases hr with ⟨x, y, v, ⟨ho, _⟩, rfl⟩ | ⟨y, ⟨hi, _⟩, rfl⟩ | ⟨x, ray, ⟨hu, _⟩, rfl⟩
    ·exact absurd (ln_opt_free hs hb hl hg ho) id
    ·exact absurd (ln_inf hs hb hi) id
    ·simp
     refine eCall_i sg (by simp) (by simp) ?_
     simp [g1]
     refine eCall_i (xs := []) (args := []) lives_s rfl (.inl rfl) ?_
     simp [r_w_Line]
   | true =>
    have hc : ¬ (0 < g ∧ s.lim = false) := by rw [hl]; simp
    rcases hr with ⟨x, y, v, ⟨ho, _, _, hv⟩, rfl⟩ | ⟨y, ⟨hi, _⟩, rfl⟩ | ⟨x, ray, ⟨hu, _⟩, rfl⟩
    ·have hval := ln_val hs hb hc ho
     unfold LS.best at hval
     rw [if_pos hg] at hval
     have km := mul_r (by decide : 128 ≤ 137438953472) (sz_mono zg (by decide)) z2
     have ks := same_q (q := g * s.high) hL hv
     rw [decide_eq_true hval] at ks
     simp
     refine eCall_i sg (by simp) (by simp) ?_
     simp [g1]
     refine eCall_i sg (by simp) (by simp) ?_
     simp [g1]
     refine eCall_i km (by simp) (by simp) ?_
     simp
     refine eCall_i ks (by simp) (by simp) ?_
     simp
     refine eCall_i (xs := []) (args := []) lives_s rfl (.inl rfl) ?_
     simp [r_w_Line]
    ·exact absurd (ln_inf hs hb hi) id
    ·exact absurd (ln_unb hs hc hu) id
  ·have g1 : ¬ 0 < sgnR g := fun h => hg (sgnR_pos.1 h)
   have hc : ¬ (0 < g ∧ s.lim = false) := fun h => hg h.1
   rcases hr with ⟨x, y, v, ⟨ho, _, _, hv⟩, rfl⟩ | ⟨y, ⟨hi, _⟩, rfl⟩ | ⟨x, ray, ⟨hu, _⟩, rfl⟩
   ·have hval := ln_val hs hb hc ho
    unfold LS.best at hval
    rw [if_neg hg] at hval
    have km := mul_r (by decide : 128 ≤ 137438953472) (sz_mono zg (by decide)) z1
    have ks := same_q (q := g * s.low) hL hv
    rw [decide_eq_true hval] at ks
    simp
    refine eCall_i sg (by simp) (by simp) ?_
    simp [g1]
    refine eCall_i sg (by simp) (by simp) ?_
    simp [g1]
    refine eCall_i km (by simp) (by simp) ?_
    simp
    refine eCall_i ks (by simp) (by simp) ?_
    simp
    refine eCall_i (xs := []) (args := []) lives_s rfl (.inl rfl) ?_
    simp [r_w_Line]
   ·exact absurd (ln_inf hs hb hi) id
   ·exact absurd (ln_unb hs hc hu) id
end
section
variable {F : RF} {C Bd : Nat → RF} {n1 n2 m : Nat}
theorem line_head (hm : m ≤ n1 ∧ m ≤ n2) (h12 : n1 ≤ 12 ∧ n2 ≤ 12) (hmn : m = n1 ∨ m = n2)
  (h : ∀ x, awp Try.prog c_w_Line_k3 ⟨[(1, hL C n1), (2, hL Bd n2), (3, .ptr 3 0), (7, .ptr 7 0), (8, iv m), (42, bv x)], [(3, .var (hr F)), (7, .var [.list 3 .full [hr F], apc 58 4 (mR (lrow C Bd) m)])], [], 0⟩ (retC r_w_Line (bv true))) :
  SoundCall Try.prog F_w_Line [hq F, hL C n1, hL Bd n2] (bv true) := by
 have a1 : ¬ (12 : Int) < n1 := by omega
 have a2 : ¬ (12 : Int) < n2 := by omega
 refine sound' t_w_Line (by simp) ?_
 simp [c_w_Line, a1, a2]
 have rl : ∀ {K : Exit → St → Prop}, (∀ x, K (.exit 0) ⟨[(1, hL C n1), (2, hL Bd n2), (3, .ptr 3 0), (7, .ptr 7 0), (8, iv m), (42, bv x)], [(3, .var (hr F)), (7, .var [.list 3 .full [hr F], apc 58 4 (mR (lrow C Bd) m)])], [], 0⟩) →
   awp Try.prog (.loop c_w_Line_l0) ⟨[(1, hL C n1), (2, hL Bd n2), (3, .ptr 3 0), (7, .ptr 7 0), (8, iv 0)], [(3, .var (hr F)), (7, .var [.list 3 .full [hr F], nilA])], [], 0⟩ K := fun {K} h => line_l0 (g := F) hm h12 hmn h
 refine rl fun x => ?_
 simp
 exact h x
theorem law_line (hF : ok F.a ∧ ok F.c) (hC : ∀ j, j < n1 → ok (C j).a ∧ ok (C j).c) (hB : ∀ j, j < n2 → ok (Bd j).a ∧ ok (Bd j).c) :
  SoundCall Try.prog F_w_Line [hq F, hL C n1, hL Bd n2] (bv true) := by
 by_cases h1 : n1 ≤ 12
 rotate_left
 ·have h1' : (12 : Int) < n1 := by omega
  refine sound' t_w_Line (by simp) ?_
  simp [c_w_Line, h1']
  refine eCall_i (xs := []) (args := []) lives_s rfl (.inl rfl) ?_
  simp [r_w_Line]
 by_cases h2 : n2 ≤ 12
 rotate_left
 ·have h1' : ¬ (12 : Int) < n1 := by omega
  have h2' : (12 : Int) < n2 := by omega
  refine sound' t_w_Line (by simp) ?_
  simp [c_w_Line, h1', h2']
  refine eCall_i (xs := []) (args := []) lives_s rfl (.inl rfl) ?_
  simp [r_w_Line]
 obtain ⟨m, hm1, hm2, hmn⟩ : ∃ m, m ≤ n1 ∧ m ≤ n2 ∧ (m = n1 ∨ m = n2) := ⟨min n1 n2, by omega, by omega, by omega⟩
 refine line_head ⟨hm1, hm2⟩ ⟨h1, h2⟩ hmn fun x => ?_
 have kl := imp_arg13 (light_r18 (G := fun _ => F) (n := 1) (A := fun i _ => C i) (cl := fun _ => 1) (b := Bd) (m := m) (N := 12) (D := 2) (by decide) (by omega) (fun _ _ => by decide)) (lprog_imp (g := F))
 unfold lprog at kl
 by_cases hl : lightP (fun _ => F) 1 (fun i _ => C i) (fun _ => 1) Bd m 12 2
 rotate_left
 ·rw [lightE_false hl] at kl
  simp [c_w_Line_k3]
  refine eCall_i kl (by simp) (by simp) ?_
  simp
  refine eCall_i (xs := []) (args := []) lives_s rfl (.inl rfl) ?_
  simp [r_w_Line]
 rw [lightE_true hl] at kl
 have hl2 := hl.2.2.2
 have fG : ∀ j, j < 1 → F.fine := fun j hj => fine_small hF (hl.2.2.1 0 (by omega)) (by decide)
 have fA : ∀ i j, i < m → j < 1 → (C i).fine := fun i j hi hj => fine_small (hC i (by omega)) ((hl2 i hi).2 0 Nat.one_pos) (by decide)
 have fb : ∀ i, i < m → (Bd i).fine := fun i hi => fine_small (hB i (by omega)) (hl2 i hi).1.2 (by decide)
 have k1 := check_sx (G := fun _ => F) (n := 1) (A := fun i _ => C i) (cl := fun _ => 1) (b := Bd) (m := m) (by omega) (by omega) (fun i hi => by omega) fG fA fb
 have k2 := imp_arg1 (check_r18 (G := fun _ => F) (n := 1) (A := fun i _ => C i) (cl := fun _ => 1) (b := Bd) (m := m) fG fA fb) (lprog_imp (g := F))
 unfold lprog at k2
 by_cases he : chkE (fun _ => F) 1 (fun i _ => C i) (fun _ => 1) Bd m = 0
 rotate_left
 ·generalize chkE (fun _ => F) 1 (fun i _ => C i) (fun _ => 1) Bd m = e at *
  simp [c_w_Line_k3]
  refine eCall_i kl (by simp) (by simp) ?_
  simp
  refine eCall_i k2 (by simp) (by simp) ?_
  simp [he]
  refine eCall_i (xs := []) (args := []) lives_s rfl (.inl rfl) ?_
  simp [r_w_Line]
 obtain ⟨_, _, hg⟩ := chkE_zero he
 rw [he] at k1 k2
 obtain ⟨A', bb, gg, _, eG, eA, eb⟩ := good_rat hg
 obtain ⟨a, ha⟩ : ∃ a : Nat → Rat, ∀ i, a i = A' i 0 := ⟨fun i => A' i 0, fun _ => rfl⟩
 obtain ⟨g, hgg⟩ : ∃ g : Rat, g = gg 0 := ⟨_, rfl⟩
 have eF : F = RF.of g := by rw [hgg]; exact eG 0 (by omega)
 have eC : ∀ i, i < m → C i = RF.of (a i) := fun i hi => by rw [ha]; exact eA i 0 hi (by omega)
 have hp : rA (fun _ => F) 1 (fun i _ => C i) (fun _ => 1) Bd m = pA (fun i _ => a i) bb (fun _ => g) 1 m := rA_pA (fun _ _ => eF) (fun _ _ => rfl) (fun i j hi _ => eC i hi) eb
 have e1 : hr F = fr g := by rw [eF, hr_of]
 have e2 : mR (lrow C Bd) m = mR (frow a bb) m := mR_congr fun i hi => by unfold lrow frow; rw [eC i hi, eb i hi, hr_of, hr_of]
 have sG : sz 64 g := sz_small (hl.2.2.1 0 (by omega)) eF
 have sA : ∀ i, i < m → sz 64 (a i) := fun i hi => sz_small ((hl2 i hi).2 0 Nat.one_pos) (eC i hi)
 have sb : ∀ i, i < m → sz 64 (bb i) := fun i hi => sz_small (hl2 i hi).1.2 (eb i hi)
 rw [hp] at k1
 have hgr : grow 64 m ≤ 1100000000 := by
  have h1 := grow_mono (K := 64) (show m ≤ 12 by omega)
  have h2 : grow 64 12 ≤ 1100000000 := by decide
  omega
 have hL : grow 64 m + (m + 1) * (2 * grow 64 m + 1) ≤ 30000000000 := by
  have : (m + 1) * (2 * grow 64 m + 1) ≤ 13 * (2 * 1100000000 + 1) := Nat.mul_le_mul (by omega) (by omega)
  omega
 obtain ⟨r, hr, hs⟩ := solve_big (by omega) (by omega) hL (fun i j hi _ => sA i hi) sb (fun _ _ => sG) k1
 have kS := imp_arg1 hs (hp ▸ lprog_imp (g := F) (C := C) (Bd := Bd) (m := m))
 unfold lprog at kS
 rw [e1, e2] at kl k2 kS
 rw [e1, e2]
 have w0 : SoundCall Try.prog F_law18_whole [iv 0] (fq 0) := whole_s (n := 0) (by decide) (by decide)
 obtain ⟨z1, z2⟩ := run_sz sA sb m (Nat.le_refl m)
 have hI := run_inv a bb m
 have rest := line_rest hI (by omega : grow 64 m ≤ 137438953472) z1 z2 sG hr kS
 have kc := cmp_r (by decide : 128 ≤ 137438953472) z2 z1
 simp [c_w_Line_k3]
 refine eCall_i kl (by simp) (by simp) ?_
 simp
 refine eCall_i k2 (by simp) (by simp) ?_
 simp
 refine eCall_i w0 (by simp) (by simp) ?_
 simp
 refine eCall_i w0 (by simp) (by simp) ?_
 simp
 have rl : ∀ {K : Exit → St → Prop}, K (.exit 2) ⟨[(3, .ptr 3 0), (7, .ptr 7 0), (9, .ptr 9 0), (10, .ptr 10 0), (11, bv (LS.run a bb m).lim), (12, bv (LS.run a bb m).emp), (13, iv m), (75, bv false)], [(3, .var (fr g)), (7, .var [.list 3 .full [fr g], apc 58 4 (mR (frow a bb) m)]), (9, .var (fr (LS.run a bb m).low)), (10, .var (fr (LS.run a bb m).high))], [], 0⟩ →
   awp Try.prog (.loop c_w_Line_l1) ⟨[(3, .ptr 3 0), (7, .ptr 7 0), (9, .ptr 9 0), (10, .ptr 10 0), (11, bv false), (12, bv false), (13, iv 0)], [(3, .var (fr g)), (7, .var [.list 3 .full [fr g], apc 58 4 (mR (frow a bb) m)]), (9, .var (fr 0)), (10, .var (fr 0))], [], 0⟩ K := fun {K} h => line_l1 (by omega) sA sb h
 refine rl ?_
 generalize LS.run a bb m = s at *
 cases hE : s.emp with
 | true =>
  have hbad : s.bad = true := by unfold LS.bad; rw [hE]; rfl
  rw [hbad] at rest
  simp [sec, c_w_Line_k2, stLr] at rest
  simp [c_w_Line_k2]
  exact rest
 | false =>
  cases hl : s.lim with
  | false =>
   have hbad : s.bad = false := by unfold LS.bad; rw [hE, hl]; rfl
   rw [hbad] at rest
   simp [sec, c_w_Line_k2, stLr, hl] at rest
   simp [c_w_Line_k2]
   exact rest
  | true =>
   have hbad : s.bad = decide (cmpR s.high s.low < 0) := by unfold LS.bad; rw [hE, hl, Bool.false_or, Bool.true_and]; exact decide_eq_decide.2 cmpR_lt.symm
   rw [hbad] at rest
   simp [sec, c_w_Line_k2, stLr, hl] at rest
   simp [c_w_Line_k2]
   refine eCall_i kc (by simp) (by simp) ?_
   simp
   exact rest
end
theorem simplexLine_contract (xs : List AV) (h : TyAll [tyFrac, .slice tyFrac, .slice tyFrac] xs) : SoundCall Try.prog F_w_Line xs (bv true) := by
 obtain ⟨x, y, z, rfl, h1, h2, h3⟩ := TyAll_three h
 obtain ⟨F, rfl, hF⟩ := frac_arg h1
 obtain ⟨C, n1, e2, _, hC⟩ := fracs_of h2
 obtain ⟨Bd, n2, e3, _, hB⟩ := fracs_of h3
 cases e2
 cases e3
 exact law_line hF hC hB
end Go.Proofs.Ytdeifcfjkmfocaa
