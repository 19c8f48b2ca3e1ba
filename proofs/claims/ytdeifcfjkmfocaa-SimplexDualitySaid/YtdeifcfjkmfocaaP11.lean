/- What the proof rests on, part 11: LP6 X18 LD. -/
import Derived.Test.YtdeifcfjkmfocaaP10
set_option maxRecDepth 100000
set_option maxHeartbeats 4000000
namespace Go.LP
section
variable {n m : Nat} {A : Nat → Nat → Rat} {bb gg : Nat → Rat}
theorem weak0 {x y : Nat → Rat} (hx : ∀ j, j < n → 0 ≤ x j) (hr : ∀ i, i < m → sumR n (fun j => A i j * x j) ≤ 0) (hy : ∀ i, i < m → 0 ≤ y i) (hc : ∀ j, j < n → gg j ≤ sumR m (fun i => y i * A i j)) : sumR n (fun j => gg j * x j) ≤ 0 := by
 have h := weak (A := A) (bb := fun _ => 0) (gg := gg) hx hr hy hc
 rw [sumR_zero (n := m) (f := fun i => y i * 0) fun i _ => by grind] at h
 exact h
theorem weakg {x y : Nat → Rat} (hx : ∀ j, j < n → 0 ≤ x j) (hr : ∀ i, i < m → sumR n (fun j => A i j * x j) ≤ bb i) (hy : ∀ i, i < m → 0 ≤ y i) (hc : ∀ j, j < n → 0 ≤ sumR m (fun i => y i * A i j)) : 0 ≤ sumR m (fun i => y i * bb i) := by
 have h := weak (A := A) (bb := bb) (gg := fun _ => 0) hx hr hy hc
 rw [sumR_zero (n := n) (f := fun j => 0 * x j) fun i _ => by grind] at h
 exact h
def dualA (A : Nat → Nat → Rat) (j i : Nat) : Rat := - A i j
def negV (b : Nat → Rat) (i : Nat) : Rat := - b i
theorem neg_col {X : Nat → Rat} {j : Nat} : sumR m (fun i => dualA A j i * X i) = - sumR m (fun i => X i * A i j) := by
 rw [← sumR_neg]; exact sumR_congr fun i _ => by unfold dualA; grind
theorem neg_row {X : Nat → Rat} {i : Nat} : sumR n (fun j => X j * dualA A j i) = - sumR n (fun j => A i j * X j) := by
 rw [← sumR_neg]; exact sumR_congr fun j _ => by unfold dualA; grind
theorem neg_goal {X b : Nat → Rat} : sumR m (fun i => negV b i * X i) = - sumR m (fun i => X i * b i) := by
 rw [← sumR_neg]; exact sumR_congr fun i _ => by unfold negV; grind
theorem neg_bound {X g : Nat → Rat} : sumR n (fun j => X j * negV g j) = - sumR n (fun j => g j * X j) := by
 rw [← sumR_neg]; exact sumR_congr fun i _ => by unfold negV; grind
theorem col_of {X : Nat → Rat} (h : ∀ j, j < n → sumR m (fun i => dualA A j i * X i) ≤ negV gg j) : ∀ j, j < n → gg j ≤ sumR m (fun i => X i * A i j) := fun j hj => by
 have := h j hj
 rw [neg_col] at this
 unfold negV at this
 grind
theorem row_of {X : Nat → Rat} (h : ∀ i, i < m → negV bb i ≤ sumR n (fun j => X j * dualA A j i)) : ∀ i, i < m → sumR n (fun j => A i j * X j) ≤ bb i := fun i hi => by
 have := h i hi
 rw [neg_row] at this
 unfold negV at this
 grind
theorem du_opt_inf {x y z : Nat → Rat} {v : Rat} (ho : Opt n m A bb gg x y v) (hi : Inf m n (dualA A) (negV gg) z) : False := by
 have h1 : ∀ i, i < m → sumR n (fun j => A i j * z j) ≤ 0 := fun i h => by have := hi.col i h; rw [neg_row] at this; grind
 have h2 := weak0 (A := A) (gg := gg) (fun j _ => hi.y0 j) h1 (fun i _ => ho.y0 i) ho.col
 have h3 := hi.vy
 rw [neg_bound] at h3
 grind
theorem du_opt_unb {x y X r : Nat → Rat} {v : Rat} (ho : Opt n m A bb gg x y v) (hu : Unb m n (dualA A) (negV gg) (negV bb) X r) : False := by
 have h1 : ∀ j, j < n → 0 ≤ sumR m (fun i => r i * A i j) := fun j h => by have := hu.rr j h; rw [neg_col] at this; grind
 have h2 := weakg (A := A) (bb := bb) (fun j _ => ho.x0 j) ho.row (fun i _ => hu.r0 i) h1
 have h3 := hu.up
 rw [neg_goal] at h3
 grind
theorem du_opt_opt {x y X Y : Nat → Rat} {v w : Rat} (ho : Opt n m A bb gg x y v) (hd : Opt m n (dualA A) (negV gg) (negV bb) X Y w) : v = -w := by
 have h1 := weak (A := A) (bb := bb) (gg := gg) (fun j _ => ho.x0 j) ho.row (fun i _ => hd.x0 i) (col_of hd.row)
 have h2 := weak (A := A) (bb := bb) (gg := gg) (fun j _ => hd.y0 j) (row_of hd.col) (fun i _ => ho.y0 i) ho.col
 have h3 := hd.vx
 have h4 := hd.vy
 rw [neg_goal] at h3
 rw [neg_bound] at h4
 rw [ho.vx] at h1
 rw [ho.vy] at h2
 grind
theorem du_inf_opt {y X Y : Nat → Rat} {w : Rat} (hi : Inf n m A bb y) (hd : Opt m n (dualA A) (negV gg) (negV bb) X Y w) : False := by
 have h2 := weakg (A := A) (bb := bb) (fun j _ => hd.y0 j) (row_of hd.col) (fun i _ => hi.y0 i) hi.col
 have := hi.vy
 grind
theorem du_unb {x r X : Nat → Rat} (hu : Unb n m A bb gg x r) (h0 : ∀ i, 0 ≤ X i) (hr : ∀ j, j < n → sumR m (fun i => dualA A j i * X i) ≤ negV gg j) : False := by
 have h1 := weak0 (A := A) (gg := gg) (fun j _ => hu.r0 j) hu.rr (fun i _ => h0 i) (col_of hr)
 have := hu.up
 grind
end
end Go.LP

namespace Go.Proofs.Ytdeifcfjkmfocaa
open Go Go.Am Go.Dig Go.LP
noncomputable def apc (tok sz : Nat) (rows : List (List AV)) : AV := if rows.length = 0 then nilA else .list sz (.own tok) rows
noncomputable def plc (sz : Nat) (rows : List (List AV)) : AV := if rows.length = 0 then nilA else .list sz .plain rows
section
variable {tok sz l k : Nat} {rows : List (List AV)}
theorem apc_nil (h : rows.length = 0) : apc tok sz rows = nilA := if_pos h
theorem apc_some (h : ¬ rows.length = 0) : apc tok sz rows = .list sz (.own tok) rows := if_neg h
@[simp] theorem apc_rf : rf (apc tok sz rows) = true := by unfold apc; split <;> rfl
@[simp] theorem apc_strip : strip (apc tok sz rows) = plc sz rows := by unfold apc plc; split <;> rfl
@[simp] theorem apc_refs : refsTo k (apc tok sz rows) = false := by unfold apc; split <;> rfl
theorem apc_dg (h : ¬ tok = l) : dg l (apc tok sz rows) = apc tok sz rows := by
 unfold apc
 split
 ·simp
 ·simp only [dg]; rw [if_neg h]
@[simp] theorem plc_rf : rf (plc sz rows) = true := by unfold plc; split <;> rfl
@[simp] theorem plc_strip : strip (plc sz rows) = plc sz rows := by unfold plc; split <;> rfl
@[simp] theorem plc_dg : dg l (plc sz rows) = plc sz rows := by unfold plc; split <;> simp
@[simp] theorem plc_refs : refsTo k (plc sz rows) = false := by unfold plc; split <;> rfl
theorem plc_imp {rows' : List (List AV)} (h : impr rows rows') : AV.imp (plc sz rows) (.list sz .plain rows') := by
 unfold plc
 split
 ·rename_i h0
  have : rows' = [] := List.eq_nil_of_length_eq_zero (by rw [← h.1]; exact h0)
  subst this
  exact AV.imp_nil rfl
 ·exact imp_rows rfl h
end
theorem impr_refl {rows : List (List AV)} : impr rows rows := ⟨rfl, fun i x y h h' => by rw [h] at h'; cases h'; exact imps_refl⟩
theorem impr_mR {g h : Nat → List AV} {n : Nat} (e : ∀ i, i < n → imps (g i) (h i)) : impr (mR g n) (mR h n) := ⟨by simp, fun i x y hx hy => by
 have hi : i < n := by have := (List.getElem?_eq_some_iff.1 hx).1; simpa using this
 rw [mR_get hi] at hx hy
 cases hx; cases hy
 exact e i hi⟩
section
variable {n m : Nat} {A : Nat → Nat → Rat} {bb gg : Nat → Rat}
noncomputable def drow (m : Nat) (A : Nat → Nat → Rat) (gg : Nat → Rat) (j : Nat) : List AV := [plc 3 (fR (dualA A j) m), f0 (negV gg j), f1 (negV gg j), f2 (negV gg j)]
noncomputable def stDa (n m : Nat) (A : Nat → Nat → Rat) (bb gg : Nat → Rat) (k : Nat) : St :=
 {env := [(1, .ptr 1 0), (2, .ptr 2 0), (3, .ptr 3 0), (4, iv k)], sto := [(1, .var [fL gg n, .list 4 .plain (pR A bb n m)]), (2, .var [nilA, nilA]), (3, .var [apc 25 3 (fR (negV bb) k), nilA])] }
noncomputable def stDc (n m : Nat) (A : Nat → Nat → Rat) (bb gg : Nat → Rat) (k : Nat) : St :=
 {env := [(1, .ptr 1 0), (2, .ptr 2 0), (3, .ptr 3 0), (5, iv k)], sto := [(1, .var [fL gg n, .list 4 .plain (pR A bb n m)]), (2, .var [nilA, nilA]), (3, .var [apc 25 3 (fR (negV bb) m), apc 67 4 (mR (drow m A gg) k)])] }
noncomputable def stDb (n m : Nat) (A : Nat → Nat → Rat) (bb gg : Nat → Rat) (j k : Nat) : St :=
 {env := [(1, .ptr 1 0), (2, .ptr 2 0), (3, .ptr 3 0), (5, iv j), (6, .ptr 6 0), (7, iv k)],
  sto := [(1, .var [fL gg n, .list 4 .plain (pR A bb n m)]), (2, .var [nilA, nilA]), (3, .var [apc 25 3 (fR (negV bb) m), apc 67 4 (mR (drow m A gg) j)]), (6, .var [apc 61 3 (fR (dualA A j) k), f0 (negV gg j), f1 (negV gg j), f2 (negV gg j)])] }
theorem goLoad_drow {x : AV} {q : Rat} (h : rf x = true) : goLoad [x, f0 q, f1 q, f2 q] 0 (some 4) = some (.agg [strip x, f0 q, f1 q, f2 q]) := by
 have ht : (fr q).take 3 = fr q := List.take_of_length_le (by simp)
 simp [goLoad, h, ht]
@[simp] theorem drow_len {j : Nat} : (drow m A gg j).length = 4 := by simp [drow]
theorem drow_rf {j : Nat} : ∀ x, x ∈ drow m A gg j → rf x = true := fun x hx => by
 have h : (drow m A gg j).all rf = true := by simp [drow]
 exact List.all_eq_true.1 h x hx
@[simp] theorem drow_strip {j : Nat} : (drow m A gg j).map strip = drow m A gg j := by simp [drow]
@[simp] theorem drow_ref {j k : Nat} : anyRef k (drow m A gg j) = false := by simp [drow]
@[simp] theorem drow_dg {j k : Nat} : (drow m A gg j).map (dg k) = drow m A gg j := by simp [drow]
@[simp] theorem drows_dgR {j k : Nat} : rowsDg k (mR (drow m A gg) j) = mR (drow m A gg) j := mR_map fun _ => by simp
theorem dual_s {L : Nat} (hn : n < 1000000) (hm : m < 1000000) (hL : L ≤ 137438953472) (ha : ∀ i j, i < m → j < n → sz L (A i j)) (hb : ∀ i, i < m → sz L (bb i)) (hg : ∀ j, j < n → sz L (gg j)) :
  SoundCall Try.prog F_v_Dual [pA A bb gg n m] (.agg [plc 3 (fR (negV bb) m), plc 4 (mR (drow m A gg) n)]) := by
 refine sound' t_v_Dual (by simp) ?_
 simp [c_v_Dual]
 refine awp_forW (stDa n m A bb gg) (fun _ => True) m (by simp [stDa, apc]) trivial (fun k hk _ => ?_) (fun _ => ?_)
 ·have e : (k : Int) < m := by omega
  have w := wrap_succ (k := k) (by omega)
  have g := neg_r hL (hb k hk)
  have hs : fR (negV bb) k ++ [fr (-bb k)] = fR (negV bb) (k + 1) := fR_succ.symm
  have h1 : apc 25 3 (fR (negV bb) (k + 1)) = .list 3 (.own 25) (fR (negV bb) (k + 1)) := apc_some (by simp)
  by_cases k0 : k = 0
  ·have h0 : apc 25 3 (fR (negV bb) k) = nilA := apc_nil (by simp [k0])
   have hs0 : [fr (-bb k)] = fR (negV bb) (k + 1) := by rw [← hs, k0]; rfl
   simp [c_v_Dual_l0, stDa, h0, e, hk, pR_get hk]
   refine eCall_i g (by simp) (by simp) ?_
   simp [w, h1, hs0, stDa]
   exact ⟨by omega, by omega⟩
  ·have h0 : apc 25 3 (fR (negV bb) k) = .list 3 (.own 25) (fR (negV bb) k) := apc_some (by simpa using k0)
   simp [c_v_Dual_l0, stDa, h0, e, hk, pR_get hk]
   refine eCall_i g (by simp) (by simp) ?_
   simp [w, h1, hs, stDa]
   exact ⟨by omega, by omega⟩
 ·simp [c_v_Dual_l0, stDa, c_v_Dual_k6]
  have d1 : ∀ l, ¬ 25 = l → dg l (apc 25 3 (fR (negV bb) m)) = apc 25 3 (fR (negV bb) m) := fun l h => apc_dg h
  refine awp_forW (stDc n m A bb gg) (fun _ => True) n (by simp [stDc, apc]) trivial (fun j hj _ => ?_) (fun _ => ?_)
  ·have e : (j : Int) < n := by omega
   have w := wrap_succ (k := j) (by omega)
   have g := neg_r hL (hg j hj)
   have d2 : ∀ l, ¬ 67 = l → dg l (apc 67 4 (mR (drow m A gg) j)) = apc 67 4 (mR (drow m A gg) j) := fun l h => apc_dg h
   simp [c_v_Dual_l4, stDc, e, hj, fR_get hj]
   refine eCall_i g (by simp) (by simp) ?_
   simp
   refine awp_forW (stDb n m A bb gg j) (fun _ => True) m (by simp [stDb, apc, negV]) trivial (fun k hk _ => ?_) (fun _ => ?_)
   ·have e2 : (k : Int) < m := by omega
    have w2 := wrap_succ (k := k) (by omega)
    have g2 := neg_r hL (ha k j hk hj)
    have hs : fR (dualA A j) k ++ [fr (-A k j)] = fR (dualA A j) (k + 1) := fR_succ.symm
    have h1 : apc 61 3 (fR (dualA A j) (k + 1)) = .list 3 (.own 61) (fR (dualA A j) (k + 1)) := apc_some (by simp)
    by_cases k0 : k = 0
    ·have h0 : apc 61 3 (fR (dualA A j) k) = nilA := apc_nil (by simp [k0])
     have hs0 : [fr (-A k j)] = fR (dualA A j) (k + 1) := by rw [← hs, k0]; rfl
     simp [c_v_Dual_l1, stDb, h0, e, hj, e2, hk, pR_get hk, fR_get hj]
     refine eCall_i g2 (by simp) (by simp) ?_
     simp [w2, h1, hs0, stDb, d1, d2]
     exact ⟨by omega, by omega⟩
    ·have h0 : apc 61 3 (fR (dualA A j) k) = .list 3 (.own 61) (fR (dualA A j) k) := apc_some (by simpa using k0)
     simp [c_v_Dual_l1, stDb, h0, e, hj, e2, hk, pR_get hk, fR_get hj]
     refine eCall_i g2 (by simp) (by simp) ?_
     simp [w2, h1, hs, stDb, d1, d2]
     exact ⟨by omega, by omega⟩
   ·have hrow : mR (drow m A gg) j ++ [drow m A gg j] = mR (drow m A gg) (j + 1) := mR_succ.symm
    have hdr : plc 3 (fR (dualA A j) m) :: fr (negV gg j) = drow m A gg j := rfl
    have h1 : apc 67 4 (mR (drow m A gg) (j + 1)) = .list 4 (.own 67) (mR (drow m A gg) (j + 1)) := apc_some (by simp)
    have hrf : (∀ x, x ∈ drow m A gg j → rf x = true) = True := eq_true drow_rf
    have hgl := goLoad_drow (x := apc 61 3 (fR (dualA A j) m)) (q := negV gg j) apc_rf
    by_cases j0 : j = 0
    ·have h0 : apc 67 4 (mR (drow m A gg) j) = nilA := apc_nil (by simp [j0])
     have hs0 : [drow m A gg j] = mR (drow m A gg) (j + 1) := by rw [← hrow, j0]; rfl
     simp [c_v_Dual_l1, stDb, c_v_Dual_k2, c_v_Dual_k3, h0, d1, d2, hdr, hs0, w, h1, stDc, hrf]
     exact ⟨by omega, by omega⟩
    ·have h0 : apc 67 4 (mR (drow m A gg) j) = .list 4 (.own 67) (mR (drow m A gg) j) := apc_some (by simpa using j0)
     simp [c_v_Dual_l1, stDb, c_v_Dual_k2, c_v_Dual_k3, h0, d1, d2, hdr, hrow, w, h1, stDc, hrf]
     exact ⟨by omega, by omega⟩
  ·simp [c_v_Dual_l4, stDc, c_v_Dual_k5, r_v_Dual]
end
end Go.Proofs.Ytdeifcfjkmfocaa

namespace Go.Proofs.Ytdeifcfjkmfocaa
open Go Go.Am Go.Dig Go.LP
section
variable {G : Nat → RF} {n : Nat} {A : Nat → Nat → RF} {cl : Nat → Nat} {b : Nat → RF} {m : Nat}
theorem grow5 {m : Nat} (hm : m ≤ 5) : grow 32 m ≤ 33792 := by
 have h1 := grow_mono (K := 32) hm
 have h2 : grow 32 5 ≤ 33792 := by decide
 omega
theorem grow5L {m : Nat} (hm : m ≤ 5) : grow 32 m + (m + 1) * (2 * grow 32 m + 1) ≤ 10000000000 := by
 have h := grow5 hm
 have : (m + 1) * (2 * grow 32 m + 1) ≤ 6 * (2 * 33792 + 1) := Nat.mul_le_mul (by omega) (by omega)
 omega
theorem dual_imp {n m : Nat} {A : Nat → Nat → Rat} {bb gg : Nat → Rat} : AV.imp (.agg [plc 3 (fR (negV bb) m), plc 4 (mR (drow m A gg) n)]) (pA (dualA A) (negV gg) (negV bb) m n) :=
 imp_agg (imps_cons (plc_imp impr_refl) (imps_cons (plc_imp (impr_mR fun j _ => imps_cons (plc_imp impr_refl) imps_refl)) imps_nil))
theorem law_duality (hn : n < 2305843009213693952) (hm : m < 2305843009213693952) (hc : ∀ i, i < m → cl i < 2305843009213693952) (hG : ∀ j, j < n → ok (G j).a ∧ ok (G j).c) (hR : ∀ i, i < m → (ok (b i).a ∧ ok (b i).c) ∧ ∀ j, j < cl i → ok (A i j).a ∧ ok (A i j).c) :
  SoundCall Try.prog F_w_Duality [rA G n A cl b m] (bv true) := by
 have kl : SoundCall Try.prog F_v_Light [rA G n A cl b m, iv 5, iv 1] (bv (lightE G n A cl b m 5 1)) := light_r18 (N := 5) (D := 1) hn hm hc
 by_cases hl : lightP G n A cl b m 5 1
 rotate_left
 ·rw [lightE_false hl] at kl
  refine sound' t_w_Duality (by simp) ?_
  simp [c_w_Duality]
  refine eCall_i kl (by simp) (by simp) ?_
  simp
  refine eCall_i (xs := []) (args := []) lives_s rfl (.inl rfl) ?_
  simp [r_w_Duality]
 rw [lightE_true hl] at kl
 have hl2 := hl.2.2.2
 have hn6 := hl.1
 have hm6 := hl.2.1
 have fG : ∀ j, j < n → (G j).fine := fun j hj => fine_small (hG j hj) (hl.2.2.1 j hj) (by decide)
 have fA : ∀ i j, i < m → j < cl i → (A i j).fine := fun i j hi hj => fine_small ((hR i hi).2 j hj) ((hl2 i hi).2 j hj) (by decide)
 have fb : ∀ i, i < m → (b i).fine := fun i hi => fine_small (hR i hi).1 (hl2 i hi).1.2 (by decide)
 have k1 := check_sx (by omega) (by omega) (fun i hi => by have := (hl2 i hi).1.1; omega) fG fA fb
 have k2 := check_r18 fG fA fb
 by_cases he : chkE G n A cl b m = 0
 rotate_left
 ·generalize chkE G n A cl b m = e at *
  refine sound' t_w_Duality (by simp) ?_
  simp [c_w_Duality]
  refine eCall_i kl (by simp) (by simp) ?_
  simp
  refine eCall_i k2 (by simp) (by simp) ?_
  simp [he]
  refine eCall_i (xs := []) (args := []) lives_s rfl (.inl rfl) ?_
  simp [r_w_Duality]
 obtain ⟨hn1, hm1, hg⟩ := chkE_zero he
 rw [he] at k1 k2
 obtain ⟨A', bb, gg, hp, eG, eA, eb⟩ := good_rat hg
 rw [hp] at k1 k2 kl ⊢
 have sG : ∀ j, j < n → sz 32 (gg j) := fun j hj => sz_small (hl.2.2.1 j hj) (eG j hj)
 have sA : ∀ i j, i < m → j < n → sz 32 (A' i j) := fun i j hi hj => sz_small ((hl2 i hi).2 j (by rw [(hg.2 i hi).1]; exact hj)) (eA i j hi hj)
 have sb : ∀ i, i < m → sz 32 (bb i) := fun i hi => sz_small (hl2 i hi).1.2 (eb i hi)
 obtain ⟨r, hr, hs⟩ := solve_ex (by omega) (by omega) (grow5L hm6) sA sb sG k1
 have kd := dual_s (by omega) (by omega) (by decide : 32 ≤ 137438953472) sA sb sG
 have dA : ∀ j i, j < n → i < m → sz 32 (dualA A' j i) := fun j i hj hi => sz_neg (sA i j hi hj)
 have dG : ∀ i, i < m → sz 32 (negV bb i) := fun i hi => sz_neg (sb i hi)
 have db : ∀ j, j < n → sz 32 (negV gg j) := fun j hj => sz_neg (sG j hj)
 have k3 := check_pA (n := m) (m := n) (A := dualA A') (bb := negV gg) (gg := negV bb) (by omega) (by omega) (by decide : 32 ≤ 137438953472) dA db dG
 obtain ⟨r', hr', hs'⟩ := solve_ex (by omega) (by omega) (grow5L hn6) dA db dG k3
 have hs2 := imp_arg1 hs' (dual_imp (n := n) (m := m) (A := A') (bb := bb) (gg := gg))
 have g5 := grow5 hm6
 have g6 := grow5 hn6
 refine sound' t_w_Duality (by simp) ?_
 simp [c_w_Duality]
 refine eCall_i kl (by simp) (by simp) ?_
 simp
 refine eCall_i k2 (by simp) (by simp) ?_
 simp
 refine eCall_i hs (by simp) (by simp) ?_
 rcases hr with ⟨x, y, v, ⟨ho, _, _, hv⟩, rfl⟩ | ⟨y, ⟨hi, _⟩, rfl⟩ | ⟨x, ray, ⟨hu, _⟩, rfl⟩
 ·simp
  refine eCall_i kd (by simp) (by simp) ?_
  simp
  refine eCall_i hs2 (by simp) (by simp) ?_
  rcases hr' with ⟨x', y', w, ⟨ho', _, _, hw⟩, rfl⟩ | ⟨y', ⟨hi', _⟩, rfl⟩ | ⟨x', ray', ⟨hu', _⟩, rfl⟩
  ·have q1 := neg_r (by omega) hw
   have q2 := same_q (q := -w) (by omega) hv
   rw [decide_eq_true (du_opt_opt ho ho')] at q2
   simp [eBin_neq_bool ub_bool]
   refine eCall_i q1 (by simp) (by simp) ?_
   simp
   refine eCall_i q2 (by simp) (by simp) ?_
   simp
   refine eCall_i (xs := []) (args := []) lives_s rfl (.inl rfl) ?_
   simp [r_w_Duality]
  ·exact absurd (du_opt_inf ho hi') id
  ·exact absurd (du_opt_unb ho hu') id
 ·simp
  refine eCall_i kd (by simp) (by simp) ?_
  simp
  refine eCall_i hs2 (by simp) (by simp) ?_
  rcases hr' with ⟨x', y', w, ⟨ho', _⟩, rfl⟩ | ⟨y', _, rfl⟩ | ⟨x', ray', _, rfl⟩
  ·exact absurd (du_inf_opt hi ho') id
  ·simp [eBin_neq_bool ub_bool]
   refine eCall_i (xs := []) (args := []) lives_s rfl (.inl rfl) ?_
   simp [r_w_Duality]
  ·simp [eBin_neq_bool ub_bool]
   refine eCall_i (xs := []) (args := []) lives_s rfl (.inl rfl) ?_
   simp [r_w_Duality]
 ·simp
  refine eCall_i kd (by simp) (by simp) ?_
  simp
  refine eCall_i hs2 (by simp) (by simp) ?_
  rcases hr' with ⟨x', y', w, ⟨ho', _⟩, rfl⟩ | ⟨y', _, rfl⟩ | ⟨x', ray', ⟨hu', _⟩, rfl⟩
  ·exact absurd (du_unb hu ho'.x0 ho'.row) id
  ·simp [eBin_neq_bool ub_bool]
   refine eCall_i (xs := []) (args := []) lives_s rfl (.inl rfl) ?_
   simp [r_w_Duality]
  ·exact absurd (du_unb hu hu'.x0 hu'.row) id
end
theorem simplexDuality_contract (xs : List AV) (h : TyAll [tyProg] xs) : SoundCall Try.prog F_w_Duality xs (bv true) := by
 obtain ⟨x, rfl, h1⟩ := TyAll_one h
 obtain ⟨G, n, A, cl, b, m, rfl, ⟨hn, hm, hc⟩, hG, hR⟩ := prog_of h1
 exact law_duality hn hm hc hG hR
end Go.Proofs.Ytdeifcfjkmfocaa
