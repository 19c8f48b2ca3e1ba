/- What the proof rests on, part 8: N1 N2 N3 Dig2 N4 N5 Dig3 Dig4 N6 N7 N8 N9 N10 Dig5 N11 N6b N12 N13 N14 N20 N21 N22 N23 N24 N25 N26 N27 N28 N29 N30 F1 F2. -/
import Derived.Test.YtdeifcfjkmfocaaP7
set_option maxRecDepth 100000
set_option maxHeartbeats 4000000
namespace Go.Proofs.Ytdeifcfjkmfocaa
open Go Go.Am Go.Dig
theorem wrap_succ {k : Nat} (h : k < 4611686018427387904) : IntKind.i64.wrap ((k : Int) + 1) = ((k + 1 : Nat) : Int) := by
 rw [wrap64] <;> omega
abbrev uv (n : Nat) : AV := .val (.int .u32 (n : Int))
abbrev drows (a : List Nat) : List (List AV) := a.map fun d => [uv d]
abbrev nl (m : Am.Mode) (a : List Nat) : AV := .list 1 m (drows a)
abbrev nD (x : Nat) : AV := nl .plain (digs x)
theorem imp_full {sz : Nat} {rows : List (List AV)} : AV.imp (.list sz .full rows) (.list sz .plain rows) := fun I w v h => by
 cases h with
 | listNil _ _ a cap hm ho => exact .listNil _ _ a cap (by simp) (by simp)
 | list _ _ _ b o cap g hcap hm ho hrow hcell hc => exact .list _ _ _ b o cap g hcap (by simp) (by simp) hrow hcell hc
theorem imp_outV {sz : Nat} {rows : List (List AV)} : AV.imp (outV sz rows) (.list sz .plain rows) := by
 unfold outV
 by_cases h : rows = []
 ·subst h; simp only [if_true]; exact AV.imp_nil rfl
 ·simp only [h, if_false]; exact AV.imp.refl
theorem w32 (n : Nat) : IntKind.u32.wrap (n : Int) = ((n % B : Nat) : Int) := by
 rw [IntKind.wrap_u32, B_eq]; omega
theorem w64 {n : Nat} (h : n < 18446744073709551616) : IntKind.u64.wrap (n : Int) = n := IntWalk.u64_in n (by omega)
theorem w64' {n : Int} (h : 0 ≤ n) (h2 : n < 18446744073709551616) : IntKind.u64.wrap n = n := IntWalk.u64_in n (by omega)
def stTr (m : Am.Mode) (a : List Nat) (k : Nat) : St := { env := [(0, nl m a), (3, iv ((a.length - k : Nat) : Int))], sto := [] }
theorem trim_sound {m : Am.Mode} {a : List Nat} (ha : ok a) (hn : a.length < 1099511627776) : SoundCall Try.prog F_n_trim [nl m a] (nD (val a)) := by
 obtain ⟨h1, h2, h3, h4⟩ := len_facts ha
 refine soundW' t_n_trim (by simp) ?_
 simp [c_n_trim]
 generalize hT : (digs (val a)).length = T at h1 h2 h3 h4
 refine awp_for (stTr m a) (a.length - T) ?_ (fun k hk => ?_) ?_
 ·simp [stTr]
 ·have hp : 0 < a.length - k := by omega
  have hp2 : k < a.length := by omega
  have w : IntKind.i64.wrap (((a.length - k : Nat) : Int) - 1) = ((a.length - (k + 1) : Nat) : Int) := by rw [wrap64] <;> omega
  have hlt : a.length - (k + 1) < a.length := by omega
  have hz := h2 (a.length - (k + 1)) hlt (by omega)
  simp [c_n_trim_l0, stTr, hp, w, hlt, hz]
 ·have e : a.length - (a.length - T) = T := by omega
  rcases T with _ | T
  ·have h5 : digs (val a) = [] := by rw [← h4]; rfl
   simp [c_n_trim_l0, stTr, c_n_trim_k1, r_n_trim]
   rw [show nD (val a) = .list 1 .plain [] by simp only [nD, nl, drows, h5, List.map_nil]]
   exact imp_full
  ·have w : IntKind.i64.wrap (((T + 1 : Nat) : Int) - 1) = (T : Int) := by rw [wrap64] <;> omega
   have hz := h3 (by omega) (by omega)
   simp only [Nat.add_sub_cancel] at hz
   have hlt : T < a.length := by omega
   have ht : List.take (T + 1) (drows a) = drows (digs (val a)) := by rw [← h4]; simp
   have en : ((T : Int) + 1).toNat = T + 1 := by omega
   have e0 : (0 : Int) ≤ (T : Int) + 1 := by omega
   have e1 : (T : Int) + 1 ≤ a.length := by omega
   simp at w
   simp [c_n_trim_l0, stTr, e, w, hlt, hz, e0, e1, en, c_n_trim_k1, r_n_trim]
   first | (rw [ht]; exact imp_full) | (simp only [← List.map_take]; rw [h4]; exact imp_full)
theorem valid_sound {m : Am.Mode} {a : List Nat} (ha : ok a) (hn : a.length < 1099511627776) : SoundCall Try.prog F_n_Valid [nl m a] (bv (decide (a = digs (val a)))) := by
 refine sound' t_n_Valid (by simp) ?_
 simp [c_n_Valid]
 refine eCall_i (trim_sound (m := stm m) ha hn) (by simp [strip_list]) (by simp) ?_
 obtain ⟨h1, h2, h3, h4⟩ := len_facts ha
 have : decide ((((digs (val a)).length : Nat) : Int) = (a.length : Int)) = decide (a = digs (val a)) := by
  by_cases h : (digs (val a)).length = a.length
  ·have : a = digs (val a) := by rw [← h4, h]; simp
   simp [← this]
  ·have : a ≠ digs (val a) := fun e => h (congrArg List.length e.symm)
   have h' : ¬ (((digs (val a)).length : Nat) : Int) = (a.length : Int) := by omega
   simp [this]
   omega
 simp [r_n_Valid]
 simpa using this
end Go.Proofs.Ytdeifcfjkmfocaa

namespace Go.Proofs.Ytdeifcfjkmfocaa
open Go Go.Am Go.Dig
theorem wu64 (n : Int) : IntKind.u64.wrap n = n % 18446744073709551616 := by simp [IntKind.wrap, IntKind.bits, IntKind.signed]
abbrev u64v (n : Nat) : AV := .val (.int .u64 (n : Int))
theorem shr32 (n : Nat) : (n : Int).fdiv (2 ^ min 32 IntKind.u64.bits) = ((n / B : Nat) : Int) := by
 have : min 32 IntKind.u64.bits = 32 := rfl
 rw [this, Int.fdiv_eq_ediv_of_nonneg _ (by decide), B_eq]
 rfl
theorem drows_set {a : List Nat} {k d : Nat} : (drows a).set k [uv d] = drows (a.set k d) := by simp [List.map_set]
theorem val_take_all {b : List Nat} {k : Nat} (h : b.length ≤ k) : val (b.take k) = val b := by rw [List.take_of_length_le h]
theorem val_take_le {a : List Nat} (h : ok a) (k : Nat) : val (a.take k) < B ^ k := val_lt_of (ok_take h k) (by simp; omega)
def low (a b : List Nat) (k : Nat) : Nat := val (a.take k) + val (b.take k)
def car (a b : List Nat) (k : Nat) : Nat := low a b k / B ^ k
theorem car_le {a b : List Nat} (ha : ok a) (hb : ok b) (k : Nat) : car a b k ≤ 1 := by
 have h1 := val_take_le ha k
 have h2 := val_take_le hb k
 have : low a b k < 2 * B ^ k := by unfold low; omega
 have := Nat.div_lt_of_lt_mul (Nat.mul_comm 2 _ ▸ this)
 unfold car
 omega
theorem car_zero {a b : List Nat} : car a b 0 = 0 := by simp [car, low, val]
theorem low_split {a b : List Nat} {k t R : Nat} (h : low a b (k + 1) = low a b k + B ^ k * t) (hs : val a + val b = low a b (k + 1) + B ^ (k + 1) * R) :
  (val a + val b) / B ^ k % B = (car a b k + t) % B ∧ car a b (k + 1) = (car a b k + t) / B := by
 constructor
 ·rw [hs, h, col_digit]; rfl
 ·unfold car; rw [h, col_carry]
theorem low_rest (a b : List Nat) (k : Nat) (ha : k ≤ a.length) (hb : k ≤ b.length ∨ b.length ≤ k) : ∃ R, val a + val b = low a b k + B ^ k * R := by
 have e1 := val_split a k
 rw [Nat.min_eq_left ha] at e1
 rcases hb with hb | hb
 ·have e2 := val_split b k
  rw [Nat.min_eq_left hb] at e2
  exact ⟨val (a.drop k) + val (b.drop k), by unfold low; rw [Nat.mul_add]; omega⟩
 ·exact ⟨val (a.drop k), by unfold low; rw [val_take_all hb]; omega⟩
theorem add_col {a b : List Nat} {k : Nat} (hk : k < a.length) (hb : k < b.length ∨ b.length ≤ k) : ∃ t, t = car a b k + (a[k] + (b[k]?.getD 0)) ∧ (val a + val b) / B ^ k % B = t % B ∧ car a b (k + 1) = t / B := by
 refine ⟨_, rfl, ?_⟩
 obtain ⟨R, hR⟩ := low_rest a b (k + 1) (by omega) (by omega)
 rcases hb with hb | hb
 ·rw [List.getElem?_eq_getElem hb, Option.getD_some]
  exact low_split (by unfold low; rw [val_take_succ hk, val_take_succ hb, Nat.mul_add]; omega) hR
 ·rw [List.getElem?_eq_none hb, Option.getD_none]
  exact low_split (by unfold low; rw [val_take_succ hk, val_take_all hb, val_take_all (show b.length ≤ k + 1 by omega)]; simp; omega) hR
def stAdd (m1 m2 : Am.Mode) (a b : List Nat) (k : Nat) : St :=
 {env := [(0, nl m1 a), (1, nl m2 b), (5, .sl 19 1 0 (a.length + 1)), (6, u64v (car a b k)), (21, iv a.length), (22, iv k)], sto := [(19, .arr 1 (drows (fillN (a.length + 1) k (val a + val b))))] }
theorem add_loop {m1 m2 : Am.Mode} {a b : List Nat} (ha : ok a) (hb : ok b) (hl : b.length ≤ a.length) (hn : a.length < 1099511627775) :
  awp Try.prog (.loop c_n_Add_l0) (stAdd m1 m2 a b 0) (blockC 0 (seqC Try.prog c_n_Add_k1 (retW r_n_Add (nD (val a + val b))))) := by
 have hS : val a + val b < B ^ (a.length + 1) := by
  have h1 := val_lt ha
  have h2 := val_lt_of hb hl
  rw [Nat.pow_succ, B_eq] at *
  omega
 refine awp_forW (stAdd m1 m2 a b) (fun _ => True) a.length (by simp [stAdd]) trivial (fun k hk _ => ?_) (fun _ => ?_)
 ·have e : (k : Int) < a.length := by omega
  have hc := car_le ha hb k
  have hak := ok_get ha hk
  have hfl := fillN_len (n := a.length + 1) (k := k) (S := val a + val b) (by omega)
  have hfk : k < (fillN (a.length + 1) k (val a + val b)).length := by omega
  have hset := fillN_set (n := a.length + 1) (k := k) (S := val a + val b) (by omega)
  have e1 : IntKind.u64.wrap ((a[k] : Nat) : Int) = (a[k] : Nat) := w64 (by rw [B_eq] at hak; omega)
  obtain ⟨t, ht, g1, g2⟩ := add_col (a := a) (b := b) hk (by omega)
  rw [g1] at hset
  obtain ⟨d, hd⟩ : ∃ d, t % B = d := ⟨_, rfl⟩
  obtain ⟨q, hq⟩ : ∃ q, t / B = q := ⟨_, rfl⟩
  have f1 : IntKind.u32.wrap (t : Int) = (d : Int) := by rw [w32, hd]
  have f2 : (t : Int).fdiv (2 ^ min 32 IntKind.u64.bits) = (q : Int) := by rw [shr32, hq]
  rw [hd] at hset
  have hset' : (drows (fillN (a.length + 1) k (val a + val b))).set k [uv d] = drows (fillN (a.length + 1) (k + 1) (val a + val b)) := by rw [drows_set, hset]
  rw [hq] at g2
  rw [B_eq] at hak
  have e4 : IntKind.u64.wrap ((a[k] : Int) + (car a b k : Int)) = ((a[k] : Int) + (car a b k : Int)) := by rw [w64'] <;> omega
  by_cases hkb : k < b.length
  ·have e2 : (k : Int) < b.length := by omega
   have hbk := ok_get hb hkb
   rw [B_eq] at hbk
   rw [List.getElem?_eq_getElem hkb, Option.getD_some] at ht
   have e3 : IntKind.u64.wrap ((b[k] : Nat) : Int) = (b[k] : Nat) := w64 (by omega)
   have e5 : IntKind.u64.wrap ((a[k] : Int) + (car a b k : Int) + (b[k] : Int)) = (t : Int) := by rw [w64'] <;> omega
   simp [c_n_Add_l0, stAdd, e, e2, hk, hkb, e1, e3, e4, e5, eBin_shr, hfk, splice, f1, f2, hset', g2, wrap_succ (show k < 4611686018427387904 by omega)]
   omega
  ·have e2 : ¬ (k : Int) < b.length := by omega
   rw [List.getElem?_eq_none (by omega), Option.getD_none] at ht
   have e5 : (a[k] : Int) + (car a b k : Int) = (t : Int) := by omega
   rw [e5] at e4
   simp [c_n_Add_l0, stAdd, e, e2, hk, e1, e5, e4, eBin_shr, hfk, splice, f1, f2, hset', g2, wrap_succ (show k < 4611686018427387904 by omega)]
   omega
 ·have hfl := fillN_len (n := a.length + 1) (k := a.length) (S := val a + val b) (by omega)
  have hfk : a.length < (fillN (a.length + 1) a.length (val a + val b)).length := by omega
  have hset := fillN_set (n := a.length + 1) (k := a.length) (S := val a + val b) (by omega)
  have hc := car_le ha hb a.length
  have hcl : (val a + val b) / B ^ a.length % B = car a b a.length := by
   have h1 : car a b a.length = (val a + val b) / B ^ a.length := by
    unfold car low; rw [val_take_all (Nat.le_refl _), val_take_all hl]
   rw [← h1, Nat.mod_eq_of_lt (by rw [B_eq]; omega)]
  rw [hcl] at hset
  have hset' : (drows (fillN (a.length + 1) a.length (val a + val b))).set a.length [uv (car a b a.length)] = drows (digsN (a.length + 1) (val a + val b)) := by rw [drows_set, hset, fillN_all]
  have f1 : IntKind.u32.wrap (car a b a.length : Int) = (car a b a.length : Int) := IntWalk.u32_in _ (by omega)
  have hle : a.length + 1 ≤ (digsN (a.length + 1) (val a + val b)).length := by rw [digsN_len]; exact Nat.le_refl _
  have htk : (drows (digsN (a.length + 1) (val a + val b))).take (a.length + 1) = drows (digsN (a.length + 1) (val a + val b)) := List.take_of_length_le (by rw [List.length_map, digsN_len]; exact Nat.le_refl _)
  have key := trim_sound (m := .plain) (a := digsN (a.length + 1) (val a + val b)) ok_digsN (by rw [digsN_len]; omega)
  rw [val_digsN_lt hS] at key
  simp [c_n_Add_l0, stAdd, c_n_Add_k1, hfk, splice, f1, hset', eFreeze, frzE, htk, hle]
  refine ⟨by omega, ?_⟩
  refine eCall_i key (by simp) (by simp) ?_
  simp [r_n_Add]
  exact AV.imp.refl
theorem add_sound {m1 m2 : Am.Mode} {a b : List Nat} (ha : ok a) (hb : ok b) (hna : a.length < 1099511627775) (hnb : b.length < 1099511627775) : SoundCall Try.prog F_n_Add [nl m1 a, nl m2 b] (nD (val a + val b)) := by
 refine soundW' t_n_Add (by simp) ?_
 by_cases h : a.length < b.length
 ·have h' : (a.length : Int) < b.length := by omega
  have w : IntKind.i64.wrap ((b.length : Int) + 1) = (b.length : Int) + 1 := wrap64 (by omega) (by omega)
  have key := add_loop (m1 := m2) (m2 := m1) hb ha (by omega) (by omega)
  rw [Nat.add_comm (val b)] at key
  have e1 : ((b.length : Int) + 1).toNat = b.length + 1 := by omega
  simp [c_n_Add, h', w, eMk, e1]
  refine ⟨by omega, by omega, by omega, ?_⟩
  have e2 : stAdd m2 m1 b a 0 = { env := [(0, nl m2 b), (1, nl m1 a), (5, .sl 19 1 0 (b.length + 1)), (6, u64v 0), (21, iv b.length), (22, iv 0)], sto := [(19, .arr 1 (List.replicate (b.length + 1) [uv 0]))] } := by
   simp [stAdd, car_zero, fillN_zero]
  rw [e2] at key
  exact key
 ·have h' : ¬ (a.length : Int) < b.length := by omega
  have w : IntKind.i64.wrap ((a.length : Int) + 1) = (a.length : Int) + 1 := wrap64 (by omega) (by omega)
  have key := add_loop (m1 := m1) (m2 := m2) ha hb (by omega) (by omega)
  have e1 : ((a.length : Int) + 1).toNat = a.length + 1 := by omega
  simp [c_n_Add, h', w, eMk, e1]
  refine ⟨by omega, by omega, by omega, ?_⟩
  have e2 : stAdd m1 m2 a b 0 = { env := [(0, nl m1 a), (1, nl m2 b), (5, .sl 19 1 0 (a.length + 1)), (6, u64v 0), (21, iv a.length), (22, iv 0)], sto := [(19, .arr 1 (List.replicate (a.length + 1) [uv 0]))] } := by
   simp [stAdd, car_zero, fillN_zero]
  rw [e2] at key
  exact key
end Go.Proofs.Ytdeifcfjkmfocaa

namespace Go.Proofs.Ytdeifcfjkmfocaa
open Go Go.Am Go.Dig
def cmpN (x y : Nat) : Int := if x < y then -1 else if y < x then 1 else 0
def stCmp (x y : Nat) (k : Nat) : St := { env := [(0, nD x), (1, nD y), (22, iv (digs x).length), (23, iv k)], sto := [] }
theorem cmp_sound {m1 m2 : Am.Mode} {a b : List Nat} (ha : ok a) (hb : ok b) (hna : a.length < 1099511627776) (hnb : b.length < 1099511627776) : SoundCall Try.prog F_n_Cmp [nl m1 a, nl m2 b] (iv (cmpN (val a) (val b))) := by
 refine sound' t_n_Cmp (by simp) ?_
 simp [c_n_Cmp]
 refine eCall_i (trim_sound (m := stm m1) ha hna) (by simp [strip_list]) (by simp) ?_
 simp
 refine eCall_i (trim_sound (m := stm m2) hb hnb) (by simp [strip_list]) (by simp) ?_
 have lx := digs_digs_norm ha
 have ly := digs_digs_norm hb
 generalize val a = x at *
 generalize val b = y at *
 by_cases hl : (digs x).length = (digs y).length
 ·have hl' : (((digs x).length : Nat) : Int) = ((digs y).length : Int) := by omega
  simp [hl']
  refine awp_forW (stCmp x y) (fun k => (digs x).drop ((digs x).length - k) = (digs y).drop ((digs x).length - k)) (digs x).length (by simp [stCmp, hl]) (by simp [hl]) (fun k hk hi => ?_) (fun hi => ?_)
  ·have e : (k : Int) < (digs x).length := by omega
   have w : IntKind.i64.wrap (((digs x).length : Int) - 1 - k) = (((digs x).length - 1 - k : Nat) : Int) := by rw [wrap64] <;> omega
   have w0 : IntKind.i64.wrap (((digs x).length : Int) - 1) = ((digs x).length : Int) - 1 := by rw [wrap64] <;> omega
   obtain ⟨j, hj⟩ : ∃ j, (digs x).length - 1 - k = j := ⟨_, rfl⟩
   rw [hj] at w
   have hjx : j < (digs x).length := by omega
   have hjy : j < (digs y).length := by omega
   have ejx : (j : Int) < (digs x).length := by omega
   have ejy : (j : Int) < (digs y).length := by omega
   have hd : (digs x).drop (j + 1) = (digs y).drop (j + 1) := by
    have : j + 1 = (digs x).length - k := by omega
    rw [this]; exact hi
   rcases Nat.lt_trichotomy (digs x)[j] (digs y)[j] with h | h | h
   ·have hlt := cmp_of_high (ok_digs x) (ok_digs y) hl hjx hd h
    rw [val_digs, val_digs] at hlt
    have hc : cmpN x y = -1 := by simp [cmpN, hlt]
    simp [c_n_Cmp_l0, stCmp, e, w0, w, hjx, hjy, ejx, ejy, h, r_n_Cmp, hc]
   ·have hnext : (digs x).drop ((digs x).length - (k + 1)) = (digs y).drop ((digs x).length - (k + 1)) := by
     have : (digs x).length - (k + 1) = j := by omega
     rw [this, List.drop_eq_getElem_cons hjx, List.drop_eq_getElem_cons hjy, h, hd]
    simp [c_n_Cmp_l0, stCmp, e, w0, w, hjx, hjy, ejx, ejy, h, wrap_succ (show k < 4611686018427387904 by omega), hnext]
   ·have hlt := cmp_of_high (ok_digs y) (ok_digs x) hl.symm hjy hd.symm h
    rw [val_digs, val_digs] at hlt
    have hn : ¬ (digs x)[j] < (digs y)[j] := by omega
    have hc : cmpN x y = 1 := by
     have : ¬ x < y := by omega
     simp [cmpN, hlt, this]
    simp [c_n_Cmp_l0, stCmp, e, w0, w, hjx, hjy, ejx, ejy, h, hn, r_n_Cmp, hc]
  ·have hxy : x = y := digs_inj (by simpa using hi)
   have hc : cmpN x y = 0 := by simp [cmpN, hxy]
   simp [c_n_Cmp_l0, stCmp, c_n_Cmp_k1, r_n_Cmp, hc]
 ·have hl' : ¬ (((digs x).length : Nat) : Int) = ((digs y).length : Int) := by omega
  by_cases hlt : (digs x).length < (digs y).length
  ·have hlt' : (((digs x).length : Nat) : Int) < ((digs y).length : Int) := by omega
   have hc : cmpN x y = -1 := by simp [cmpN, lt_of_len hlt]
   simp [hl', hlt', r_n_Cmp, hc]
  ·have hlt' : ¬ (((digs x).length : Nat) : Int) < ((digs y).length : Int) := by omega
   have h2 := lt_of_len (show (digs y).length < (digs x).length by omega)
   have hc : cmpN x y = 1 := by
    have : ¬ x < y := by omega
    simp [cmpN, h2, this]
   simp [hl', hlt', r_n_Cmp, hc]
theorem wsub (u v : Int) : IntKind.u64.wrap (IntKind.u64.wrap u - v) = IntKind.u64.wrap (u - v) := by
 rw [wu64, wu64, wu64]; omega
theorem w3264 (u : Int) : IntKind.u32.wrap (IntKind.u64.wrap u) = u % 4294967296 := by
 rw [wu64, IntKind.wrap_u32]; omega
theorem shr63 {u : Int} (h1 : -8589934592 ≤ u) (h2 : u < 8589934592) : (IntKind.u64.wrap u).fdiv (2 ^ min 63 IntKind.u64.bits) = if u < 0 then 1 else 0 := by
 have : min 63 IntKind.u64.bits = 63 := rfl
 rw [this, Int.fdiv_eq_ediv_of_nonneg _ (by decide), wu64]
 have : (2 : Int) ^ 63 = 9223372036854775808 := by decide
 rw [this]
 split <;> omega
def stSub (x y : Nat) (k : Nat) : St :=
 {env := [(0, nD x), (1, nD y), (6, .sl 20 1 0 (digs x).length), (7, u64v (bor x y k)), (22, iv (digs x).length), (23, iv k)], sto := [(20, .arr 1 (drows (fillN (digs x).length k (x - y))))] }
theorem sub_sound {m1 m2 : Am.Mode} {a b : List Nat} (ha : ok a) (hb : ok b) (hna : a.length < 1099511627776) (hnb : b.length < 1099511627776) :
  SoundCall Try.prog F_n_Sub [nl m1 a, nl m2 b] (if val a < val b then .tuple [.list 0 .full [], bv false] else .tuple [nD (val a - val b), bv true]) := by
 refine soundW' t_n_Sub (by simp) ?_
 simp [c_n_Sub]
 refine eCall_i (trim_sound (m := stm m1) ha hna) (by simp [strip_list]) (by simp) ?_
 simp
 refine eCall_i (trim_sound (m := stm m2) hb hnb) (by simp [strip_list]) (by simp) ?_
 simp
 have lx := digs_digs_norm ha
 have ly := digs_digs_norm hb
 have key := cmp_sound (m1 := .plain) (m2 := .plain) (ok_digs (val a)) (ok_digs (val b)) (by omega) (by omega)
 rw [val_digs, val_digs] at key
 refine eCall_i key (by simp) (by simp) ?_
 generalize val a = x at *
 generalize val b = y at *
 by_cases hlt : x < y
 ·simp [cmpN, hlt, r_n_Sub]
  exact AV.imp.refl
 ·have hle : y ≤ x := by omega
  have hly : (digs y).length ≤ (digs x).length := by
   apply Nat.le_of_not_lt
   intro h
   have := lt_of_len h
   omega
  have hS : x - y < B ^ (digs x).length := by
   have := digs_len_le.1 (Nat.le_refl (digs x).length)
   omega
  have hc : ¬ cmpN x y < 0 := by
   simp only [cmpN, hlt, if_false]
   split <;> omega
  simp [hc, hlt, eMk]
  refine ⟨by omega, by omega, ?_⟩
  refine awp_forW (stSub x y) (fun _ => True) (digs x).length (by simp [stSub, bor_zero, fillN_zero]) trivial (fun k hk _ => ?_) (fun _ => ?_)
  ·have e : (k : Int) < (digs x).length := by omega
   have hak := ok_get (ok_digs x) hk
   have hb1 := bor_le (x := x) (y := y) (k := k)
   have hfl := fillN_len (n := (digs x).length) (k := k) (S := x - y) (by omega)
   have hfk : k < (fillN (digs x).length k (x - y)).length := by omega
   have hset := fillN_set (n := (digs x).length) (k := k) (S := x - y) (by omega)
   have hsd := sub_digit (k := k) hle
   have hbs := bor_succ (x := x) (y := y) (k := k)
   rw [← get_digs hk] at hsd hbs
   obtain ⟨d, hd⟩ : ∃ d, (x - y) / B ^ k % B = d := ⟨_, rfl⟩
   rw [hd] at hset hsd
   have hset' : (drows (fillN (digs x).length k (x - y))).set k [uv d] = drows (fillN (digs x).length (k + 1) (x - y)) := by rw [drows_set, hset]
   have e1 : IntKind.u64.wrap (((digs x)[k] : Nat) : Int) = ((digs x)[k] : Nat) := w64 (by rw [B_eq] at hak; omega)
   rw [B_eq] at hak
   by_cases hkb : k < (digs y).length
   ·have e2 : (k : Int) < (digs y).length := by omega
    have hbk := ok_get (ok_digs y) hkb
    rw [B_eq] at hbk
    rw [← get_digs hkb] at hsd hbs
    have e3 : IntKind.u64.wrap (((digs y)[k] : Nat) : Int) = ((digs y)[k] : Nat) := w64 (by omega)
    have e5 := wsub (((digs x)[k] : Nat) - (bor x y k : Nat) : Int) ((digs y)[k] : Nat)
    have e6 := w3264 (((digs x)[k] : Nat) - (bor x y k : Nat) - ((digs y)[k] : Nat) : Int)
    have e7 := shr63 (u := (((digs x)[k] : Nat) - (bor x y k : Nat) - ((digs y)[k] : Nat) : Int)) (by omega) (by omega)
    have e8 : (((digs x)[k] : Nat) - (bor x y k : Nat) - ((digs y)[k] : Nat) : Int) % 4294967296 = (d : Int) := by omega
    rw [e8] at e6
    have e9 : (if (((digs x)[k] : Nat) - (bor x y k : Nat) - ((digs y)[k] : Nat) : Int) < 0 then (1 : Int) else 0) = (bor x y (k + 1) : Int) := by
     rw [hbs]
     split <;> split <;> omega
    rw [e9] at e7
    simp [c_n_Sub_l0, stSub, e, e2, hk, hkb, e1, e3, e5, e6, e7, eBin_shr, hfk, splice, hset', wrap_succ (show k < 4611686018427387904 by omega)]
   ·have e2 : ¬ (k : Int) < (digs y).length := by omega
    have hy0 : y / B ^ k % B = 0 := by rw [← getD_digs, List.getElem?_eq_none (by omega)]; rfl
    rw [hy0] at hsd hbs
    have e6 := w3264 (((digs x)[k] : Nat) - (bor x y k : Nat) : Int)
    have e7 := shr63 (u := (((digs x)[k] : Nat) - (bor x y k : Nat) : Int)) (by omega) (by omega)
    have e8 : (((digs x)[k] : Nat) - (bor x y k : Nat) : Int) % 4294967296 = (d : Int) := by omega
    rw [e8] at e6
    have e9 : (if (((digs x)[k] : Nat) - (bor x y k : Nat) : Int) < 0 then (1 : Int) else 0) = (bor x y (k + 1) : Int) := by
     rw [hbs]
     split <;> split <;> omega
    rw [e9] at e7
    simp [c_n_Sub_l0, stSub, e, e2, hk, e1, e6, e7, eBin_shr, hfk, splice, hset', wrap_succ (show k < 4611686018427387904 by omega)]
  ·have htk : (drows (digsN (digs x).length (x - y))).take (digs x).length = drows (digsN (digs x).length (x - y)) := List.take_of_length_le (by rw [List.length_map, digsN_len]; exact Nat.le_refl _)
   have hle2 : (digs x).length ≤ (digsN (digs x).length (x - y)).length := by rw [digsN_len]; exact Nat.le_refl _
   have key := trim_sound (m := .plain) (a := digsN (digs x).length (x - y)) ok_digsN (by rw [digsN_len]; omega)
   rw [val_digsN_lt hS] at key
   simp [c_n_Sub_l0, stSub, fillN_all, c_n_Sub_k1, eFreeze, frzE, htk, hle2]
   refine eCall_i key (by simp) (by simp) ?_
   simp [r_n_Sub]
   exact AV.imp.refl
end Go.Proofs.Ytdeifcfjkmfocaa

namespace Go.Dig
theorem val_set {o : List Nat} {j d : Nat} (hj : j < o.length) : val (o.set j d) + B ^ j * o[j] = val o + B ^ j * d := by
 induction o generalizing j with
 | nil => simp at hj
 | cons x o ih =>
  rcases j with _ | j
  ·simp [val]; omega
  ·simp only [List.length_cons, Nat.add_lt_add_iff_right] at hj
   have := ih hj
   simp only [List.set_cons_succ, val, List.getElem_cons_succ, Nat.pow_succ]
   have e1 : B ^ j * B * o[j] = B * (B ^ j * o[j]) := by rw [Nat.mul_comm (B ^ j) B, Nat.mul_assoc]
   have e2 : B ^ j * B * d = B * (B ^ j * d) := by rw [Nat.mul_comm (B ^ j) B, Nat.mul_assoc]
   rw [e1, e2]
   have e3 : B * (val (o.set j d) + B ^ j * o[j]) = B * (val o + B ^ j * d) := by rw [this]
   rw [Nat.mul_add, Nat.mul_add] at e3
   omega
def mulStep (a b : List Nat) (i k : Nat) (s : List Nat × Nat) : List Nat × Nat :=
 let t := a.getD i 0 * b.getD k 0 + s.1.getD (i + k) 0 + s.2
 (s.1.set (i + k) (t % B), t / B)
def mulO (a b : List Nat) : Nat → List Nat
 | 0 => List.replicate (a.length + b.length) 0
 | i + 1 => let s := itr (mulStep a b i) (mulO a b i, 0) b.length; s.1.set (i + b.length) s.2
def mulI (a b : List Nat) (i k : Nat) : List Nat × Nat := itr (mulStep a b i) (mulO a b i, 0) k
theorem mulI_zero {a b : List Nat} {i : Nat} : mulI a b i 0 = (mulO a b i, 0) := rfl
theorem mulO_succ {a b : List Nat} {i : Nat} : mulO a b (i + 1) = (mulI a b i b.length).1.set (i + b.length) (mulI a b i b.length).2 := rfl
theorem mulI_succ {a b : List Nat} {i k : Nat} : mulI a b i (k + 1) = mulStep a b i k (mulI a b i k) := rfl
structure MulInv (a b o : List Nat) (c i k : Nat) : Prop where
 len : o.length = a.length + b.length
 ok : ok o
 lt : c < B
 val : val o + B ^ (i + k) * c = val (a.take i) * val b + B ^ i * (a.getD i 0 * val (b.take k))
 zero : ∀ j (hj : j < o.length), i + b.length ≤ j → o[j] = 0
theorem ok_getD {a : List Nat} (h : ok a) (i : Nat) : a.getD i 0 < B := by
 rw [List.getD_eq_getElem?_getD]
 by_cases hi : i < a.length
 ·rw [List.getElem?_eq_getElem hi]; exact ok_get h hi
 ·rw [List.getElem?_eq_none (by omega)]; exact B_pos
theorem mul_bound {x y z w : Nat} (hx : x < B) (hy : y < B) (hz : z < B) (hw : w < B) : x * y + z + w < B * B := by
 have h : x * y ≤ (B - 1) * (B - 1) := Nat.mul_le_mul (by omega) (by omega)
 have : (B - 1) * (B - 1) + (B - 1) + (B - 1) < B * B := by decide
 omega
theorem mul_step {a b o : List Nat} {c i k : Nat} (ha : ok a) (hb : ok b) (hi : i < a.length) (hk : k < b.length) (h : MulInv a b o c i k) :
  MulInv a b (mulStep a b i k (o, c)).1 (mulStep a b i k (o, c)).2 i (k + 1) := by
 have hlen := h.len
 have hik : i + k < o.length := by omega
 obtain ⟨t, ht⟩ : ∃ t, t = a.getD i 0 * b.getD k 0 + o.getD (i + k) 0 + c := ⟨_, rfl⟩
 have hbd := mul_bound (ok_getD ha i) (ok_getD hb k) (ok_getD h.ok (i + k)) h.lt
 rw [← ht] at hbd
 simp only [mulStep, ← ht]
 constructor
 ·simp [hlen]
 ·exact ok_set h.ok (Nat.mod_lt _ B_pos)
 ·exact Nat.div_lt_of_lt_mul hbd
 ·have e1 := val_set (o := o) (j := i + k) (d := t % B) hik
  have e2 := Nat.mod_add_div t B
  have e3 := h.val
  have e4 := val_take_succ hk
  have e5 : o.getD (i + k) 0 = o[i + k] := by simp [hik]
  have e6 : b.getD k 0 = b[k] := by simp [hk]
  rw [e5, e6] at ht
  rw [e4]
  have e7 : B ^ (i + (k + 1)) * (t / B) = B ^ (i + k) * (B * (t / B)) := by rw [← Nat.add_assoc, Nat.pow_succ, Nat.mul_assoc]
  rw [e7]
  have e8 : B ^ (i + k) * (t % B) + B ^ (i + k) * (B * (t / B)) = B ^ (i + k) * t := by rw [← Nat.mul_add, e2]
  have e9 : B ^ (i + k) * t = B ^ (i + k) * (a.getD i 0 * b[k]) + B ^ (i + k) * o[i + k] + B ^ (i + k) * c := by rw [ht, Nat.mul_add, Nat.mul_add]
  have e10 : B ^ i * (a.getD i 0 * (val (b.take k) + B ^ k * b[k])) = B ^ i * (a.getD i 0 * val (b.take k)) + B ^ (i + k) * (a.getD i 0 * b[k]) := by
   rw [Nat.mul_add, Nat.mul_add, Nat.pow_add]
   congr 1
   rw [Nat.mul_assoc]
   congr 1
   rw [Nat.mul_left_comm]
  rw [e10]
  omega
 ·intro j hj hle
  simp only [List.length_set] at hj
  rw [List.getElem_set_ne (by omega)]
  exact h.zero j hj hle
theorem mul_inner {a b : List Nat} {i : Nat} (ha : ok a) (hb : ok b) (hi : i < a.length) (h : MulInv a b (mulO a b i) 0 i 0) : ∀ k, k ≤ b.length → MulInv a b (mulI a b i k).1 (mulI a b i k).2 i k
 | 0, _ => h
 | k + 1, hk => by rw [mulI_succ]; exact mul_step ha hb hi (by omega) (mul_inner ha hb hi h k (by omega))
theorem mul_outer {a b : List Nat} (ha : ok a) (hb : ok b) : ∀ i, i ≤ a.length → MulInv a b (mulO a b i) 0 i 0
 | 0, _ => ⟨by simp [mulO], ok_rep _, B_pos, by simp [mulO, val_rep, val], fun j hj _ => by simp [mulO]⟩
 | i + 1, hi => by
  have ih := mul_outer ha hb i (by omega)
  have h := mul_inner ha hb (by omega) ih b.length (Nat.le_refl _)
  have hlen := h.len
  have hib : i + b.length < (mulI a b i b.length).1.length := by omega
  rw [mulO_succ]
  have hz := h.zero (i + b.length) hib (Nat.le_refl _)
  have hv := val_set (d := (mulI a b i b.length).2) hib
  have h3 := h.val
  rw [hz, Nat.mul_zero, Nat.add_zero] at hv
  refine ⟨by simp [hlen], ok_set h.ok h.lt, B_pos, ?_, ?_⟩
  ·rw [hv, h3, List.take_of_length_le (Nat.le_refl b.length)]
   have : val (a.take (i + 1)) = val (a.take i) + B ^ i * a.getD i 0 := by
    rw [val_take_succ (by omega)]; simp [show i < a.length by omega]
   rw [this, Nat.add_mul, Nat.mul_assoc]
   simp [val]
  ·intro j hj hle
   simp only [List.length_set] at hj
   rw [List.getElem_set_ne (by omega)]
   exact h.zero j hj (by omega)
theorem mul_val {a b : List Nat} (ha : ok a) (hb : ok b) : ok (mulO a b a.length) ∧ (mulO a b a.length).length = a.length + b.length ∧ val (mulO a b a.length) = val a * val b := by
 have h := mul_outer ha hb a.length (Nat.le_refl _)
 refine ⟨h.ok, h.len, ?_⟩
 have := h.val
 simp [val] at this
 exact this
def smallQ (n D i : Nat) : List Nat := List.replicate (n - i) 0 ++ (digsN n D).drop (n - i)
theorem smallQ_zero {n D : Nat} : smallQ n D 0 = List.replicate n 0 := by
 simp [smallQ, digsN_len]
theorem smallQ_all {n D : Nat} : smallQ n D n = digsN n D := by simp [smallQ]
theorem smallQ_len {n D i : Nat} (_h : i ≤ n) : (smallQ n D i).length = n := by simp [smallQ, digsN_len]; try omega
theorem smallQ_set {n D i : Nat} (h : i < n) : (smallQ n D i).set (n - 1 - i) (D / B ^ (n - 1 - i) % B) = smallQ n D (i + 1) := by
 obtain ⟨j, hj⟩ : ∃ j, n - 1 - i = j := ⟨_, rfl⟩
 have h1 : n - i = j + 1 := by omega
 have h2 : n - (i + 1) = j := by omega
 unfold smallQ
 rw [hj, h1, h2, List.replicate_succ']
 rw [List.append_assoc, List.set_append_right _ _ (by simp)]
 simp only [List.length_replicate, Nat.sub_self]
 have hlt : j < (digsN n D).length := by rw [digsN_len]; omega
 rw [List.drop_eq_getElem_cons hlt, digsN_get]
 rfl
theorem small_step {A d : Nat} (hd : 0 < d) : (A / B % d * B + A % B) / d = A / d % B ∧ (A / B % d * B + A % B) % d = A % d ∧ A / B % d * B + A % B < d * B := by
 have hA := Nat.div_add_mod A B
 have h1 := Nat.div_add_mod (A / B) d
 have hm := Nat.mod_lt (A / B) hd
 have hb := Nat.mod_lt A B_pos
 have hlt : A / B % d * B + A % B < d * B := by
  have : (A / B % d + 1) * B ≤ d * B := Nat.mul_le_mul_right _ hm
  rw [Nat.add_mul] at this
  omega
 have key : A = d * (A / B / d * B) + (A / B % d * B + A % B) := by
  have e : B * (A / B) = B * (d * (A / B / d) + A / B % d) := by rw [h1]
  rw [Nat.mul_add] at e
  have e2 : d * (A / B / d * B) = B * (d * (A / B / d)) := by rw [← Nat.mul_assoc, Nat.mul_comm]
  rw [e2, Nat.mul_comm (A / B % d)]
  omega
 generalize A / B % d * B + A % B = t at *
 generalize A / B / d = g at *
 have hq : t / d < B := Nat.div_lt_of_lt_mul hlt
 refine ⟨?_, ?_, hlt⟩
 ·rw [key, Nat.mul_add_div hd, Nat.add_comm (g * B) _, Nat.add_mul_mod_self_right, Nat.mod_eq_of_lt hq]
 ·rw [key, Nat.mul_add_mod]
end Go.Dig

namespace Go.Proofs.Ytdeifcfjkmfocaa
open Go Go.Am Go.Dig
theorem fromUint_sound {x : Nat} (h : x < 18446744073709551616) : SoundCall Try.prog F_n_FromUint [u64v x] (nD x) := by
 have f2 : (x : Int).fdiv (2 ^ min 32 IntKind.u64.bits) = ((x / B : Nat) : Int) := shr32 x
 have f1 := w32 x
 have f3 := w32 (x / B)
 obtain ⟨d0, h0⟩ : ∃ d, x % B = d := ⟨_, rfl⟩
 obtain ⟨q, hq⟩ : ∃ q, x / B = q := ⟨_, rfl⟩
 obtain ⟨d1, h1⟩ : ∃ d, q % B = d := ⟨_, rfl⟩
 rw [hq] at f2 f3
 rw [h0] at f1
 rw [h1] at f3
 have hok : ok [d0, d1] := by
  intro d hd
  simp at hd
  rcases hd with rfl | rfl
  ·rw [← h0]; exact Nat.mod_lt _ B_pos
  ·rw [← h1]; exact Nat.mod_lt _ B_pos
 have hv : val [d0, d1] = x := by
  have e1 := Nat.mod_add_div x B
  have hq2 : q < B := by rw [← hq, B_eq]; omega
  rw [Nat.mod_eq_of_lt hq2] at h1
  simp only [val, Nat.mul_zero, Nat.add_zero]
  rw [← h1, ← h0, ← hq]
  exact e1
 have key := trim_sound (m := .full) (a := [d0, d1]) hok (by simp)
 rw [hv] at key
 refine sound' t_n_FromUint (by simp) ?_
 simp [c_n_FromUint, eBin_shr, f1, f2, f3, rowsA]
 refine eCall_i key (by simp) (by simp) ?_
 simp [r_n_FromUint]
def stMulI (m1 m2 : Am.Mode) (a b : List Nat) (i k : Nat) : St :=
 {env := [(0, nl m1 a), (1, nl m2 b), (5, .sl 15 1 0 (a.length + b.length)), (17, iv a.length), (18, iv i), (6, iv i), (7, u64v (mulI a b i k).2), (22, iv b.length), (23, iv k)], sto := [(15, .arr 1 (drows (mulI a b i k).1))] }
def stMulO (m1 m2 : Am.Mode) (a b : List Nat) (i : Nat) : St :=
 {env := [(0, nl m1 a), (1, nl m2 b), (5, .sl 15 1 0 (a.length + b.length)), (17, iv a.length), (18, iv i)], sto := [(15, .arr 1 (drows (mulO a b i)))] }
theorem mul_sound {m1 m2 : Am.Mode} {a b : List Nat} (ha : ok a) (hb : ok b) (hna : a.length < 1099511627776) (hnb : b.length < 1099511627776) (hs : a.length + b.length < 1099511627776) (f1 : stm m1 = m1) (f2 : stm m2 = m2) :
  SoundCall Try.prog F_n_Mul [nl m1 a, nl m2 b] (nD (val a * val b)) := by
 refine soundW' t_n_Mul (by simp) ?_
 have w : IntKind.i64.wrap ((a.length : Int) + b.length) = (a.length : Int) + b.length := wrap64 (by omega) (by omega)
 have e1 : ((a.length : Int) + b.length).toNat = a.length + b.length := by omega
 simp [c_n_Mul, w, eMk, e1]
 refine ⟨by omega, by omega, by omega, ?_⟩
 refine awp_forW (stMulO m1 m2 a b) (fun _ => True) a.length (by simp [stMulO, mulO]) trivial (fun i hi _ => ?_) (fun _ => ?_)
 ·have hO := mul_outer ha hb i (by omega)
  have ei : (i : Int) < a.length := by omega
  simp [c_n_Mul_l3, stMulO, ei]
  refine awp_forW (stMulI m1 m2 a b i) (fun _ => True) b.length (by simp [stMulI, mulI_zero]) trivial (fun k hk _ => ?_) (fun _ => ?_)
  ·have hI := mul_inner ha hb hi hO k (by omega)
   have ek : (k : Int) < b.length := by omega
   have hst := mulI_succ (a := a) (b := b) (i := i) (k := k)
   have hlen := hI.len
   have hik : i + k < (mulI a b i k).1.length := by omega
   have eik : ((i : Int) + k) < (mulI a b i k).1.length := by omega
   have wik : IntKind.i64.wrap ((i : Int) + k) = ((i + k : Nat) : Int) := by rw [wrap64] <;> omega
   have hbd := mul_bound (ok_getD ha i) (ok_getD hb k) (ok_getD hI.ok (i + k)) hI.lt
   have g1 := ok_get ha hi
   have g2 := ok_get hb hk
   have g3 := ok_get hI.ok hik
   have g4 := hI.lt
   simp only [mulStep] at hst
   have q1 : a.getD i 0 = a[i] := by simp [hi]
   have q2 : b.getD k 0 = b[k] := by simp [hk]
   have q3 : (mulI a b i k).1.getD (i + k) 0 = (mulI a b i k).1[i + k] := by simp [hik]
   rw [q1, q2, q3] at hst hbd
   obtain ⟨t, ht⟩ : ∃ t, a[i] * b[k] + (mulI a b i k).1[i + k] + (mulI a b i k).2 = t := ⟨_, rfl⟩
   obtain ⟨p, hp⟩ : ∃ p, a[i] * b[k] = p := ⟨_, rfl⟩
   rw [ht] at hst hbd
   rw [hp] at ht
   obtain ⟨d, hd⟩ : ∃ d, t % B = d := ⟨_, rfl⟩
   obtain ⟨q, hq⟩ : ∃ q, t / B = q := ⟨_, rfl⟩
   rw [hd, hq] at hst
   have f1 : IntKind.u32.wrap (t : Int) = (d : Int) := by rw [w32, hd]
   have f2 : (t : Int).fdiv (2 ^ min 32 IntKind.u64.bits) = (q : Int) := by rw [shr32, hq]
   have hBB : B * B = 18446744073709551616 := by decide
   rw [hBB] at hbd
   rw [B_eq] at g1 g2 g3 g4
   have u1 : IntKind.u64.wrap ((a[i] : Nat) : Int) = (a[i] : Nat) := w64 (by omega)
   have u2 : IntKind.u64.wrap ((b[k] : Nat) : Int) = (b[k] : Nat) := w64 (by omega)
   have u3 : IntKind.u64.wrap (((mulI a b i k).1[i + k] : Nat) : Int) = ((mulI a b i k).1[i + k] : Nat) := w64 (by omega)
   have u4 : IntKind.u64.wrap ((a[i] : Int) * (b[k] : Int)) = (p : Int) := by
    rw [show (a[i] : Int) * (b[k] : Int) = ((a[i] * b[k] : Nat) : Int) by simp, hp]; exact w64 (by omega)
   have u5 : IntKind.u64.wrap ((p : Int) + ((mulI a b i k).1[i + k] : Nat)) = (p : Int) + ((mulI a b i k).1[i + k] : Nat) := by rw [w64'] <;> omega
   have u6 : IntKind.u64.wrap ((p : Int) + ((mulI a b i k).1[i + k] : Nat) + ((mulI a b i k).2 : Nat)) = (t : Int) := by rw [w64'] <;> omega
   have hset : (drows (mulI a b i k).1).set (i + k) [uv d] = drows (mulI a b i (k + 1)).1 := by rw [drows_set, hst]
   have hq2 : (mulI a b i (k + 1)).2 = q := by rw [hst]
   have en : ((i : Int) + k).toNat = i + k := by omega
   have e0 : (0 : Int) ≤ (i : Int) + k := by omega
   have elt : (i : Int) + k < (a.length : Int) + b.length := by omega
   simp only [Int.natCast_add] at wik
   simp [c_n_Mul_l0, stMulI, ek, hi, hk, ei, wik, en, e0, elt, hik, u1, u2, u3, u4, u5, u6, eBin_shr, splice, f1, f2, hset, hq2, wrap_succ (show k < 4611686018427387904 by omega)]
  ·have hI := mul_inner ha hb hi hO b.length (Nat.le_refl _)
   have hlen := hI.len
   have hik : i + b.length < (mulI a b i b.length).1.length := by omega
   have wik : IntKind.i64.wrap ((i : Int) + b.length) = (i : Int) + b.length := by rw [wrap64] <;> omega
   have en : ((i : Int) + b.length).toNat = i + b.length := by omega
   have e0 : (0 : Int) ≤ (i : Int) + b.length := by omega
   have hset : (drows (mulI a b i b.length).1).set (i + b.length) [uv (mulI a b i b.length).2] = drows (mulO a b (i + 1)) := by rw [mulO_succ]; exact drows_set
   have g4 := hI.lt
   rw [B_eq] at g4
   have f1 : IntKind.u32.wrap ((mulI a b i b.length).2 : Int) = ((mulI a b i b.length).2 : Int) := IntWalk.u32_in _ (by omega)
   simp [c_n_Mul_l0, stMulI, stMulO, c_n_Mul_k1, c_n_Mul_k2, wik, en, e0, hik, f1, splice, hset, ei, wrap_succ (show i < 4611686018427387904 by omega)]
 ·obtain ⟨h1, h2, h3⟩ := mul_val ha hb
  have htk : (drows (mulO a b a.length)).take (a.length + b.length) = drows (mulO a b a.length) := List.take_of_length_le (by rw [List.length_map, h2]; exact Nat.le_refl _)
  have hle2 : a.length + b.length ≤ (mulO a b a.length).length := by rw [h2]; exact Nat.le_refl _
  have key := trim_sound (m := .plain) h1 (by rw [h2]; omega)
  rw [h3] at key
  simp [c_n_Mul_l3, stMulO, c_n_Mul_k4, eFreeze, frz_list f1, frz_list f2, frzE, htk, hle2]
  refine eCall_i key (by simp) (by simp) ?_
  simp [r_n_Mul]
  exact AV.imp.refl
end Go.Proofs.Ytdeifcfjkmfocaa

namespace Go.Proofs.Ytdeifcfjkmfocaa
open Go Go.Am Go.Dig
theorem or_hi {r a : Nat} (hr : r < B) (ha : a < B) : bitI .or .u64 ((r * B : Nat) : Int) (a : Int) = ((r * B + a : Nat) : Int) := by
 rw [B_eq] at *
 have hbits : IntKind.u64.bits = 64 := rfl
 simp only [bitI]
 rw [BitVec.toNat_or]
 have e1 : (BitVec.ofInt IntKind.u64.bits ((r * 4294967296 : Nat) : Int)).toNat = r * 4294967296 := by rw [hbits, BitVec.toNat_ofInt]; omega
 have e2 : (BitVec.ofInt IntKind.u64.bits (a : Int)).toNat = a := by rw [hbits, BitVec.toNat_ofInt]; omega
 rw [e1, e2]
 have h3 := Nat.shiftLeft_add_eq_or_of_lt (i := 32) (b := a) (by omega) r
 rw [Nat.shiftLeft_eq] at h3
 have : (2 : Nat) ^ 32 = 4294967296 := by decide
 rw [this] at h3
 rw [← h3]
 exact w64 (by omega)
theorem shl32 {r : Nat} (hr : r < B) : IntKind.u64.wrap ((r : Int) * 2 ^ min 32 IntKind.u64.bits) = ((r * B : Nat) : Int) := by
 have : min 32 IntKind.u64.bits = 32 := rfl
 rw [this]
 have : (2 : Int) ^ 32 = 4294967296 := by decide
 rw [this]
 rw [B_eq] at *
 rw [w64'] <;> omega
def stSm (m : Am.Mode) (a : List Nat) (d i : Nat) : St :=
 {env := [(0, nl m a), (1, uv d), (6, .sl 13 1 0 a.length), (7, u64v (val a / B ^ (a.length - i) % d)), (15, iv a.length), (16, iv i)], sto := [(13, .arr 1 (drows (smallQ a.length (val a / d) i)))] }
theorem small_sound {m : Am.Mode} {a : List Nat} {d : Nat} (ha : ok a) (hn : a.length < 1099511627776) (h0 : 0 < d) (hd : d < B) (f1 : stm m = m) :
  SoundCall Try.prog F_n_small [nl m a, uv d] (.tuple [nD (val a / d), uv (val a % d)]) := by
 refine soundW' t_n_small (by simp) ?_
 simp [c_n_small, eMk]
 refine ⟨by omega, by omega, ?_⟩
 have hz : val a / B ^ a.length % d = 0 := by rw [Nat.div_eq_of_lt (val_lt ha)]; exact Nat.zero_mod _
 refine awp_forW (stSm m a d) (fun _ => True) a.length (by simp [stSm, smallQ_zero, hz]) trivial (fun i hi _ => ?_) (fun _ => ?_)
 ·have e : (i : Int) < a.length := by omega
  obtain ⟨k, hk⟩ : ∃ k, a.length - 1 - i = k := ⟨_, rfl⟩
  have hk1 : a.length - i = k + 1 := by omega
  have hk2 : a.length - (i + 1) = k := by omega
  have hka : k < a.length := by omega
  have w0 : IntKind.i64.wrap ((a.length : Int) - 1) = (a.length : Int) - 1 := by rw [wrap64] <;> omega
  have w1 : IntKind.i64.wrap ((a.length : Int) - 1 - i) = (k : Int) := by rw [wrap64] <;> omega
  obtain ⟨s1, s2, s3⟩ := small_step (A := val a / B ^ k) h0
  rw [← get_val ha hka, Nat.div_div_eq_div_mul, ← Nat.pow_succ] at s1 s2 s3
  obtain ⟨r, hr⟩ : ∃ r, val a / B ^ (k + 1) % d = r := ⟨_, rfl⟩
  have hrd : r < d := by rw [← hr]; exact Nat.mod_lt _ h0
  have hrB : r < B := by omega
  have hak := ok_get ha hka
  have hor := or_hi hrB hak
  have hsh := shl32 hrB
  rw [Nat.succ_eq_add_one, hr] at s1 s2 s3
  obtain ⟨t, ht⟩ : ∃ t, r * B + a[k] = t := ⟨_, rfl⟩
  obtain ⟨rb, hrb⟩ : ∃ rb, r * B = rb := ⟨_, rfl⟩
  rw [ht] at hor s1 s2 s3
  rw [hrb] at hor hsh
  have hset := smallQ_set (n := a.length) (D := val a / d) hi
  rw [hk, Nat.div_div_eq_div_mul, Nat.mul_comm d, ← Nat.div_div_eq_div_mul, ← s1] at hset
  obtain ⟨q, hq⟩ : ∃ q, t / d = q := ⟨_, rfl⟩
  obtain ⟨r2, hr2⟩ : ∃ r2, t % d = r2 := ⟨_, rfl⟩
  rw [hq] at hset s1
  rw [hr2] at s2
  have hqB : q < B := by rw [s1]; exact Nat.mod_lt _ B_pos
  have hset' : (drows (smallQ a.length (val a / d) i)).set k [uv q] = drows (smallQ a.length (val a / d) (i + 1)) := by rw [drows_set, hset]
  have htB : t < 18446744073709551616 := by
   have : d * B ≤ B * B := Nat.mul_le_mul_right _ (by omega)
   have hBB : B * B = 18446744073709551616 := by decide
   omega
  have hfl := smallQ_len (D := val a / d) (show i ≤ a.length by omega)
  have hkl : k < (smallQ a.length (val a / d) i).length := by omega
  rw [B_eq] at hak hqB hd
  have u1 : IntKind.u64.wrap ((a[k] : Nat) : Int) = (a[k] : Nat) := w64 (by omega)
  have u2 : IntKind.u64.wrap (d : Int) = d := w64 (by omega)
  have hd0 : ¬ (d : Int) = 0 := by omega
  have hd0n : ¬ d = 0 := by omega
  have u3 : IntKind.u64.wrap ((t : Int).tdiv d) = (q : Int) := by
   rw [show (t : Int).tdiv d = ((t / d : Nat) : Int) from rfl, hq]; exact w64 (by omega)
  have u3' : IntKind.u64.wrap ((t : Int) / d) = (q : Int) := by
   rw [show (t : Int) / d = ((t / d : Nat) : Int) by simp, hq]; exact w64 (by omega)
  have u4 : (t : Int).tmod d = (r2 : Int) := by rw [show (t : Int).tmod d = ((t % d : Nat) : Int) from rfl, hr2]
  have u5 : IntKind.u32.wrap (q : Int) = q := IntWalk.u32_in _ (by omega)
  simp [c_n_small_l0, stSm, e, w0, w1, hka, hkl, hk1, hk2, hr, eBin_shl, hsh, u1, hor, u2, eBin_quo, eBin_rem, hd0n, u3', u4, u5, splice, hset', s2, wrap_succ (show i < 4611686018427387904 by omega)]
 ·have htk : (drows (digsN a.length (val a / d))).take a.length = drows (digsN a.length (val a / d)) := List.take_of_length_le (by rw [List.length_map, digsN_len]; exact Nat.le_refl _)
  have hle2 : a.length ≤ (digsN a.length (val a / d)).length := by rw [digsN_len]; exact Nat.le_refl _
  have key := trim_sound (m := .plain) (a := digsN a.length (val a / d)) ok_digsN (by rw [digsN_len]; omega)
  have hlt : val a / d < B ^ a.length := Nat.lt_of_le_of_lt (Nat.div_le_self _ _) (val_lt ha)
  rw [val_digsN_lt hlt] at key
  have hr : val a % d < d := Nat.mod_lt _ h0
  have u5 : IntKind.u32.wrap ((val a % d : Nat) : Int) = (val a % d : Nat) := IntWalk.u32_in _ (by rw [B_eq] at hd; omega)
  obtain ⟨r, hr2⟩ : ∃ r, val a % d = r := ⟨_, rfl⟩
  have hr3 : val a / B ^ (a.length - a.length) % d = r := by simp [hr2]
  rw [hr2] at u5 ⊢
  simp [c_n_small_l0, stSm, smallQ_all, c_n_small_k1, eFreeze, frz_list f1, frzE, htk, hle2, hr2]
  refine eCall_i key (by simp) (by simp) ?_
  simp [r_n_small, u5]
  exact AV.imp.refl
end Go.Proofs.Ytdeifcfjkmfocaa

namespace Go.Dig
def qhat (w u2 v1 v2 : Nat) : Nat := min (B - 1) ((w * B + u2) / (v1 * B + v2))
def tooBig (g r u2 v2 : Nat) : Prop := B ≤ g ∨ r * B + u2 < g * v2
theorem qhat_le {w u2 v1 v2 : Nat} (h1 : 0 < v1) (hu : u2 < B) : qhat w u2 v1 v2 ≤ w / v1 := by
 unfold qhat
 refine Nat.le_trans (Nat.min_le_right _ _) ?_
 rw [Nat.le_div_iff_mul_le h1]
 have h := Nat.div_mul_le_self (w * B + u2) (v1 * B + v2)
 generalize (w * B + u2) / (v1 * B + v2) = q at *
 rw [Nat.mul_add, ← Nat.mul_assoc] at h
 apply Nat.le_of_not_lt
 intro hlt
 have : (w + 1) * B ≤ q * v1 * B := Nat.mul_le_mul_right _ hlt
 rw [Nat.add_mul] at this
 omega
theorem tooBig_iff {g r w u2 v1 v2 : Nat} (h1 : 0 < v1) (hr : w = g * v1 + r) : tooBig g r u2 v2 ↔ qhat w u2 v1 v2 < g := by
 have hV : 0 < v1 * B + v2 := by have := Nat.mul_pos h1 B_pos; omega
 have key : g ≤ (w * B + u2) / (v1 * B + v2) ↔ g * v2 ≤ r * B + u2 := by
  rw [Nat.le_div_iff_mul_le hV, hr, Nat.mul_add, Nat.add_mul, ← Nat.mul_assoc]
  omega
 unfold tooBig qhat
 have hB := B_pos
 constructor
 ·rintro (h | h)
  ·exact Nat.lt_of_le_of_lt (Nat.min_le_left _ _) (by omega)
  ·exact Nat.lt_of_le_of_lt (Nat.min_le_right _ _) (by omega)
 ·intro h
  apply Classical.byContradiction
  intro hno
  have h2 : g ≤ B - 1 := by
   apply Nat.le_of_not_lt; intro h3; exact hno (.inl (by omega))
  have h3 : g ≤ (w * B + u2) / (v1 * B + v2) := key.2 (by
   apply Nat.le_of_not_lt; intro h4; exact hno (.inr h4))
  have := Nat.le_min.2 ⟨h2, h3⟩
  omega
theorem break_ok {g r w u2 v1 v2 : Nat} (_h1 : 0 < v1) (hr : w = g * v1 + r) (hw : w ≤ v1 * B + (B - 1)) (hv2 : v2 < B) (hrB : B ≤ r) : ¬ tooBig g r u2 v2 := by
 have hg : g ≤ B - 1 := by
  apply Nat.le_of_not_lt
  intro h
  have : B * v1 ≤ g * v1 := Nat.mul_le_mul_right _ (by omega)
  rw [Nat.mul_comm v1] at hw
  have := B_pos
  omega
 rintro (h | h)
 ·have := B_pos; omega
 ·have h2 : g * v2 ≤ (B - 1) * (B - 1) := Nat.mul_le_mul hg (by omega)
  have h3 : B * B ≤ r * B := Nat.mul_le_mul_right _ hrB
  have h4 : (B - 1) * (B - 1) < B * B := by decide
  omega
theorem qhat_close {w u2 v1 v2 U V P Q R : Nat} (h1 : 0 < v1) (hu2 : u2 < B) (hv2 : v2 < B) (hU : U = (w * B + u2) * P + R) (hR : R < P) (hV : V = (v1 * B + v2) * P + Q) (hQ : Q < P) (hUV : U < V * B) :
  U / V ≤ qhat w u2 v1 v2 ∧ qhat w u2 v1 v2 ≤ U / V + 1 := by
 have hP : 0 < P := by omega
 have hV2 : 0 < v1 * B + v2 := by have := Nat.mul_pos h1 B_pos; omega
 have hVpos : 0 < V := by have := Nat.mul_pos hV2 hP; omega
 constructor
 ·unfold qhat
  refine Nat.le_min.2 ⟨?_, ?_⟩
  ·have : U / V < B := Nat.div_lt_of_lt_mul hUV
   omega
  ·rw [Nat.le_div_iff_mul_le hV2]
   have h := Nat.div_mul_le_self U V
   generalize U / V = q at *
   have h2 : q * ((v1 * B + v2) * P) ≤ q * V := Nat.mul_le_mul_left _ (by omega)
   rw [← Nat.mul_assoc] at h2
   apply Nat.le_of_not_lt
   intro hlt
   have : (w * B + u2 + 1) * P ≤ q * (v1 * B + v2) * P := Nat.mul_le_mul_right _ hlt
   rw [Nat.add_mul] at this
   omega
 ·have hq1 : qhat w u2 v1 v2 ≤ B - 1 := Nat.min_le_left _ _
  have hq2 : qhat w u2 v1 v2 * (v1 * B + v2) ≤ w * B + u2 := by
   have : qhat w u2 v1 v2 ≤ (w * B + u2) / (v1 * B + v2) := Nat.min_le_right _ _
   exact Nat.le_trans (Nat.mul_le_mul_right _ this) (Nat.div_mul_le_self _ _)
  generalize qhat w u2 v1 v2 = g at *
  rcases g with _ | g
  ·exact Nat.zero_le _
  ·have : g ≤ U / V := by
    rw [Nat.le_div_iff_mul_le hVpos]
    -- (g + 1) V2 P ≤ U, and V < (V2 + 1) P, g + 1 ≤ B - 1 ≤ v1 B
    have e1 : (g + 1) * (v1 * B + v2) * P ≤ (w * B + u2) * P := Nat.mul_le_mul_right _ hq2
    have e2 : g * V ≤ g * ((v1 * B + v2) * P + P) := Nat.mul_le_mul_left _ (by omega)
    have e3 : g * P ≤ (v1 * B + v2) * P := Nat.mul_le_mul_right _ (by
     have : 1 * B ≤ v1 * B := Nat.mul_le_mul_right _ h1
     omega)
    rw [Nat.add_mul, Nat.one_mul, Nat.add_mul] at e1
    rw [Nat.mul_add, ← Nat.mul_assoc] at e2
    omega
   omega
theorem mul_col {g : Nat} {v : List Nat} {k : Nat} (hk : k < v.length) : (g * val v) / B ^ k % B = (g * v[k] + g * val (v.take k) / B ^ k) % B ∧ g * val (v.take (k + 1)) / B ^ (k + 1) = (g * v[k] + g * val (v.take k) / B ^ k) / B := by
 have e1 := val_take_succ hk
 have e2 := val_split v (k + 1)
 rw [Nat.min_eq_left (by omega)] at e2
 constructor
 ·rw [e2, e1, Nat.mul_add, Nat.mul_add, Nat.mul_left_comm g (B ^ k), Nat.mul_left_comm g (B ^ (k + 1)), col_digit, Nat.add_comm]
 ·rw [e1, Nat.mul_add, Nat.mul_left_comm g (B ^ k), col_carry, Nat.add_comm]
theorem mul_carry_lt {g : Nat} {v : List Nat} (hv : ok v) (hg : g < B) (k : Nat) : g * val (v.take k) / B ^ k < B := by
 apply Nat.div_lt_of_lt_mul
 have h1 := val_lt_of (ok_take hv k) (n := k) (by simp; omega)
 have : g * val (v.take k) ≤ B * val (v.take k) := Nat.mul_le_mul_right _ (by omega)
 have h2 : B * val (v.take k) < B * B ^ k := Nat.mul_lt_mul_of_pos_left h1 B_pos
 rw [Nat.mul_comm (B ^ k)]
 omega
def mixD (Z : Nat) (u : List Nat) (k : Nat) : List Nat := digsN k Z ++ u.drop k
theorem mixD_zero {Z : Nat} {u : List Nat} : mixD Z u 0 = u := by simp [mixD, digsN]
theorem mixD_len {Z : Nat} {u : List Nat} {k : Nat} (h : k ≤ u.length) : (mixD Z u k).length = u.length := by simp [mixD, digsN_len]; omega
theorem mixD_get {Z : Nat} {u : List Nat} {k : Nat} (h : k < u.length) : (mixD Z u k)[k]'(by rw [mixD_len (by omega)]; exact h) = u[k] := by
 unfold mixD
 rw [List.getElem_append_right (by rw [digsN_len]; exact Nat.le_refl _)]
 simp [digsN_len]
theorem mixD_set {Z : Nat} {u : List Nat} {k : Nat} (h : k < u.length) : (mixD Z u k).set k (Z / B ^ k % B) = mixD Z u (k + 1) := by
 unfold mixD
 rw [List.set_append_right _ _ (by rw [digsN_len]; exact Nat.le_refl _), digsN_len, Nat.sub_self, List.drop_eq_getElem_cons h, List.set_cons_zero, digsN_succ]
 simp
theorem mixD_all {Z : Nat} {u : List Nat} {n : Nat} (h : u.length = n) : mixD Z u n = digsN n Z := by
 unfold mixD; rw [List.drop_of_length_le (by omega)]; simp
theorem digsN_mod {n x : Nat} : digsN n (x + B ^ n) = digsN n x := by
 refine val_inj ok_digsN ok_digsN (by rw [digsN_len, digsN_len]) ?_
 rw [val_digsN, val_digsN, Nat.add_mod_right]
theorem digit_add {U n k : Nat} (hk : k < n) : (U + B ^ n) / B ^ k % B = U / B ^ k % B := by
 have h := digsN_mod (n := n) (x := U)
 have h1 : k < (digsN n (U + B ^ n)).length := by rw [digsN_len]; exact hk
 have h2 : k < (digsN n U).length := by rw [digsN_len]; exact hk
 rw [← digsN_get h1, ← digsN_get h2]
 simp only [h]
def seg (W : List Nat) (off : Nat) (X : List Nat) : List Nat := W.take off ++ X ++ W.drop (off + X.length)
theorem seg_len {W X : List Nat} {off : Nat} (h : off + X.length ≤ W.length) : (seg W off X).length = W.length := by simp [seg]; omega
theorem seg_get {W X : List Nat} {off i : Nat} (h : off + X.length ≤ W.length) (hi : i < X.length) : (seg W off X)[off + i]'(by rw [seg_len h]; omega) = X[i] := by
 unfold seg
 rw [List.getElem_append_left (by simp; omega), List.getElem_append_right (by simp; omega)]
 congr 1
 simp; omega
theorem seg_set {W X : List Nat} {off i d : Nat} (h : off + X.length ≤ W.length) (hi : i < X.length) : (seg W off X).set (off + i) d = seg W off (X.set i d) := by
 unfold seg
 rw [List.length_set, List.set_append_left _ _ (by simp; omega), List.set_append_right _ _ (by simp; omega)]
 have : off + i - (List.take off W).length = i := by simp; omega
 rw [this]
theorem seg_self {W : List Nat} {off n : Nat} (h : off + n ≤ W.length) : seg W off ((W.drop off).take n) = W := by
 unfold seg
 have : ((W.drop off).take n).length = n := by simp; omega
 rw [this]
 rw [List.append_assoc, ← List.drop_drop, List.take_append_drop, List.take_append_drop]
end Go.Dig

namespace Go.Dig
theorem shift_step {N L i t : Nat} (hL : L < B ^ (i + 1)) (hi : i + 1 < N) (hlt : L + B ^ i * t < B ^ N) (ht : (L / B ^ i + t) / B < B) :
  ((digsN N L).set i ((L / B ^ i + t) % B)).set (i + 1) ((L / B ^ i + t) / B) = digsN N (L + B ^ i * t) := by
 have hLN : L < B ^ N := Nat.lt_of_lt_of_le hL (Nat.pow_le_pow_right B_pos (by omega))
 have hlen := digsN_len (n := N) (x := L)
 have ho : ok (digsN N L) := ok_digsN
 have hd1 : (L / B ^ i + t) % B < B := Nat.mod_lt _ B_pos
 refine val_inj (ok_set (ok_set ho hd1) ht) ok_digsN (by simp [digsN_len]) ?_
 rw [val_digsN_lt hlt]
 have e1 := val_set (o := digsN N L) (j := i) (d := (L / B ^ i + t) % B) (by omega)
 have e2 := val_set (o := (digsN N L).set i ((L / B ^ i + t) % B)) (j := i + 1) (d := (L / B ^ i + t) / B) (by simp; omega)
 rw [val_digsN_lt hLN, digsN_get] at e1
 rw [List.getElem_set_ne (by omega), digsN_get, Nat.div_eq_of_lt hL] at e2
 have h0 : 0 % B = 0 := rfl
 rw [h0, Nat.mul_zero, Nat.add_zero] at e2
 have hc : L / B ^ i < B := Nat.div_lt_of_lt_mul (by rw [← Nat.pow_succ]; exact hL)
 rw [Nat.mod_eq_of_lt hc] at e1
 have e3 := Nat.mod_add_div (L / B ^ i + t) B
 have e4 : B ^ (i + 1) * ((L / B ^ i + t) / B) = B ^ i * (B * ((L / B ^ i + t) / B)) := by rw [Nat.pow_succ, Nat.mul_assoc]
 have e5 : B ^ i * ((L / B ^ i + t) % B) + B ^ i * (B * ((L / B ^ i + t) / B)) = B ^ i * (L / B ^ i) + B ^ i * t := by rw [← Nat.mul_add, e3, Nat.mul_add]
 rw [e2, e4]
 omega
theorem low_or {c a bits : Nat} (hb : bits < 32) (hc : c < 2 ^ bits) (_ha : a < B) : c ||| (a * 2 ^ bits % B) = c + a * 2 ^ bits % B ∧ c + a * 2 ^ bits % B = (c + a * 2 ^ bits) % B ∧ a * 2 ^ bits / B = (c + a * 2 ^ bits) / B ∧ c + a * 2 ^ bits % B < B := by
 have hB : B = 2 ^ (32 - bits) * 2 ^ bits := by
  rw [← Nat.pow_add, Nat.sub_add_cancel (by omega)]; rfl
 have hm : a * 2 ^ bits % B = (a % 2 ^ (32 - bits)) * 2 ^ bits := by
  rw [hB, Nat.mul_mod_mul_right]
 have hlt : a % 2 ^ (32 - bits) < 2 ^ (32 - bits) := Nat.mod_lt _ (Nat.pow_pos (by omega))
 have hd := Nat.div_add_mod (a * 2 ^ bits) B
 have hsum : c + a * 2 ^ bits % B < B := by
  rw [hm]
  have : (a % 2 ^ (32 - bits) + 1) * 2 ^ bits ≤ 2 ^ (32 - bits) * 2 ^ bits := Nat.mul_le_mul_right _ hlt
  rw [Nat.add_mul, ← hB] at this
  omega
 refine ⟨?_, ?_, ?_, hsum⟩
 ·rw [hm]
  have h := Nat.shiftLeft_add_eq_or_of_lt hc (a % 2 ^ (32 - bits))
  rw [Nat.shiftLeft_eq] at h
  rw [Nat.or_comm, ← h]; omega
 ·have : c + a * 2 ^ bits = c + a * 2 ^ bits % B + B * (a * 2 ^ bits / B) := by omega
  rw [this, Nat.add_mul_mod_self_left, Nat.mod_eq_of_lt hsum]
 ·have : c + a * 2 ^ bits = c + a * 2 ^ bits % B + B * (a * 2 ^ bits / B) := by omega
  rw [this, Nat.add_mul_div_left _ _ B_pos, Nat.div_eq_of_lt hsum, Nat.zero_add]
def shL (a : List Nat) (bits i : Nat) : Nat := val (a.take i) * 2 ^ bits
theorem shL_zero {a : List Nat} {bits : Nat} : shL a bits 0 = 0 := by simp [shL, val]
theorem pow_bits {bits : Nat} (hb : bits < 32) : 2 ^ bits < B := by
 have : 2 ^ bits < 2 ^ 32 := Nat.pow_lt_pow_right (by omega) hb
 exact this
theorem shL_lt {a : List Nat} {bits i : Nat} (ha : ok a) : shL a bits i < B ^ i * 2 ^ bits := by
 unfold shL
 exact Nat.mul_lt_mul_of_pos_right (val_lt_of (ok_take ha i) (by simp; omega)) (Nat.pow_pos (by omega))
theorem shL_succ {a : List Nat} {bits i : Nat} (hi : i < a.length) : shL a bits (i + 1) = shL a bits i + B ^ i * (a[i] * 2 ^ bits) := by
 unfold shL
 rw [val_take_succ hi, Nat.add_mul, Nat.mul_assoc]
theorem shL_all {a : List Nat} {bits : Nat} : shL a bits a.length = val a * 2 ^ bits := by
 unfold shL; rw [List.take_of_length_le (Nat.le_refl _)]
theorem digsN_zero {n : Nat} : digsN n 0 = List.replicate n 0 := by
 refine val_inj ok_digsN (ok_rep n) (by simp [digsN_len]) ?_
 rw [val_digsN, val_rep, Nat.zero_mod]
end Go.Dig

namespace Go.Proofs.Ytdeifcfjkmfocaa
open Go Go.Am Go.Dig
theorem or32 {c x : Nat} (hc : c < B) (hx : x < B) (h : c ||| x < B) : bitI .or .u32 (c : Int) (x : Int) = ((c ||| x : Nat) : Int) := by
 rw [B_eq] at *
 have hbits : IntKind.u32.bits = 32 := rfl
 simp only [bitI]
 rw [BitVec.toNat_or]
 have e1 : (BitVec.ofInt IntKind.u32.bits (c : Int)).toNat = c := by rw [hbits, BitVec.toNat_ofInt]; omega
 have e2 : (BitVec.ofInt IntKind.u32.bits (x : Int)).toNat = x := by rw [hbits, BitVec.toNat_ofInt]; omega
 rw [e1, e2]
 exact IntWalk.u32_in _ (by omega)
def stSh (a : List Nat) (m : Am.Mode) (σ : List (Nat × Entry)) (out : List (List (Nat × AV))) (b bits i : Nat) : St :=
 {env := [(0, nl m a), (1, u64v bits), (5, .sl (b + 11) 1 0 (a.length + 1)), (13, iv a.length), (14, iv i)], sto := pt σ (b + 11) (.arr 1 (drows (digsN (a.length + 1) (shL a bits i)))), out := out, base := b }
theorem shiftedI {m : Am.Mode} {a : List Nat} {bits : Nat} {s : St} {K : AV → St → Prop} (b : Nat) (ha : ok a) (hn : a.length < 1099511627775) (hb : bits < 32) (hf : lk s.sto (b + 11) = none)
  (h : K (.sl (b + 11) 1 0 (a.length + 1)) ⟨s.env, pt s.sto (b + 11) (.arr 1 (drows (digsN (a.length + 1) (val a * 2 ^ bits)))), s.out, s.base⟩) : CallI Try.prog F_n_shifted [nl m a, u64v bits] s K := by
 obtain ⟨env, σ, out, base⟩ := s
 simp only at hf h
 refine soundI' b t_n_shifted (by simp) ?_
 have w : IntKind.i64.wrap ((a.length : Int) + 1) = (a.length : Int) + 1 := wrap64 (by omega) (by omega)
 have e1 : ((a.length : Int) + 1).toNat = a.length + 1 := by omega
 simp [c_n_shifted, w, eMk, e1, hf]
 refine ⟨by omega, by omega, by omega, ?_⟩
 refine awp_forW (stSh a m σ (env :: out) b bits) (fun _ => True) a.length (by simp [stSh, shL_zero, digsN_zero]; exact .inl rfl) trivial (fun i hi _ => ?_) (fun _ => ?_)
 ·have e : (i : Int) < a.length := by omega
  have hpow := pow_bits hb
  have hak := ok_get ha hi
  have hL := shL_lt (bits := bits) (i := i) ha
  have hLB : shL a bits i < B ^ (i + 1) := by
   have : B ^ i * 2 ^ bits ≤ B ^ i * B := Nat.mul_le_mul_left _ (by omega)
   rw [Nat.pow_succ]; omega
  have hc : shL a bits i / B ^ i < 2 ^ bits := Nat.div_lt_of_lt_mul hL
  obtain ⟨o1, o2, o3, o4⟩ := low_or (c := shL a bits i / B ^ i) (a := a[i]) hb hc hak
  have hsucc := shL_succ (bits := bits) hi
  have hL2 := shL_lt (bits := bits) (i := i + 1) ha
  have hLN : shL a bits (i + 1) < B ^ (a.length + 1) := by
   have h1 : B ^ (i + 1) * 2 ^ bits ≤ B ^ (i + 1) * B := Nat.mul_le_mul_left _ (by omega)
   have h3 : B ^ (i + 1 + 1) = B ^ (i + 1) * B := Nat.pow_succ _ _
   have h2 : B ^ (i + 1 + 1) ≤ B ^ (a.length + 1) := Nat.pow_le_pow_right B_pos (by omega)
   omega
  have htB : (shL a bits i / B ^ i + a[i] * 2 ^ bits) / B < B := by
   rw [← o3]
   apply Nat.div_lt_of_lt_mul
   exact Nat.mul_lt_mul_of_lt_of_lt hak hpow
  have hstep := shift_step (N := a.length + 1) (i := i) (t := a[i] * 2 ^ bits) hLB (by omega) (by rw [← hsucc]; exact hLN) htB
  rw [← hsucc, ← o2, ← o3] at hstep
  have hlen := digsN_len (n := a.length + 1) (x := shL a bits i)
  have hi1 : i < (digsN (a.length + 1) (shL a bits i)).length := by omega
  have hget : (digsN (a.length + 1) (shL a bits i))[i] = shL a bits i / B ^ i := by
   rw [digsN_get, Nat.mod_eq_of_lt (Nat.lt_trans hc hpow)]
  obtain ⟨c, hcE⟩ : ∃ c, shL a bits i / B ^ i = c := ⟨_, rfl⟩
  obtain ⟨t, htE⟩ : ∃ t, a[i] * 2 ^ bits = t := ⟨_, rfl⟩
  have htlt : t < B * B := by rw [← htE]; exact Nat.mul_lt_mul_of_lt_of_lt hak hpow
  rw [hcE, htE] at o1 o4 hstep
  rw [hcE] at hget hc
  obtain ⟨x, hxE⟩ : ∃ x, t % B = x := ⟨_, rfl⟩
  obtain ⟨q, hqE⟩ : ∃ q, t / B = q := ⟨_, rfl⟩
  rw [hxE] at o1 o4 hstep
  rw [hqE] at hstep
  have hxB : x < B := by rw [← hxE]; exact Nat.mod_lt _ B_pos
  have hqB : q < B := by rw [← hqE]; exact Nat.div_lt_of_lt_mul htlt
  have hor := or32 (c := c) (x := x) (by omega) hxB (by rw [o1]; exact o4)
  rw [o1] at hor
  obtain ⟨y, hyE⟩ : ∃ y, c + x = y := ⟨_, rfl⟩
  rw [hyE] at hor hstep
  have hBB : B * B = 18446744073709551616 := by decide
  rw [hBB] at htlt
  have f1 : IntKind.u32.wrap (t : Int) = (x : Int) := by rw [w32, hxE]
  have f2 : (t : Int).fdiv (2 ^ min 32 IntKind.u64.bits) = (q : Int) := by rw [shr32, hqE]
  have f3 : IntKind.u32.wrap (q : Int) = q := IntWalk.u32_in _ (by rw [B_eq] at hqB; omega)
  have u1 : IntKind.u64.wrap ((a[i] : Nat) : Int) = (a[i] : Nat) := w64 (by rw [B_eq] at hak; omega)
  have hmin : min bits IntKind.u64.bits = bits := by
   have : IntKind.u64.bits = 64 := rfl
   omega
  have u2 : IntKind.u64.wrap (((a[i] : Nat) : Int) * 2 ^ bits) = (t : Int) := by
   rw [show ((a[i] : Nat) : Int) * 2 ^ bits = ((a[i] * 2 ^ bits : Nat) : Int) by simp, htE]; exact w64 htlt
  have hset : ((drows (digsN (a.length + 1) (shL a bits i))).set i [uv y]).set (i + 1) [uv q] = drows (digsN (a.length + 1) (shL a bits (i + 1))) := by
   rw [drows_set, drows_set, hstep]
  have wi : IntKind.i64.wrap ((i : Int) + 1) = (i : Int) + 1 := wrap64 (by omega) (by omega)
  have ei1 : (i : Int) < a.length + 1 := by omega
  have e2 : ((i : Int) + 1).toNat = i + 1 := by omega
  have e3 : (0 : Int) ≤ (i : Int) + 1 := by omega
  have hi2 : i + 1 < (digsN (a.length + 1) (shL a bits i)).length := by omega
  have hnb : ¬ ((bits : Int) < 0) := by omega
  simp [c_n_shifted_l0, stSh, e, hi, hi1, hi2, ei1, e2, e3, hget, hor, u1, eBin_shl, eBin_shr, hmin, u2, f1, f2, f3, wi, splice, hset]
 ·have : digsN (a.length + 1) (shL a bits a.length) = digsN (a.length + 1) (val a * 2 ^ bits) := by rw [shL_all]
  simp [c_n_shifted_l0, stSh, c_n_shifted_k1, r_n_shifted, this]
  exact h
end Go.Proofs.Ytdeifcfjkmfocaa

namespace Go.Proofs.Ytdeifcfjkmfocaa
open Go Go.Am Go.Dig
def gK (w v1 k : Nat) : Nat := w / v1 - k
def rK (w v1 k : Nat) : Nat := w % v1 + k * v1
theorem gr_eq {w v1 k : Nat} (hk : k ≤ w / v1) : w = gK w v1 k * v1 + rK w v1 k := by
 unfold gK rK
 have h := Nat.div_add_mod w v1
 have : (w / v1 - k) * v1 + k * v1 = v1 * (w / v1) := by rw [← Nat.add_mul, Nat.sub_add_cancel hk, Nat.mul_comm]
 omega
structure DigOk (W v : List Nat) (off e : Nat) : Prop where
 okW : ok W
 okv : ok v
 hv : v.length = e + 2
 hW : off + e + 3 ≤ W.length
 small : W.length < 1099511627776
def topW (W : List Nat) (off e : Nat) : Nat := W.getD (off + (e + 2)) 0 * B + W.getD (off + (e + 1)) 0
def stD0 (m : Am.Mode) (W v : List Nat) (σ : List (Nat × Entry)) (out : List (List (Nat × AV))) (b j off e k : Nat) : St :=
 {env := [(0, .sl j 1 off (e + 3)), (1, nl m v), (5, iv ((e : Int) + 2)), (7, u64v (gK (topW W off e) (v.getD (e + 1) 0) k)), (8, u64v (rK (topW W off e) (v.getD (e + 1) 0) k))], sto := σ, out := out, base := b }
theorem digit_guess {m : Am.Mode} {W v : List Nat} {σ : List (Nat × Entry)} {out : List (List (Nat × AV))} {b j off e : Nat} {K : Exit → St → Prop} (h : DigOk W v off e) (hj : lk σ j = some (.arr 1 (drows W)))
  (h1 : 0 < v.getD (e + 1) 0) (hw : topW W off e ≤ v.getD (e + 1) 0 * B + (B - 1)) (g : Nat) (hg : g = qhat (topW W off e) (W.getD (off + e) 0) (v.getD (e + 1) 0) (v.getD e 0))
  (hK : ∀ r q y, (q = 69 ∨ q = 81) → awp Try.prog c_n_digit_k5 { env := [(0, .sl j 1 off (e + 3)), (1, nl m v), (5, iv ((e : Int) + 2)), (7, u64v g), (8, r), (q, y)], sto := σ, out := out, base := b } K) :
  awp Try.prog (.loop c_n_digit_l0) (stD0 m W v σ out b j off e 0) (blockC 0 (seqC Try.prog c_n_digit_k5 K)) := by
 have hvl := h.hv
 have hWl := h.hW
 have hsm := h.small
 have hv0 : e < v.length := by omega
 have hv1 : e + 1 < v.length := by omega
 have hW0 : off + e < W.length := by omega
 have q1 : v.getD (e + 1) 0 = v[e + 1] := by simp [hv1]
 have q2 : v.getD e 0 = v[e] := by simp [hv0]
 have q3 : W.getD (off + e) 0 = W[off + e] := by simp [hW0]
 have hu2 : W.getD (off + e) 0 < B := ok_getD h.okW _
 have hv2B : v.getD e 0 < B := ok_getD h.okv _
 have hv1B : v.getD (e + 1) 0 < B := ok_getD h.okv _
 have hwB : topW W off e < B * B := by
  have a1 := ok_getD h.okW (off + (e + 2))
  have a2 := ok_getD h.okW (off + (e + 1))
  have : (W.getD (off + (e + 2)) 0 + 1) * B ≤ B * B := Nat.mul_le_mul_right _ a1
  unfold topW
  rw [Nat.add_mul] at this
  omega
 generalize hwe : topW W off e = w at *
 generalize hv1e : v.getD (e + 1) 0 = v1 at *
 generalize hu2e : W.getD (off + e) 0 = u2 at *
 generalize hv2e : v.getD e 0 = v2 at *
 have hle := qhat_le (w := w) (v2 := v2) h1 hu2
 rw [← hg] at hle
 rw [show B * B = 18446744073709551616 by decide] at hwB
 have hst : ∀ k, stD0 m W v σ out b j off e k = { env := [(0, .sl j 1 off (e + 3)), (1, nl m v), (5, iv ((e : Int) + 2)), (7, u64v (gK w v1 k)), (8, u64v (rK w v1 k))], sto := σ, out := out, base := b } := fun k => by
  rw [stD0, hwe, hv1e]
 have i1 : IntKind.i64.wrap ((e : Int)) = e := wrap64 (by omega) (by omega)
 have i2 : IntKind.i64.wrap ((e : Int) + 1) = (e : Int) + 1 := wrap64 (by omega) (by omega)
 have i5 : IntKind.i64.wrap ((e : Int) + 2 - 1) = (e : Int) + 1 := by rw [wrap64] <;> omega
 have i6 : IntKind.i64.wrap ((e : Int) + 2 - 2) = (e : Int) := by rw [wrap64] <;> omega
 have i3 : ((e : Int) + 1).toNat = e + 1 := by omega
 have i4 : (0 : Int) ≤ (e : Int) + 1 := by omega
 have c1 : IntKind.u64.wrap (v1 : Int) = v1 := w64 (by rw [B_eq] at hv1B; omega)
 have c2 : IntKind.u64.wrap (v2 : Int) = v2 := w64 (by rw [B_eq] at hv2B; omega)
 have c3 : IntKind.u64.wrap (u2 : Int) = u2 := w64 (by rw [B_eq] at hu2; omega)
 have p1 : v[e + 1] = v1 := by rw [← q1]
 have p2 : v[e] = v2 := by rw [← q2]
 have p3 : W[off + e] = u2 := by rw [← q3]
 have x1 : (e : Int) < v.length := by omega
 have x2 : (e : Int) + 1 < v.length := by omega
 have x3 : (e : Int) < (e : Int) + 3 := by omega
 refine awp_forW (stD0 m W v σ out b j off e) (fun k => rK w v1 k < B) (w / v1 - g) (by rw [hst]; simp) ?_ (fun k hk hr => ?_) (fun hr => ?_)
 ·show rK w v1 0 < B
  unfold rK
  rw [Nat.zero_mul, Nat.add_zero]
  exact Nat.lt_trans (Nat.mod_lt w h1) hv1B
 ·have hkw : k ≤ w / v1 := Nat.le_trans (Nat.le_of_lt hk) (Nat.sub_le _ _)
  have hkw2 : k + 1 ≤ w / v1 := Nat.le_trans hk (Nat.sub_le _ _)
  have heq := gr_eq (w := w) (v1 := v1) (k := k) hkw
  have hbig := (tooBig_iff (u2 := u2) (v2 := v2) h1 heq).2 (by rw [← hg]; unfold gK; omega)
  have hgk : gK w v1 (k + 1) + 1 = gK w v1 k := by unfold gK; omega
  have hrk : rK w v1 (k + 1) = rK w v1 k + v1 := by unfold rK; rw [Nat.add_mul]; omega
  have heq2 := gr_eq (w := w) (v1 := v1) (k := k + 1) (by omega)
  have hbrk := fun hB => break_ok (u2 := u2) (v2 := v2) h1 heq2 hw hv2B hB
  have hgle : gK w v1 k ≤ w := by
   have : w / v1 ≤ w := Nat.div_le_self _ _
   unfold gK; omega
  have hend : B ≤ rK w v1 (k + 1) → gK w v1 (k + 1) = g := fun hB => by
   have := hbrk hB
   rw [tooBig_iff h1 heq2, ← hg] at this
   unfold gK at *
   omega
  rw [hst]
  have hgsub : IntKind.u64.wrap ((gK w v1 k : Int) - 1) = (gK w v1 (k + 1) : Int) := by rw [w64'] <;> omega
  have hradd : IntKind.u64.wrap ((rK w v1 k : Int) + (v1 : Int)) = (rK w v1 (k + 1) : Int) := by
   rw [B_eq] at hr hv1B
   rw [w64'] <;> omega
  have rest : ∀ K2, (∀ q y, (q = 69 ∨ q = 81) → (¬ B ≤ rK w v1 (k + 1) → K2 Exit.normal { env := [(0, .sl j 1 off (e + 3)), (1, nl m v), (5, iv ((e : Int) + 2)), (7, u64v (gK w v1 (k + 1))), (8, u64v (rK w v1 (k + 1))), (q, y)], sto := σ, out := out, base := b }) ∧
    (B ≤ rK w v1 (k + 1) → K2 (Exit.exit 0) { env := [(0, .sl j 1 off (e + 3)), (1, nl m v), (5, iv ((e : Int) + 2)), (7, u64v (gK w v1 (k + 1))), (8, u64v (rK w v1 (k + 1))), (q, y)], sto := σ, out := out, base := b })) →
    awp Try.prog c_n_digit_l0 { env := [(0, .sl j 1 off (e + 3)), (1, nl m v), (5, iv ((e : Int) + 2)), (7, u64v (gK w v1 k)), (8, u64v (rK w v1 k))], sto := σ, out := out, base := b } K2 := by
   intro K2 hK2
   by_cases hB : B ≤ gK w v1 k
   ·have hB' : (4294967296 : Int) ≤ gK w v1 k := by rw [B_eq] at hB; omega
    by_cases hBr : B ≤ rK w v1 (k + 1)
    ·have hBr' : (4294967296 : Int) ≤ rK w v1 (k + 1) := by rw [B_eq] at hBr; omega
     simp [c_n_digit_l0, hB', hBr', hgsub, i5, i3, i4, x2, hv1, p1, c1, hradd]
     exact (hK2 _ _ (by simp)).2 hBr
    ·have hBr' : ¬ (4294967296 : Int) ≤ rK w v1 (k + 1) := by rw [B_eq] at hBr; omega
     simp [c_n_digit_l0, hB', hBr', hgsub, i5, i3, i4, x2, hv1, p1, c1, hradd]
     exact (hK2 _ _ (by simp)).1 hBr
   ·have hB' : ¬ (4294967296 : Int) ≤ gK w v1 k := by rw [B_eq] at hB; omega
    have hlt : rK w v1 k * B + u2 < gK w v1 k * v2 := hbig.resolve_left hB
    have hor := or_hi hr hu2
    have hsh := shl32 hr
    have hpl : gK w v1 k * v2 < 18446744073709551616 := by
     have : gK w v1 k * v2 ≤ (B - 1) * (B - 1) := Nat.mul_le_mul (by omega) (by omega)
     have : (B - 1) * (B - 1) < 18446744073709551616 := by decide
     omega
    obtain ⟨p, hp⟩ : ∃ p, gK w v1 k * v2 = p := ⟨_, rfl⟩
    obtain ⟨rb, hrb⟩ : ∃ rb, rK w v1 k * B = rb := ⟨_, rfl⟩
    rw [hp] at hlt hpl
    rw [hrb] at hlt hor hsh
    have hmul : IntKind.u64.wrap ((gK w v1 k : Int) * (v2 : Int)) = (p : Int) := by
     rw [show (gK w v1 k : Int) * (v2 : Int) = ((gK w v1 k * v2 : Nat) : Int) by simp, hp]; exact w64 hpl
    have hlt' : (rb : Int) + (u2 : Int) < (p : Int) := by omega
    simp only [Int.natCast_add] at hor
    by_cases hBr : B ≤ rK w v1 (k + 1)
    ·have hBr' : (4294967296 : Int) ≤ rK w v1 (k + 1) := by rw [B_eq] at hBr; omega
     simp [c_n_digit_l0, hB', hBr', hgsub, i1, i5, i3, i4, x1, x2, x3, hv0, hv1, hW0, p1, p2, p3, c1, c2, c3, hj, hmul, eBin_shl, hsh, hor, hlt', hradd]
     exact (hK2 _ _ (by simp)).2 hBr
    ·have hBr' : ¬ (4294967296 : Int) ≤ rK w v1 (k + 1) := by rw [B_eq] at hBr; omega
     simp [c_n_digit_l0, hB', hBr', hgsub, i1, i5, i3, i4, x1, x2, x3, hv0, hv1, hW0, p1, p2, p3, c1, c2, c3, hj, hmul, eBin_shl, hsh, hor, hlt', hradd]
     exact (hK2 _ _ (by simp)).1 hBr
  refine rest _ fun q y hq => ⟨fun hB => ?_, fun hB => ?_⟩
  ·rw [stepW_normal, hst]
   refine ⟨by rcases hq with rfl | rfl <;> simp, by omega⟩
  ·have := hend hB
   rw [this]
   exact hK _ _ _ hq
 ·have hgk : gK w v1 (w / v1 - g) = g := by unfold gK; omega
  have heq := gr_eq (w := w) (v1 := v1) (k := w / v1 - g) (by omega)
  have hnb := fun hb => (tooBig_iff (u2 := u2) (v2 := v2) h1 heq).1 hb
  rw [hgk, ← hg] at hnb
  have hB : ¬ B ≤ g := fun hb => Nat.lt_irrefl _ (hnb (.inl hb))
  have hlt : ¬ rK w v1 (w / v1 - g) * B + u2 < g * v2 := fun hb => Nat.lt_irrefl _ (hnb (.inr hb))
  have hB' : ¬ (4294967296 : Int) ≤ g := by rw [B_eq] at hB; omega
  have hor := or_hi hr hu2
  have hsh := shl32 hr
  have hst2 : stD0 m W v σ out b j off e (w / v1 - g) = { env := [(0, .sl j 1 off (e + 3)), (1, nl m v), (5, iv ((e : Int) + 2)), (7, u64v g), (8, u64v (rK w v1 (w / v1 - g)))], sto := σ, out := out, base := b } := by
   rw [hst, hgk]
  rw [hst2]
  clear hst2 heq
  generalize rK w v1 (w / v1 - g) = r at *
  obtain ⟨p, hp⟩ : ∃ p, g * v2 = p := ⟨_, rfl⟩
  obtain ⟨rb, hrb⟩ : ∃ rb, r * B = rb := ⟨_, rfl⟩
  have hpl : g * v2 < 18446744073709551616 := by
   have : g * v2 ≤ (B - 1) * (B - 1) := Nat.mul_le_mul (by omega) (by omega)
   have : (B - 1) * (B - 1) < 18446744073709551616 := by decide
   omega
  rw [hp] at hlt hpl
  rw [hrb] at hlt hor hsh
  have hmul : IntKind.u64.wrap ((g : Int) * (v2 : Int)) = (p : Int) := by
   rw [show (g : Int) * (v2 : Int) = ((g * v2 : Nat) : Int) by simp, hp]; exact w64 hpl
  have hlt' : ¬ (rb : Int) + (u2 : Int) < (p : Int) := by omega
  simp only [Int.natCast_add] at hor
  simp [c_n_digit_l0, hB', i1, x1, x3, hv0, hW0, p2, p3, c2, c3, hj, hmul, eBin_shl, hsh, hor, hlt']
  exact hK _ _ _ (by simp)
end Go.Proofs.Ytdeifcfjkmfocaa

namespace Go.Proofs.Ytdeifcfjkmfocaa
open Go Go.Am Go.Dig
theorem and_low {p : Nat} (hp : p < 18446744073709551616) : bitI .and .u64 (p : Int) 4294967295 = ((p % B : Nat) : Int) := by
 have hbits : IntKind.u64.bits = 64 := rfl
 simp only [bitI]
 rw [BitVec.toNat_and]
 have e1 : (BitVec.ofInt IntKind.u64.bits (p : Int)).toNat = p := by rw [hbits, BitVec.toNat_ofInt]; omega
 have e2 : (BitVec.ofInt IntKind.u64.bits 4294967295).toNat = 4294967295 := rfl
 rw [e1, e2]
 have h := Nat.and_two_pow_sub_one_eq_mod p 32
 have : (2 : Nat) ^ 32 - 1 = 4294967295 := by decide
 rw [this] at h
 rw [h, show (2 : Nat) ^ 32 = B from rfl]
 exact w64 (Nat.lt_trans (Nat.mod_lt _ B_pos) (by decide))
def cK (g : Nat) (v : List Nat) (k : Nat) : Nat := g * val (v.take k) / B ^ k
def stD1 (m : Am.Mode) (W v u : List Nat) (σ : List (Nat × Entry)) (out : List (List (Nat × AV))) (b j off e g x T k : Nat) : St :=
 {env := [(0, .sl j 1 off (e + 3)), (1, nl m v), (5, iv ((e : Int) + 2)), (7, u64v g), (9, u64v (cK g v k)), (10, u64v (bor x T k)), (82, iv ((e : Int) + 2)), (83, iv k)], sto := pt σ j (.arr 1 (drows (seg W off (mixD (x - T) u k)))), out := out, base := b }
section
variable {m : Am.Mode} {W v : List Nat} {σ : List (Nat × Entry)} {out : List (List (Nat × AV))} {b j off e g x : Nat} {K : Exit → St → Prop} (h : DigOk W v off e) (hj : lk σ j = some (.arr 1 (drows W)))
  (hg : g < B) (hx : ∀ k, k < e + 3 → x / B ^ k % B = W.getD (off + k) 0) (hT : g * val v ≤ x)
include h hj hg hx hT
omit hj in
theorem digit_sub {s : St} (hs : impE s (stD1 m W v ((W.drop off).take (e + 3)) σ out b j off e g x (g * val v) 0))
  (hK : awp Try.prog c_n_digit_k4 { env := [(0, .sl j 1 off (e + 3)), (1, nl m v), (5, iv ((e : Int) + 2)), (7, u64v g), (9, u64v (cK g v (e + 2))), (10, u64v (bor x (g * val v) (e + 2))), (82, iv ((e : Int) + 2)), (83, iv ((e : Int) + 2)), (84, bv false)], sto := pt σ j (.arr 1 (drows (seg W off (mixD (x - g * val v) ((W.drop off).take (e + 3)) (e + 2))))), out := out, base := b } K) :
  awp Try.prog (.loop c_n_digit_l1) s (blockC 2 (seqC Try.prog c_n_digit_k4 K)) := by
 have hvl := h.hv
 have hWl := h.hW
 have hsm := h.small
 generalize hue : (W.drop off).take (e + 3) = u at *
 have hul : u.length = e + 3 := by rw [← hue]; simp; omega
 refine awp_forW (stD1 m W v u σ out b j off e g x (g * val v)) (fun _ => True) (e + 2) hs trivial (fun k hk _ => ?_) (fun _ => ?_)
 ·have hkv : k < v.length := by omega
  have hku : k < u.length := by omega
  have hvB := ok_get h.okv hkv
  have hWk : off + k < W.length := by omega
  have huk : u[k] = W[off + k] := by subst hue; simp
  have hq : W.getD (off + k) 0 = W[off + k] := by simp [hWk]
  have hukB : u[k] < B := by rw [huk]; exact ok_get h.okW hWk
  have hcB : cK g v k < B := mul_carry_lt h.okv hg k
  obtain ⟨m1, m2⟩ := mul_col (g := g) hkv
  have hsd := sub_digit (k := k) hT
  have hbs := bor_succ (x := x) (y := g * val v) (k := k)
  have hb1 := bor_le (x := x) (y := g * val v) (k := k)
  rw [hx k (by omega), hq, ← huk, m1] at hsd hbs
  have hck : cK g v (k + 1) = (g * v[k] + cK g v k) / B := m2
  change (((x - g * val v) / B ^ k % B : Nat) : Int) = ((u[k] : Nat) - ((g * v[k] + cK g v k) % B : Nat) - (bor x (g * val v) k : Nat) : Int) % 4294967296 at hsd
  change bor x (g * val v) (k + 1) = if u[k] < (g * v[k] + cK g v k) % B + bor x (g * val v) k then 1 else 0 at hbs
  have hpB : g * v[k] + cK g v k < 18446744073709551616 := by
   have := mul_bound hg hvB hcB B_pos
   have hBB : B * B = 18446744073709551616 := by decide
   omega
  have hmx := mixD_set (Z := x - g * val v) hku
  have hml := mixD_len (Z := x - g * val v) (u := u) (k := k) (by omega)
  have hmg := mixD_get (Z := x - g * val v) hku
  have hsl := seg_len (W := W) (X := mixD (x - g * val v) u k) (off := off) (by rw [hml]; omega)
  have hsg := seg_get (W := W) (X := mixD (x - g * val v) u k) (off := off) (i := k) (by rw [hml]; omega) (by omega)
  have hss := seg_set (W := W) (X := mixD (x - g * val v) u k) (off := off) (i := k) (d := (x - g * val v) / B ^ k % B) (by rw [hml]; omega) (by omega)
  rw [hmx] at hss
  rw [hmg] at hsg
  obtain ⟨d, hd⟩ : ∃ d, (x - g * val v) / B ^ k % B = d := ⟨_, rfl⟩
  rw [hd] at hss hsd
  obtain ⟨p, hp⟩ : ∃ p, g * v[k] + cK g v k = p := ⟨_, rfl⟩
  obtain ⟨gv, hgv⟩ : ∃ gv, g * v[k] = gv := ⟨_, rfl⟩
  rw [hp] at hsd hbs hck hpB
  rw [hgv] at hp
  obtain ⟨pl, hpl⟩ : ∃ pl, p % B = pl := ⟨_, rfl⟩
  rw [hpl] at hsd hbs
  have hplB : pl < B := by rw [← hpl]; exact Nat.mod_lt _ B_pos
  obtain ⟨c2, hc2⟩ : ∃ c2, p / B = c2 := ⟨_, rfl⟩
  rw [hc2] at hck
  rw [stD1]
  generalize bor x (g * val v) k = b0 at *
  generalize hb2 : bor x (g * val v) (k + 1) = b2 at *
  have hA : off + k < (seg W off (mixD (x - g * val v) u k)).length := by omega
  have hset : (drows (seg W off (mixD (x - g * val v) u k))).set (off + k) [uv d] = drows (seg W off (mixD (x - g * val v) u (k + 1))) := by rw [drows_set, hss]
  have hst1 : stD1 m W v u σ out b j off e g x (g * val v) (k + 1) = { env := [(0, .sl j 1 off (e + 3)), (1, nl m v), (5, iv ((e : Int) + 2)), (7, u64v g), (9, u64v c2), (10, u64v b2), (82, iv ((e : Int) + 2)), (83, iv ((k : Int) + 1))], sto := pt σ j (.arr 1 (drows (seg W off (mixD (x - g * val v) u (k + 1))))), out := out, base := b } := by
   rw [stD1, hck, hb2]; rfl
  clear hd
  generalize huk2 : u[k] = uk at *
  have ek : (k : Int) < (e : Int) + 2 := by omega
  have ekv : (k : Int) < v.length := by omega
  have ek3 : (k : Int) < (e : Int) + 3 := by omega
  have u1 : IntKind.u64.wrap ((v[k] : Nat) : Int) = (v[k] : Nat) := w64 (Nat.lt_trans hvB (by decide))
  have u2 : IntKind.u64.wrap ((g : Int) * (v[k] : Int)) = (gv : Int) := by
   rw [show (g : Int) * (v[k] : Int) = ((g * v[k] : Nat) : Int) by simp, hgv]; exact w64 (by omega)
  have u3 : IntKind.u64.wrap ((gv : Int) + (cK g v k : Int)) = (p : Int) := by rw [w64'] <;> omega
  have u4 : (p : Int).fdiv (2 ^ min 32 IntKind.u64.bits) = (c2 : Int) := by rw [shr32, hc2]
  have u5 := and_low hpB
  rw [hpl] at u5
  rw [B_eq] at hukB hplB
  have u6 : IntKind.u64.wrap (uk : Int) = uk := w64 (by omega)
  have u7 := wsub ((uk : Int) - (pl : Int)) (b0 : Int)
  have u8 := w3264 ((uk : Int) - (pl : Int) - (b0 : Int))
  rw [← hsd] at u8
  have u9 := shr63 (u := (uk : Int) - (pl : Int) - (b0 : Int)) (by omega) (by omega)
  have u10 : (if (uk : Int) - (pl : Int) - (b0 : Int) < 0 then (1 : Int) else 0) = (b2 : Int) := by
   rw [hbs]; split <;> split <;> omega
  rw [u10] at u9
  have w1 : IntKind.i64.wrap ((k : Int) + 1) = (k : Int) + 1 := wrap64 (by omega) (by omega)
  simp [c_n_digit_l1, ek, ekv, ek3, hkv, u1, u2, u3, u4, u5, u6, u7, u8, u9, hA, hsg, splice, hset, w1, eBin_shr, hst1]
 ·simp [c_n_digit_l1, stD1]
  exact hK
end
end Go.Proofs.Ytdeifcfjkmfocaa

namespace Go.Proofs.Ytdeifcfjkmfocaa
open Go Go.Am Go.Dig
def stD2 (m : Am.Mode) (W v z : List Nat) (σ : List (Nat × Entry)) (out : List (List (Nat × AV))) (b j off e g k : Nat) : St :=
 {env := [(0, .sl j 1 off (e + 3)), (1, nl m v), (5, iv ((e : Int) + 2)), (7, u64v g), (9, u64v (car z v k)), (134, iv ((e : Int) + 2)), (135, iv k)], sto := pt σ j (.arr 1 (drows (seg W off (mixD (val z + val v) z k)))), out := out, base := b }
section
variable {m : Am.Mode} {W v z : List Nat} {σ : List (Nat × Entry)} {out : List (List (Nat × AV))} {b j off e g : Nat} {K : Exit → St → Prop} (h : DigOk W v off e) (hz : ok z) (hzl : z.length = e + 3)
include h hz hzl
theorem digit_back {s : St} (hs : impE s (stD2 m W v z σ out b j off e g 0))
  (hK : awp Try.prog c_n_digit_k3 { env := [(0, .sl j 1 off (e + 3)), (1, nl m v), (5, iv ((e : Int) + 2)), (7, u64v g), (9, u64v (car z v (e + 2))), (134, iv ((e : Int) + 2)), (135, iv ((e : Int) + 2)), (136, bv false)], sto := pt σ j (.arr 1 (drows (seg W off (mixD (val z + val v) z (e + 2))))), out := out, base := b } K) :
  awp Try.prog (.loop c_n_digit_l2) s (blockC 4 (seqC Try.prog c_n_digit_k3 K)) := by
 have hvl := h.hv
 have hWl := h.hW
 have hsm := h.small
 refine awp_forW (stD2 m W v z σ out b j off e g) (fun _ => True) (e + 2) hs trivial (fun k hk _ => ?_) (fun _ => ?_)
 ·have hkv : k < v.length := by omega
  have hkz : k < z.length := by omega
  have hvB := ok_get h.okv hkv
  have hzB := ok_get hz hkz
  have hc := car_le hz h.okv k
  obtain ⟨t, ht, g1, g2⟩ := add_col (a := z) (b := v) hkz (by omega)
  rw [List.getElem?_eq_getElem hkv, Option.getD_some] at ht
  have hmx := mixD_set (Z := val z + val v) hkz
  have hml := mixD_len (Z := val z + val v) (u := z) (k := k) (by omega)
  have hmg := mixD_get (Z := val z + val v) hkz
  have hsl := seg_len (W := W) (X := mixD (val z + val v) z k) (off := off) (by rw [hml]; omega)
  have hsg := seg_get (W := W) (X := mixD (val z + val v) z k) (off := off) (i := k) (by rw [hml]; omega) (by omega)
  have hss := seg_set (W := W) (X := mixD (val z + val v) z k) (off := off) (i := k) (d := (val z + val v) / B ^ k % B) (by rw [hml]; omega) (by omega)
  rw [hmx, g1] at hss
  rw [hmg] at hsg
  obtain ⟨d, hd⟩ : ∃ d, t % B = d := ⟨_, rfl⟩
  obtain ⟨q, hq⟩ : ∃ q, t / B = q := ⟨_, rfl⟩
  rw [hd] at hss
  rw [hq] at g2
  have hA : off + k < (seg W off (mixD (val z + val v) z k)).length := by omega
  have hset : (drows (seg W off (mixD (val z + val v) z k))).set (off + k) [uv d] = drows (seg W off (mixD (val z + val v) z (k + 1))) := by rw [drows_set, hss]
  have hst1 : stD2 m W v z σ out b j off e g (k + 1) = { env := [(0, .sl j 1 off (e + 3)), (1, nl m v), (5, iv ((e : Int) + 2)), (7, u64v g), (9, u64v q), (134, iv ((e : Int) + 2)), (135, iv ((k : Int) + 1))], sto := pt σ j (.arr 1 (drows (seg W off (mixD (val z + val v) z (k + 1))))), out := out, base := b } := by
   rw [stD2, g2]; rfl
  rw [stD2]
  generalize car z v k = c at *
  generalize hzk : z[k] = zk at *
  generalize hvk : v[k] = vk at *
  rw [B_eq] at hvB hzB
  have ek : (k : Int) < (e : Int) + 2 := by omega
  have ekv : (k : Int) < v.length := by omega
  have ek3 : (k : Int) < (e : Int) + 3 := by omega
  have f1 : IntKind.u32.wrap (t : Int) = (d : Int) := by rw [w32, hd]
  have f2 : (t : Int).fdiv (2 ^ min 32 IntKind.u64.bits) = (q : Int) := by rw [shr32, hq]
  have u1 : IntKind.u64.wrap (vk : Int) = vk := w64 (by omega)
  have u2 : IntKind.u64.wrap (zk : Int) = zk := w64 (by omega)
  have u3 : IntKind.u64.wrap ((zk : Int) + (vk : Int)) = (zk : Int) + vk := by rw [w64'] <;> omega
  have u4 : IntKind.u64.wrap ((zk : Int) + (vk : Int) + (c : Int)) = (t : Int) := by rw [w64'] <;> omega
  have w1 : IntKind.i64.wrap ((k : Int) + 1) = (k : Int) + 1 := wrap64 (by omega) (by omega)
  simp [c_n_digit_l2, ek, ekv, ek3, hkv, hvk, u1, u2, u3, u4, f1, f2, hA, hsg, splice, hset, w1, eBin_shr, hst1]
 ·simp [c_n_digit_l2, stD2]
  exact hK
theorem back_end (hg : 0 < g) (hgB : g < B) : awp Try.prog c_n_digit_k3 { env := [(0, .sl j 1 off (e + 3)), (1, nl m v), (5, iv ((e : Int) + 2)), (7, u64v g), (9, u64v (car z v (e + 2))), (134, iv ((e : Int) + 2)), (135, iv ((e : Int) + 2)), (136, bv false)], sto := pt σ j (.arr 1 (drows (seg W off (mixD (val z + val v) z (e + 2))))), out := out, base := b }
  (fun ex s => ex = .ret ∧ s = { env := [(4, uv (g - 1))], sto := pt σ j (.arr 1 (drows (seg W off (digsN (e + 3) (val z + val v))))), out := out, base := b }) := by
 have hvl := h.hv
 have hWl := h.hW
 have hsm := h.small
 have hkz : e + 2 < z.length := by omega
 have hzB := ok_get hz hkz
 have hc := car_le hz h.okv (e + 2)
 obtain ⟨t, ht, g1, g2⟩ := add_col (a := z) (b := v) hkz (by omega)
 rw [List.getElem?_eq_none (by omega), Option.getD_none] at ht
 have hmx := mixD_set (Z := val z + val v) hkz
 have hml := mixD_len (Z := val z + val v) (u := z) (k := e + 2) (by omega)
 have hmg := mixD_get (Z := val z + val v) hkz
 have hsl := seg_len (W := W) (X := mixD (val z + val v) z (e + 2)) (off := off) (by rw [hml]; omega)
 have hsg := seg_get (W := W) (X := mixD (val z + val v) z (e + 2)) (off := off) (i := e + 2) (by rw [hml]; omega) (by omega)
 have hss := seg_set (W := W) (X := mixD (val z + val v) z (e + 2)) (off := off) (i := e + 2) (d := (val z + val v) / B ^ (e + 2) % B) (by rw [hml]; omega) (by omega)
 rw [hmx, g1, show e + 2 + 1 = e + 3 from rfl, mixD_all hzl] at hss
 rw [hmg] at hsg
 obtain ⟨d, hd⟩ : ∃ d, t % B = d := ⟨_, rfl⟩
 rw [hd] at hss
 have hA : off + (e + 2) < (seg W off (mixD (val z + val v) z (e + 2))).length := by omega
 have hset : (drows (seg W off (mixD (val z + val v) z (e + 2)))).set (off + (e + 2)) [uv d] = drows (seg W off (digsN (e + 3) (val z + val v))) := by rw [drows_set, hss]
 generalize car z v (e + 2) = c at *
 generalize hzk : z[e + 2] = zk at *
 have e1 : ((e : Int) + 2).toNat = e + 2 := by omega
 have e2 : (0 : Int) ≤ (e : Int) + 2 := by omega
 have e3 : (e : Int) + 2 < (e : Int) + 3 := by omega
 have u1 : IntKind.u32.wrap (c : Int) = c := IntWalk.u32_in _ (by omega)
 have u2 : IntKind.u32.wrap ((zk : Int) + (c : Int)) = (d : Int) := by
  have : (zk : Int) + (c : Int) = (t : Int) := by omega
  rw [this, w32, hd]
 rw [B_eq] at hgB
 have u3 : IntKind.u64.wrap ((g : Int) - 1) = ((g - 1 : Nat) : Int) := by rw [w64'] <;> omega
 have u4 : IntKind.u32.wrap ((g - 1 : Nat) : Int) = ((g - 1 : Nat) : Int) := IntWalk.u32_in _ (by omega)
 simp [c_n_digit_k3, e1, e2, e3, hA, hsg, u1, u2, u3, u4, splice, hset]
end
end Go.Proofs.Ytdeifcfjkmfocaa

namespace Go.Proofs.Ytdeifcfjkmfocaa
open Go Go.Am Go.Dig
theorem lk_pt_self {α : Type} {l : List (Nat × α)} {n : Nat} {x : α} (h : lk l n = some x) : lk (pt l n x) = lk l := by
 funext i
 rw [lk_pt]
 split
 ·subst i; exact h.symm
 ·rfl
section
variable {m : Am.Mode} {W v : List Nat} {σ : List (Nat × Entry)} {out : List (List (Nat × AV))} {b j off e g x : Nat} {K : Exit → St → Prop} (h : DigOk W v off e)
  (hg : g < B) (hx : ∀ k, k < e + 3 → x / B ^ k % B = W.getD (off + k) 0) (hT : g * val v ≤ x) (hZ : x - g * val v < B ^ (e + 3))
include h hg hx hT hZ
theorem digit_last (hK0 : bor x (g * val v) (e + 3) = 0 → K .ret { env := [(4, uv g)], sto := pt σ j (.arr 1 (drows (seg W off (digsN (e + 3) (x - g * val v))))), out := out, base := b })
  (hK1 : bor x (g * val v) (e + 3) = 1 → 0 < g ∧ K .ret { env := [(4, uv (g - 1))], sto := pt σ j (.arr 1 (drows (seg W off (digsN (e + 3) (x - g * val v + val v))))), out := out, base := b }) :
  awp Try.prog c_n_digit_k4 { env := [(0, .sl j 1 off (e + 3)), (1, nl m v), (5, iv ((e : Int) + 2)), (7, u64v g), (9, u64v (cK g v (e + 2))), (10, u64v (bor x (g * val v) (e + 2))), (82, iv ((e : Int) + 2)), (83, iv ((e : Int) + 2)), (84, bv false)], sto := pt σ j (.arr 1 (drows (seg W off (mixD (x - g * val v) ((W.drop off).take (e + 3)) (e + 2))))), out := out, base := b } K := by
 have hvl := h.hv
 have hWl := h.hW
 have hsm := h.small
 generalize hue : (W.drop off).take (e + 3) = u at *
 have hul : u.length = e + 3 := by rw [← hue]; simp; omega
 have hku : e + 2 < u.length := by omega
 have hWk : off + (e + 2) < W.length := by omega
 have huk : u[e + 2] = W[off + (e + 2)] := by subst hue; simp
 have hq : W.getD (off + (e + 2)) 0 = W[off + (e + 2)] := by simp [hWk]
 have hukB : u[e + 2] < B := by rw [huk]; exact ok_get h.okW hWk
 have hcB : cK g v (e + 2) < B := mul_carry_lt h.okv hg (e + 2)
 have hcT : g * val v / B ^ (e + 2) % B = cK g v (e + 2) := by
  have : cK g v (e + 2) = g * val v / B ^ (e + 2) := by unfold cK; rw [List.take_of_length_le (by omega)]
  rw [← this, Nat.mod_eq_of_lt hcB]
 have hsd := sub_digit (k := e + 2) hT
 have hbs := bor_succ (x := x) (y := g * val v) (k := e + 2)
 have hb1 := bor_le (x := x) (y := g * val v) (k := e + 2)
 rw [hx (e + 2) (by omega), hq, ← huk, hcT] at hsd hbs
 have hmx := mixD_set (Z := x - g * val v) hku
 rw [show e + 2 + 1 = e + 3 from rfl, mixD_all hul] at hmx
 have hml := mixD_len (Z := x - g * val v) (u := u) (k := e + 2) (by omega)
 have hmg := mixD_get (Z := x - g * val v) hku
 have hsl := seg_len (W := W) (X := mixD (x - g * val v) u (e + 2)) (off := off) (by rw [hml]; omega)
 have hsg := seg_get (W := W) (X := mixD (x - g * val v) u (e + 2)) (off := off) (i := e + 2) (by rw [hml]; omega) (by omega)
 have hss := seg_set (W := W) (X := mixD (x - g * val v) u (e + 2)) (off := off) (i := e + 2) (d := (x - g * val v) / B ^ (e + 2) % B) (by rw [hml]; omega) (by omega)
 rw [hmx] at hss
 rw [hmg] at hsg
 obtain ⟨d, hd⟩ : ∃ d, (x - g * val v) / B ^ (e + 2) % B = d := ⟨_, rfl⟩
 rw [hd] at hss hsd
 rw [show e + 2 + 1 = e + 3 from rfl] at hbs
 have hA : off + (e + 2) < (seg W off (mixD (x - g * val v) u (e + 2))).length := by omega
 have hset : (drows (seg W off (mixD (x - g * val v) u (e + 2)))).set (off + (e + 2)) [uv d] = drows (seg W off (digsN (e + 3) (x - g * val v))) := by rw [drows_set, hss]
 have hg0 : bor x (g * val v) (e + 3) = 1 → 0 < g := fun h1 => by
  rcases Nat.eq_zero_or_pos g with h0 | h0
  ·exfalso
   rw [h0, Nat.zero_mul] at h1
   simp [bor] at h1
  ·exact h0
 generalize cK g v (e + 2) = c at *
 generalize bor x (g * val v) (e + 2) = b0 at *
 generalize hb2 : bor x (g * val v) (e + 3) = b2 at *
 generalize huk2 : u[e + 2] = uk at *
 clear hd
 have e1 : ((e : Int) + 2).toNat = e + 2 := by omega
 have e2 : (0 : Int) ≤ (e : Int) + 2 := by omega
 have e3 : (e : Int) + 2 < (e : Int) + 3 := by omega
 rw [B_eq] at hukB hcB
 have u6 : IntKind.u64.wrap (uk : Int) = uk := w64 (by omega)
 have u7 := wsub ((uk : Int) - (c : Int)) (b0 : Int)
 have u8 := w3264 ((uk : Int) - (c : Int) - (b0 : Int))
 have hsd' : ((d : Nat) : Int) = ((uk : Int) - (c : Int) - (b0 : Int)) % 4294967296 := hsd
 rw [← hsd'] at u8
 have u9 := shr63 (u := (uk : Int) - (c : Int) - (b0 : Int)) (by omega) (by omega)
 have u10 : (if (uk : Int) - (c : Int) - (b0 : Int) < 0 then (1 : Int) else 0) = (b2 : Int) := by
  rw [hbs]; split <;> split <;> omega
 rw [u10] at u9
 have hgB := hg
 rw [B_eq] at hgB
 have u11 : IntKind.u32.wrap (g : Int) = (g : Int) := IntWalk.u32_in _ (by omega)
 have hb2v : b2 = 0 ∨ b2 = 1 := by rw [hbs]; split <;> simp
 rcases hb2v with h0 | h0
 ·subst h0
  simp [c_n_digit_k4, e1, e2, e3, hA, hsg, u6, u7, u8, u9, u11, eBin_shr, splice, hset]
  exact hK0 rfl
 ·subst h0
  obtain ⟨hgp, hfin⟩ := hK1 rfl
  simp [c_n_digit_k4, e1, e2, e3, hA, hsg, u6, u7, u8, u9, eBin_shr, splice, hset]
  refine digit_back (m := m) (σ := σ) (out := out) (b := b) (j := j) (g := g) h (ok_digsN (n := e + 3) (x := x - g * val v)) digsN_len ?_ ?_
  ·simp [stD2, mixD_zero, car_zero]
  ·refine awp_mono (fun ex s hs => ?_) (back_end h (ok_digsN (n := e + 3) (x := x - g * val v)) digsN_len hgp hg)
   rw [val_digsN_lt hZ] at hs
   obtain ⟨rfl, rfl⟩ := hs
   exact hfin
theorem digit_mid (hj : lk σ j = some (.arr 1 (drows W))) {r y : AV} {q : Nat} (hq : q = 69 ∨ q = 81) (hK0 : bor x (g * val v) (e + 3) = 0 → K .ret { env := [(4, uv g)], sto := pt σ j (.arr 1 (drows (seg W off (digsN (e + 3) (x - g * val v))))), out := out, base := b })
  (hK1 : bor x (g * val v) (e + 3) = 1 → 0 < g ∧ K .ret { env := [(4, uv (g - 1))], sto := pt σ j (.arr 1 (drows (seg W off (digsN (e + 3) (x - g * val v + val v))))), out := out, base := b }) :
  awp Try.prog c_n_digit_k5 { env := [(0, .sl j 1 off (e + 3)), (1, nl m v), (5, iv ((e : Int) + 2)), (7, u64v g), (8, r), (q, y)], sto := σ, out := out, base := b } K := by
 have hl := digit_last (m := m) (σ := σ) (out := out) (b := b) (j := j) h hg hx hT hZ hK0 hK1
 have hc0 : cK g v 0 = 0 := by simp [cK, val]
 have hs := seg_self (W := W) (off := off) (n := e + 3) (by have := h.hW; omega)
 rcases hq with rfl | rfl
 ·simp [c_n_digit_k5]
  refine digit_sub h hg hx hT ?_ hl
  simp [stD1, mixD_zero, hs, hc0, bor_zero]
  exact .inr (.inl (lk_pt_self hj))
 ·simp [c_n_digit_k5]
  refine digit_sub h hg hx hT ?_ hl
  simp [stD1, mixD_zero, hs, hc0, bor_zero]
  exact .inr (.inl (lk_pt_self hj))
end
theorem val_drop2 {v : List Nat} {e : Nat} (h : v.length = e + 2) : val v = (v.getD (e + 1) 0 * B + v.getD e 0) * B ^ e + val (v.take e) := by
 have h1 := val_split v e
 have h2 : v.drop e = [v[e], v[e + 1]] := by
  rw [List.drop_eq_getElem_cons (by omega), List.drop_eq_getElem_cons (by omega), List.drop_of_length_le (by omega)]
 rw [Nat.min_eq_left (by omega), h2] at h1
 have q1 : v.getD (e + 1) 0 = v[e + 1] := by simp [h]
 have q2 : v.getD e 0 = v[e] := by simp [h]
 rw [h1, q1, q2]
 simp only [val, Nat.mul_zero, Nat.add_zero]
 grind
theorem val_drop3 {u : List Nat} {e : Nat} (h : u.length = e + 3) : val u = ((u.getD (e + 2) 0 * B + u.getD (e + 1) 0) * B + u.getD e 0) * B ^ e + val (u.take e) := by
 have h1 := val_split u e
 have h2 : u.drop e = [u[e], u[e + 1], u[e + 2]] := by
  rw [List.drop_eq_getElem_cons (by omega), List.drop_eq_getElem_cons (by omega), List.drop_eq_getElem_cons (by omega), List.drop_of_length_le (by omega)]
 rw [Nat.min_eq_left (by omega), h2] at h1
 have q0 : u.getD (e + 2) 0 = u[e + 2] := by simp [h]
 have q1 : u.getD (e + 1) 0 = u[e + 1] := by simp [h]
 have q2 : u.getD e 0 = u[e] := by simp [h]
 rw [h1, q0, q1, q2]
 simp only [val, Nat.mul_zero, Nat.add_zero]
 grind
theorem top_le {t v1 v2 u2 P Q R U V : Nat} (_hP : 0 < P) (hU : U = (t * B + u2) * P + R) (hV : V = (v1 * B + v2) * P + Q) (hQ : Q < P) (hv2 : v2 < B) (hlt : U < V * B) : t ≤ v1 * B + (B - 1) := by
 have a1 : t * B * P ≤ U := by
  rw [hU]
  have : t * B * P ≤ (t * B + u2) * P := Nat.mul_le_mul_right _ (Nat.le_add_right _ _)
  exact Nat.le_trans this (Nat.le_add_right _ _)
 have a2 : V ≤ (v1 * B + B) * P := by
  rw [hV]
  have h1 : (v1 * B + v2 + 1) * P ≤ (v1 * B + B) * P := Nat.mul_le_mul_right _ (by omega)
  rw [Nat.add_mul, Nat.one_mul] at h1
  exact Nat.le_trans (Nat.add_le_add_left (Nat.le_of_lt hQ) _) h1
 have a3 : V * B ≤ (v1 * B + B) * P * B := Nat.mul_le_mul_right _ a2
 have a4 : t * (P * B) < (v1 * B + B) * (P * B) := by
  rw [← Nat.mul_assoc, ← Nat.mul_assoc]
  rw [Nat.mul_assoc t, Nat.mul_comm B P, ← Nat.mul_assoc] at a1
  exact Nat.lt_of_le_of_lt a1 (Nat.lt_of_lt_of_le hlt a3)
 have a5 := Nat.lt_of_mul_lt_mul_right a4
 have := B_pos
 generalize v1 * B = q at *
 omega
theorem gK_zero {w v1 : Nat} : gK w v1 0 = w / v1 := Nat.sub_zero _
theorem rK_zero {w v1 : Nat} : rK w v1 0 = w % v1 := by unfold rK; rw [Nat.zero_mul, Nat.add_zero]
theorem two_dig_lt {a c : Nat} (ha : a < B) (hc : c < B) : a * B + c < 18446744073709551616 := by
 have : (a + 1) * B ≤ B * B := Nat.mul_le_mul_right _ ha
 have hBB : B * B = 18446744073709551616 := by decide
 rw [Nat.add_mul, hBB, Nat.one_mul] at this
 exact Nat.lt_of_lt_of_le (Nat.add_lt_add_left hc _) this
theorem digN_val {z n : Nat} : digsN n (z + B ^ n) = digsN n z := digsN_mod
theorem dig_fin {m : Am.Mode} {W v : List Nat} {σ : List (Nat × Entry)} {out : List (List (Nat × AV))} {b j off e g U Q R : Nat} {K : Exit → St → Prop} (h : DigOk W v off e) (hg : g < B) (hj : lk σ j = some (.arr 1 (drows W)))
  {r y : AV} {q : Nat} (hq : q = 69 ∨ q = 81) (hx : ∀ k, k < e + 3 → U / B ^ k % B = W.getD (off + k) 0) (hUN : U < B ^ (e + 3)) (hTN : g * val v < B ^ (e + 3)) (hmod : val v * Q + R = U) (hR : R < val v) (hc : Q ≤ g ∧ g ≤ Q + 1)
  (hK : ∀ ex s, ex = .ret → s = { env := [(4, uv Q)], sto := pt σ j (.arr 1 (drows (seg W off (digsN (e + 3) R)))), out := out, base := b } → K ex s) :
  awp Try.prog c_n_digit_k5 { env := [(0, .sl j 1 off (e + 3)), (1, nl m v), (5, iv ((e : Int) + 2)), (7, u64v g), (8, r), (q, y)], sto := σ, out := out, base := b } K := by
 rcases Nat.lt_or_ge U (g * val v) with hlt | hle
 ·have hgQ : g = Q + 1 := by
   rcases Nat.lt_or_ge Q g with h1 | h1
   ·omega
   ·exfalso
    have : g * val v ≤ Q * val v := Nat.mul_le_mul_right _ h1
    rw [Nat.mul_comm] at hmod
    omega
  subst hgQ
  have hz : U + B ^ (e + 3) - (Q + 1) * val v + val v = R + B ^ (e + 3) := by
   rw [Nat.add_mul, Nat.one_mul] at *
   rw [Nat.mul_comm] at hmod
   omega
  refine digit_mid (x := U + B ^ (e + 3)) h hg (fun k hk => ?_) (by omega) (by omega) hj hq (fun h0 => ?_) (fun _ => ⟨by omega, ?_⟩)
  ·rw [digit_add hk]; exact hx k hk
  ·exfalso
   simp only [bor, Nat.add_mod_right, Nat.mod_eq_of_lt hUN, Nat.mod_eq_of_lt hTN, if_pos hlt] at h0
   exact absurd h0 (by decide)
  ·refine hK _ _ rfl ?_
   rw [hz, digN_val, Nat.add_sub_cancel]
 ·have hgQ : g = Q := by
   rcases Nat.lt_or_ge Q g with h1 | h1
   ·exfalso
    have : (Q + 1) * val v ≤ g * val v := Nat.mul_le_mul_right _ h1
    rw [Nat.add_mul, Nat.one_mul] at this
    rw [Nat.mul_comm] at hmod
    omega
   ·omega
  subst hgQ
  have hz : U - g * val v = R := by
   rw [Nat.mul_comm] at hmod
   omega
  refine digit_mid (x := U) h hg hx hle (by omega) hj hq (fun _ => ?_) (fun h1 => ?_)
  ·exact hK _ _ rfl (by rw [hz])
  ·exfalso
   simp only [bor, Nat.mod_eq_of_lt hUN, Nat.mod_eq_of_lt hTN, if_neg (Nat.not_lt.mpr hle)] at h1
   exact absurd h1 (by decide)
theorem digitI {m : Am.Mode} {W v : List Nat} {s : St} {K : AV → St → Prop} (b : Nat) {j off e U : Nat} (h : DigOk W v off e) (hj : lk s.sto j = some (.arr 1 (drows W)))
  (h1 : 0 < v.getD (e + 1) 0) (hU : U = val ((W.drop off).take (e + 3))) (hlt : U < val v * B)
  (hK : K (uv (U / val v)) ⟨s.env, pt s.sto j (.arr 1 (drows (seg W off (digsN (e + 3) (U % val v))))), s.out, s.base⟩) : CallI Try.prog F_n_digit [.sl j 1 off (e + 3), nl m v] s K := by
 obtain ⟨env, σ, out, base⟩ := s
 simp only at hj hK
 have hvl := h.hv
 have hWl := h.hW
 have hsm := h.small
 have hul : ((W.drop off).take (e + 3)).length = e + 3 := by simp; omega
 have hug : ∀ k, k < e + 3 → ((W.drop off).take (e + 3)).getD k 0 = W.getD (off + k) 0 := fun k hk => by
  simp [List.getD, hk]
 have hvV := val_drop2 hvl
 have huU := val_drop3 hul
 rw [← hU, hug _ (by omega), hug _ (by omega), hug _ (by omega)] at huU
 have okv2 : ok ((W.drop off).take (e + 3)) := ok_take (ok_drop h.okW off) _
 have hv2 : v.getD e 0 < B := ok_getD h.okv _
 have hu2 : W.getD (off + e) 0 < B := ok_getD h.okW _
 have hQ : val (v.take e) < B ^ e := val_lt_of (ok_take h.okv e) (by simp; omega)
 have hR : val (((W.drop off).take (e + 3)).take e) < B ^ e := val_lt_of (ok_take okv2 e) (by simp; omega)
 have hclose := qhat_close (w := topW W off e) h1 hu2 hv2 huU hR hvV hQ hlt
 have hw : topW W off e ≤ v.getD (e + 1) 0 * B + (B - 1) := by
  exact top_le (Nat.pow_pos B_pos) huU hvV hQ hv2 hlt
 have hv1 : e + 1 < v.length := by omega
 have hWa : off + (e + 2) < W.length := by omega
 have hWb : off + (e + 1) < W.length := by omega
 refine soundI' b t_n_digit (by simp) ?_
 have p1 : v.getD (e + 1) 0 = v[e + 1] := by simp [hv1]
 have p2 : W.getD (off + (e + 2)) 0 = W[off + (e + 2)] := by simp [hWa]
 have p3 : W.getD (off + (e + 1)) 0 = W[off + (e + 1)] := by simp [hWb]
 have b1 : v[e + 1] < B := ok_get h.okv hv1
 have b2 : W[off + (e + 2)] < B := ok_get h.okW hWa
 have b3 : W[off + (e + 1)] < B := ok_get h.okW hWb
 have hsh := shl32 b2
 have hwe : topW W off e = W[off + (e + 2)] * B + W[off + (e + 1)] := by rw [topW, p2, p3]
 have hor : bitI .or .u64 ((W[off + (e + 2)] * B : Nat) : Int) (W[off + (e + 1)] : Int) = ((topW W off e : Nat) : Int) := by rw [hwe]; exact or_hi b2 b3
 have hwB : topW W off e < 18446744073709551616 := by rw [hwe]; exact two_dig_lt b2 b3
 have fin : ∀ K2 : Exit → St → Prop, (∀ ex s, ex = .ret → s = { env := [(4, uv (U / val v))], sto := pt σ j (.arr 1 (drows (seg W off (digsN (e + 3) (U % val v))))), out := env :: out, base := b } → K2 ex s) →
   awp Try.prog (.loop c_n_digit_l0) (stD0 m W v σ (env :: out) b j off e 0) (blockC 0 (seqC Try.prog c_n_digit_k5 K2)) := by
  intro K2 hK2
  have hw3 : ∀ k, k < e + 3 → U / B ^ k % B = W.getD (off + k) 0 := fun k hk => by
   have hd := digsN_val okv2
   rw [hul, ← hU] at hd
   have h2 : k < (digsN (e + 3) U).length := by rw [digsN_len]; exact hk
   rw [← digsN_get h2, ← hug k hk, ← hd]
   simp [List.getD, h2]
  have hUN : U < B ^ (e + 3) := by rw [hU]; exact val_lt_of okv2 (Nat.le_of_eq hul)
  have hVpos : 0 < val v := by
   have hpp := Nat.pow_pos (n := e) B_pos
   rw [hvV]
   exact Nat.lt_of_lt_of_le (Nat.mul_pos (Nat.lt_of_lt_of_le (Nat.mul_pos h1 B_pos) (Nat.le_add_right _ _)) hpp) (Nat.le_add_right _ _)
  have hgB : qhat (topW W off e) (W.getD (off + e) 0) (v.getD (e + 1) 0) (v.getD e 0) < B := Nat.lt_of_le_of_lt (Nat.min_le_left _ _) (by decide)
  refine digit_guess h hj h1 hw _ rfl fun r q y hq => ?_
  generalize qhat (topW W off e) (W.getD (off + e) 0) (v.getD (e + 1) 0) (v.getD e 0) = g at *
  have hmod : val v * (U / val v) + U % val v = U := Nat.div_add_mod U (val v)
  have hml := Nat.mod_lt U hVpos
  have hVN : val v < B ^ (e + 2) := val_lt_of h.okv (Nat.le_of_eq hvl)
  have hTN : g * val v < B ^ (e + 3) := by
   rw [show e + 3 = (e + 2) + 1 from rfl, Nat.pow_succ, Nat.mul_comm]
   exact Nat.mul_lt_mul_of_lt_of_lt hVN hgB
  exact dig_fin h hgB hj hq hw3 hUN hTN hmod hml hclose hK2
 have st0 : stD0 m W v σ (env :: out) b j off e 0 = { env := [(0, .sl j 1 off (e + 3)), (1, nl m v), (5, iv ((e : Int) + 2)), (7, u64v (topW W off e / v.getD (e + 1) 0)), (8, u64v (topW W off e % v.getD (e + 1) 0))], sto := σ, out := env :: out, base := b } := by
  rw [stD0, gK_zero, rK_zero]
 rw [st0] at fin
 clear hwe
 clear st0 hclose hw huU hvV
 obtain ⟨rb, hrb⟩ : ∃ rb, W[off + (e + 2)] * B = rb := ⟨_, rfl⟩
 rw [hrb] at hor hsh
 generalize topW W off e = w at *
 rw [p1] at fin h1
 generalize g1 : v[e + 1] = v1 at *
 generalize g2 : W[off + (e + 2)] = w3 at *
 generalize g3 : W[off + (e + 1)] = w2 at *
 have t1 : IntKind.u64.wrap ((w : Int).tdiv v1) = ((w / v1 : Nat) : Int) := by
  rw [← Int.ofNat_tdiv]
  exact w64 (Nat.lt_of_le_of_lt (Nat.div_le_self _ _) hwB)
 have t2 : ((w : Int).tmod v1) = ((w % v1 : Nat) : Int) := by rw [← Int.ofNat_tmod]
 have t3 : IntKind.u64.wrap ((w : Int) / v1) = ((w / v1 : Nat) : Int) := by
  rw [← Int.natCast_ediv]
  exact w64 (Nat.lt_of_le_of_lt (Nat.div_le_self _ _) hwB)
 generalize w / v1 = q at *
 generalize w % v1 = r at *
 have hv10 : ¬ v1 = 0 := by omega
 have c0 : (e : Int) + 2 < (e : Int) + 3 := by omega
 have c1 : ((e : Int) + 2).toNat = e + 2 := by omega
 have c2 : ((e : Int) + 1).toNat = e + 1 := by omega
 have c3 : (0 : Int) ≤ (e : Int) + 2 := by omega
 have c4 : (0 : Int) ≤ (e : Int) + 1 := by omega
 have c5 : (e : Int) + 1 < (e : Int) + 3 := by omega
 have i5 : IntKind.i64.wrap ((e : Int) + 2 - 1) = (e : Int) + 1 := by rw [wrap64] <;> omega
 have hlen : (v.length : Int) = (e : Int) + 2 := by omega
 rw [B_eq] at b1 b2 b3
 have u1 : IntKind.u64.wrap (v1 : Int) = v1 := w64 (by omega)
 have u2 : IntKind.u64.wrap (w3 : Int) = w3 := w64 (by omega)
 have u3 : IntKind.u64.wrap (w2 : Int) = w2 := w64 (by omega)
 simp [c_n_digit, hj, g1, g2, g3, c0, c1, c2, c3, c4, c5, i5, hlen, u1, u2, u3, hWa, hWb, hv1, hv10, eBin_shl, hsh, hor, eBin_quo, eBin_rem, t2, t3]
 refine fin _ fun ex s he hs => ?_
 subst he hs
 simp [r_n_digit]
 exact hK
end Go.Proofs.Ytdeifcfjkmfocaa

namespace Go.Dig
def lz (t : Nat) : Nat := 31 - Nat.log2 t
theorem lz_lt {t : Nat} : lz t < 32 := by unfold lz; omega
theorem log_lt {t : Nat} (ht : t < B) : Nat.log2 t < 32 := by
 rcases Nat.eq_zero_or_pos t with h | h
 ·subst h; decide
 ·exact (Nat.log2_lt (by omega)).2 ht
theorem lz_small {t k : Nat} (_ht : t < B) (hk : k < lz t) : t * 2 ^ k < 2147483648 := by
 have h1 : t < 2 ^ (Nat.log2 t + 1) := Nat.lt_log2_self
 have h2 : t * 2 ^ k < 2 ^ (Nat.log2 t + 1) * 2 ^ k := Nat.mul_lt_mul_of_pos_right h1 (Nat.pow_pos (by omega))
 rw [← Nat.pow_add] at h2
 have h3 : 2 ^ (Nat.log2 t + 1 + k) ≤ 2 ^ 31 := Nat.pow_le_pow_right (by omega) (by unfold lz at hk; omega)
 have h4 : (2 : Nat) ^ 31 = 2147483648 := by decide
 omega
theorem lz_top {t : Nat} (h0 : 0 < t) (ht : t < B) : 2147483648 ≤ t * 2 ^ lz t ∧ t * 2 ^ lz t < B := by
 have hl := log_lt ht
 constructor
 ·have h1 : 2 ^ Nat.log2 t ≤ t := Nat.log2_self_le (by omega)
  have h2 : 2 ^ Nat.log2 t * 2 ^ lz t ≤ t * 2 ^ lz t := Nat.mul_le_mul_right _ h1
  rw [← Nat.pow_add, show Nat.log2 t + lz t = 31 by unfold lz; omega] at h2
  have h4 : (2 : Nat) ^ 31 = 2147483648 := by decide
  omega
 ·have h1 : t < 2 ^ (Nat.log2 t + 1) := Nat.lt_log2_self
  have h2 : t * 2 ^ lz t < 2 ^ (Nat.log2 t + 1) * 2 ^ lz t := Nat.mul_lt_mul_of_pos_right h1 (Nat.pow_pos (by omega))
  rw [← Nat.pow_add, show Nat.log2 t + 1 + lz t = 32 by unfold lz; omega] at h2
  exact h2
theorem digs_len_eq {x n : Nat} (h1 : B ^ n ≤ x) (h2 : x < B ^ (n + 1)) : (digs x).length = n + 1 := by
 have a := digs_len_le.2 h2
 have b := digs_len_lt.2 h1
 omega
theorem top_digit {D n : Nat} (h : (digs D).length = n + 1) : B ^ n ≤ D ∧ D < B ^ (n + 1) ∧ 0 < D / B ^ n ∧ D / B ^ n < B := by
 have a : B ^ n ≤ D := digs_len_lt.1 (by omega)
 have b : D < B ^ (n + 1) := digs_len_le.1 (by omega)
 refine ⟨a, b, Nat.div_pos a (pw_pos n), Nat.div_lt_of_lt_mul ?_⟩
 rw [← Nat.pow_succ]; exact b
theorem shift_len {D n N : Nat} (h : (digs D).length = n + 1) (hN : N = lz (D / B ^ n)) : B ^ n ≤ D * 2 ^ N ∧ D * 2 ^ N < B ^ (n + 1) ∧ (digs (D * 2 ^ N)).length = n + 1 := by
 obtain ⟨a, b, c, d⟩ := top_digit h
 have hl := (lz_top c d).2
 rw [← hN] at hl
 have hN32 : N < 32 := by rw [hN]; exact lz_lt
 have hB : B = 2 ^ (32 - N) * 2 ^ N := by
  rw [← Nat.pow_add, Nat.sub_add_cancel (by omega)]; rfl
 have h1 : D / B ^ n + 1 ≤ 2 ^ (32 - N) := by
  have h0 := hl
  generalize D / B ^ n = t at *
  rw [hB] at h0
  exact Nat.lt_of_mul_lt_mul_right h0
 have h2 : D < (D / B ^ n + 1) * B ^ n := by
  have := Nat.lt_mul_div_succ D (pw_pos n)
  rw [Nat.mul_comm] at this
  exact this
 have h3 : D < 2 ^ (32 - N) * B ^ n := Nat.lt_of_lt_of_le h2 (Nat.mul_le_mul_right _ h1)
 have h4 : D * 2 ^ N < 2 ^ (32 - N) * B ^ n * 2 ^ N := Nat.mul_lt_mul_of_pos_right h3 (Nat.pow_pos (by omega))
 have h5 : 2 ^ (32 - N) * B ^ n * 2 ^ N = B ^ (n + 1) := by
  rw [Nat.mul_right_comm, ← hB, Nat.pow_succ, Nat.mul_comm]
 have h6 : B ^ n ≤ D * 2 ^ N := Nat.le_trans a (Nat.le_mul_of_pos_right _ (Nat.pow_pos (by omega)))
 rw [h5] at h4
 exact ⟨h6, h4, digs_len_eq h6 h4⟩
def rst (A V j : Nat) : Nat := A / B ^ j % V * B ^ j + A % B ^ j
theorem rst_lt {A V j n : Nat} (hV : V < B ^ n) (h0 : 0 < V) : rst A V j < B ^ (j + n) := by
 have h1 : A / B ^ j % V + 1 ≤ B ^ n := Nat.le_trans (Nat.mod_lt _ h0) (Nat.le_of_lt hV)
 have h2 : (A / B ^ j % V + 1) * B ^ j ≤ B ^ n * B ^ j := Nat.mul_le_mul_right _ h1
 have h3 : A % B ^ j < B ^ j := Nat.mod_lt _ (pw_pos j)
 have h4 : B ^ (j + n) = B ^ n * B ^ j := by rw [Nat.pow_add, Nat.mul_comm]
 unfold rst
 rw [h4]
 rw [Nat.add_mul, Nat.one_mul] at h2
 omega
theorem rst_zero {A V : Nat} : rst A V 0 = A % V := by simp [rst, Nat.mod_one]
theorem rst_top {A V j : Nat} (h : A / B ^ j < V) : rst A V j = A := by
 unfold rst
 rw [Nat.mod_eq_of_lt h, Nat.mul_comm]
 exact Nat.div_add_mod A (B ^ j)
theorem rst_low {A V j : Nat} : rst A V j % B ^ j = A % B ^ j := by
 unfold rst
 rw [Nat.add_comm, Nat.add_mul_mod_self_right, Nat.mod_mod]
theorem rst_seg {A V j : Nat} : rst A V (j + 1) / B ^ j = A / B ^ j / B % V * B + A / B ^ j % B := by
 unfold rst
 rw [show A / B ^ (j + 1) = A / B ^ j / B by rw [Nat.pow_succ, Nat.div_div_eq_div_mul]]
 have h1 : A % B ^ (j + 1) = A % B ^ j + B ^ j * (A / B ^ j % B) := by rw [Nat.pow_succ, Nat.mod_mul]
 rw [h1, Nat.pow_succ]
 have h2 : A / B ^ j / B % V * (B ^ j * B) + (A % B ^ j + B ^ j * (A / B ^ j % B)) = A % B ^ j + (A / B ^ j / B % V * B + A / B ^ j % B) * B ^ j := by grind
 rw [h2, Nat.add_mul_div_right _ _ (pw_pos j), Nat.div_eq_of_lt (Nat.mod_lt _ (pw_pos j)), Nat.zero_add]
theorem rst_step {A V j L n : Nat} (hV : V < B ^ n) (h0 : 0 < V) (hL : j + n + 1 ≤ L) : seg (digsN L (rst A V (j + 1))) j (digsN (n + 1) (A / B ^ j % V)) = digsN L (rst A V j) := by
 have hlen : j + (digsN (n + 1) (A / B ^ j % V)).length ≤ (digsN L (rst A V (j + 1))).length := by rw [digsN_len, digsN_len]; omega
 have hlt1 := rst_lt (A := A) (j := j + 1) hV h0
 have hlt0 := rst_lt (A := A) (j := j) hV h0
 have hle : B ^ (j + 1 + n) ≤ B ^ L := Nat.pow_le_pow_right B_pos (by omega)
 have hle0 : B ^ (j + n) ≤ B ^ L := Nat.pow_le_pow_right B_pos (by omega)
 have hL1 : rst A V (j + 1) < B ^ L := Nat.lt_of_lt_of_le hlt1 hle
 have o1 : ok (digsN L (rst A V (j + 1))) := ok_digsN
 refine val_inj ?_ ok_digsN (by rw [seg_len hlen, digsN_len, digsN_len]) ?_
 ·unfold seg
  exact ok_append.2 ⟨ok_append.2 ⟨ok_take o1 _, ok_digsN⟩, ok_drop o1 _⟩
 ·unfold seg
  rw [val_append, val_append, val_take o1 (by rw [digsN_len]; omega), val_drop o1 (by rw [digsN_len, digsN_len]; omega), val_digsN_lt hL1, val_digsN_lt (Nat.lt_of_lt_of_le hlt0 hle0)]
  have hz : rst A V (j + 1) / B ^ (j + (digsN (n + 1) (A / B ^ j % V)).length) = 0 := by
   rw [digsN_len]
   exact Nat.div_eq_of_lt (by rw [show j + (n + 1) = j + 1 + n by omega]; exact hlt1)
  have hl : (List.take j (digsN L (rst A V (j + 1)))).length = j := by simp [digsN_len]; omega
  have hx : A / B ^ j % V < B ^ (n + 1) := Nat.lt_trans (Nat.lt_trans (Nat.mod_lt _ h0) hV) (Nat.pow_lt_pow_right (by decide) (by omega))
  rw [hz, hl, val_digsN_lt hx, Nat.mul_zero, Nat.add_zero]
  have h1 : rst A V (j + 1) % B ^ j = A % B ^ j := by
   have h2 : rst A V (j + 1) % B ^ (j + 1) % B ^ j = A % B ^ (j + 1) % B ^ j := by rw [rst_low]
   rw [Nat.mod_mod_of_dvd _ (Nat.pow_dvd_pow B (by omega)), Nat.mod_mod_of_dvd _ (Nat.pow_dvd_pow B (by omega))] at h2
   exact h2
  rw [h1]
  unfold rst
  rw [Nat.mul_comm, Nat.add_comm]
theorem rst_digit {A V j : Nat} (h0 : 0 < V) : (rst A V (j + 1) / B ^ j) / V = A / V / B ^ j % B ∧ (rst A V (j + 1) / B ^ j) % V = A / B ^ j % V ∧ rst A V (j + 1) / B ^ j < V * B := by
 obtain ⟨s1, s2, s3⟩ := small_step (A := A / B ^ j) h0
 rw [rst_seg]
 refine ⟨?_, s2, s3⟩
 rw [s1, Nat.div_div_eq_div_mul, Nat.div_div_eq_div_mul, Nat.mul_comm]
end Go.Dig
namespace Go.Dig
theorem shr_digit {X N i : Nat} (hN : N < 32) : (X / 2 ^ N) / B ^ i % B = (X / B ^ i % B) / 2 ^ N + (X / B ^ (i + 1) % B) * 2 ^ (32 - N) % B ∧
  (X / B ^ i % B) / 2 ^ N ||| (X / B ^ (i + 1) % B) * 2 ^ (32 - N) % B = (X / B ^ i % B) / 2 ^ N + (X / B ^ (i + 1) % B) * 2 ^ (32 - N) % B := by
 have hB : B = 2 ^ (32 - N) * 2 ^ N := by
  rw [← Nat.pow_add, Nat.sub_add_cancel (by omega)]; rfl
 have hP : 0 < 2 ^ N := Nat.pow_pos (by omega)
 have hM : 0 < 2 ^ (32 - N) := Nat.pow_pos (by omega)
 rw [show X / 2 ^ N / B ^ i = X / B ^ i / 2 ^ N by rw [Nat.div_div_eq_div_mul, Nat.div_div_eq_div_mul, Nat.mul_comm], show X / B ^ (i + 1) = X / B ^ i / B by rw [Nat.pow_succ, Nat.div_div_eq_div_mul]]
 generalize X / B ^ i = Y
 have hx : Y % B / 2 ^ N < 2 ^ (32 - N) := by
  apply Nat.div_lt_of_lt_mul
  rw [Nat.mul_comm, ← hB]; exact Nat.mod_lt _ B_pos
 have hc : ∀ q, q * 2 ^ (32 - N) % B = (q % 2 ^ N) * 2 ^ (32 - N) := fun q => by
  have h := Nat.mul_mod_mul_right (2 ^ (32 - N)) q (2 ^ N)
  rw [Nat.mul_comm (2 ^ N) (2 ^ (32 - N)), ← hB] at h
  exact h
 have hY : Y / 2 ^ N = Y / B * 2 ^ (32 - N) + Y % B / 2 ^ N := by
  have h1 : Y = Y % B + 2 ^ N * (Y / B * 2 ^ (32 - N)) := by
   have h2 := Nat.mod_add_div Y B
   have h3 : 2 ^ N * (Y / B * 2 ^ (32 - N)) = B * (Y / B) := by
    have : 2 ^ N * (Y / B * 2 ^ (32 - N)) = 2 ^ (32 - N) * 2 ^ N * (Y / B) := by
     generalize Y / B = z
     generalize (2 : Nat) ^ N = p
     generalize (2 : Nat) ^ (32 - N) = m
     grind
    rw [this, ← hB]
   rw [h3]; exact h2.symm
  have h4 : Y / 2 ^ N = (Y % B + 2 ^ N * (Y / B * 2 ^ (32 - N))) / 2 ^ N := by rw [← h1]
  rw [h4, Nat.add_mul_div_left _ _ hP, Nat.add_comm]
 have hd : 2 ^ N ∣ B := ⟨2 ^ (32 - N), by rw [hB, Nat.mul_comm]⟩
 rw [hY, hc (Y / B % B), Nat.mod_mod_of_dvd _ hd]
 generalize hq : Y / B % 2 ^ N = a
 have ha : a < 2 ^ N := by rw [← hq]; exact Nat.mod_lt _ hP
 generalize Y % B / 2 ^ N = c at *
 have hlt : a * 2 ^ (32 - N) + c < B := by
  have h1 : (a + 1) * 2 ^ (32 - N) ≤ 2 ^ N * 2 ^ (32 - N) := Nat.mul_le_mul_right _ ha
  rw [Nat.mul_comm (2 ^ N), ← hB, Nat.add_mul, Nat.one_mul] at h1
  omega
 constructor
 ·have h2 := hc (Y / B)
  rw [hq] at h2
  rw [Nat.add_mod, h2, Nat.mod_eq_of_lt (a := c) (by omega), Nat.mod_eq_of_lt hlt, Nat.add_comm]
 ·have h := Nat.two_pow_add_eq_or_of_lt hx a
  rw [Nat.or_comm, Nat.mul_comm a, ← h, Nat.add_comm]
end Go.Dig
namespace Go.Dig
structure DivOk (A D n m N X V : Nat) : Prop where
 N32 : N < 32
 X_eq : X = A * 2 ^ N
 V_eq : V = D * 2 ^ N
 Xlt : X < B ^ (n + 2 + m + 1)
 Vlen : (digs V).length = n + 2
 Vpos : 0 < V
 Vlt : V < B ^ (n + 2)
 top : X / B ^ (m + 1) < V
 q : X / V = A / D
 r : X % V = (A % D) * 2 ^ N
 vtop : 0 < (digs V).getD (n + 1) 0
theorem divOk {A D n m : Nat} (hA : (digs A).length = n + 2 + m) (hD : (digs D).length = n + 2) : DivOk A D n m (lz (D / B ^ (n + 1))) (A * 2 ^ lz (D / B ^ (n + 1))) (D * 2 ^ lz (D / B ^ (n + 1))) := by
 have hN32 : lz (D / B ^ (n + 1)) < 32 := lz_lt
 obtain ⟨h1, h2, h3⟩ := shift_len (n := n + 1) hD rfl
 obtain ⟨h4, h5, h6, h7⟩ := top_digit (n := n + 1) hD
 have hP : 0 < 2 ^ lz (D / B ^ (n + 1)) := Nat.pow_pos (by omega)
 have hAlt : A < B ^ (n + 2 + m) := digs_len_le.1 (Nat.le_of_eq hA)
 generalize lz (D / B ^ (n + 1)) = N at *
 obtain ⟨k1, k2, k3, k4⟩ := top_digit (n := n + 1) h3
 refine ⟨hN32, rfl, rfl, ?_, h3, Nat.lt_of_lt_of_le (pw_pos _) h1, h2, ?_, Nat.mul_div_mul_right _ _ hP, Nat.mul_mod_mul_right _ _ _, ?_⟩
 ·have : 2 ^ N ≤ B := Nat.le_of_lt (pow_bits hN32)
  rw [Nat.pow_succ]
  exact Nat.lt_of_lt_of_le (Nat.mul_lt_mul_of_pos_right hAlt hP) (Nat.mul_le_mul_left _ this)
 ·apply Nat.div_lt_of_lt_mul
  have a1 : A * 2 ^ N < B ^ (n + 2 + m) * 2 ^ N := Nat.mul_lt_mul_of_pos_right hAlt hP
  have a2 : B ^ (n + 1) * 2 ^ N ≤ D * 2 ^ N := Nat.mul_le_mul_right _ h4
  have a3 : B ^ (m + 1) * (B ^ (n + 1) * 2 ^ N) ≤ B ^ (m + 1) * (D * 2 ^ N) := Nat.mul_le_mul_left _ a2
  have a4 : B ^ (n + 2 + m) = B ^ (m + 1) * B ^ (n + 1) := by rw [← Nat.pow_add]; congr 1; omega
  rw [a4, Nat.mul_assoc] at a1
  exact Nat.lt_of_lt_of_le a1 a3
 ·have hl : n + 1 < (digs (D * 2 ^ N)).length := by rw [h3]; omega
  have : (digs (D * 2 ^ N)).getD (n + 1) 0 = D * 2 ^ N / B ^ (n + 1) := by
   rw [List.getD_eq_getElem?_getD, List.getElem?_eq_getElem hl, Option.getD_some, get_digs, Nat.mod_eq_of_lt k4]
  rw [this]
  exact k3
theorem rst_val {A V j n L : Nat} (hV : V < B ^ n) (h0 : 0 < V) (hL : j + n + 1 ≤ L) : rst A V (j + 1) / B ^ j = val (((digsN L (rst A V (j + 1))).drop j).take (n + 1)) := by
 have o1 : ok (digsN L (rst A V (j + 1))) := ok_digsN
 have hlt1 := rst_lt (A := A) (j := j + 1) hV h0
 have hL1 : rst A V (j + 1) < B ^ L := Nat.lt_of_lt_of_le hlt1 (Nat.pow_le_pow_right B_pos (by omega))
 have hlen : n + 1 ≤ ((digsN L (rst A V (j + 1))).drop j).length := by rw [List.length_drop, digsN_len]; omega
 rw [val_take (ok_drop o1 _) hlen, val_drop o1 (by rw [digsN_len]; omega), val_digsN_lt hL1, Nat.mod_eq_of_lt]
 apply Nat.div_lt_of_lt_mul
 rw [← Nat.pow_add, show j + (n + 1) = j + 1 + n by omega]
 exact hlt1
end Go.Dig

namespace Go.Proofs.Ytdeifcfjkmfocaa
open Go Go.Am Go.Dig
def stDv0 (A D k : Nat) : St := { env := [(0, nD A), (1, nD D), (9, u64v k)], sto := [] }
abbrev divR (A D : Nat) : AV := AV.tuple [nD (A / D), nD (A % D), iv 0]
theorem imp_tup3 {x1 x2 x3 y1 y2 y3 : AV} (h1 : AV.imp x1 y1) (h2 : AV.imp x2 y2) (h3 : AV.imp x3 y3) : AV.imp (.tuple [x1, x2, x3]) (.tuple [y1, y2, y3]) := fun I w v hv => by
 cases hv with
 | tuple cells vs hs hc =>
  refine .tuple _ _ (by simpa using hs) fun i c hi => ?_
  match i, hi with
  | 0, hi => simp at hi; subst hi; exact h1 _ _ _ (hc 0 x1 rfl)
  | 1, hi => simp at hi; subst hi; exact h2 _ _ _ (hc 1 x2 rfl)
  | 2, hi => simp at hi; subst hi; exact h3 _ _ _ (hc 2 x3 rfl)
  | i + 3, hi => simp at hi
theorem imp_arg2 {f : FuncId} {x y y' r : AV} (h : SoundCall Try.prog f [x, y'] r) (hy : AV.imp y y') : SoundCall Try.prog f [x, y] r := fun I vs w h1 h2 h3 =>
 h I vs w h1 h2 fun i a hi => by
  match i, hi with
  | 0, hi => exact h3 0 a hi
  | 1, hi => simp at hi; subst hi; exact hy _ _ _ (h3 1 y rfl)
  | i + 2, hi => simp at hi
theorem small_zero {sz : Nat} : AV.imp (.list sz .full []) (nD 0) := by
 rw [nD, digs_zero]
 exact AV.imp_nil rfl
theorem div_start {m1 m2 : Am.Mode} {a c : List Nat} (ha : ok a) (hc : ok c) (hna : a.length < 549755813888) (hnc : c.length < 549755813888) (f1 : stm m1 = m1) (f2 : stm m2 = m2) (hD : val c ≠ 0)
  (hmain : ∀ n m, (digs (val c)).length = n + 2 → (digs (val a)).length = n + 2 + m → val c ≤ val a →
   awp Try.prog (.loop c_n_DivMod_l0) (stDv0 (val a) (val c) 0) (blockC 0 (seqC Try.prog c_n_DivMod_k5 (retW r_n_DivMod (divR (val a) (val c)))))) :
  SoundCall Try.prog F_n_DivMod [nl m1 a, nl m2 c] (divR (val a) (val c)) := by
 have k1 := trim_sound (m := m1) ha (by omega)
 have k2 := trim_sound (m := m2) hc (by omega)
 have hla := digs_digs_norm ha
 have hlc := digs_digs_norm hc
 generalize val a = A at *
 generalize val c = D at *
 have kc := cmp_sound (m1 := .plain) (m2 := .plain) (ok_digs A) (ok_digs D) (by omega) (by omega)
 rw [val_digs, val_digs] at kc
 have hl0 : ¬ (digs D).length = 0 := by rw [List.length_eq_zero_iff, digs_eq_nil]; exact hD
 have hl0' : ¬ digs D = [] := by rw [digs_eq_nil]; exact hD
 refine soundW' t_n_DivMod (by simp) ?_
 simp [c_n_DivMod]
 refine eCall_i k1 (by simp [f1]) (by simp) ?_
 simp
 refine eCall_i k2 (by simp [f2]) (by simp) ?_
 simp [hl0]
 refine eCall_i kc (by simp) (by simp) ?_
 by_cases hlt : A < D
 ·have hc1 : cmpN A D = -1 := by simp [cmpN, hlt]
  simp [hc1]
  have ka := add_sound (m1 := .plain) (m2 := .plain) (a := digs A) (b := []) (ok_digs A) ok_nil (by omega) (by simp)
  rw [val_digs] at ka
  refine eCall_i (imp_arg2 ka (AV.imp_nil (sz := 0) rfl)) (by simp) (by simp) ?_
  simp [r_n_DivMod, val]
  rw [divR, Nat.div_eq_of_lt hlt, Nat.mod_eq_of_lt hlt]
  exact imp_tup3 small_zero AV.imp.refl AV.imp.refl
 ·have hc1 : ¬ cmpN A D < 0 := by simp only [cmpN, if_neg hlt]; split <;> omega
  by_cases h1 : (digs D).length = 1
  ·have h1z : ((digs D).length : Int) = 1 := by omega
   have h10 : 0 < (digs D).length := by omega
   have hDB : D < B := by
    have := digs_len_le.1 (Nat.le_of_eq h1)
    simpa using this
   have hg : (digs D)[0] = D := by rw [get_digs]; simp [Nat.mod_eq_of_lt hDB]
   have ks := small_sound (m := .plain) (a := digs A) (d := D) (ok_digs A) (by omega) (by omega) hDB rfl
   rw [val_digs] at ks
   have hm : A % D < D := Nat.mod_lt _ (by omega)
   generalize hq : A % D = r at *
   rw [B_eq] at hDB
   have kf := fromUint_sound (x := r) (by omega)
   have u1 : IntKind.u64.wrap (r : Int) = r := w64 (by omega)
   simp [hc1, h1z, h10, hg]
   refine eCall_i ks (by simp) (by simp) ?_
   simp [u1]
   refine eCall_i kf (by simp) (by simp) ?_
   simp [r_n_DivMod]
   rw [divR, hq]
   exact AV.imp.refl
  ·have h1z : ¬ ((digs D).length : Int) = 1 := by omega
   simp [hc1, h1z]
   obtain ⟨n, hn⟩ : ∃ n, (digs D).length = n + 2 := ⟨(digs D).length - 2, by omega⟩
   have hle : (digs D).length ≤ (digs A).length := by
    rcases Nat.lt_or_ge (digs A).length (digs D).length with h2 | h2
    ·exact absurd (lt_of_len h2) hlt
    ·exact h2
   obtain ⟨m, hm⟩ : ∃ m, (digs A).length = n + 2 + m := ⟨(digs A).length - (n + 2), by omega⟩
   exact hmain n m hn hm (by omega)
end Go.Proofs.Ytdeifcfjkmfocaa

namespace Go.Proofs.Ytdeifcfjkmfocaa
open Go Go.Am Go.Dig
theorem shifted_sound {m : Am.Mode} {a : List Nat} {bits : Nat} (ha : ok a) (hn : a.length < 1099511627775) (hb : bits < 32) : SoundCall Try.prog F_n_shifted [nl m a, u64v bits] (nl .plain (digsN (a.length + 1) (val a * 2 ^ bits))) := by
 refine soundW' t_n_shifted (by simp) ?_
 have w : IntKind.i64.wrap ((a.length : Int) + 1) = (a.length : Int) + 1 := wrap64 (by omega) (by omega)
 have e1 : ((a.length : Int) + 1).toNat = a.length + 1 := by omega
 simp [c_n_shifted, w, eMk, e1]
 refine ⟨by omega, by omega, by omega, ?_⟩
 refine awp_forW (stSh a m [] [] 0 bits) (fun _ => True) a.length (by simp [stSh, shL_zero, digsN_zero]) trivial (fun i hi _ => ?_) (fun _ => ?_)
 ·have e : (i : Int) < a.length := by omega
  have hpow := pow_bits hb
  have hak := ok_get ha hi
  have hL := shL_lt (bits := bits) (i := i) ha
  have hLB : shL a bits i < B ^ (i + 1) := by
   have : B ^ i * 2 ^ bits ≤ B ^ i * B := Nat.mul_le_mul_left _ (by omega)
   rw [Nat.pow_succ]; omega
  have hc : shL a bits i / B ^ i < 2 ^ bits := Nat.div_lt_of_lt_mul hL
  obtain ⟨o1, o2, o3, o4⟩ := low_or (c := shL a bits i / B ^ i) (a := a[i]) hb hc hak
  have hsucc := shL_succ (bits := bits) hi
  have hL2 := shL_lt (bits := bits) (i := i + 1) ha
  have hLN : shL a bits (i + 1) < B ^ (a.length + 1) := by
   have h1 : B ^ (i + 1) * 2 ^ bits ≤ B ^ (i + 1) * B := Nat.mul_le_mul_left _ (by omega)
   have h3 : B ^ (i + 1 + 1) = B ^ (i + 1) * B := Nat.pow_succ _ _
   have h2 : B ^ (i + 1 + 1) ≤ B ^ (a.length + 1) := Nat.pow_le_pow_right B_pos (by omega)
   omega
  have htB : (shL a bits i / B ^ i + a[i] * 2 ^ bits) / B < B := by
   rw [← o3]
   apply Nat.div_lt_of_lt_mul
   exact Nat.mul_lt_mul_of_lt_of_lt hak hpow
  have hstep := shift_step (N := a.length + 1) (i := i) (t := a[i] * 2 ^ bits) hLB (by omega) (by rw [← hsucc]; exact hLN) htB
  rw [← hsucc, ← o2, ← o3] at hstep
  have hlen := digsN_len (n := a.length + 1) (x := shL a bits i)
  have hi1 : i < (digsN (a.length + 1) (shL a bits i)).length := by omega
  have hget : (digsN (a.length + 1) (shL a bits i))[i] = shL a bits i / B ^ i := by
   rw [digsN_get, Nat.mod_eq_of_lt (Nat.lt_trans hc hpow)]
  obtain ⟨c, hcE⟩ : ∃ c, shL a bits i / B ^ i = c := ⟨_, rfl⟩
  obtain ⟨t, htE⟩ : ∃ t, a[i] * 2 ^ bits = t := ⟨_, rfl⟩
  have htlt : t < B * B := by rw [← htE]; exact Nat.mul_lt_mul_of_lt_of_lt hak hpow
  rw [hcE, htE] at o1 o4 hstep
  rw [hcE] at hget hc
  obtain ⟨x, hxE⟩ : ∃ x, t % B = x := ⟨_, rfl⟩
  obtain ⟨q, hqE⟩ : ∃ q, t / B = q := ⟨_, rfl⟩
  rw [hxE] at o1 o4 hstep
  rw [hqE] at hstep
  have hxB : x < B := by rw [← hxE]; exact Nat.mod_lt _ B_pos
  have hqB : q < B := by rw [← hqE]; exact Nat.div_lt_of_lt_mul htlt
  have hor := or32 (c := c) (x := x) (by omega) hxB (by rw [o1]; exact o4)
  rw [o1] at hor
  obtain ⟨y, hyE⟩ : ∃ y, c + x = y := ⟨_, rfl⟩
  rw [hyE] at hor hstep
  have hBB : B * B = 18446744073709551616 := by decide
  rw [hBB] at htlt
  have f1 : IntKind.u32.wrap (t : Int) = (x : Int) := by rw [w32, hxE]
  have f2 : (t : Int).fdiv (2 ^ min 32 IntKind.u64.bits) = (q : Int) := by rw [shr32, hqE]
  have f3 : IntKind.u32.wrap (q : Int) = q := IntWalk.u32_in _ (by rw [B_eq] at hqB; omega)
  have u1 : IntKind.u64.wrap ((a[i] : Nat) : Int) = (a[i] : Nat) := w64 (by rw [B_eq] at hak; omega)
  have hmin : min bits IntKind.u64.bits = bits := by
   have : IntKind.u64.bits = 64 := rfl
   omega
  have u2 : IntKind.u64.wrap (((a[i] : Nat) : Int) * 2 ^ bits) = (t : Int) := by
   rw [show ((a[i] : Nat) : Int) * 2 ^ bits = ((a[i] * 2 ^ bits : Nat) : Int) by simp, htE]; exact w64 htlt
  have hset : ((drows (digsN (a.length + 1) (shL a bits i))).set i [uv y]).set (i + 1) [uv q] = drows (digsN (a.length + 1) (shL a bits (i + 1))) := by
   rw [drows_set, drows_set, hstep]
  have wi : IntKind.i64.wrap ((i : Int) + 1) = (i : Int) + 1 := wrap64 (by omega) (by omega)
  have ei1 : (i : Int) < a.length + 1 := by omega
  have e2 : ((i : Int) + 1).toNat = i + 1 := by omega
  have e3 : (0 : Int) ≤ (i : Int) + 1 := by omega
  have hi2 : i + 1 < (digsN (a.length + 1) (shL a bits i)).length := by omega
  have hnb : ¬ ((bits : Int) < 0) := by omega
  simp [c_n_shifted_l0, stSh, e, hi, hi1, hi2, ei1, e2, e3, hget, hor, u1, eBin_shl, eBin_shr, hmin, u2, f1, f2, f3, wi, splice, hset]
 ·have : digsN (a.length + 1) (shL a bits a.length) = digsN (a.length + 1) (val a * 2 ^ bits) := by rw [shL_all]
  have hlt : (digsN (a.length + 1) (val a * 2 ^ bits)).length = a.length + 1 := digsN_len
  have ht : List.take (a.length + 1) (drows (digsN (a.length + 1) (val a * 2 ^ bits))) = drows (digsN (a.length + 1) (val a * 2 ^ bits)) := List.take_of_length_le (by rw [List.length_map, hlt]; exact Nat.le_refl _)
  simp [c_n_shifted_l0, stSh, c_n_shifted_k1, r_n_shifted, this, hlt, ht]
  exact AV.imp.refl
end Go.Proofs.Ytdeifcfjkmfocaa

namespace Go.Proofs.Ytdeifcfjkmfocaa
open Go Go.Am Go.Dig
theorem lz_top2 {t : Nat} (h0 : 0 < t) (ht : t < B) : ∃ p, t * 2 ^ lz t = p ∧ 2147483648 ≤ p ∧ p < 4294967296 := ⟨_, rfl, (lz_top h0 ht).1, (lz_top h0 ht).2⟩
theorem div_bits {A D n _m : Nat} {K : Exit → St → Prop} (hD : (digs D).length = n + 2) (hn : n < 549755813888)
  (hK : ∀ q y, (q = 53) → awp Try.prog c_n_DivMod_k5 { env := [(0, nD A), (1, nD D), (9, u64v (lz (D / B ^ (n + 1)))), (q, y)], sto := [] } K) :
  awp Try.prog (.loop c_n_DivMod_l0) (stDv0 A D 0) (blockC 0 (seqC Try.prog c_n_DivMod_k5 K)) := by
 obtain ⟨_, _, ht0, htB⟩ : True ∧ True ∧ 0 < D / B ^ (n + 1) ∧ D / B ^ (n + 1) < B := ⟨trivial, trivial, (top_digit (n := n + 1) hD).2.2⟩
 have hg : (digs D)[n + 1]'(by omega) = D / B ^ (n + 1) := by rw [get_digs, Nat.mod_eq_of_lt htB]
 have hlen : ((digs D).length : Int) = (n : Int) + 2 := by omega
 have w0 : IntKind.i64.wrap ((n : Int) + 2 - 1) = (n : Int) + 1 := by rw [wrap64] <;> omega
 have e1 : ((n : Int) + 1).toNat = n + 1 := by omega
 have e2 : (0 : Int) ≤ (n : Int) + 1 := by omega
 have e3 : n + 1 < (digs D).length := by omega
 generalize D / B ^ (n + 1) = t at *
 refine awp_forW (stDv0 A D) (fun _ => True) (lz t) (by simp [stDv0]) trivial (fun k hk _ => ?_) (fun _ => ?_)
 ·have hs := lz_small htB hk
  have h32 := lz_lt (t := t)
  obtain ⟨p, hp⟩ : ∃ p, t * 2 ^ k = p := ⟨_, rfl⟩
  rw [hp] at hs
  have hmin : min k IntKind.u32.bits = k := by
   have : IntKind.u32.bits = 32 := rfl
   omega
  have u1 : IntKind.u32.wrap ((t : Int) * 2 ^ k) = (p : Int) := by
   rw [show (t : Int) * 2 ^ k = ((t * 2 ^ k : Nat) : Int) by simp, hp]; exact IntWalk.u32_in _ (by omega)
  have u2 : IntKind.u64.wrap ((k : Int) + 1) = (k : Int) + 1 := w64' (by omega) (by omega)
  have c1 : (p : Int) < 2147483648 := by omega
  have c2 : ¬ ((k : Int) < 0) := by omega
  simp [c_n_DivMod_l0, stDv0, hlen, w0, e1, e2, e3, hg, eBin_shl, hmin, u1, u2, c1, c2]
 ·have h32 := lz_lt (t := t)
  obtain ⟨p, hp, h1, h2⟩ := lz_top2 ht0 htB
  have hk0 := hK _ (bv false) rfl
  clear hK
  generalize lz t = k at *
  have hmin : min k IntKind.u32.bits = k := by
   have : IntKind.u32.bits = 32 := rfl
   omega
  have u1 : IntKind.u32.wrap ((t : Int) * 2 ^ k) = (p : Int) := by
   rw [show (t : Int) * 2 ^ k = ((t * 2 ^ k : Nat) : Int) by simp, hp]; exact IntWalk.u32_in _ (by omega)
  have c1 : ¬ (p : Int) < 2147483648 := by omega
  have c3 : ¬ p < 2147483648 := by omega
  have c2 : ¬ ((k : Int) < 0) := by omega
  simp [c_n_DivMod_l0, stDv0, hlen, w0, e1, e2, e3, hg]
  rw [eBin_shl c2, Int.toNat_natCast, hmin, u1]
  generalize (p : Int) = z at *
  simp [c1]
  exact hk0
def stDv1 (A D n m N X V k : Nat) : St :=
 {env := [(4, .sl 72 1 0 (m + 1)), (9, u64v N), (10, .sl 1011 1 0 (n + 2 + m + 1)), (11, nD V), (12, iv ((n : Int) + 2)), (13, iv m), (74, iv ((m : Int) + 1)), (75, iv k)],
  sto := [(72, .arr 1 (drows (smallQ (m + 1) (A / D) k))), (1011, .arr 1 (drows (digsN (n + 2 + m + 1) (rst X V (m + 1 - k)))))] }
theorem div_mid {A D n m N X V : Nat} {K : Exit → St → Prop} (hA : (digs A).length = n + 2 + m) (hD : (digs D).length = n + 2) (hn : n + m < 274877906944) {y : AV} (h : DivOk A D n m N X V)
  (hK : ∀ s, impE s (stDv1 A D n m N X V 0) → awp Try.prog (.loop c_n_DivMod_l1) s (blockC 2 (seqC Try.prog c_n_DivMod_k4 K))) :
  awp Try.prog c_n_DivMod_k5 { env := [(0, nD A), (1, nD D), (9, u64v N), (53, y)], sto := [] } K := by
 have hN32 := h.N32
 have kt := trim_sound (m := .plain) (a := digsN (n + 2 + 1) V) ok_digsN (by rw [digsN_len]; omega)
 have hVlt : V < B ^ (n + 2 + 1) := Nat.lt_trans h.Vlt (Nat.pow_lt_pow_right (by decide) (by omega))
 rw [val_digsN_lt hVlt] at kt
 have hVl := h.Vlen
 have w1 : IntKind.i64.wrap ((n : Int) + 2 + m - (n + 2)) = (m : Int) := by rw [wrap64] <;> omega
 have w2 : IntKind.i64.wrap ((m : Int) + 1) = (m : Int) + 1 := by rw [wrap64] <;> omega
 have e1 : ((m : Int) + 1).toNat = m + 1 := by omega
 have e2 : (digsN (n + 2 + 1) V).length = n + 2 + 1 := digsN_len
 have e3 : (drows (digsN (n + 2 + 1) V)).length = n + 2 + 1 := by rw [List.length_map, e2]
 simp [c_n_DivMod_k5]
 refine ⟨rfl, ?_⟩
 refine shiftedI 1000 (ok_digs A) (by omega) hN32 (by simp) ?_
 simp
 have ks := shifted_sound (m := .plain) (bits := N) (ok_digs D) (by omega) hN32
 rw [val_digs, ← h.V_eq, hD] at ks
 refine eCall_i ks (by simp) (by simp) ?_
 simp
 refine eCall_i kt (by simp) (by simp) ?_
 simp [hVl, hA, hD, w1, w2, eMk, e1]
 refine ⟨by omega, by omega, by omega, ?_⟩
 rw [val_digs, ← h.X_eq]
 have hz : rst X V (m + 1) = X := rst_top h.top
 refine hK _ ?_
 simp [stDv1, hz, smallQ_zero, subE]
theorem div_loop {A D n m N X V : Nat} {K : Exit → St → Prop} (hn : n + m < 274877906944) (h : DivOk A D n m N X V)
  (hK : ∀ q y, q = 76 → awp Try.prog c_n_DivMod_k4 { (stDv1 A D n m N X V (m + 1)) with env := (stDv1 A D n m N X V (m + 1)).env ++ [(q, y)] } K) :
  ∀ s, impE s (stDv1 A D n m N X V 0) → awp Try.prog (.loop c_n_DivMod_l1) s (blockC 2 (seqC Try.prog c_n_DivMod_k4 K)) := by
 intro s hs
 refine awp_forW (stDv1 A D n m N X V) (fun _ => True) (m + 1) hs trivial (fun k hk _ => ?_) (fun _ => ?_)
 ·obtain ⟨j, hj⟩ : ∃ j, m - k = j := ⟨_, rfl⟩
  have hj1 : m + 1 - k = j + 1 := by omega
  have hj2 : m + 1 - (k + 1) = j := by omega
  have hj3 : m + 1 - 1 - k = j := by omega
  have hlt := rst_lt (A := X) (j := j + 1) h.Vlt h.Vpos
  obtain ⟨d1, d2, d3⟩ := rst_digit (A := X) (j := j) h.Vpos
  have hstep := rst_step (A := X) (V := V) (j := j) (L := n + 2 + m + 1) h.Vlt h.Vpos (by omega)
  have hval := rst_val (A := X) (V := V) (j := j) (n := n + 2) (L := n + 2 + m + 1) h.Vlt h.Vpos (by omega)
  have hset := smallQ_set (n := m + 1) (D := A / D) (i := k) hk
  rw [hj3] at hset
  rw [h.q] at d1
  have hql := smallQ_len (D := A / D) (show k ≤ m + 1 by omega)
  have hVl := h.Vlen
  have e : (k : Int) < (m : Int) + 1 := by omega
  have w1 : IntKind.i64.wrap ((m : Int) - k) = (j : Int) := by rw [wrap64] <;> omega
  have w2 : IntKind.i64.wrap ((j : Int) + (n + 2)) = (j : Int) + (n + 2) := by rw [wrap64] <;> omega
  have w3 : IntKind.i64.wrap ((j : Int) + (n + 2) + 1) = (j : Int) + (n + 2) + 1 := by rw [wrap64] <;> omega
  have w4 : IntKind.i64.wrap ((k : Int) + 1) = (k : Int) + 1 := by rw [wrap64] <;> omega
  have w5 : ((j : Int) + (n + 2) + 1).toNat - j = n + 3 := by omega
  have ok : DigOk (digsN (n + 2 + m + 1) (rst X V (j + 1))) (digs V) j n := ⟨ok_digsN, ok_digs _, hVl, by rw [digsN_len]; omega, by rw [digsN_len]; omega⟩
  simp [c_n_DivMod_l1, stDv1, e, w1, w2, w3, hj1, w5]
  refine ⟨by omega, by omega, rfl, ?_⟩
  refine digitI 3000 ok (by simp) h.vtop hval (by rw [val_digs]; exact d3) ?_
  have w6 : j < (smallQ (m + 1) (A / D) k).length := by omega
  have w7 : (j : Int) < (m : Int) + 1 := by omega
  simp only [val_digs, d1, d2, hstep]
  generalize hd : A / D / B ^ j % B = d at *
  have hset' : (drows (smallQ (m + 1) (A / D) k)).set j [uv d] = drows (smallQ (m + 1) (A / D) (k + 1)) := by rw [drows_set, hset]
  simp [w6, w7, splice, hset', w4, hj2, stDv1]
 ·simp [c_n_DivMod_l1, stDv1]
  have := hK _ (bv false) rfl
  simp [stDv1] at this
  exact this
end Go.Proofs.Ytdeifcfjkmfocaa

namespace Go.Proofs.Ytdeifcfjkmfocaa
open Go Go.Am Go.Dig
def stDv2 (Q R n m N Y k : Nat) : St :=
 {env := [(4, .sl 72 1 0 (m + 1)), (5, .sl 99 1 0 (n + 2)), (9, u64v N), (10, .sl 1011 1 0 (n + 2 + m + 1)), (100, iv ((n : Int) + 2)), (101, iv k)],
  sto := [(72, .arr 1 (drows (digsN (m + 1) Q))), (1011, .arr 1 (drows (digsN (n + 2 + m + 1) Y))), (99, .arr 1 (drows (fillN (n + 2) k R)))] }
theorem div_digit {R N i : Nat} (hN : N < 32) : ∃ a c d, R * 2 ^ N / B ^ i % B / 2 ^ N = a ∧ (R * 2 ^ N / B ^ (i + 1) % B) * 2 ^ (32 - N) % B = c ∧ R / B ^ i % B = d ∧ a ||| c = d ∧ a < B ∧ c < B ∧ d < B ∧ (N = 0 → a = d) := by
 obtain ⟨h1, h2⟩ := shr_digit (X := R * 2 ^ N) (i := i) hN
 have hP : 0 < 2 ^ N := Nat.pow_pos (by omega)
 rw [Nat.mul_div_cancel _ hP] at h1
 refine ⟨_, _, _, rfl, rfl, rfl, by rw [h2, ← h1], Nat.lt_of_le_of_lt (Nat.div_le_self _ _) (Nat.mod_lt _ B_pos), Nat.mod_lt _ B_pos, Nat.mod_lt _ B_pos, fun h0 => ?_⟩
 subst h0
 rw [Nat.pow_zero, Nat.mul_one, Nat.div_one]
theorem or32' {a c d : Nat} (ha : a < B) (hc : c < B) (h : a ||| c = d) (hd : d < B) : bitI .or .u32 (a : Int) (c : Int) = (d : Int) := by
 have := or32 (c := a) (x := c) ha hc (by rw [h]; exact hd)
 rw [h] at this
 exact this
theorem div_end {A D n m N X V : Nat} (hn : n + m < 274877906944) (hD : (digs D).length = n + 2) (h : DivOk A D n m N X V) :
  ∀ q y, q = 76 → awp Try.prog c_n_DivMod_k4 { (stDv1 A D n m N X V (m + 1)) with env := (stDv1 A D n m N X V (m + 1)).env ++ [(q, y)] } (retW r_n_DivMod (divR A D)) := by
 intro q y hq
 subst hq
 have hN := h.N32
 have hY : rst X V 0 = A % D * 2 ^ N := by rw [rst_zero, h.r]
 have hDlt : D < B ^ (n + 2) := digs_len_le.1 (Nat.le_of_eq hD)
 have hD0 : 0 < D := by
  rcases Nat.eq_zero_or_pos D with h0 | h0
  ·subst h0; simp [digs_zero] at hD
  ·exact h0
 have hRlt : A % D < B ^ (n + 2) := Nat.lt_trans (Nat.mod_lt _ hD0) hDlt
 have hQlt : A / D < B ^ (m + 1) := by
  rw [← h.q]
  apply Nat.div_lt_of_lt_mul
  have h1 := Nat.lt_mul_div_succ X (pw_pos (m + 1))
  have h2 : B ^ (m + 1) * (X / B ^ (m + 1) + 1) ≤ B ^ (m + 1) * V := Nat.mul_le_mul_left _ h.top
  rw [Nat.mul_comm V]
  exact Nat.lt_of_lt_of_le h1 h2
 have w1 : ((n : Int) + 2).toNat = n + 2 := by omega
 have kq := trim_sound (m := .plain) (a := digsN (m + 1) (A / D)) ok_digsN (by rw [digsN_len]; omega)
 have kr := trim_sound (m := .plain) (a := digsN (n + 2) (A % D)) ok_digsN (by rw [digsN_len]; omega)
 rw [val_digsN_lt hQlt] at kq
 rw [val_digsN_lt hRlt] at kr
 have lp : ∀ s, impE s (stDv2 (A / D) (A % D) n m N (A % D * 2 ^ N) 0) → awp Try.prog (.loop c_n_DivMod_l2) s (blockC 4 (seqC Try.prog c_n_DivMod_k3 (retW r_n_DivMod (divR A D)))) := by
  intro s hs
  refine awp_forW (stDv2 (A / D) (A % D) n m N (A % D * 2 ^ N)) (fun _ => True) (n + 2) hs trivial (fun i hi _ => ?_) (fun _ => ?_)
  ·obtain ⟨a, c, d, h1, h2, h3, h4, h5, h6, h7, h8⟩ := div_digit (R := A % D) (i := i) hN
   have hL := digsN_len (n := n + 2 + m + 1) (x := A % D * 2 ^ N)
   have i1 : i < (digsN (n + 2 + m + 1) (A % D * 2 ^ N)).length := by omega
   have i2 : i + 1 < (digsN (n + 2 + m + 1) (A % D * 2 ^ N)).length := by omega
   have g1 := digsN_get i1
   have g2 := digsN_get i2
   have hset := fillN_set (S := A % D) hi
   rw [h3] at hset
   have hfl := fillN_len (n := n + 2) (k := i) (S := A % D) (by omega)
   have i3 : i < (fillN (n + 2) i (A % D)).length := by omega
   have hor := or32' h5 h6 h4 h7
   have hmin : min N IntKind.u32.bits = N := by
    have : IntKind.u32.bits = 32 := rfl
    omega
   have hmin2 : min (32 - N) IntKind.u32.bits = 32 - N := by
    have : IntKind.u32.bits = 32 := rfl
    omega
   have i4 : i + 1 < n + 2 + m + 1 := by omega
   have s1 : ∀ y0 a : Nat, y0 / 2 ^ N = a → (y0 : Int).fdiv (2 ^ N) = (a : Int) := fun y0 a h => by
    rw [show (2 : Int) ^ N = ((2 ^ N : Nat) : Int) by simp, ← Int.ofNat_fdiv, h]
   have s2 : ∀ y1 c : Nat, y1 * 2 ^ (32 - N) % B = c → IntKind.u32.wrap ((y1 : Int) * 2 ^ (32 - N)) = (c : Int) := fun y1 c h => by
    rw [show (y1 : Int) * 2 ^ (32 - N) = ((y1 * 2 ^ (32 - N) : Nat) : Int) by simp, w32, h]
   have s1' := s1 _ _ h1
   have s2' := s2 _ _ h2
   clear s1 s2 h1 h2
   rw [← g1] at s1'
   rw [← g2] at s2'
   clear g1 g2
   generalize A % D * 2 ^ N = Y at *
   generalize A % D = R at *
   generalize hy0 : (digsN (n + 2 + m + 1) Y)[i] = y0 at *
   generalize hy1 : (digsN (n + 2 + m + 1) Y)[i + 1] = y1 at *
   have hset' : (drows (fillN (n + 2) i R)).set i [uv d] = drows (fillN (n + 2) (i + 1) R) := by rw [drows_set, hset]
   have e : (i : Int) < (n : Int) + 2 := by omega
   have e2 : (i : Int) < (n : Int) + 2 + m + 1 := by omega
   have e3 : (i : Int) + 1 < (n : Int) + 2 + m + 1 := by omega
   have e4 : ((i : Int) + 1).toNat = i + 1 := by omega
   have e5 : (0 : Int) ≤ (i : Int) + 1 := by omega
   have w2 : IntKind.i64.wrap ((i : Int) + 1) = (i : Int) + 1 := by rw [wrap64] <;> omega
   have w3 : IntKind.u64.wrap ((32 : Int) - N) = 32 - N := w64' (by omega) (by omega)
   have w4 : ((32 : Int) - N).toNat = 32 - N := by omega
   have w5 : ¬ ((32 : Int) - N < 0) := by omega
   rcases Nat.eq_zero_or_pos N with hN0 | hN0
   ·have ha := h8 hN0
    have hN1 : ¬ 0 < N := by omega
    subst ha
    simp [c_n_DivMod_l2, stDv2, e, e2, hy0, i1, i3, eBin_shr, hmin, s1', hN1, splice, hset', w2]
   ·simp [c_n_DivMod_l2, stDv2, e, e2, e3, e4, e5, hy0, hy1, i1, i2, i3, eBin_shr, eBin_shl, hmin, hmin2, s1', s2', hN0, splice, hset', w2, w3, w4, w5, hor]
  ·have l1 : ∀ k z, k ≤ (digsN k z).length := fun k z => Nat.le_of_eq digsN_len.symm
   have l2 : ∀ k z, List.take k (drows (digsN k z)) = drows (digsN k z) := fun k z => List.take_of_length_le (by rw [List.length_map, digsN_len]; exact Nat.le_refl _)
   simp [c_n_DivMod_l2, stDv2, fillN_all, c_n_DivMod_k3, eFreeze, frzE, l1, l2]
   refine eCall_i kq (by simp) (by simp) ?_
   simp
   refine eCall_i kr (by simp) (by simp) ?_
   simp [r_n_DivMod]
   exact AV.imp.refl
 simp [c_n_DivMod_k4, stDv1, smallQ_all, hY, eMk, w1]
 refine ⟨by omega, by omega, by omega, ?_⟩
 refine lp _ ?_
 simp [stDv2, fillN_zero, subE]
theorem divMod_sound {m1 m2 : Am.Mode} {a c : List Nat} (ha : ok a) (hc : ok c) (hna : a.length < 137438953472) (hnc : c.length < 137438953472) (f1 : stm m1 = m1) (f2 : stm m2 = m2) (hD : val c ≠ 0) :
  SoundCall Try.prog F_n_DivMod [nl m1 a, nl m2 c] (divR (val a) (val c)) := by
 refine div_start ha hc (by omega) (by omega) f1 f2 hD fun n m h1 h2 hle => ?_
 have hla := digs_digs_norm ha
 have hn : n + m < 274877906944 := by omega
 have h := divOk h2 h1
 exact div_bits (_m := m) h1 (by omega) fun q y hq => by
  subst hq
  exact div_mid h2 h1 hn h (div_loop hn h (div_end hn h1 h))
end Go.Proofs.Ytdeifcfjkmfocaa

namespace Go.Proofs.Ytdeifcfjkmfocaa
open Go Go.Am Go.Dig
def eu : Nat → Nat → Nat → Nat × Nat
 | a, b, 0 => (a, b)
 | a, b, k + 1 => eu b (a % b) k
theorem eu_succ : ∀ (k a b : Nat), eu a b (k + 1) = ((eu a b k).2, (eu a b k).1 % (eu a b k).2)
 | 0, _, _ => rfl
 | k + 1, a, b => by rw [eu, eu_succ k b (a % b)]; rfl
theorem eu_end : ∀ (b a : Nat), ∃ N, (∀ k, k < N → (eu a b k).2 ≠ 0) ∧ eu a b N = (Nat.gcd a b, 0) := by
 intro b
 induction b using Nat.strongRecOn with
 | ind b ih =>
  intro a
  rcases Nat.eq_zero_or_pos b with h | h
  ·subst h
   exact ⟨0, fun k hk => absurd hk (Nat.not_lt_zero _), by rw [eu, Nat.gcd_zero_right]⟩
  ·obtain ⟨N, h1, h2⟩ := ih (a % b) (Nat.mod_lt _ h) b
   refine ⟨N + 1, fun k hk => ?_, ?_⟩
   ·match k with
    | 0 => exact Nat.ne_of_gt h
    | k + 1 => exact h1 k (by omega)
   ·rw [eu, h2, Nat.gcd_comm b, ← Nat.gcd_rec, Nat.gcd_comm]
theorem eu_lt {M : Nat} : ∀ (k a b : Nat), a < M → b < M → (eu a b k).1 < M ∧ (eu a b k).2 < M
 | 0, _, _, h1, h2 => ⟨h1, h2⟩
 | k + 1, a, b, h1, h2 => eu_lt k b (a % b) h2 (Nat.lt_of_le_of_lt (Nat.mod_le _ _) h1)
def stG (p : Nat × Nat) : St := { env := [(0, nD p.1), (1, nD p.2)], sto := [] }
theorem gcd_sound {m1 m2 : Am.Mode} {a c : List Nat} (ha : ok a) (hc : ok c) (hna : a.length < 137438953472) (hnc : c.length < 137438953472) (f1 : stm m1 = m1) (f2 : stm m2 = m2) :
  SoundCall Try.prog F_n_GCD [nl m1 a, nl m2 c] (nD (Nat.gcd (val a) (val c))) := by
 have k1 := add_sound (m1 := m1) (m2 := .plain) (b := []) ha ok_nil (by omega) (by simp)
 have k2 := add_sound (m1 := m2) (m2 := .plain) (b := []) hc ok_nil (by omega) (by simp)
 obtain ⟨N, h1, h2⟩ := eu_end (val c) (val a)
 obtain ⟨L, hL⟩ : ∃ L, L = 137438953471 := ⟨_, rfl⟩
 have hL1 : val a < B ^ L := val_lt_of ha (by omega)
 have hL2 : val c < B ^ L := val_lt_of hc (by omega)
 have hb := fun k => eu_lt k (val a) (val c) hL1 hL2
 generalize hM : B ^ L = M at *
 have hlen : ∀ x, x < M → (digs x).length < 137438953472 := fun x hx => by
  rw [← hM] at hx
  exact Nat.lt_of_le_of_lt (digs_len_le.2 hx) (by omega)
 clear hM
 have v0 : val [] = 0 := rfl
 rw [v0, Nat.add_zero] at k1 k2
 generalize val a = A at *
 generalize val c = D at *
 refine sound' t_n_GCD (by simp) ?_
 simp [c_n_GCD]
 refine eCall_i (imp_arg2 k1 (AV.imp_nil (sz := 0) rfl)) (by simp [f1]) (by simp) ?_
 simp
 refine eCall_i (imp_arg2 k2 (AV.imp_nil (sz := 0) rfl)) (by simp [f2]) (by simp) ?_
 simp
 refine awp_forW (fun k => stG (eu A D k)) (fun _ => True) N (by simp [stG, eu]) trivial (fun k hk _ => ?_) (fun _ => ?_)
 ·have hne := h1 k hk
  obtain ⟨b1, b2⟩ := hb k
  have b1' := hlen _ b1
  have b2' := hlen _ b2
  have hs := eu_succ k A D
  obtain ⟨x, hx⟩ : ∃ x, (eu A D k).1 = x := ⟨_, rfl⟩
  obtain ⟨y, hy⟩ : ∃ y, (eu A D k).2 = y := ⟨_, rfl⟩
  rw [hx, hy] at hs
  rw [hx] at b1'
  rw [hy] at b2' hne
  have kd := divMod_sound (m1 := .plain) (m2 := .plain) (ok_digs x) (ok_digs y) b1' b2' rfl rfl (by rw [val_digs]; exact hne)
  rw [val_digs, val_digs] at kd
  have hl0 : 0 < (digs y).length := by
   rcases Nat.eq_zero_or_pos (digs y).length with h | h
   ·rw [List.length_eq_zero_iff, digs_eq_nil] at h; exact absurd h hne
   ·exact h
  simp [c_n_GCD_l0, stG, hl0, hx, hy]
  refine eCall_i kd (by simp) (by simp) ?_
  simp [hs]
 ·simp only [h2]
  simp [c_n_GCD_l0, c_n_GCD_k1, r_n_GCD, stG, digs_zero]
end Go.Proofs.Ytdeifcfjkmfocaa

namespace Go.Proofs.Ytdeifcfjkmfocaa
open Go Go.Am Go.Dig
theorem digit_ref {m : Am.Mode} {a : List Nat} {i : Nat} (ha : ok a) (_hn : a.length < 1099511627776) (_hi : i < 1099511627776) : SoundCall Try.prog F_q_digit [nl m a, iv i] (u64v (a.getD i 0)) := by
 refine sound' t_q_digit (by simp) ?_
 by_cases h : i < a.length
 ·have hg : a.getD i 0 = a[i] := by simp [h]
  have hB := ok_get ha h
  rw [hg]
  generalize ha2 : a[i] = x at *
  rw [B_eq] at hB
  have w : IntKind.u64.wrap (x : Int) = x := w64 (by omega)
  have h' : (i : Int) < a.length := by omega
  simp [c_q_digit, h, h', ha2, w, r_q_digit]
 ·have hg : a.getD i 0 = 0 := by simp [List.getD, List.getElem?_eq_none (Nat.le_of_not_lt h)]
  have h' : ¬ (i : Int) < a.length := by omega
  rw [hg]
  simp [c_q_digit, h', r_q_digit]
theorem valid_ref {m : Am.Mode} {a : List Nat} (ha : ok a) (hn : a.length < 1099511627776) : SoundCall Try.prog F_q_Valid [nl m a] (bv (decide (a = digs (val a)))) := by
 refine sound' t_q_Valid (by simp) ?_
 rcases Nat.eq_zero_or_pos a.length with h | h
 ·rw [List.length_eq_zero_iff] at h
  subst h
  simp [c_q_Valid, r_q_Valid, val, digs_zero]
 ·obtain ⟨k, hk⟩ : ∃ k, a.length = k + 1 := ⟨a.length - 1, by omega⟩
  have hl : (a.length : Int) = (k : Int) + 1 := by omega
  have w : IntKind.i64.wrap (k : Int) = (k : Int) := by rw [wrap64] <;> omega
  have hkl : k < a.length := by omega
  have hne : ¬ a.length = 0 := by omega
  have hnil : ¬ a = [] := fun e => by subst e; simp at h
  have hv : (a = digs (val a)) ↔ a[k] ≠ 0 := by
   constructor
   ·intro e h0
    have h1 := digs_last (x := val a) (by rw [← e]; exact h)
    simp only [← e, hk, Nat.add_sub_cancel] at h1
    exact h1 h0
   ·intro h0
    refine (digs_of ha fun _ => ?_).symm
    simp only [hk, Nat.add_sub_cancel]
    exact h0
  have hd : decide (a = digs (val a)) = !decide (a[k] = 0) := by
   by_cases h0 : a[k] = 0
   ·have : ¬ a = digs (val a) := fun e => hv.1 e h0
    simp [this, h0]
   ·have : a = digs (val a) := hv.2 h0
    rw [decide_eq_true this, decide_eq_false h0]; rfl
  rw [hd]
  generalize ha2 : a[k] = x at *
  have hk0 : ¬ ((k : Int) + 1 = 0) := by omega
  have p1 : (k : Int) < (k : Int) + 1 := by omega
  simp [c_q_Valid, r_q_Valid, hl, w, hkl, ha2, hk0, p1]
def stTR (m : Am.Mode) (a : List Nat) (k : Nat) : St := { env := [(0, nl (if k = 0 then m else .plain) (a.take (a.length - k)))], sto := [] }
theorem trim_ref {m : Am.Mode} {a : List Nat} (ha : ok a) (hn : a.length < 1099511627776) : SoundCall Try.prog F_q_trim [nl m a] (nD (val a)) := by
 obtain ⟨h1, h2, h3, h4⟩ := len_facts ha
 refine soundW' t_q_trim (by simp) ?_
 simp [c_q_trim]
 generalize hT : (digs (val a)).length = T at h1 h2 h3 h4
 refine awp_forW (stTR m a) (fun _ => True) (a.length - T) (by simp [stTR]) trivial (fun k hk _ => ?_) (fun _ => ?_)
 ·obtain ⟨c, hc⟩ : ∃ c, a.take (a.length - k) = c := ⟨_, rfl⟩
  obtain ⟨L, hL⟩ : ∃ L, a.length - k = L + 1 := ⟨a.length - k - 1, by omega⟩
  have hL2 : a.length - (k + 1) = L := by omega
  have hcl : c.length = L + 1 := by rw [← hc]; simp; omega
  have hLl : L < c.length := by omega
  have hz : c[L] = 0 := by
   have := h2 L (by omega) (by omega)
   subst hc
   simpa using this
  have hc2 : a.take L = c.take L := by rw [← hc, List.take_take]; congr 1; omega
  have hcz : (c.length : Int) = (L : Int) + 1 := by omega
  have w : IntKind.i64.wrap (L : Int) = (L : Int) := by rw [wrap64] <;> omega
  have hg : ∃ r, drows (c.take L) = r := ⟨_, rfl⟩
  have hst : stTR m a (k + 1) = { env := [(0, .list 1 .plain (List.take L (drows c)))], sto := [] } := by
   rw [stTR, hL2, hc2]; simp [List.map_take]
  obtain ⟨m', hst0⟩ : ∃ m', stTR m a k = { env := [(0, nl m' c)], sto := [] } := ⟨_, by rw [stTR, hc]⟩
  have p3 : (L : Int) < (L : Int) + 1 := by omega
  have p1 : (0 : Int) < (L : Int) + 1 := by omega
  have p2 : (L : Int) ≤ (L : Int) + 1 := by omega
  rw [hst0]
  simp [c_q_trim_l0, hcl, w, hz, hst, p1, p2, p3]
 ·have e : a.length - (a.length - T) = T := by omega
  obtain ⟨m', hst⟩ : ∃ m', stTR m a (a.length - T) = { env := [(0, nl m' (digs (val a)))], sto := [] } := ⟨_, by rw [stTR, e, h4]⟩
  rw [hst]
  clear hst
  generalize hcE : digs (val a) = c at *
  rcases T with _ | L
  ·have hc0 : c = [] := List.length_eq_zero_iff.1 hT
   subst hc0
   simp [c_q_trim_l0, c_q_trim_k1, r_q_trim]
   rw [nD, hcE]
   exact AV.imp.refl
  ·have hLl : L < c.length := by omega
   have hcz : (c.length : Int) = (L : Int) + 1 := by omega
   have w : IntKind.i64.wrap (L : Int) = (L : Int) := by rw [wrap64] <;> omega
   have hz : ¬ c[L] = 0 := by
    have := digs_last (x := val a) (by rw [hcE]; omega)
    simp only [hcE, hT, Nat.add_sub_cancel] at this
    exact this
   have p1 : (0 : Int) < (L : Int) + 1 := by omega
   simp [c_q_trim_l0, hT, w, hz, p1, c_q_trim_k1, r_q_trim]
   rw [nD, hcE]
   exact ⟨by omega, by omega, by omega, AV.imp.refl⟩
theorem fromUint_ref {x : Nat} (h : x < 18446744073709551616) : SoundCall Try.prog F_q_FromUint [u64v x] (nD x) := by
 have hq2 : x / B < B := by rw [B_eq]; omega
 have e1 := Nat.mod_add_div x B
 have hm2 : x % B < B := Nat.mod_lt _ B_pos
 have t1 : (x : Int).tmod 4294967296 = ((x % B : Nat) : Int) := by
  rw [B_eq, show (4294967296 : Int) = ((4294967296 : Nat) : Int) from rfl, ← Int.ofNat_tmod]
 have t2 : IntKind.u64.wrap ((x : Int) / 4294967296) = ((x / B : Nat) : Int) := by
  rw [show (x : Int) / 4294967296 = ((x / B : Nat) : Int) by rw [B_eq]; omega]
  exact w64 (Nat.lt_of_le_of_lt (Nat.div_le_self _ _) h)
 obtain ⟨d0, h0⟩ : ∃ d, x % B = d := ⟨_, rfl⟩
 obtain ⟨d1, h1⟩ : ∃ q, x / B = q := ⟨_, rfl⟩
 rw [h0] at t1 e1 hm2
 rw [h1] at t2 e1 hq2
 have hok : ok [d0, d1] := by
  intro d hd
  simp at hd
  rcases hd with rfl | rfl
  ·exact hm2
  ·exact hq2
 have hv : val [d0, d1] = x := by
  simp only [val, Nat.mul_zero, Nat.add_zero]
  exact e1
 have key := trim_ref (m := .full) (a := [d0, d1]) hok (by simp)
 rw [hv] at key
 rw [B_eq] at hm2 hq2
 have f1 : IntKind.u32.wrap (d0 : Int) = d0 := IntWalk.u32_in _ (by omega)
 have f2 : IntKind.u32.wrap (d1 : Int) = d1 := IntWalk.u32_in _ (by omega)
 refine sound' t_q_FromUint (by simp) ?_
 simp [c_q_FromUint, eBin_quo, eBin_rem, t1, t2, f1, f2, rowsA]
 refine eCall_i key (by simp) (by simp) ?_
 simp [r_q_FromUint]
end Go.Proofs.Ytdeifcfjkmfocaa

namespace Go.Proofs.Ytdeifcfjkmfocaa
open Go Go.Am Go.Dig
theorem getD_val {a : List Nat} (ha : ok a) (i : Nat) : a.getD i 0 = val a / B ^ i % B := by
 rcases Nat.lt_or_ge i a.length with h | h
 ·rw [← get_val ha h]; simp [h]
 ·have h1 : val a < B ^ i := val_lt_of ha h
  rw [Nat.div_eq_of_lt h1, Nat.zero_mod]
  simp [List.getD, List.getElem?_eq_none h]
theorem split_div (x j : Nat) : x / B ^ j = B * (x / B ^ (j + 1)) + x / B ^ j % B := by
 rw [Nat.pow_succ, ← Nat.div_div_eq_div_mul]
 exact (Nat.div_add_mod _ _).symm
theorem cmp_step {x y j : Nat} (h : x / B ^ (j + 1) = y / B ^ (j + 1)) (hlt : x / B ^ j % B < y / B ^ j % B) : x < y := by
 have h1 := split_div x j
 have h2 := split_div y j
 rw [h] at h1
 apply Nat.lt_of_not_le
 intro hle
 have h3 : y / B ^ j ≤ x / B ^ j := Nat.div_le_div_right hle
 generalize x / B ^ j % B = p at *
 generalize y / B ^ j % B = q at *
 omega
theorem cmp_eq {x y j : Nat} (h : x / B ^ (j + 1) = y / B ^ (j + 1)) (he : x / B ^ j % B = y / B ^ j % B) : x / B ^ j = y / B ^ j := by
 rw [split_div x j, split_div y j, h, he]
def stCR (m1 m2 : Am.Mode) (a b : List Nat) (M k : Nat) : St := { env := [(0, nl m1 a), (1, nl m2 b), (5, iv ((M : Int) - 1 - k))], sto := [] }
theorem cmp_ref {m1 m2 : Am.Mode} {a b : List Nat} (ha : ok a) (hb : ok b) (hna : a.length < 1099511627776) (hnb : b.length < 1099511627776) (f1 : stm m1 = m1) (f2 : stm m2 = m2) :
  SoundCall Try.prog F_q_Cmp [nl m1 a, nl m2 b] (iv (cmpN (val a) (val b))) := by
 refine sound' t_q_Cmp (by simp) ?_
 obtain ⟨M, hM⟩ : ∃ M, max a.length b.length = M := ⟨_, rfl⟩
 have hMz : max (a.length : Int) (b.length : Int) = (M : Int) := by omega
 have w0 : IntKind.i64.wrap ((M : Int) - 1) = (M : Int) - 1 := by rw [wrap64] <;> omega
 simp [c_q_Cmp, hMz, w0]
 refine awp_forW (stCR m1 m2 a b M) (fun k => val a / B ^ (M - k) = val b / B ^ (M - k)) M (by simp [stCR]) ?_ (fun k hk hi => ?_) (fun hi => ?_)
 ·rw [Nat.sub_zero, Nat.div_eq_of_lt (val_lt_of ha (by omega)), Nat.div_eq_of_lt (val_lt_of hb (by omega))]
 ·obtain ⟨j, hj⟩ : ∃ j, M - 1 - k = j := ⟨_, rfl⟩
  have hj2 : M - k = j + 1 := by omega
  have hj3 : M - (k + 1) = j := by omega
  have hjz : (M : Int) - 1 - k = (j : Int) := by omega
  have d1 := digit_ref (m := m1) (i := j) ha hna (by omega)
  have d2 := digit_ref (m := m2) (i := j) hb hnb (by omega)
  rw [hj2] at hi
  rw [getD_val ha] at d1
  rw [getD_val hb] at d2
  have c1 := fun h => cmp_step (x := val a) (y := val b) (j := j) hi h
  have c2 := fun h => cmp_step (x := val b) (y := val a) (j := j) hi.symm h
  have c3 := fun h => cmp_eq (x := val a) (y := val b) (j := j) hi h
  generalize val a / B ^ j % B = p at *
  generalize val b / B ^ j % B = q at *
  have e0 : (0 : Int) ≤ (j : Int) := by omega
  have w1 : IntKind.i64.wrap ((j : Int) - 1) = (j : Int) - 1 := by rw [wrap64] <;> omega
  have hst : stCR m1 m2 a b M (k + 1) = { env := [(0, nl m1 a), (1, nl m2 b), (5, iv ((j : Int) - 1))], sto := [] } := by
   rw [stCR, show (M : Int) - 1 - ((k + 1 : Nat) : Int) = (j : Int) - 1 by omega]
  rw [stCR, hjz]
  simp [c_q_Cmp_l0]
  refine eCall_i d1 (by simp [f1]) (by simp) ?_
  simp
  refine eCall_i d2 (by simp [f2]) (by simp) ?_
  by_cases h : p < q
  ·have hc : cmpN (val a) (val b) = -1 := by simp [cmpN, c1 h]
   simp [h, r_q_Cmp, hc]
  ·simp [h]
   refine eCall_i d1 (by simp [f1]) (by simp) ?_
   simp
   refine eCall_i d2 (by simp [f2]) (by simp) ?_
   by_cases h2 : q < p
   ·have hc : cmpN (val a) (val b) = 1 := by
     have : ¬ val a < val b := by have := c2 h2; omega
     simp [cmpN, c2 h2, this]
    simp [h2, r_q_Cmp, hc]
   ·have he := c3 (by omega)
    simp [h2, w1, hst, hj3, he]
 ·have hxy : val a = val b := by simpa using hi
  have hc : cmpN (val a) (val b) = 0 := by simp [cmpN, hxy]
  have e0 : ¬ (0 : Int) ≤ (M : Int) - 1 - M := by omega
  have e1 : ¬ (M : Int) ≤ (M : Int) - 1 := by omega
  simp [c_q_Cmp_l0, stCR, e1, c_q_Cmp_k1, r_q_Cmp, hc]
end Go.Proofs.Ytdeifcfjkmfocaa

namespace Go.Proofs.Ytdeifcfjkmfocaa
open Go Go.Am Go.Dig
def cry (x y k : Nat) : Nat := (x % B ^ k + y % B ^ k) / B ^ k
theorem cry_zero {x y : Nat} : cry x y 0 = 0 := by simp [cry, Nat.mod_one]
theorem cry_le {x y k : Nat} : cry x y k ≤ 1 := by
 unfold cry
 have h1 := Nat.mod_lt x (pw_pos k)
 have h2 := Nat.mod_lt y (pw_pos k)
 have : (x % B ^ k + y % B ^ k) / B ^ k < 2 := Nat.div_lt_of_lt_mul (by omega)
 omega
theorem add_digit {x y k : Nat} : (x + y) / B ^ k % B = (x / B ^ k % B + y / B ^ k % B + cry x y k) % B ∧ cry x y (k + 1) = (x / B ^ k % B + y / B ^ k % B + cry x y k) / B := by
 have m1 : x % B ^ (k + 1) = x % B ^ k + B ^ k * (x / B ^ k % B) := by rw [Nat.pow_succ, Nat.mod_mul]
 have m2 : y % B ^ (k + 1) = y % B ^ k + B ^ k * (y / B ^ k % B) := by rw [Nat.pow_succ, Nat.mod_mul]
 have d1 := Nat.mod_add_div x (B ^ (k + 1))
 have d2 := Nat.mod_add_div y (B ^ (k + 1))
 have hs : x + y = (x % B ^ k + y % B ^ k) + B ^ k * (x / B ^ k % B + y / B ^ k % B) + B ^ (k + 1) * (x / B ^ (k + 1) + y / B ^ (k + 1)) := by
  rw [Nat.mul_add, Nat.mul_add]
  omega
 constructor
 ·rw [hs, col_digit]
  unfold cry
  congr 1
  omega
 ·unfold cry
  rw [m1, m2, show x % B ^ k + B ^ k * (x / B ^ k % B) + (y % B ^ k + B ^ k * (y / B ^ k % B)) = (x % B ^ k + y % B ^ k) + B ^ k * (x / B ^ k % B + y / B ^ k % B) by rw [Nat.mul_add]; omega, col_carry]
  congr 1
  omega
theorem dg_stm {m : Am.Mode} {l : Nat} {a : List Nat} (h : stm m = m) : dg l (nl m a) = nl m a := by
 cases m with
 | plain => simp
 | full => simp
 | own d => simp at h
def stAR (m1 m2 : Am.Mode) (a b : List Nat) (k : Nat) : St :=
 {env := [(0, nl m1 a), (1, nl m2 b), (5, appV 1 32 (drows (digsN k (val a + val b)))), (6, u64v (cry (val a) (val b) k)), (7, iv k)], sto := [] }
theorem add_ref {m1 m2 : Am.Mode} {a b : List Nat} (ha : ok a) (hb : ok b) (hna : a.length < 1099511627775) (hnb : b.length < 1099511627775) (f1 : stm m1 = m1) (f2 : stm m2 = m2) :
  SoundCall Try.prog F_q_Add [nl m1 a, nl m2 b] (nD (val a + val b)) := by
 refine sound' t_q_Add (by simp) ?_
 obtain ⟨M, hM⟩ : ∃ M, max a.length b.length = M := ⟨_, rfl⟩
 have hMz : max (a.length : Int) (b.length : Int) = (M : Int) := by omega
 have hxM : val a < B ^ M := val_lt_of ha (by omega)
 have hyM : val b < B ^ M := val_lt_of hb (by omega)
 simp [c_q_Add]
 refine awp_forW (stAR m1 m2 a b) (fun _ => True) (M + 1) (by simp [stAR, cry_zero, digsN]) trivial (fun k hk _ => ?_) (fun _ => ?_)
 ·have d1 := digit_ref (m := m1) (i := k) ha (by omega) (by omega)
  have d2 := digit_ref (m := m2) (i := k) hb (by omega) (by omega)
  rw [getD_val ha] at d1
  rw [getD_val hb] at d2
  obtain ⟨g1, g2⟩ := add_digit (x := val a) (y := val b) (k := k)
  have hsucc := digsN_succ (n := k) (x := val a + val b)
  have hpB : val a / B ^ k % B < B := Nat.mod_lt _ B_pos
  have hqB : val b / B ^ k % B < B := Nat.mod_lt _ B_pos
  have hc := cry_le (x := val a) (y := val b) (k := k)
  have hdl := digsN_len (n := k) (x := val a + val b)
  rw [g1] at hsucc
  have hst : stAR m1 m2 a b (k + 1) = { env := [(0, nl m1 a), (1, nl m2 b), (5, appV 1 32 (drows (digsN (k + 1) (val a + val b)))), (6, u64v (cry (val a) (val b) (k + 1))), (7, iv ((k : Int) + 1))], sto := [] } := by
   rw [stAR]; rfl
  rw [hsucc, g2] at hst
  rw [stAR]
  clear g1 g2 hsucc
  generalize val a / B ^ k % B = p at *
  generalize val b / B ^ k % B = q at *
  generalize cry (val a) (val b) k = c at *
  generalize digsN k (val a + val b) = D at *
  obtain ⟨t, ht⟩ : ∃ t, p + q + c = t := ⟨_, rfl⟩
  obtain ⟨d, hd⟩ : ∃ d, t % B = d := ⟨_, rfl⟩
  obtain ⟨e, he⟩ : ∃ e, t / B = e := ⟨_, rfl⟩
  rw [ht, hd, he] at hst
  have hdB : d < B := by rw [← hd]; exact Nat.mod_lt _ B_pos
  have heB : e ≤ t := by rw [← he]; exact Nat.div_le_self _ _
  rw [B_eq] at hpB hqB hdB
  have t1 : (t : Int).tmod 4294967296 = (d : Int) := by
   rw [← hd, B_eq, show (4294967296 : Int) = ((4294967296 : Nat) : Int) from rfl, ← Int.ofNat_tmod]
  have t2 : IntKind.u64.wrap ((t : Int) / 4294967296) = (e : Int) := by
   rw [show (t : Int) / 4294967296 = (e : Int) by rw [← he, B_eq]; omega]
   exact w64 (by omega)
  clear hd he
  have w1 : IntKind.u64.wrap ((p : Int) + q) = (p : Int) + q := w64' (by omega) (by omega)
  have w2 : IntKind.u64.wrap ((p : Int) + q + c) = (t : Int) := by rw [w64'] <;> omega
  have w3 : IntKind.u32.wrap (d : Int) = d := IntWalk.u32_in _ (by omega)
  have w4 : IntKind.i64.wrap ((k : Int) + 1) = (k : Int) + 1 := wrap64 (by omega) (by omega)
  have hkM : (k : Int) ≤ (M : Int) := by omega
  simp [c_q_Add_l0, hMz, hkM]
  refine eCall_i d1 (by simp [f1]) (by simp) ?_
  simp
  refine eCall_i d2 (by simp [f2]) (by simp) ?_
  simp [w1, w2, eBin_quo, eBin_rem, t1, t2, w3, w4, hdl, hst, dg_stm f1, dg_stm f2]
  omega
 ·have hlt : val a + val b < B ^ (M + 1) := by
   rw [Nat.pow_succ]
   have : B ^ M * 2 ≤ B ^ M * B := Nat.mul_le_mul_left _ (by decide)
   omega
  have kt := trim_ref (m := .plain) (a := digsN (M + 1) (val a + val b)) ok_digsN (by rw [digsN_len]; omega)
  rw [val_digsN_lt hlt] at kt
  have hne : ¬ digsN (M + 1) (val a + val b) = [] := fun h => by
   have := congrArg List.length h
   rw [digsN_len] at this
   simp at this
  have hkM : ¬ (M : Int) + 1 ≤ (M : Int) := by omega
  simp [c_q_Add_l0, stAR, hMz, hkM, c_q_Add_k1, r_q_Add]
  refine eCall_i kt (by simp [hne]) (.inl rfl) ?_
  simp
end Go.Proofs.Ytdeifcfjkmfocaa

namespace Go.Proofs.Ytdeifcfjkmfocaa
open Go Go.Am Go.Dig
theorem imp_arg1 {f : FuncId} {x x' r : AV} (h : SoundCall Try.prog f [x'] r) (hy : AV.imp x x') : SoundCall Try.prog f [x] r := fun I vs w h1 h2 h3 =>
 h I vs w h1 h2 fun i a hi => by
  match i, hi with
  | 0, hi => simp at hi; subst hi; exact hy _ _ _ (h3 0 x rfl)
  | i + 1, hi => simp at hi
theorem sub_ref_digit {x y k p q c : Nat} (h : y ≤ x) (hp : x / B ^ k % B = p) (hq : y / B ^ k % B = q) (hc : bor x y k = c) (_hpB : p < B) (_hqB : q < B) (hc1 : c ≤ 1) :
  ∃ s, 4294967296 + p - q - c = s ∧ s < 8589934592 ∧ q + c ≤ 4294967296 + p ∧ (x - y) / B ^ k % B = s % B ∧ bor x y (k + 1) = 1 - s / B ∧ s / B ≤ 1 := by
 have h1 := sub_digit (k := k) h
 have h2 := bor_succ (x := x) (y := y) (k := k)
 rw [hp, hq, hc] at h1 h2
 have hdB : (x - y) / B ^ k % B < B := Nat.mod_lt _ B_pos
 generalize (x - y) / B ^ k % B = d at *
 rw [B_eq] at *
 refine ⟨_, rfl, by omega, by omega, by omega, ?_, by omega⟩
 rw [h2]
 split <;> omega
def stSR (m1 m2 : Am.Mode) (a b : List Nat) (k : Nat) : St :=
 {env := [(0, nl m1 a), (1, nl m2 b), (6, appV 1 35 (drows (digsN k (val a - val b)))), (7, u64v (bor (val a) (val b) k)), (8, iv k)], sto := [] }
theorem sub_ref {m1 m2 : Am.Mode} {a b : List Nat} (ha : ok a) (hb : ok b) (hna : a.length < 1099511627775) (hnb : b.length < 1099511627775) (f1 : stm m1 = m1) (f2 : stm m2 = m2) :
  SoundCall Try.prog F_q_Sub [nl m1 a, nl m2 b] (.tuple [nD (val a - val b), bv (decide (val b ≤ val a))]) := by
 have kc := cmp_ref (m1 := m1) (m2 := m2) ha hb (by omega) (by omega) f1 f2
 refine soundW' t_q_Sub (by simp) ?_
 simp [c_q_Sub]
 refine eCall_i kc (by simp [f1, f2]) (by simp) ?_
 by_cases hlt : val a < val b
 ·have hc1 : cmpN (val a) (val b) = -1 := by simp [cmpN, hlt]
  have hd : decide (val b ≤ val a) = false := by simp; omega
  have h0 : val a - val b = 0 := by omega
  simp [hc1, r_q_Sub]
  rw [hd, h0]
  exact AV.imp_tuple2 small_zero
 ·have hc1 : ¬ cmpN (val a) (val b) < 0 := by simp only [cmpN, if_neg hlt]; split <;> omega
  have hle : val b ≤ val a := by omega
  have hd : decide (val b ≤ val a) = true := by simp [hle]
  rw [hd]
  simp [hc1]
  refine awp_forW (stSR m1 m2 a b) (fun _ => True) a.length (by simp [stSR, bor_zero, digsN]) trivial (fun k hk _ => ?_) (fun _ => ?_)
  ·have d1 := digit_ref (m := m1) (i := k) ha (by omega) (by omega)
   have d2 := digit_ref (m := m2) (i := k) hb (by omega) (by omega)
   rw [getD_val ha] at d1
   rw [getD_val hb] at d2
   have hpB : val a / B ^ k % B < B := Nat.mod_lt _ B_pos
   have hqB : val b / B ^ k % B < B := Nat.mod_lt _ B_pos
   have hc := bor_le (x := val a) (y := val b) (k := k)
   obtain ⟨s, g0, gs, gle, g1, g2, g3⟩ := sub_ref_digit (k := k) hle rfl rfl rfl hpB hqB hc
   have hsucc := digsN_succ (n := k) (x := val a - val b)
   have hdl := digsN_len (n := k) (x := val a - val b)
   rw [g1] at hsucc
   have hst : stSR m1 m2 a b (k + 1) = { env := [(0, nl m1 a), (1, nl m2 b), (6, appV 1 35 (drows (digsN (k + 1) (val a - val b)))), (7, u64v (bor (val a) (val b) (k + 1))), (8, iv ((k : Int) + 1))], sto := [] } := by
    rw [stSR]; rfl
   rw [hsucc, g2] at hst
   rw [stSR]
   clear g1 g2 hsucc
   generalize val a / B ^ k % B = p at *
   generalize val b / B ^ k % B = q at *
   generalize bor (val a) (val b) k = c at *
   generalize digsN k (val a - val b) = D at *
   obtain ⟨d, hd⟩ : ∃ d, s % B = d := ⟨_, rfl⟩
   obtain ⟨e, he⟩ : ∃ e, s / B = e := ⟨_, rfl⟩
   rw [hd, he] at hst
   rw [he] at g3
   have hdB : d < B := by rw [← hd]; exact Nat.mod_lt _ B_pos
   rw [B_eq] at hpB hqB hdB
   have t1 : (s : Int).tmod 4294967296 = (d : Int) := by
    rw [← hd, B_eq, show (4294967296 : Int) = ((4294967296 : Nat) : Int) from rfl, ← Int.ofNat_tmod]
   have t2 : IntKind.u64.wrap ((s : Int) / 4294967296) = (e : Int) := by
    rw [show (s : Int) / 4294967296 = (e : Int) by rw [← he, B_eq]; omega]
    exact w64 (by omega)
   clear hd he
   have w1 : IntKind.u64.wrap ((4294967296 : Int) + p) = (4294967296 : Int) + p := w64' (by omega) (by omega)
   have w2 : IntKind.u64.wrap ((4294967296 : Int) + p - q) = (4294967296 : Int) + p - q := w64' (by omega) (by omega)
   have w2' : IntKind.u64.wrap ((4294967296 : Int) + p - q - c) = (s : Int) := by rw [w64'] <;> omega
   have w3 : IntKind.u32.wrap (d : Int) = d := IntWalk.u32_in _ (by omega)
   have w5 : IntKind.u64.wrap (1 - (e : Int)) = ((1 - e : Nat) : Int) := by rw [w64'] <;> omega
   have w4 : IntKind.i64.wrap ((k : Int) + 1) = (k : Int) + 1 := wrap64 (by omega) (by omega)
   have hkM : (k : Int) < (a.length : Int) := by omega
   simp [c_q_Sub_l0, hkM]
   refine eCall_i d1 (by simp [f1]) (by simp) ?_
   simp [w1]
   refine eCall_i d2 (by simp [f2]) (by simp) ?_
   simp [w2, w2', w5, eBin_quo, eBin_rem, t1, t2, w3, w4, hdl, hst, dg_stm f1, dg_stm f2]
   omega
  ·have hlt2 : val a - val b < B ^ a.length := Nat.lt_of_le_of_lt (Nat.sub_le _ _) (val_lt ha)
   have kt := trim_ref (m := .plain) (a := digsN a.length (val a - val b)) ok_digsN (by rw [digsN_len]; omega)
   rw [val_digsN_lt hlt2] at kt
   simp [c_q_Sub_l0, stSR, c_q_Sub_k1, r_q_Sub]
   refine eCall_i (imp_arg1 kt imp_outV) (by simp) (.inl rfl) ?_
   simp
   exact AV.imp.refl
end Go.Proofs.Ytdeifcfjkmfocaa

namespace Go.Proofs.Ytdeifcfjkmfocaa
open Go Go.Am Go.Dig
def cs (x d k : Nat) : Nat := x % B ^ k * d / B ^ k
theorem cs_zero {x d : Nat} : cs x d 0 = 0 := by simp [cs, Nat.mod_one]
theorem cs_lt {x d k : Nat} (hd : d < B) : cs x d k < B := by
 unfold cs
 apply Nat.div_lt_of_lt_mul
 have h1 := Nat.mod_lt x (pw_pos k)
 exact Nat.mul_lt_mul_of_lt_of_lt h1 hd
theorem scale_digit {x d k : Nat} : x * d / B ^ k % B = (x / B ^ k % B * d + cs x d k) % B ∧ cs x d (k + 1) = (x / B ^ k % B * d + cs x d k) / B := by
 have m1 : x % B ^ (k + 1) = x % B ^ k + B ^ k * (x / B ^ k % B) := by rw [Nat.pow_succ, Nat.mod_mul]
 have d1 := Nat.mod_add_div x (B ^ (k + 1))
 have hs : x * d = (x % B ^ k * d) + B ^ k * (x / B ^ k % B * d) + B ^ (k + 1) * (x / B ^ (k + 1) * d) := by
  have h : x * d = (x % B ^ k + B ^ k * (x / B ^ k % B) + B ^ (k + 1) * (x / B ^ (k + 1))) * d := by rw [← m1, d1]
  rw [h, Nat.add_mul, Nat.add_mul, Nat.mul_assoc, Nat.mul_assoc]
 constructor
 ·rw [hs, col_digit]
  unfold cs
  congr 1
  omega
 ·unfold cs
  rw [m1, Nat.add_mul, Nat.mul_assoc, col_carry]
  congr 1
  omega
def stSc (m1 : Am.Mode) (a : List Nat) (d k : Nat) : St :=
 {env := [(0, nl m1 a), (1, u64v d), (5, appV 1 27 (drows (digsN k (val a * d)))), (6, u64v (cs (val a) d k)), (7, iv k)], sto := [] }
theorem scale_ref {m1 : Am.Mode} {a : List Nat} {d : Nat} (ha : ok a) (hna : a.length < 1099511627775) (hd : d < B) (f1 : stm m1 = m1) :
  SoundCall Try.prog F_q_scale [nl m1 a, u64v d] (nD (val a * d)) := by
 refine sound' t_q_scale (by simp) ?_
 simp [c_q_scale]
 refine awp_forW (stSc m1 a d) (fun _ => True) (a.length + 1) (by simp [stSc, cs_zero, digsN]) trivial (fun k hk _ => ?_) (fun _ => ?_)
 ·have d1 := digit_ref (m := m1) (i := k) ha (by omega) (by omega)
  rw [getD_val ha] at d1
  obtain ⟨g1, g2⟩ := scale_digit (x := val a) (d := d) (k := k)
  have hsucc := digsN_succ (n := k) (x := val a * d)
  have hpB : val a / B ^ k % B < B := Nat.mod_lt _ B_pos
  have hc := cs_lt (x := val a) (k := k) hd
  have hdl := digsN_len (n := k) (x := val a * d)
  rw [g1] at hsucc
  have hst : stSc m1 a d (k + 1) = { env := [(0, nl m1 a), (1, u64v d), (5, appV 1 27 (drows (digsN (k + 1) (val a * d)))), (6, u64v (cs (val a) d (k + 1))), (7, iv ((k : Int) + 1))], sto := [] } := by
   rw [stSc]; rfl
  rw [hsucc, g2] at hst
  rw [stSc]
  clear g1 g2 hsucc
  generalize val a / B ^ k % B = p at *
  generalize cs (val a) d k = c at *
  generalize digsN k (val a * d) = D at *
  have hm := mul_bound hpB hd hc B_pos
  obtain ⟨pd, hpd⟩ : ∃ pd, p * d = pd := ⟨_, rfl⟩
  rw [hpd] at hst hm
  obtain ⟨t, ht⟩ : ∃ t, pd + c = t := ⟨_, rfl⟩
  obtain ⟨y, hy⟩ : ∃ y, t % B = y := ⟨_, rfl⟩
  obtain ⟨e, he⟩ : ∃ e, t / B = e := ⟨_, rfl⟩
  rw [ht, hy, he] at hst
  have hBB : B * B = 18446744073709551616 := by decide
  rw [hBB] at hm
  have hyB : y < B := by rw [← hy]; exact Nat.mod_lt _ B_pos
  have heB : e ≤ t := by rw [← he]; exact Nat.div_le_self _ _
  rw [B_eq] at hpB hyB
  have t1 : (t : Int).tmod 4294967296 = (y : Int) := by
   rw [← hy, B_eq, show (4294967296 : Int) = ((4294967296 : Nat) : Int) from rfl, ← Int.ofNat_tmod]
  have t2 : IntKind.u64.wrap ((t : Int) / 4294967296) = (e : Int) := by
   rw [show (t : Int) / 4294967296 = (e : Int) by rw [← he, B_eq]; omega]
   exact w64 (by omega)
  clear hy he
  have w1 : IntKind.u64.wrap ((p : Int) * d) = (pd : Int) := by
   rw [show (p : Int) * (d : Int) = ((p * d : Nat) : Int) by simp, hpd]; exact w64 (by omega)
  have w2 : IntKind.u64.wrap ((pd : Int) + c) = (t : Int) := by rw [w64'] <;> omega
  have w3 : IntKind.u32.wrap (y : Int) = y := IntWalk.u32_in _ (by omega)
  have w4 : IntKind.i64.wrap ((k : Int) + 1) = (k : Int) + 1 := wrap64 (by omega) (by omega)
  have hkM : (k : Int) ≤ (a.length : Int) := by omega
  have hkM2 : k ≤ a.length := by omega
  simp [c_q_scale_l0, hkM]
  refine eCall_i d1 (by simp [f1]) (by simp) ?_
  simp [w1, w2, eBin_quo, eBin_rem, t1, t2, w3, w4, hdl, hst, dg_stm f1]
  omega
 ·have hlt : val a * d < B ^ (a.length + 1) := by
   rw [Nat.pow_succ]
   exact Nat.mul_lt_mul_of_lt_of_lt (val_lt ha) hd
  have kt := trim_ref (m := .plain) (a := digsN (a.length + 1) (val a * d)) ok_digsN (by rw [digsN_len]; omega)
  rw [val_digsN_lt hlt] at kt
  have hkM : ¬ (a.length : Int) + 1 ≤ (a.length : Int) := by omega
  simp [c_q_scale_l0, stSc, hkM, c_q_scale_k1, r_q_scale]
  refine eCall_i (imp_arg1 kt imp_outV) (by simp) (.inl rfl) ?_
  simp
end Go.Proofs.Ytdeifcfjkmfocaa

namespace Go.Proofs.Ytdeifcfjkmfocaa
open Go Go.Am Go.Dig
def stSh2 (m1 : Am.Mode) (a : List Nat) (n k : Nat) : St :=
 {env := [(0, nl m1 a), (1, iv n), (5, appV 1 14 (drows (List.replicate k 0))), (6, iv k)], sto := [] }
theorem shift_ref {m1 : Am.Mode} {a : List Nat} {n : Nat} (ha : ok a) (hna : a.length < 137438953472) (hn : n < 137438953472) (f1 : stm m1 = m1) :
  SoundCall Try.prog F_q_shift [nl m1 a, iv n] (nD (val a * B ^ n)) := by
 refine sound' t_q_shift (by simp) ?_
 simp [c_q_shift]
 refine awp_forW (stSh2 m1 a n) (fun _ => True) n (by simp [stSh2]) trivial (fun k hk _ => ?_) (fun _ => ?_)
 ·have hst : stSh2 m1 a n (k + 1) = { env := [(0, nl m1 a), (1, iv n), (5, appV 1 14 (drows (List.replicate k 0 ++ [0]))), (6, iv ((k : Int) + 1))], sto := [] } := by
   rw [stSh2, List.replicate_succ']; rfl
  have hl : (List.replicate k 0).length = k := List.length_replicate
  rw [stSh2]
  generalize List.replicate k 0 = D at *
  have w4 : IntKind.i64.wrap ((k : Int) + 1) = (k : Int) + 1 := wrap64 (by omega) (by omega)
  have hkn : (k : Int) < (n : Int) := by omega
  simp [c_q_shift_l0, hkn, w4, hl, hst, dg_stm f1]
  exact ⟨by omega, by omega, rfl⟩
 ·have hl : (List.replicate n 0).length = n := List.length_replicate
  have hv : val (List.replicate n 0 ++ a) = val a * B ^ n := by rw [val_append, val_rep, hl, Nat.zero_add, Nat.mul_comm]
  have kt := trim_ref (m := .plain) (a := List.replicate n 0 ++ a) (ok_append.2 ⟨ok_rep n, ha⟩) (by rw [List.length_append, hl]; omega)
  rw [hv] at kt
  rw [stSh2]
  generalize List.replicate n 0 = D at *
  simp [c_q_shift_l0, c_q_shift_k1]
  refine eAppend_appV2 (by simp) (.inr rfl) (by simp) (by simp) (by simp; omega) (by simp; omega) fun t ht => ?_
  simp
  refine eCall_i kt (by simp) (.inl rfl) ?_
  simp [r_q_shift]
theorem imp_arg2l {f : FuncId} {x x' y r : AV} (h : SoundCall Try.prog f [x', y] r) (hy : AV.imp x x') : SoundCall Try.prog f [x, y] r := fun I vs w h1 h2 h3 =>
 h I vs w h1 h2 fun i a hi => by
  match i, hi with
  | 0, hi => simp at hi; subst hi; exact hy _ _ _ (h3 0 x rfl)
  | 1, hi => exact h3 1 a hi
  | i + 2, hi => simp at hi
def stMR (m1 m2 : Am.Mode) (a b : List Nat) (k : Nat) : St :=
 {env := [(0, nl m1 a), (1, nl m2 b), (5, if k = 0 then .list 0 .full [] else nD (val a * val (b.take k))), (6, iv k)], sto := [] }
theorem mulR_succ {a b : List Nat} {k : Nat} (hk : k < b.length) : val a * val (b.take (k + 1)) = val a * val (b.take k) + val a * b[k] * B ^ k := by
 rw [val_take_succ hk, Nat.mul_add, Nat.mul_comm (B ^ k), Nat.mul_assoc]
theorem mul_ref {m1 m2 : Am.Mode} {a b : List Nat} (ha : ok a) (hb : ok b) (hs : a.length + b.length < 68719476736) (f1 : stm m1 = m1) (_f2 : stm m2 = m2) :
  SoundCall Try.prog F_q_Mul [nl m1 a, nl m2 b] (nD (val a * val b)) := by
 refine soundW' t_q_Mul (by simp) ?_
 simp [c_q_Mul]
 refine awp_forW (stMR m1 m2 a b) (fun _ => True) b.length (by simp [stMR]) trivial (fun k hk _ => ?_) (fun _ => ?_)
 ·have hbk := ok_get hb hk
  have hg : ∃ x, b[k] = x := ⟨_, rfl⟩
  have hsucc := mulR_succ (a := a) hk
  have haB := val_lt ha
  have hbB : val (b.take k) < B ^ k := val_lt_of (ok_take hb k) (by simp; omega)
  generalize hx : b[k] = x at *
  have k1 := scale_ref (m1 := m1) (d := x) ha (by omega) hbk f1
  have hl1 : (digs (val a * x)).length ≤ a.length + 1 := digs_len_le.2 (by rw [Nat.pow_succ]; exact Nat.mul_lt_mul_of_lt_of_lt haB hbk)
  have k2 := shift_ref (m1 := .plain) (n := k) (ok_digs (val a * x)) (by omega) (by omega) rfl
  rw [val_digs] at k2
  have hl2 : (digs (val a * x * B ^ k)).length ≤ a.length + 1 + k := digs_len_le.2 (by
   rw [Nat.pow_add, Nat.pow_succ]
   exact Nat.mul_lt_mul_of_pos_right (Nat.mul_lt_mul_of_lt_of_lt haB hbk) (pw_pos k))
  have hl3 : (digs (val a * val (b.take k))).length ≤ a.length + k := digs_len_le.2 (by
   rw [Nat.pow_add]; exact Nat.mul_lt_mul_of_lt_of_lt haB hbB)
  have k3 := add_ref (m1 := .plain) (m2 := .plain) (ok_digs (val a * val (b.take k))) (ok_digs (val a * x * B ^ k)) (by omega) (by omega) rfl rfl
  rw [val_digs, val_digs] at k3
  rw [← hsucc] at k3
  rw [B_eq] at hbk
  have w1 : IntKind.u64.wrap (x : Int) = x := w64 (by omega)
  have w4 : IntKind.i64.wrap ((k : Int) + 1) = (k : Int) + 1 := wrap64 (by omega) (by omega)
  have hkb : (k : Int) < (b.length : Int) := by omega
  obtain ⟨o, ho⟩ : ∃ o, (if k = 0 then AV.list 0 .full [] else nD (val a * val (b.take k))) = o := ⟨_, rfl⟩
  simp [c_q_Mul_l0, hkb, hk, stMR, hx, w1]
  refine eCall_i k1 (by simp [f1]) (by simp) ?_
  simp
  refine eCall_i k2 (by simp) (by simp) ?_
  rcases Nat.eq_zero_or_pos k with h0 | h0
  ·subst h0
   have e0 : nl .plain (digs (val a * val (b.take 0))) = nD 0 := by simp [val]
   rw [e0] at k3
   simp
   refine eCall_i (imp_arg2l k3 (small_zero (sz := 0))) (by simp) (by simp) ?_
   have w0 : IntKind.i64.wrap 1 = 1 := by decide
   simp [w0, stMR]
  ·have hk0 : ¬ k = 0 := by omega
   simp [hk0]
   refine eCall_i k3 (by simp) (by simp) ?_
   simp [w4, stMR]
 ·rcases Nat.eq_zero_or_pos b.length with h0 | h0
  ·have hb0 : b = [] := List.length_eq_zero_iff.1 h0
   subst hb0
   simp [c_q_Mul_l0, stMR, c_q_Mul_k1, r_q_Mul, val]
   exact small_zero
  ·have hk0 : ¬ b.length = 0 := by omega
   have hbn : ¬ b = [] := fun e => by subst e; simp at h0
   simp [c_q_Mul_l0, stMR, c_q_Mul_k1, r_q_Mul, hk0]
   exact AV.imp.refl
end Go.Proofs.Ytdeifcfjkmfocaa

namespace Go.Proofs.Ytdeifcfjkmfocaa
open Go Go.Am Go.Dig
theorem B_pow2 (q : Nat) : B ^ q = 2 ^ (32 * q) := by rw [Nat.pow_mul]; rfl
theorem bit_plain {x i : Nat} : x / B ^ (i / 32) % B / 2 ^ (i % 32) % 2 = x / 2 ^ i % 2 := by
 have hi : 2 ^ i = B ^ (i / 32) * 2 ^ (i % 32) := by rw [B_pow2, ← Nat.pow_add]; congr 1; omega
 rw [hi, ← Nat.div_div_eq_div_mul]
 generalize x / B ^ (i / 32) = y
 have hr : i % 32 < 32 := Nat.mod_lt _ (by omega)
 generalize i % 32 = r at *
 have hB : B = 2 ^ r * 2 ^ (32 - r) := by
  rw [← Nat.pow_add, Nat.add_sub_cancel' (by omega)]; rfl
 rw [hB, Nat.mod_mul_right_div_self]
 exact Nat.mod_mod_of_dvd _ ⟨2 ^ (31 - r), by rw [show 32 - r = (31 - r) + 1 by omega, Nat.pow_succ, Nat.mul_comm]⟩
theorem bit_ref {m : Am.Mode} {a : List Nat} {i : Nat} (ha : ok a) (hn : a.length < 1099511627776) (hi : i < 35184372088832) (f1 : stm m = m) : SoundCall Try.prog F_q_Bit [nl m a, iv i] (u64v (val a / 2 ^ i % 2)) := by
 have d1 := digit_ref (m := m) (i := i / 32) ha hn (by omega)
 rw [getD_val ha] at d1
 have hp := bit_plain (x := val a) (i := i)
 have hpB : val a / B ^ (i / 32) % B < B := Nat.mod_lt _ B_pos
 rw [← hp]
 clear hp
 generalize val a / B ^ (i / 32) % B = p at *
 have q1 : IntKind.i64.wrap ((i : Int) / 32) = ((i / 32 : Nat) : Int) := by rw [wrap64] <;> omega
 have q2 : (i : Int).tmod 32 = ((i % 32 : Nat) : Int) := by
  rw [show (32 : Int) = ((32 : Nat) : Int) from rfl, ← Int.ofNat_tmod]
 have hr : i % 32 < 32 := Nat.mod_lt _ (by omega)
 obtain ⟨q, hq⟩ : ∃ q, i / 32 = q := ⟨_, rfl⟩
 obtain ⟨r, hr2⟩ : ∃ r, i % 32 = r := ⟨_, rfl⟩
 rw [hq] at q1 d1
 rw [hr2] at q2 hr
 rw [hr2]
 clear hq hr2
 have hP : 0 < 2 ^ r := Nat.pow_pos (by omega)
 have hPB := pow_bits hr
 have hmin : min r IntKind.u64.bits = r := by
  have : IntKind.u64.bits = 64 := rfl
  omega
 obtain ⟨P, hPe⟩ : ∃ P, 2 ^ r = P := ⟨_, rfl⟩
 rw [hPe] at hP hPB
 rw [hPe]
 have u1 : IntKind.u64.wrap ((2 : Int) ^ r) = (P : Int) := by
  rw [show (2 : Int) ^ r = ((2 ^ r : Nat) : Int) by simp, hPe]; exact w64 (by rw [B_eq] at hPB; omega)
 have hne : ¬ P = 0 := by omega
 have u2 : IntKind.u64.wrap ((p : Int) / (P : Int)) = ((p / P : Nat) : Int) := by
  rw [← Int.natCast_ediv]; exact w64 (Nat.lt_of_le_of_lt (Nat.div_le_self _ _) (by rw [B_eq] at hpB; omega))
 obtain ⟨z, hz⟩ : ∃ z, p / P = z := ⟨_, rfl⟩
 rw [hz] at u2
 rw [hz]
 have u3 : (z : Int).tmod 2 = ((z % 2 : Nat) : Int) := by
  rw [show (2 : Int) = ((2 : Nat) : Int) from rfl, ← Int.ofNat_tmod]
 clear hz hPe
 refine sound' t_q_Bit (by simp) ?_
 simp [c_q_Bit, eBin_quo, q1]
 refine eCall_i d1 (by simp [f1]) (by simp) ?_
 simp [eBin_quo, eBin_rem, eBin_shl, q2, hmin, u1, hne, u2, u3, r_q_Bit]
end Go.Proofs.Ytdeifcfjkmfocaa

namespace Go.Proofs.Ytdeifcfjkmfocaa
open Go Go.Am Go.Dig
def bl (x : Nat) : Nat := if x = 0 then 0 else Nat.log2 x + 1
theorem bl_lt (x : Nat) : x < 2 ^ bl x := by
 unfold bl
 split
 ·subst x; decide
 ·exact Nat.lt_log2_self
theorem bl_top {x : Nat} (h : 0 < bl x) : x / 2 ^ (bl x - 1) % 2 = 1 := by
 unfold bl at *
 split at h
 ·exact absurd h (Nat.lt_irrefl _)
 ·rename_i h0
  rw [if_neg h0, Nat.add_sub_cancel]
  have h1 := Nat.log2_self_le h0
  have h2 : x < 2 ^ (Nat.log2 x + 1) := Nat.lt_log2_self
  have h3 : x / 2 ^ Nat.log2 x = 1 := by
   rw [Nat.div_eq_iff (Nat.pow_pos (by omega))]
   rw [Nat.pow_succ] at h2
   omega
  rw [h3]
theorem bl_le {x n : Nat} (h : x < 2 ^ n) : bl x ≤ n := by
 unfold bl
 split
 ·omega
 ·rename_i h0
  exact (Nat.log2_lt h0).2 h
def stB (m : Am.Mode) (a : List Nat) (k : Nat) : St := { env := [(0, nl m a), (3, iv ((32 * a.length - k : Nat) : Int))], sto := [] }
theorem bits_ref {m : Am.Mode} {a : List Nat} (ha : ok a) (hn : a.length < 137438953472) (f1 : stm m = m) : SoundCall Try.prog F_q_Bits [nl m a] (iv (bl (val a))) := by
 refine sound' t_q_Bits (by simp) ?_
 have hlt : val a < 2 ^ (32 * a.length) := by rw [← B_pow2]; exact val_lt ha
 have hle := bl_le hlt
 have w0 : IntKind.i64.wrap (32 * (a.length : Int)) = ((32 * a.length : Nat) : Int) := by rw [wrap64] <;> omega
 simp [c_q_Bits, w0]
 refine awp_forW (stB m a) (fun _ => True) (32 * a.length - bl (val a)) (by simp [stB]) trivial (fun k hk _ => ?_) (fun _ => ?_)
 ·obtain ⟨j, hj⟩ : ∃ j, 32 * a.length - k = j + 1 := ⟨32 * a.length - k - 1, by omega⟩
  have hj2 : 32 * a.length - (k + 1) = j := by omega
  have hb := bit_ref (m := m) (i := j) ha (by omega) (by omega) f1
  have hz : val a / 2 ^ j % 2 = 0 := by
   rw [Nat.div_eq_of_lt]
   exact Nat.lt_of_lt_of_le (bl_lt _) (Nat.pow_le_pow_right (by omega) (by omega))
  rw [hz] at hb
  have hst : stB m a (k + 1) = { env := [(0, nl m a), (3, iv j)], sto := [] } := by rw [stB, hj2]
  have hst0 : stB m a k = { env := [(0, nl m a), (3, iv ((j : Int) + 1))], sto := [] } := by rw [stB, hj]; rfl
  have w1 : IntKind.i64.wrap (j : Int) = (j : Int) := by rw [wrap64] <;> omega
  have p1 : (0 : Int) < (j : Int) + 1 := by omega
  rw [hst0]
  simp [c_q_Bits_l0, p1, w1]
  refine eCall_i hb (by simp [f1]) (by simp) ?_
  simp [w1, hst]
 ·have e : 32 * a.length - (32 * a.length - bl (val a)) = bl (val a) := by omega
  have ht := fun h => bl_top (x := val a) h
  have hb := fun i h => bit_ref (m := m) (i := i) ha (by omega) h f1
  rw [stB, e]
  generalize bl (val a) = L at *
  rcases L with _ | j
  ·simp [c_q_Bits_l0, c_q_Bits_k1, r_q_Bits]
  ·have hb := hb j (by omega)
   have ht := ht (by omega)
   rw [Nat.add_sub_cancel] at ht
   rw [ht] at hb
   have w1 : IntKind.i64.wrap (j : Int) = (j : Int) := by rw [wrap64] <;> omega
   have p1 : (0 : Int) < (j : Int) + 1 := by omega
   simp [c_q_Bits_l0, p1, w1]
   refine eCall_i hb (by simp [f1]) (by simp) ?_
   simp [c_q_Bits_k1, r_q_Bits]
end Go.Proofs.Ytdeifcfjkmfocaa

namespace Go.Proofs.Ytdeifcfjkmfocaa
open Go Go.Am Go.Dig
theorem high_plain {Y r : Nat} (hr : r < 32) : (Y % B + Y / B % B * B) / 2 ^ r % B = Y / 2 ^ r % B := by
 have h1 : Y % B + Y / B % B * B = Y % (2 ^ r * 2 ^ (64 - r)) := by
  have : 2 ^ r * 2 ^ (64 - r) = B * B := by
   rw [← Nat.pow_add, Nat.add_sub_cancel' (by omega)]; rfl
  rw [this, Nat.mod_mul, Nat.mul_comm]
 rw [h1, Nat.mod_mul_right_div_self]
 refine Nat.mod_mod_of_dvd _ ⟨2 ^ (32 - r), ?_⟩
 rw [show 64 - r = 32 + (32 - r) by omega, Nat.pow_add]; rfl
theorem high_digit {x k t : Nat} : x / 2 ^ k / B ^ t % B = (x / B ^ (k / 32 + t) % B + x / B ^ (k / 32 + t + 1) % B * B) / 2 ^ (k % 32) % B := by
 have h1 : x / B ^ (k / 32 + t + 1) = x / B ^ (k / 32 + t) / B := by rw [Nat.pow_succ, Nat.div_div_eq_div_mul]
 rw [h1, high_plain (Nat.mod_lt _ (by omega)), Nat.div_div_eq_div_mul, Nat.div_div_eq_div_mul]
 have : 2 ^ k * B ^ t = B ^ (k / 32 + t) * 2 ^ (k % 32) := by
  rw [B_pow2, B_pow2, ← Nat.pow_add, ← Nat.pow_add]; congr 1; omega
 rw [this]
def stH (m : Am.Mode) (a : List Nat) (k t : Nat) : St :=
 {env := [(0, nl m a), (1, iv k), (5, appV 1 34 (drows (digsN t (val a / 2 ^ k)))), (6, iv ((k / 32 + t : Nat) : Int))], sto := [] }
theorem high_ref {m : Am.Mode} {a : List Nat} {k : Nat} (ha : ok a) (hn : a.length < 137438953472) (hk : k < 35184372088832) (f1 : stm m = m) : SoundCall Try.prog F_q_high [nl m a, iv k] (nD (val a / 2 ^ k)) := by
 refine sound' t_q_high (by simp) ?_
 have q0 : IntKind.i64.wrap ((k : Int) / 32) = ((k / 32 : Nat) : Int) := by rw [wrap64] <;> omega
 have q2 : (k : Int).tmod 32 = ((k % 32 : Nat) : Int) := by
  rw [show (32 : Int) = ((32 : Nat) : Int) from rfl, ← Int.ofNat_tmod]
 simp [c_q_high, eBin_quo, q0]
 refine awp_forW (stH m a k) (fun _ => True) (a.length - k / 32) (by simp [stH, digsN]) trivial (fun t ht _ => ?_) (fun _ => ?_)
 ·have d1 := digit_ref (m := m) (i := k / 32 + t) ha (by omega) (by omega)
  have d2 := digit_ref (m := m) (i := k / 32 + t + 1) ha (by omega) (by omega)
  rw [getD_val ha] at d1 d2
  have hd := high_digit (x := val a) (k := k) (t := t)
  have hsucc := digsN_succ (n := t) (x := val a / 2 ^ k)
  have hdl := digsN_len (n := t) (x := val a / 2 ^ k)
  rw [hd] at hsucc
  have hst : stH m a k (t + 1) = { env := [(0, nl m a), (1, iv k), (5, appV 1 34 (drows (digsN (t + 1) (val a / 2 ^ k)))), (6, iv ((k / 32 + t : Nat) + 1 : Int))], sto := [] } := by
   rw [stH]; rfl
  rw [hsucc] at hst
  rw [stH]
  clear hd hsucc
  have hpB : val a / B ^ (k / 32 + t) % B < B := Nat.mod_lt _ B_pos
  have hqB : val a / B ^ (k / 32 + t + 1) % B < B := Nat.mod_lt _ B_pos
  generalize val a / B ^ (k / 32 + t) % B = p at *
  generalize val a / B ^ (k / 32 + t + 1) % B = q at *
  generalize digsN t (val a / 2 ^ k) = D at *
  have hr : k % 32 < 32 := Nat.mod_lt _ (by omega)
  obtain ⟨i, hi⟩ : ∃ i, k / 32 + t = i := ⟨_, rfl⟩
  obtain ⟨r, hr2⟩ : ∃ r, k % 32 = r := ⟨_, rfl⟩
  have hil : i < a.length := by omega
  rw [hi] at d1 d2 hst
  rw [hi]
  rw [hr2] at hst q2 hr
  have htb : t < a.length := by omega
  clear hi hr2 ht q0
  have hP : 0 < 2 ^ r := Nat.pow_pos (by omega)
  have hPB := pow_bits hr
  have hmin : min r IntKind.u64.bits = r := by
   have : IntKind.u64.bits = 64 := rfl
   omega
  obtain ⟨P, hPe⟩ : ∃ P, 2 ^ r = P := ⟨_, rfl⟩
  rw [hPe] at hP hPB hst
  have u1 : IntKind.u64.wrap ((2 : Int) ^ r) = (P : Int) := by
   rw [show (2 : Int) ^ r = ((2 ^ r : Nat) : Int) by simp, hPe]; exact w64 (by rw [B_eq] at hPB; omega)
  have hne : ¬ P = 0 := by omega
  clear hPe
  have hs := two_dig_lt hqB hpB
  obtain ⟨s, hse⟩ : ∃ s, p + q * B = s := ⟨_, rfl⟩
  have hsB : s < 18446744073709551616 := by rw [← hse, Nat.add_comm]; exact hs
  rw [hse] at hst
  obtain ⟨qb, hqb⟩ : ∃ qb, q * B = qb := ⟨_, rfl⟩
  rw [hqb] at hse
  have w1 : IntKind.u64.wrap ((q : Int) * 4294967296) = (qb : Int) := by
   rw [show (q : Int) * 4294967296 = ((q * B : Nat) : Int) by rw [B_eq]; simp, hqb]; exact w64 (by omega)
  have w2 : IntKind.u64.wrap ((p : Int) + qb) = (s : Int) := by rw [w64'] <;> omega
  have u2 : IntKind.u64.wrap ((s : Int) / (P : Int)) = ((s / P : Nat) : Int) := by
   rw [← Int.natCast_ediv]; exact w64 (Nat.lt_of_le_of_lt (Nat.div_le_self _ _) hsB)
  obtain ⟨z, hz⟩ : ∃ z, s / P = z := ⟨_, rfl⟩
  rw [hz] at u2 hst
  obtain ⟨d, hd⟩ : ∃ d, z % B = d := ⟨_, rfl⟩
  rw [hd] at hst
  have u3 : (z : Int).tmod 4294967296 = (d : Int) := by
   rw [← hd, B_eq, show (4294967296 : Int) = ((4294967296 : Nat) : Int) from rfl, ← Int.ofNat_tmod]
  have hdB : d < B := by rw [← hd]; exact Nat.mod_lt _ B_pos
  clear hz hd hqb hs
  rw [B_eq] at hdB
  have w3 : IntKind.u32.wrap (d : Int) = d := IntWalk.u32_in _ (by omega)
  have w4 : IntKind.i64.wrap ((i : Int) + 1) = (i : Int) + 1 := wrap64 (by omega) (by omega)
  have hil' : (i : Int) < (a.length : Int) := by omega
  simp [c_q_high_l0, hil']
  refine eCall_i d1 (by simp [f1]) (by simp) ?_
  simp [w4]
  refine eCall_i d2 (by simp [f1]) (by simp) ?_
  simp [eBin_quo, eBin_rem, eBin_shl, w1, w2, q2, hmin, u1, hne, u2, u3, w3, w4, hst, dg_stm f1]
  omega
 ·have hlt : val a / 2 ^ k < B ^ (a.length - k / 32) := by
   apply Nat.div_lt_of_lt_mul
   have h1 := val_lt ha
   have h2 : B ^ a.length ≤ 2 ^ k * B ^ (a.length - k / 32) := by
    rw [B_pow2, B_pow2, ← Nat.pow_add]
    exact Nat.pow_le_pow_right (by omega) (by omega)
   exact Nat.lt_of_lt_of_le h1 h2
  have kt := trim_ref (m := .plain) (a := digsN (a.length - k / 32) (val a / 2 ^ k)) ok_digsN (by rw [digsN_len]; omega)
  rw [val_digsN_lt hlt] at kt
  rw [stH]
  generalize val a / 2 ^ k = y at *
  have hge : ¬ ((k / 32 + (a.length - k / 32) : Nat) : Int) < (a.length : Int) := by omega
  generalize k / 32 + (a.length - k / 32) = i at *
  generalize a.length - k / 32 = n at *
  have hge' : ¬ i < a.length := by omega
  simp [c_q_high_l0, hge', c_q_high_k1, r_q_high]
  refine eCall_i (imp_arg1 kt imp_outV) (by simp) (.inl rfl) ?_
  simp
end Go.Proofs.Ytdeifcfjkmfocaa

namespace Go.Proofs.Ytdeifcfjkmfocaa
open Go Go.Am Go.Dig
theorem bin_step {x y j : Nat} (hy : 0 < y) :
  let r := 2 * (x / 2 ^ (j + 1) % y) + x / 2 ^ j % 2
  (r < y → x / 2 ^ j / y = 2 * (x / 2 ^ (j + 1) / y) ∧ x / 2 ^ j % y = r) ∧ (y ≤ r → x / 2 ^ j / y = 2 * (x / 2 ^ (j + 1) / y) + 1 ∧ x / 2 ^ j % y = r - y) := by
 intro r
 have hX : x / 2 ^ j = 2 * (x / 2 ^ (j + 1)) + x / 2 ^ j % 2 := by
  have : x / 2 ^ (j + 1) = x / 2 ^ j / 2 := by rw [Nat.pow_succ, Nat.div_div_eq_div_mul]
  rw [this]; omega
 have hb : x / 2 ^ j % 2 < 2 := Nat.mod_lt _ (by omega)
 have hd := Nat.div_add_mod (x / 2 ^ (j + 1)) y
 have hm := Nat.mod_lt (x / 2 ^ (j + 1)) hy
 have hr : r = 2 * (x / 2 ^ (j + 1) % y) + x / 2 ^ j % 2 := rfl
 generalize x / 2 ^ j % 2 = b at *
 generalize x / 2 ^ (j + 1) / y = q at *
 generalize x / 2 ^ (j + 1) % y = m at *
 generalize x / 2 ^ (j + 1) = X at *
 generalize x / 2 ^ j = Z at *
 have hZ : Z = y * (2 * q) + r := by
  rw [show y * (2 * q) = 2 * (y * q) by rw [Nat.mul_left_comm]]; omega
 clear hX hd
 constructor
 ·intro h
  rw [hZ]
  exact ⟨by rw [Nat.mul_add_div hy, Nat.div_eq_of_lt h, Nat.add_zero], by rw [Nat.mul_add_mod, Nat.mod_eq_of_lt h]⟩
 ·intro h
  have h2 : Z = y * (2 * q + 1) + (r - y) := by rw [Nat.mul_add, Nat.mul_one]; omega
  have h3 : r - y < y := by omega
  rw [h2]
  exact ⟨by rw [Nat.mul_add_div hy, Nat.div_eq_of_lt h3, Nat.add_zero], by rw [Nat.mul_add_mod, Nat.mod_eq_of_lt h3]⟩
theorem bin_start {x y : Nat} (hy : 0 < y) : x / 2 ^ (bl x + 1 - bl y) < y ∧ 0 < bl y := by
 have h1 := bl_lt x
 have hne : y ≠ 0 := by omega
 have hb : bl y = Nat.log2 y + 1 := by unfold bl; rw [if_neg hne]
 have h2 := Nat.log2_self_le hne
 refine ⟨Nat.lt_of_lt_of_le ?_ h2, by omega⟩
 apply Nat.div_lt_of_lt_mul
 rw [← Nat.pow_add]
 exact Nat.lt_of_lt_of_le h1 (Nat.pow_le_pow_right (by omega) (by omega))
def qA (t Q : Nat) : AV := if t = 0 then .list 0 .full [] else nD Q
def stDR (m1 m2 : Am.Mode) (a c : List Nat) (k t : Nat) : St :=
 {env := [(0, nl m1 a), (1, nl m2 c), (8, qA t (val a / 2 ^ (k - t) / val c)), (9, nD (val a / 2 ^ (k - t) % val c)), (10, iv ((k : Int) - 1 - t))], sto := [] }
theorem divMod_ref {m1 m2 : Am.Mode} {a c : List Nat} (ha : ok a) (hc : ok c) (hna : a.length < 68719476736) (hnc : c.length < 68719476736) (f1 : stm m1 = m1) (f2 : stm m2 = m2) (hD : val c ≠ 0) :
  SoundCall Try.prog F_q_DivMod [nl m1 a, nl m2 c] (divR (val a) (val c)) := by
 have hy : 0 < val c := by omega
 obtain ⟨s1, s2⟩ := bin_start (x := val a) hy
 have b1 := bits_ref ha (by omega) f1
 have b2 := bits_ref hc (by omega) f2
 have hl1 : bl (val a) ≤ 32 * a.length := bl_le (by rw [← B_pow2]; exact val_lt ha)
 have hl2 : bl (val c) ≤ 32 * c.length := bl_le (by rw [← B_pow2]; exact val_lt hc)
 obtain ⟨k, hk⟩ : ∃ k, bl (val a) + 1 - bl (val c) = k := ⟨_, rfl⟩
 have hk2 : k ≤ 32 * a.length := by omega
 have hh := high_ref (k := k) ha (by omega) (by omega) f1
 have hcl : ¬ c.length = 0 := fun h => by
  rw [List.length_eq_zero_iff] at h
  subst h
  exact hD rfl
 have hcn : ¬ c = [] := fun h => hcl (by rw [h]; rfl)
 rw [hk] at s1
 have m0 : max (1 : Int) (bl (val c) : Int) = (bl (val c) : Int) := by omega
 have w0 : IntKind.i64.wrap ((bl (val a) : Int) - (bl (val c) : Int)) = (bl (val a) : Int) - (bl (val c) : Int) := by rw [wrap64] <;> omega
 have w1 : IntKind.i64.wrap ((bl (val a) : Int) - (bl (val c) : Int) + 1) = (bl (val a) : Int) - (bl (val c) : Int) + 1 := by rw [wrap64] <;> omega
 have m1' : max (0 : Int) ((bl (val a) : Int) - (bl (val c) : Int) + 1) = (k : Int) := by omega
 have w2 : IntKind.i64.wrap ((k : Int) - 1) = (k : Int) - 1 := by rw [wrap64] <;> omega
 refine soundW' t_q_DivMod (by simp) ?_
 simp [c_q_DivMod, hcl]
 refine eCall_i b1 (by simp [f1]) (by simp) ?_
 simp
 refine eCall_i b2 (by simp [f2]) (by simp) ?_
 simp [m0, w0, w1, m1']
 refine eCall_i hh (by simp [f1]) (by simp) ?_
 simp [w2]
 have r0 : val a / 2 ^ k % val c = val a / 2 ^ k := Nat.mod_eq_of_lt s1
 refine awp_forW (stDR m1 m2 a c k) (fun _ => True) k (by simp [stDR, qA, r0]) trivial (fun t ht _ => ?_) (fun _ => ?_)
 ·obtain ⟨j, hj⟩ : ∃ j, k - 1 - t = j := ⟨_, rfl⟩
  have hj1 : k - t = j + 1 := by omega
  have hj2 : k - (t + 1) = j := by omega
  have hjz : (k : Int) - 1 - t = (j : Int) := by omega
  obtain ⟨p1, p2⟩ := bin_step (x := val a) (j := j) hy
  have hb := bit_ref (m := m1) (i := j) ha (by omega) (by omega) f1
  have hQ : val a / 2 ^ (j + 1) / val c < B ^ a.length := Nat.lt_of_le_of_lt (Nat.le_trans (Nat.div_le_self _ _) (Nat.div_le_self _ _)) (val_lt ha)
  have hR : val a / 2 ^ (j + 1) % val c < B ^ c.length := Nat.lt_trans (Nat.mod_lt _ hy) (val_lt hc)
  have hbt : val a / 2 ^ j % 2 < 2 := Nat.mod_lt _ (by omega)
  have hst : stDR m1 m2 a c k (t + 1) = { env := [(0, nl m1 a), (1, nl m2 c), (8, nD (val a / 2 ^ j / val c)), (9, nD (val a / 2 ^ j % val c)), (10, iv ((j : Int) - 1))], sto := [] } := by
   rw [stDR, hj2, qA, if_neg (by omega), show (k : Int) - 1 - ((t + 1 : Nat) : Int) = (j : Int) - 1 by omega]
  rw [stDR, hj1, hjz]
  have h2 : ∀ {z n : Nat}, z < B ^ n → z + z < B ^ (n + 1) ∧ z + z + 1 < B ^ (n + 1) := fun {z n} h => by
   rw [Nat.pow_succ]
   have : B ^ n * 2 ≤ B ^ n * B := Nat.mul_le_mul_left _ (by decide)
   omega
  have q0 : t = 0 → val a / 2 ^ (j + 1) / val c = 0 := fun h => by
   have : j + 1 = k := by omega
   rw [this]; exact Nat.div_eq_of_lt s1
  generalize val a / 2 ^ (j + 1) / val c = Q at *
  generalize val a / 2 ^ (j + 1) % val c = R at *
  generalize val a / 2 ^ j % 2 = d at *
  have lQ := digs_len_le.2 hQ
  have lR := digs_len_le.2 hR
  have lQQ := digs_len_le.2 (h2 hQ).1
  have lRR := digs_len_le.2 (h2 hR).1
  have lRR1 : (digs (R + R + d)).length ≤ c.length + 1 := digs_len_le.2 (by have := h2 hR; omega)
  have ld : (digs d).length ≤ 1 := digs_len_le.2 (by rw [Nat.pow_one, B_eq]; omega)
  have kq := add_ref (m1 := .plain) (m2 := .plain) (ok_digs Q) (ok_digs Q) (by omega) (by omega) rfl rfl
  have kr := add_ref (m1 := .plain) (m2 := .plain) (ok_digs R) (ok_digs R) (by omega) (by omega) rfl rfl
  have kf := fromUint_ref (x := d) (by omega)
  have kr2 := add_ref (m1 := .plain) (m2 := .plain) (ok_digs (R + R)) (ok_digs d) (by omega) (by omega) rfl rfl
  have kc := cmp_ref (m1 := .plain) (m2 := m2) (ok_digs (R + R + d)) hc (by omega) (by omega) rfl f2
  have ks := sub_ref (m1 := .plain) (m2 := m2) (ok_digs (R + R + d)) hc (by omega) (by omega) rfl f2
  have kf1 := fromUint_ref (x := 1) (by omega)
  have l1 : (digs 1).length ≤ 1 := digs_len_le.2 (by decide)
  have kq1 := add_ref (m1 := .plain) (m2 := .plain) (ok_digs (Q + Q)) (ok_digs 1) (by omega) (by omega) rfl rfl
  simp only [val_digs] at kq kr kr2 kc ks kq1
  have w3 : IntKind.i64.wrap ((j : Int) - 1) = (j : Int) - 1 := by rw [wrap64] <;> omega
  have kq' : SoundCall Try.prog F_q_Add [qA t Q, qA t Q] (nD (Q + Q)) ∧ qA t Q = (if t = 0 then .list 0 .full [] else nD Q) := by
   refine ⟨?_, rfl⟩
   unfold qA
   split
   ·rename_i h0
    have hq0 := q0 h0
    subst hq0
    exact imp_arg2l (imp_arg2 kq (small_zero (sz := 0))) (small_zero (sz := 0))
   ·exact kq
  have hsn : snap (fun _ => none) (qA t Q) = some (qA t Q) := by unfold qA; split <;> simp
  have hrf : ([qA t Q, qA t Q] : List AV).any hasRef = false := by unfold qA; split <;> simp
  simp [c_q_DivMod_l0]
  refine eCall_i kq'.1 (by simp [hsn]) (.inl hrf) ?_
  simp
  refine eCall_i kr (by simp) (by simp) ?_
  simp
  refine eCall_i hb (by simp [f1]) (by simp) ?_
  simp
  refine eCall_i kf (by simp) (by simp) ?_
  simp
  refine eCall_i kr2 (by simp) (by simp) ?_
  simp
  refine eCall_i kc (by simp [f2]) (by simp) ?_
  have e2 : R + R + d = 2 * R + d := by omega
  have e3 : Q + Q = 2 * Q := by omega
  by_cases hlt : R + R + d < val c
  ·have hcm : ¬ (0 : Int) ≤ cmpN (R + R + d) (val c) := by simp [cmpN, hlt]
   obtain ⟨g1, g2⟩ := p1 (by omega)
   rw [g1, g2, ← e2, ← e3] at hst
   simp [hcm, w3, hst]
  ·have hcm : (0 : Int) ≤ cmpN (R + R + d) (val c) := by simp only [cmpN, if_neg hlt]; split <;> omega
   obtain ⟨g1, g2⟩ := p2 (by omega)
   rw [g1, g2, ← e2, ← e3] at hst
   simp [hcm]
   refine eCall_i ks (by simp [f2]) (by simp) ?_
   simp
   refine eCall_i kf1 (by simp) (by simp) ?_
   simp
   refine eCall_i kq1 (by simp) (by simp) ?_
   simp [w3, hst]
 ·have hkk : ¬ (k : Int) ≤ (k : Int) - 1 := by omega
  have e0 : ¬ (0 : Int) ≤ (k : Int) - 1 - k := by omega
  simp [c_q_DivMod_l0, stDR, hkk, c_q_DivMod_k1, r_q_DivMod]
  rcases Nat.eq_zero_or_pos k with h0 | h0
  ·subst h0
   have hz : val a / val c = 0 := by rw [Nat.pow_zero, Nat.div_one] at s1; exact Nat.div_eq_of_lt s1
   simp [qA]
   rw [divR, hz]
   exact imp_tup3 small_zero AV.imp.refl AV.imp.refl
  ·have hk0 : ¬ k = 0 := by omega
   simp [qA, hk0]
   exact AV.imp.refl
end Go.Proofs.Ytdeifcfjkmfocaa

namespace Go.Proofs.Ytdeifcfjkmfocaa
open Go Go.Am Go.Dig
theorem gcd_ref {A D : Nat} (hna : (digs A).length < 68719476736) (hnc : (digs D).length < 68719476736) :
  SoundCall Try.prog F_q_GCD [nD A, nD D] (nD (Nat.gcd A D)) := by
 obtain ⟨N, h1, h2⟩ := eu_end D A
 obtain ⟨L, hL⟩ : ∃ L, L = 68719476735 := ⟨_, rfl⟩
 have hL1 : A < B ^ L := digs_len_le.1 (by omega)
 have hL2 : D < B ^ L := digs_len_le.1 (by omega)
 have hb := fun k => eu_lt k A D hL1 hL2
 have hlen : ∀ x, x < B ^ L → (digs x).length < 68719476736 := fun x hx => Nat.lt_of_le_of_lt (digs_len_le.2 hx) (by omega)
 have hg := hlen _ (show Nat.gcd A D < B ^ L by have := (hb N).1; rw [h2] at this; exact this)
 refine sound' t_q_GCD (by simp) ?_
 simp [c_q_GCD]
 refine awp_forW (fun k => stG (eu A D k)) (fun _ => True) N (by simp [stG, eu]) trivial (fun k hk _ => ?_) (fun _ => ?_)
 ·have hne := h1 k hk
  obtain ⟨b1, b2⟩ := hb k
  have b1' := hlen _ b1
  have b2' := hlen _ b2
  have hs := eu_succ k A D
  obtain ⟨x, hx⟩ : ∃ x, (eu A D k).1 = x := ⟨_, rfl⟩
  obtain ⟨y, hy⟩ : ∃ y, (eu A D k).2 = y := ⟨_, rfl⟩
  rw [hx, hy] at hs
  rw [hx] at b1'
  rw [hy] at b2' hne
  have kd := divMod_ref (m1 := .plain) (m2 := .plain) (ok_digs x) (ok_digs y) b1' b2' rfl rfl (by rw [val_digs]; exact hne)
  rw [val_digs, val_digs] at kd
  have hl0 : 0 < (digs y).length := by
   rcases Nat.eq_zero_or_pos (digs y).length with h | h
   ·rw [List.length_eq_zero_iff, digs_eq_nil] at h; exact absurd h hne
   ·exact h
  simp [c_q_GCD_l0, stG, hl0, hx, hy]
  refine eCall_i kd (by simp) (by simp) ?_
  simp [hs]
 ·simp only [h2]
  have kt := trim_ref (m := .plain) (ok_digs (Nat.gcd A D)) (by omega)
  rw [val_digs] at kt
  simp [c_q_GCD_l0, c_q_GCD_k1, r_q_GCD, stG, digs_zero]
  refine eCall_i kt (by simp) (by simp) ?_
  simp
end Go.Proofs.Ytdeifcfjkmfocaa

namespace Go.Proofs.Ytdeifcfjkmfocaa
open Go Go.Am Go.Dig
def fracO (neg : Bool) (N D : Nat) : AV := .agg [bv (neg && decide (N ≠ 0)), nD (N / Nat.gcd N D), nD (D / Nat.gcd N D)]
theorem gcd_fact {N D : Nat} (hD : D ≠ 0) : Nat.gcd N D ≠ 0 ∧ (N / Nat.gcd N D = 0 ↔ N = 0) ∧ Nat.gcd N D ≤ D := by
 have hg : 0 < Nat.gcd N D := Nat.gcd_pos_of_pos_right _ (by omega)
 refine ⟨by omega, ?_, Nat.gcd_le_right _ (by omega)⟩
 constructor
 ·intro h
  have := Nat.div_mul_cancel (Nat.gcd_dvd_left N D)
  rw [h, Nat.zero_mul] at this
  exact this.symm
 ·intro h
  rw [h, Nat.zero_div]
theorem make_sound {neg : Bool} {N D : Nat} (hN : (digs N).length < 68719476736) (hD : (digs D).length < 68719476736) (h0 : D ≠ 0) :
  SoundCall Try.prog F_f_Make [bv neg, nD N, nD D] (.tuple [fracO neg N D, iv 0]) := by
 obtain ⟨g0, g1, g2⟩ := gcd_fact (N := N) h0
 have kg := gcd_sound (m1 := .plain) (m2 := .plain) (ok_digs N) (ok_digs D) (by omega) (by omega) rfl rfl
 rw [val_digs, val_digs] at kg
 have hgl : (digs (Nat.gcd N D)).length < 68719476736 := by
  have h1 : D < B ^ (digs D).length := digs_len_le.1 (Nat.le_refl _)
  exact Nat.lt_of_le_of_lt (digs_len_le.2 (Nat.lt_of_le_of_lt g2 h1)) hD
 have hl0 : ¬ (digs D).length = 0 := by rw [List.length_eq_zero_iff, digs_eq_nil]; exact h0
 have hl1 : ¬ digs D = [] := by rw [digs_eq_nil]; exact h0
 unfold fracO
 have hz : (digs (N / Nat.gcd N D)).length = 0 ↔ N = 0 := by rw [List.length_eq_zero_iff, digs_eq_nil]; exact g1
 generalize Nat.gcd N D = g at *
 have kn := divMod_sound (m1 := .plain) (m2 := .plain) (ok_digs N) (ok_digs g) (by omega) (by omega) rfl rfl (by rw [val_digs]; exact g0)
 have kd := divMod_sound (m1 := .plain) (m2 := .plain) (ok_digs D) (ok_digs g) (by omega) (by omega) rfl rfl (by rw [val_digs]; exact g0)
 simp only [val_digs] at kn kd
 refine sound' t_f_Make (by simp) ?_
 simp [c_f_Make, hl0]
 refine eCall_i kg (by simp) (by simp) ?_
 simp
 refine eCall_i kn (by simp) (by simp) ?_
 simp
 refine eCall_i kd (by simp) (by simp) ?_
 cases neg
 ·simp [r_f_Make]
 ·by_cases hN0 : N = 0
  ·have := hz.2 hN0
   simp [r_f_Make, hN0, digs_zero]
  ·have : 0 < (digs (N / g)).length := by omega
   simp [r_f_Make, this, hN0]
theorem made_sound {neg : Bool} {N D : Nat} (hN : (digs N).length < 68719476736) (hD : (digs D).length < 68719476736) (h0 : D ≠ 0) :
  SoundCall Try.prog F_f_made [bv neg, nD N, nD D] (fracO neg N D) := by
 have k := make_sound (neg := neg) hN hD h0
 unfold fracO at *
 generalize N / Nat.gcd N D = n at *
 generalize D / Nat.gcd N D = d at *
 refine sound' t_f_made (by simp) ?_
 simp [c_f_made]
 refine eCall_i k (by simp) (by simp) ?_
 simp [r_f_made]
end Go.Proofs.Ytdeifcfjkmfocaa

namespace Go.Proofs.Ytdeifcfjkmfocaa
open Go Go.Am Go.Dig
theorem make_ref {neg : Bool} {N D : Nat} (hN : (digs N).length < 68719476736) (hD : (digs D).length < 68719476736) (h0 : D ≠ 0) :
  SoundCall Try.prog F_p_Make [bv neg, nD N, nD D] (.tuple [fracO neg N D, iv 0]) := by
 obtain ⟨g0, g1, g2⟩ := gcd_fact (N := N) h0
 have kg := gcd_ref hN hD
 have hgl : (digs (Nat.gcd N D)).length < 68719476736 := by
  have h1 : D < B ^ (digs D).length := digs_len_le.1 (Nat.le_refl _)
  exact Nat.lt_of_le_of_lt (digs_len_le.2 (Nat.lt_of_le_of_lt g2 h1)) hD
 have hl0 : ¬ (digs D).length = 0 := by rw [List.length_eq_zero_iff, digs_eq_nil]; exact h0
 have hl1 : ¬ digs D = [] := by rw [digs_eq_nil]; exact h0
 unfold fracO
 have hz : (digs (N / Nat.gcd N D)).length = 0 ↔ N = 0 := by rw [List.length_eq_zero_iff, digs_eq_nil]; exact g1
 generalize Nat.gcd N D = g at *
 have kn := divMod_ref (m1 := .plain) (m2 := .plain) (ok_digs N) (ok_digs g) (by omega) (by omega) rfl rfl (by rw [val_digs]; exact g0)
 have kd := divMod_ref (m1 := .plain) (m2 := .plain) (ok_digs D) (ok_digs g) (by omega) (by omega) rfl rfl (by rw [val_digs]; exact g0)
 simp only [val_digs] at kn kd
 refine sound' t_p_Make (by simp) ?_
 simp [c_p_Make, hl0]
 refine eCall_i kg (by simp) (by simp) ?_
 simp
 refine eCall_i kn (by simp) (by simp) ?_
 simp
 refine eCall_i kd (by simp) (by simp) ?_
 cases neg
 ·simp [r_p_Make]
 ·by_cases hN0 : N = 0
  ·subst hN0
   simp [r_p_Make, digs_zero]
  ·have : 0 < (digs N).length := by
    rcases Nat.eq_zero_or_pos (digs N).length with h | h
    ·rw [List.length_eq_zero_iff, digs_eq_nil] at h; exact absurd h hN0
    ·exact h
   simp [r_p_Make, this, hN0]
end Go.Proofs.Ytdeifcfjkmfocaa
