import Derived.Test.YtagicjnmpoonpaaT6
namespace Go.Proofs.Ytagicjnmpoonpaa
open Go Go.Am

def stp (p : Int) (s t n a : List Int) : List Int := if p = 2 then (if rfs s t n a = true then n else a) else if p = 3 then prtL s t n a else a
def aplK (p : Int) (s : List Int) (b q : List (List Int)) : Nat → List (List Int)
  | 0 => b
  | k + 1 => (aplK p s b q k).set k (stp p s (sumL (aplK p s b q k)) ((aplK p s b q k).getD k z6) (q.getD k z6))
theorem aplK_len {p : Int} {s : List Int} {b q : List (List Int)} : ∀ k, (aplK p s b q k).length = b.length
  | 0 => rfl
  | k + 1 => by simp [aplK, aplK_len k]

def okP (x : List Int) : Prop := x.length = 6 ∧ okB x = true
theorem okP_bd {x : List Int} (h : okP x) : ∀ y ∈ x, 0 ≤ y ∧ y ≤ 4 := fun y hy => by
  have := List.all_eq_true.mp h.2 y hy
  simpa using this
theorem okP_bd1000 {x : List Int} (h : okP x) : bd 1000 x := fun y hy => by have := okP_bd h y hy; omega
theorem okP_prt {s t n a : List Int} (hs : s.length = 6) (ht : t.length = 6) (hn : okP n) (ha : okP a) : okP (prtL s t n a) := by
  refine ⟨prtL_len, ?_⟩
  rw [okB, List.all_eq_true]
  intro x hx
  simp only [prtL, List.mem_map, List.mem_range] at hx
  obtain ⟨k, hk, rfl⟩ := hx
  have k1 : k < n.length := by rw [hn.1]; exact hk
  have k2 : k < a.length := by rw [ha.1]; exact hk
  have h1 := okP_bd hn n[k] (List.getElem_mem k1)
  have h2 := okP_bd ha a[k] (List.getElem_mem k2)
  simp only [List.getD_eq_getElem?_getD, hs, ht, hn.1, ha.1, hk, List.getElem?_eq_getElem, Option.getD_some, Bool.and_eq_true, decide_eq_true_eq]
  unfold prt1
  split <;> omega
theorem okP_stp {p : Int} {s t n a : List Int} (hs : s.length = 6) (ht : t.length = 6) (hn : okP n) (ha : okP a) : okP (stp p s t n a) := by
  unfold stp
  split
  · split
    · exact hn
    · exact ha
  · split
    · exact okP_prt hs ht hn ha
    · exact ha
theorem sum_ok : ∀ {l : List (List Int)} {a : List Int}, a.length = 6 → (∀ y ∈ a, 0 ≤ y ∧ y ≤ 1000 - 4 * (l.length : Int)) → (∀ x ∈ l, okP x) → ∀ y ∈ l.foldl addL a, 0 ≤ y ∧ y ≤ 1000
  | [], _, _, h, _ => by simpa using h
  | x :: l, a, hl, h, hx => by
    have h1 := hx x (by simp)
    refine sum_ok (l := l) (a := addL a x) (addL_len hl h1.1) (fun y hy => ?_) (fun z hz => hx z (by simp [hz]))
    obtain ⟨i, hi, rfl⟩ := List.getElem_of_mem hy
    simp only [addL, List.length_zipWith] at hi
    have g1 := h a[i] (List.getElem_mem (by omega))
    have g2 := okP_bd h1 x[i] (List.getElem_mem (by omega))
    simp only [List.length_cons, Int.natCast_add, Int.natCast_one] at g1
    have : wr (a[i]'(by omega) + x[i]'(by omega)) = a[i]'(by omega) + x[i]'(by omega) := wrap64 (by omega) (by omega)
    simp only [addL, List.getElem_zipWith, this]
    omega
theorem sum_bd {l : List (List Int)} (h : ∀ x ∈ l, okP x) (hn : l.length ≤ 8) : bd 1000 (sumL l) := fun y hy => by
  have := sum_ok (l := l) (a := z6) rfl (by intro y hy; simp [z6] at hy; omega) h y hy
  omega

def stA (p : Int) (s : List Int) (L q : List (List Int)) (n : Nat) (m : Am.Mode) (k : Nat) : St :=
  { env := [(0, iv p), (5, .ptr 5 0), (11, .us 1007 6 0 n), (25, .list 6 m (rowsOf q)), (26, iv q.length), (27, iv k)],
    sto := [(5, .var (s.map iv)), (1007, .uarr 6 (rowsOf L))] }
theorem anyRefR_int {n : Nat} : ∀ {l : List (List Int)}, anyRefR n (rowsOf l) = false
  | [] => rfl
  | x :: l => by
    have := anyRefR_int (n := n) (l := l)
    simp only [rowsOf] at this
    simp [this]
theorem anyRefR_set {n k : Nat} {l : List (List Int)} {x : List Int} : anyRefR n ((rowsOf l).set k (x.map iv)) = false := by
  have : (rowsOf l).set k (x.map iv) = rowsOf (l.set k x) := by simp [rowsOf, List.map_set]
  rw [this]
  exact anyRefR_int
theorem take_full {α : Type} {l : List α} {n : Nat} (h : l.length = n) : List.take n l = l := List.take_of_length_le (by omega)
section
variable {p : Int} {s : List Int} {b q : List (List Int)} (hs : okP s) (hb : ∀ x ∈ b, okP x) (hq : ∀ x ∈ q, okP x) (e1 : b.length = q.length) (n1 : b.length ≤ 8)
include hs hb hq e1 n1
omit n1 in
theorem aplK_ok : ∀ k, k ≤ b.length → ∀ x ∈ aplK p s b q k, okP x
  | 0, _ => hb
  | k + 1, hk => fun x hx => by
    have ih := aplK_ok k (by omega)
    rcases List.mem_or_eq_of_mem_set hx with hx | rfl
    · exact ih x hx
    · have l1 := aplK_len (p := p) (s := s) (b := b) (q := q) k
      have h1 : k < (aplK p s b q k).length := by omega
      have h2 : k < q.length := by omega
      refine okP_stp hs.1 (sumL_len fun x hx => (ih x hx).1) ?_ ?_
      · simp only [List.getD_eq_getElem?_getD, List.getElem?_eq_getElem h1, Option.getD_some]
        exact ih _ (List.getElem_mem h1)
      · simp only [List.getD_eq_getElem?_getD, List.getElem?_eq_getElem h2, Option.getD_some]
        exact hq _ (List.getElem_mem h2)

variable {m1 m2 : Am.Mode} (f1 : stm m1 = m1) (f2 : stm m2 = m2) (p1 : 1 ≤ p) (p2 : p ≤ 3)
include f1 f2 p1 p2
set_option maxHeartbeats 4000000 in
theorem apply_ok : SoundCall Try.prog F_undersell_Apply [iv p, bun s, .list 6 m1 (rowsOf b), .list 6 m2 (rowsOf q)] (.tuple [.list 6 .plain (rowsOf (aplK p s b q b.length)), iv 0]) := by
  have hE : chkE p s b q = 0 := by
    have c1 : ¬ p < 1 := by omega
    have c2 : ¬ 3 < p := by omega
    have c3 : ¬ 8 < q.length := by omega
    simp [chkE, c1, c2, e1, c3, hs.2]
    exact ⟨fun x hx => (hb x hx).2, fun x hx => (hq x hx).2⟩
  have hs6 := hs.1
  refine soundW' t_undersell_Apply (by simp) ?_
  simp [c_undersell_Apply, hs6]
  refine eCall_i (chk_sound (p := p) (s := s) (b := b) (q := q) (m1 := stm m1) (m2 := stm m2) hs6 (fun x hx => (hb x hx).1) (fun x hx => (hq x hx).1) (by omega) (by omega) (by simp) (by simp)) (by simp) (by simp) ?_
  simp [hE, f1, f2]
  refine ⟨by kernel_rfl, ?_⟩
  refine cloneI 1000 (by omega) (by simp) (by simp [f1, f2]) (by simp) (by simp) f1 ⟨rfl, ?_⟩ (fun h => ⟨rfl, ?_⟩)
  · simp
    refine awp_for (fun k => stA p s (aplK p s b q k) q b.length m2 k) q.length ?_ (fun k hk => ?_) ?_
    · simp [stA, aplK]
    · have hL := aplK_len (p := p) (s := s) (b := b) (q := q) k
      have hO := aplK_ok hs hb hq e1 (p := p) k (by omega)
      have hN : aplK p s b q (k + 1) = (aplK p s b q k).set k (stp p s (sumL (aplK p s b q k)) ((aplK p s b q k).getD k z6) (q.getD k z6)) := rfl
      generalize aplK p s b q k = L at *
      have ek : (k : Int) < q.length := by omega
      have ekb : (k : Int) < b.length := by omega
      have hkL : k < L.length := by omega
      have l6 : ∀ x ∈ L, x.length = 6 := fun x hx => (hO x hx).1
      have hq6 := (hq q[k] (List.getElem_mem _)).1
      have hl6 := l6 L[k] (List.getElem_mem _)
      have ht6 := sumL_len l6
      have hT : List.take b.length (rowsOf L) = rowsOf L := take_full (by simp [hL])
      have bs := okP_bd1000 hs
      have bt := sum_bd hO (by omega)
      have bn := okP_bd1000 (hO L[k] (List.getElem_mem _))
      have ba := okP_bd1000 (hq q[k] (List.getElem_mem _))
      have wk : IntKind.i64.wrap ((k : Int) + 1) = ((k + 1 : Nat) : Int) := wrap_succ (by omega)
      have hn : L[k]?.getD z6 = L[k] := by simp [hkL]
      have ha : q[k]?.getD z6 = q[k] := by simp [hk]
      simp only [List.getD_eq_getElem?_getD, hn, ha] at hN
      simp [c_undersell_Apply_l0, stA, ek, hk, hq6]
      refine eCall_i (sum_sound (m := .plain) l6 (by omega)) (by simp [rowsRf_int, rowsSt_int, hT, hL]) (by simp) ?_
      simp [ht6]
      by_cases q2 : p = 2
      · subst q2
        simp [hs6, ht6, hq6, hl6, ek, ekb, hk, hkL]
        refine eCall_i (refused_sound (s := s) (t := sumL L) (n := L[k]) (a := q[k]) hs6 ht6 hl6 hq6 bt bn ba) (by simp) (by simp) ?_
        cases hr : rfs s (sumL L) L[k] q[k]
        · simp [hs6, ht6, hq6, hl6, ek, ekb, hk, hkL, wk, hN, stp, hr, anyRefR_int, anyRefR_set]
        · simp [hs6, ht6, hq6, hl6, ek, ekb, hk, hkL, wk, hN, stp, hr, anyRefR_int, anyRefR_set]
      · by_cases q3 : p = 3
        · subst q3
          simp [hs6, ht6, hq6, hl6, ek, ekb, hk, hkL]
          refine eCall_i (partly_sound (s := s) (t := sumL L) (n := L[k]) (a := q[k]) hs6 ht6 hl6 hq6 bs bt bn ba) (by simp) (by simp) ?_
          simp [hs6, ht6, hq6, hl6, ek, ekb, hk, hkL, wk, hN, stp, prtL_len, anyRefR_int, anyRefR_set]
        · simp [q2, q3, hs6, ht6, hq6, hl6, ek, ekb, hk, hkL, wk, hN, stp, anyRefR_int, anyRefR_set]
    · have hL := aplK_len (p := p) (s := s) (b := b) (q := q) q.length
      have hT : List.take q.length (rowsOf (aplK p s b q q.length)) = rowsOf (aplK p s b q q.length) := take_full (by simp [hL, e1])
      simp [c_undersell_Apply_l0, stA, c_undersell_Apply_k1, r_undersell_Apply, anyRefR_int, hT, hL, rowsRf_int, rowsSt_int, e1]
      exact AV.imp.refl
  · simp
    refine awp_for (fun k => { env := [(0, iv p), (5, .ptr 5 0), (11, .list 0 .full []), (25, .list 6 m2 (rowsOf q)), (26, iv q.length), (27, iv 0)], sto := [(5, .var (s.map iv))] }) 0 ?_ (fun k hk => by omega) ?_
    · simp
    · have hq0 : q = [] := List.eq_nil_of_length_eq_zero (by rw [← e1, h]; rfl)
      simp [c_undersell_Apply_l0, hq0, h, c_undersell_Apply_k1, r_undersell_Apply, aplK]
      exact AV.imp_tuple2 (AV.imp_nil rfl)
end
end Go.Proofs.Ytagicjnmpoonpaa
