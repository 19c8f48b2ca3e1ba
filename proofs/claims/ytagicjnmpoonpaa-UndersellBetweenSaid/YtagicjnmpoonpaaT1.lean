import Derived.Test.YtagicjnmpoonpaaC
import Derived.Test.YtagicjnmpoonpaaAm27
namespace Go.Proofs.Ytagicjnmpoonpaa
open Go Go.Am

abbrev bun (l : List Int) : AV := .agg (l.map iv)
abbrev rowsOf (l : List (List Int)) : List (List AV) := l.map (·.map iv)
def z6 : List Int := [0, 0, 0, 0, 0, 0]
def wr (x : Int) : Int := IntKind.i64.wrap x
def addL (a b : List Int) : List Int := List.zipWith (fun x y => wr (x + y)) a b
def sumL (l : List (List Int)) : List Int := l.foldl addL z6

theorem wrap_succ {k : Nat} (h : k < 4611686018427387904) : IntKind.i64.wrap ((k : Int) + 1) = ((k + 1 : Nat) : Int) := by
  rw [wrap64] <;> omega

theorem addL_len {a b : List Int} (ha : a.length = 6) (hb : b.length = 6) : (addL a b).length = 6 := by simp [addL, ha, hb]
theorem foldl_add_len : ∀ {l : List (List Int)} {a : List Int}, a.length = 6 → (∀ b ∈ l, b.length = 6) → (l.foldl addL a).length = 6
  | [], _, h, _ => h
  | b :: l, a, h, hl => by
    have hb := hl b (by simp)
    exact foldl_add_len (a := addL a b) (addL_len h hb) fun c hc => hl c (by simp [hc])
theorem sumL_len {l : List (List Int)} (hl : ∀ b ∈ l, b.length = 6) : (sumL l).length = 6 := foldl_add_len rfl hl
theorem sumL_take {l : List (List Int)} {k : Nat} (h : k < l.length) : sumL (l.take (k + 1)) = addL (sumL (l.take k)) l[k] := by
  unfold sumL
  rw [List.take_succ_eq_append_getElem h, List.foldl_append]
  rfl

/-! ### total -/
def st23 (m : Am.Mode) (l : List (List Int)) (k : Nat) : St :=
  { env := [(2, .ptr 2 0), (3, .ptr 3 0), (7, .list 6 m (rowsOf l)), (8, iv l.length), (9, iv k)],
    sto := [(2, .var (z6.map iv)), (3, .var ((sumL (l.take k)).map iv))] }
def st23i (m : Am.Mode) (l : List (List Int)) (k : Nat) (b : List Int) (j : Nat) : St :=
  { env := [(2, .ptr 2 0), (3, .ptr 3 0), (7, .list 6 m (rowsOf l)), (8, iv l.length), (9, iv k), (5, .ptr 5 0), (13, iv j)],
    sto := [(2, .var (z6.map iv)), (3, .var ((mix (addL (sumL (l.take k)) b) (sumL (l.take k)) j).map iv)), (5, .var (b.map iv))] }
theorem total_sound {m : Am.Mode} {l : List (List Int)} (hl : ∀ b ∈ l, b.length = 6) (hn : l.length < 4611686018427387904) :
    SoundCall Try.prog F_tally_total [.list 6 m (rowsOf l)] (bun (sumL l)) := by
  have hz : z6.length = 6 := rfl
  refine sound' t_tally_total (by simp) ?_
  simp [c_tally_total]
  refine awp_for (st23 m l) l.length ?_ (fun k hk => ?_) ?_
  · simp [st23]; exact ⟨rfl, rfl⟩
  · have hb := hl l[k] (by simp)
    have hs := sumL_len (l := l.take k) (fun b hb => hl b (List.mem_of_mem_take hb))
    have e : (k : Int) < l.length := by omega
    simp [c_tally_total_l2, st23, e, hk, hb]
    refine awp_for (st23i m l k l[k]) 6 ?_ (fun j hj => ?_) ?_
    · simp [st23i]
    · have ej : (j : Int) < 6 := by omega
      have ha := addL_len hs hb
      have hg : (addL (sumL (l.take k)) l[k])[j]? = some (wr ((sumL (l.take k))[j] + l[k][j])) := by simp [addL, hs, hb, hj]
      have hmx := mix_set (ha.trans hs.symm) hg
      simp [c_tally_total_l0, st23i, ej, ha, hb, hs, hj, wrap_succ (show j < 4611686018427387904 by omega)]
      rw [← hmx, List.map_set]
      exact ⟨by omega, rfl⟩
    · simp [c_tally_total_l0, st23i, st23, c_tally_total_k1, mix_all (addL_len hs hb) hs, sumL_take hk, wrap_succ (show k < 4611686018427387904 by omega)]
  · simp [c_tally_total_l2, st23, c_tally_total_k3, r_tally_total, sumL_len hl, hz]
theorem eql_bun {ox oy : Operand} {a b : List AV} {K : AV → Option Entry → Prop} (ha : isInts 6 a = true) (hb : isInts 6 b = true) :
    eBin Try.prog .eql T_api_Bundle ox oy [.agg a, .agg b] K = K (bv (decide (intsA a = intsA b))) none := eBin_eql_ints kd_api_Bundle gd_api_Bundle ag_api_Bundle ha hb
theorem neq_bun {ox oy : Operand} {a b : List AV} {K : AV → Option Entry → Prop} (ha : isInts 6 a = true) (hb : isInts 6 b = true) :
    eBin Try.prog .neq T_api_Bundle ox oy [.agg a, .agg b] K = K (bv (!decide (intsA a = intsA b))) none := eBin_neq_ints kd_api_Bundle gd_api_Bundle ag_api_Bundle ha hb
section
variable {m : Am.Mode} {l : List (List Int)} (hl : ∀ b ∈ l, b.length = 6) (hn : l.length < 4611686018427387904)
include hl hn
theorem sum_sound : SoundCall Try.prog F_tally_Sum [.list 6 m (rowsOf l)] (bun (sumL l)) := by
  refine sound' t_tally_Sum (by simp) ?_
  simp [c_tally_Sum]
  refine eCall_i (total_sound (m := stm m) hl hn) (by simp) (by simp) ?_
  simp [r_tally_Sum, sumL_len hl]
end
def st11 (m : Am.Mode) (l : List (List Int)) (k : Nat) : St :=
  { env := [(0, .list 6 m (rowsOf l)), (2, .ptr 2 0), (3, .ptr 3 0), (4, iv k)],
    sto := [(2, .var (z6.map iv)), (3, .var ((sumL (l.take k)).map iv))] }
def st11i (m : Am.Mode) (l : List (List Int)) (k : Nat) (b : List Int) (j : Nat) : St :=
  { env := [(0, .list 6 m (rowsOf l)), (2, .ptr 2 0), (3, .ptr 3 0), (4, iv k), (5, iv j)],
    sto := [(2, .var (z6.map iv)), (3, .var ((mix (addL (sumL (l.take k)) b) (sumL (l.take k)) j).map iv))] }
section
variable {m : Am.Mode} {l : List (List Int)} (hl : ∀ b ∈ l, b.length = 6) (hn : l.length < 4611686018427387904)
include hl hn
theorem sumR_sound : SoundCall Try.prog F_ref35_Sum [.list 6 m (rowsOf l)] (bun (sumL l)) := by
  have hz : z6.length = 6 := rfl
  refine sound' t_ref35_Sum (by simp) ?_
  simp [c_ref35_Sum]
  refine awp_for (st11 m l) l.length ?_ (fun k hk => ?_) ?_
  · simp [st11]; exact ⟨rfl, rfl⟩
  · have hb := hl l[k] (by simp)
    have hs := sumL_len (l := l.take k) (fun b hb => hl b (List.mem_of_mem_take hb))
    have e : (k : Int) < l.length := by omega
    simp [c_ref35_Sum_l2, st11, e]
    refine awp_for (st11i m l k l[k]) 6 ?_ (fun j hj => ?_) ?_
    · simp [st11i]
    · have ej : (j : Int) < 6 := by omega
      have ha := addL_len hs hb
      have hg : (addL (sumL (l.take k)) l[k])[j]? = some (wr ((sumL (l.take k))[j] + l[k][j])) := by simp [addL, hs, hb, hj]
      have hmx := mix_set (ha.trans hs.symm) hg
      simp [c_ref35_Sum_l0, st11i, e, hk, ej, ha, hb, hs, hj, wrap_succ (show j < 4611686018427387904 by omega)]
      rw [← hmx, List.map_set]
      exact ⟨by omega, rfl⟩
    · simp [c_ref35_Sum_l0, st11i, st11, c_ref35_Sum_k1, mix_all (addL_len hs hb) hs, sumL_take hk, wrap_succ (show k < 4611686018427387904 by omega)]
  · simp [c_ref35_Sum_l2, st11, c_ref35_Sum_k3, r_ref35_Sum, sumL_len hl, hz]

end
/-! ### few -/
def modB (b : List Int) : Bool := b.all fun x => decide (-1099511627776 ≤ x) && decide (x ≤ 1099511627776)
def modL (l : List (List Int)) : Bool := l.all modB && decide (l.length ≤ 1000)
def st21 (m : Am.Mode) (l : List (List Int)) (k : Nat) : St := { env := [(0, .list 6 m (rowsOf l)), (3, iv k)], sto := [] }
def st21i (m : Am.Mode) (l : List (List Int)) (k j : Nat) : St := { env := [(0, .list 6 m (rowsOf l)), (3, iv k), (4, iv j)], sto := [] }
theorem moderate_sound {m : Am.Mode} {l : List (List Int)} (hl : ∀ b ∈ l, b.length = 6) (hn : l.length < 4611686018427387904) :
    SoundCall Try.prog F_ref35_Moderate [.list 6 m (rowsOf l)] (bv (modL l)) := by
  refine sound' t_ref35_Moderate (by simp) ?_
  simp [c_ref35_Moderate]
  refine awp_forI (st21 m l) (fun k => (l.take k).all modB = true) l.length ?_ rfl (fun k hk hi => ?_) (fun hi => ?_)
  · simp [st21]
  · have hb := hl l[k] (by simp)
    have e : (k : Int) < l.length := by omega
    simp [c_ref35_Moderate_l2, st21, e]
    refine awp_forI (st21i m l k) (fun j => modB (l[k].take j) = true) 6 ?_ rfl (fun j hj hi2 => ?_) (fun hi2 => ?_)
    · simp [st21i]
    · have ej : (j : Int) < 6 := by omega
      have hm : ∀ (x : Int), l[k][j] = x → (x < -1099511627776 ∨ 1099511627776 < x) → modL l = false := by
        intro x hx h
        have h1 : modB l[k] = false := by
          rw [modB, List.all_eq_false]
          exact ⟨x, hx ▸ List.getElem_mem _, by simp; omega⟩
        rw [modL]
        have h2 : l.all modB = false := by
          rw [List.all_eq_false]
          exact ⟨l[k], List.getElem_mem _, by simp [h1]⟩
        rw [h2]; rfl
      by_cases h : l[k][j] < -1099511627776
      · simp [c_ref35_Moderate_l0, st21i, e, hk, ej, hb, hj, h, r_ref35_Moderate, hm _ rfl (.inl h)]
      · simp [c_ref35_Moderate_l0, st21i, e, hk, ej, hb, hj, h, r_ref35_Moderate, wrap_succ (show j < 4611686018427387904 by omega)]
        refine ⟨fun h2 => ?_, fun h2 => ?_⟩
        · simp [hm _ rfl (.inr h2)]
        · rw [List.take_succ_eq_append_getElem (by omega), modB, List.all_append]
          rw [modB] at hi2
          rw [hi2]
          simp
          omega
    · simp [c_ref35_Moderate_l0, st21i, st21, c_ref35_Moderate_k1, wrap_succ (show k < 4611686018427387904 by omega)]
      rw [List.take_of_length_le (by omega)] at hi2
      rw [List.take_succ_eq_append_getElem hk]
      intro x hx
      rcases List.mem_append.mp hx with hx | hx
      · exact List.all_eq_true.mp hi x hx
      · simp only [List.mem_singleton] at hx; rw [hx]; exact hi2
  · rw [List.take_of_length_le (by omega)] at hi
    simp [c_ref35_Moderate_l2, st21, c_ref35_Moderate_k3, r_ref35_Moderate, modL, hi]
    omega
/-! ### plain law -/
def bd (B : Int) (l : List Int) : Prop := ∀ x ∈ l, -B ≤ x ∧ x ≤ B
theorem addL_bd {A B : Int} {a b : List Int} (ha : bd A a) (hb : bd B b) (hA : A + B < 9223372036854775807) : bd (A + B) (addL a b) ∧ addL a b = List.zipWith (· + ·) a b := by
  have key : ∀ x ∈ a, ∀ y ∈ b, wr (x + y) = x + y := fun x hx y hy => by
    have := ha x hx; have := hb y hy
    exact wrap64 (by omega) (by omega)
  constructor
  · intro z hz
    obtain ⟨i, hi, rfl⟩ := List.getElem_of_mem hz
    simp only [addL, List.getElem_zipWith]
    simp only [addL, List.length_zipWith] at hi
    rw [key _ (List.getElem_mem _) _ (List.getElem_mem _)]
    have := ha a[i] (List.getElem_mem _); have := hb b[i] (List.getElem_mem _)
    omega
  · apply List.ext_getElem
    · simp [addL]
    · intro i h1 h2
      simp only [addL, List.getElem_zipWith]
      exact key _ (List.getElem_mem _) _ (List.getElem_mem _)
def sumZ (l : List (List Int)) : List Int := l.foldl (List.zipWith (· + ·)) z6
theorem modB_bd {b : List Int} (h : modB b = true) : bd 1099511627776 b := fun x hx => by
  have := List.all_eq_true.mp h x hx
  simpa using this
theorem foldl_mod : ∀ (l : List (List Int)) (a : List Int) (B : Int), bd B a → (∀ b ∈ l, modB b = true) → B + l.length * 1099511627776 < 9223372036854775807 → 0 ≤ B →
    bd (B + l.length * 1099511627776) (l.foldl addL a) ∧ l.foldl addL a = l.foldl (List.zipWith (· + ·)) a
  | [], a, B, h, _, _, _ => by simpa using h
  | b :: l, a, B, h, hl, hB, h0 => by
    simp only [List.length_cons, Int.natCast_add, Int.natCast_one] at hB ⊢
    have h1 := addL_bd h (modB_bd (hl b (by simp))) (by omega)
    have ih := foldl_mod l _ _ h1.1 (fun c hc => hl c (by simp [hc])) (by omega) (by omega)
    simp only [List.foldl_cons]
    constructor
    · have := ih.1
      rwa [show B + 1099511627776 + ↑l.length * 1099511627776 = B + (↑l.length + 1) * 1099511627776 by omega] at this
    · rw [ih.2, h1.2]
theorem sumL_mod {l : List (List Int)} (h : modL l = true) : bd 1099511627776000 (sumL l) ∧ sumL l = sumZ l := by
  simp only [modL, Bool.and_eq_true, decide_eq_true_eq] at h
  have := foldl_mod l z6 0 (by intro x hx; simp [z6] at hx; omega) (List.all_eq_true.mp h.1) (by omega) (by omega)
  refine ⟨fun x hx => ?_, this.2⟩
  have := this.1 x hx
  omega
end Go.Proofs.Ytagicjnmpoonpaa
