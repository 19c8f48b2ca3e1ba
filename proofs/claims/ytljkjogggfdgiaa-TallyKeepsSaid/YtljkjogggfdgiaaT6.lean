import Derived.Test.YtljkjogggfdgiaaT5
namespace Go.Proofs.Ytljkjogggfdgiaa
open Go Go.Am

def stB (a x y : List Int) (l : List (List Int)) (k : Nat) : St :=
  { env := [(1, .list 6 .plain (rowsOf l)), (2, .ptr 2 0), (5, .ptr 5 0), (6, .ptr 6 0), (22, iv k)],
    sto := [(2, .var (a.map iv)), (5, .var (x.map iv)), (6, .var (y.map iv))] }
def colS (l : List (List Int)) (k : Nat) (j : Nat) : Int := (sumL (l.take j)).getD k 0
def stBi (a x y : List Int) (l : List (List Int)) (k j : Nat) : St :=
  { env := [(1, .list 6 .plain (rowsOf l)), (2, .ptr 2 0), (5, .ptr 5 0), (6, .ptr 6 0), (22, iv k), (7, iv k), (8, iv (colS l k j)), (25, .list 6 .plain (rowsOf l)), (26, iv l.length), (27, iv j)],
    sto := [(2, .var (a.map iv)), (5, .var (x.map iv)), (6, .var (y.map iv))] }
theorem colS_succ {l : List (List Int)} (hl : ∀ b ∈ l, b.length = 6) {k j : Nat} (hk : k < 6) (hj : j < l.length) : colS l k (j + 1) = wr (colS l k j + (l[j]'hj).getD k 0) := by
  have hs := sumL_len (l := l.take j) (fun b hb => hl b (List.mem_of_mem_take hb))
  have hb := hl l[j] (by simp)
  simp [colS, sumL_take hj, addL, hs, hb, hk]

set_option maxRecDepth 20000 in
theorem law_balances {a : List Int} {l : List (List Int)} (ha : a.length = 6) (hl : ∀ b ∈ l, b.length = 6) (hn : l.length < 4611686018427387904) :
    SoundCall Try.prog F_law35_TallyBalances [bun a, .list 6 .plain (rowsOf l)] (bv true) := by
  have fin : ∀ {K : AV → Option Entry → Prop} {σ : Nat → Option Entry}, K (bv true) none → eCall Try.prog F_law35_awake σ [] K := fun h => eCall_i (xs := []) (args := []) awake_sound rfl (.inl rfl) h
  refine sound' t_law35_TallyBalances (by simp) ?_
  simp [c_law35_TallyBalances, ha]
  refine eCall_i (few_sound (m := .plain) ha hl hn) (by simp) (by simp) ?_
  cases h : (modL l && modL [a])
  · simp
    refine fin ?_
    simp [r_law35_TallyBalances]
  · simp at h
    have hs := sumL_len hl
    have hb := (sumL_mod h.1).1
    have hab : bd 1099511627776000 a := by
      have := h.2
      simp only [modL, List.all_cons, List.all_nil, Bool.and_true, Bool.and_eq_true] at this
      have := modB_bd this.1
      intro x hx
      have := this x hx
      omega
    have l1 : (overL (sumL l) a).length = 6 := by simp [overL, hs, ha]
    have l2 : (overL a (sumL l)).length = 6 := by simp [overL, hs, ha]
    simp [ha]
    refine eCall_i (excess_sound (m := .plain) hl hn ha) (by simp) (by simp) ?_
    simp [ha]
    refine eCall_i (slack_sound (m := .plain) hl hn ha) (by simp) (by simp) ?_
    simp [l1, l2]
    refine awp_for (stB a (overL (sumL l) a) (overL a (sumL l)) l) 6 ?_ (fun k hk => ?_) ?_
    · simp [stB, splice, List.drop_of_length_le, l1, l2]
    · have ek : (k : Int) < 6 := by omega
      simp [c_law35_TallyBalances_l3, stB, ek]
      refine awp_for (stBi a (overL (sumL l) a) (overL a (sumL l)) l k) l.length ?_ (fun j hj => ?_) ?_
      · simp [stBi, colS, sumL, z6]
        match k, hk with
        | 0, _ | 1, _ | 2, _ | 3, _ | 4, _ | 5, _ => rfl
      · have ej : (j : Int) < l.length := by omega
        have hbj := hl l[j] (by simp)
        simp [c_law35_TallyBalances_l0, stBi, ej, hj, hbj, ek, hk, wrap_succ (show j < 4611686018427387904 by omega)]
        rw [colS_succ hl hk hj]
        simp [hbj, hk, wr]
      · have ec : colS l k l.length = (sumL l)[k] := by simp [colS, hs, hk]
        have b1 := hb (sumL l)[k] (List.getElem_mem _)
        have b2 := hab a[k] (List.getElem_mem _)
        have g1 : (overL (sumL l) a)[k]'(by omega) = if a[k] < (sumL l)[k] then (sumL l)[k] - a[k] else 0 := by
          simp only [overL, List.getElem_zipWith]
          split
          · exact wrap64 (by omega) (by omega)
          · rfl
        have g2 : (overL a (sumL l))[k]'(by omega) = if (sumL l)[k] < a[k] then a[k] - (sumL l)[k] else 0 := by
          simp only [overL, List.getElem_zipWith]
          split
          · exact wrap64 (by omega) (by omega)
          · rfl
        generalize (sumL l)[k] = s at *
        generalize ht : a[k] = t at *
        have w1 : IntKind.i64.wrap (s - t) = s - t := wrap64 (by omega) (by omega)
        have w2 : IntKind.i64.wrap (-(t - s)) = s - t := by rw [wrap64] <;> omega
        rcases Int.lt_trichotomy t s with c | c | c
        · rw [if_pos c] at g1
          rw [if_neg (by omega)] at g2
          have c2 : ¬ s - t < 0 := by omega
          have c3 : ¬ s - t = 0 := by omega
          simp [c_law35_TallyBalances_l0, stBi, c_law35_TallyBalances_k1, c_law35_TallyBalances_k2, ek, hk, l1, l2, ha, ht, g1, g2, ec, w1, c2, c3, stB, wrap_succ (show k < 4611686018427387904 by omega)]
        · subst c
          rw [if_neg (by omega)] at g1
          rw [if_neg (by omega)] at g2
          simp [c_law35_TallyBalances_l0, stBi, c_law35_TallyBalances_k1, c_law35_TallyBalances_k2, ek, hk, l1, l2, ha, ht, g1, g2, ec, stB, wrap_succ (show k < 4611686018427387904 by omega)]
        · rw [if_neg (by omega)] at g1
          rw [if_pos c] at g2
          have c2 : ¬ t - s < 0 := by omega
          simp [c_law35_TallyBalances_l0, stBi, c_law35_TallyBalances_k1, c_law35_TallyBalances_k2, ek, hk, l1, l2, ha, ht, g1, g2, ec, w1, w2, c2, stB, wrap_succ (show k < 4611686018427387904 by omega)]
    · simp [c_law35_TallyBalances_l3, stB, c_law35_TallyBalances_k4, ha]
      refine eCall_i (cleared_sound (m := .plain) hl hn ha) (by simp) (by simp) ?_
      have ez : ([0, 0, 0, 0, 0, 0] : List Int) = z6 := rfl
      simp [l1, eql_bun, eql_bool, ez]
      refine fin ?_
      simp [r_law35_TallyBalances]
end Go.Proofs.Ytljkjogggfdgiaa
