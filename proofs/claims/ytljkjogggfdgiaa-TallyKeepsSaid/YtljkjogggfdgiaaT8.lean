import Derived.Test.YtljkjogggfdgiaaT7
namespace Go.Proofs.Ytljkjogggfdgiaa
open Go Go.Am

theorem stm_of {m : Am.Mode} (f : stm m = m) : ∀ l, m ≠ .own l := by
  intro l e; subst e; simp [stm] at f
def revK (b : List (List Int)) (k : Nat) : List (List Int) := b.reverse.take k
theorem revK_succ {b : List (List Int)} {k : Nat} (hk : k < b.length) : revK b (k + 1) = revK b k ++ [b[b.length - 1 - k]] := by
  unfold revK
  rw [List.take_succ_eq_append_getElem (by simpa using hk), List.getElem_reverse]
def stO (a b : List (List Int)) (k : Nat) : St :=
  { env := [(0, .list 6 .plain (rowsOf a)), (1, .list 6 .plain (rowsOf b)), (5, appV 6 44 (rowsOf (revK b k))), (30, iv b.length), (31, iv k)], sto := [] }
def stP (a b : List (List Int)) (t : Nat) (k : Nat) : St :=
  { env := [(0, .list 6 .plain (rowsOf a)), (1, .list 6 .plain (rowsOf b)), (5, .list 6 (.own t) ((rowsOf b).reverse ++ rowsOf a)), (7, .ptr 7 0), (52, bun (sumL b)), (53, iv k)],
    sto := [(7, .var ((mix (addL (sumL a) (sumL b)) (sumL a) k).map iv))] }
set_option maxRecDepth 20000 in
theorem law_order {a b : List (List Int)} (ha : ∀ x ∈ a, x.length = 6) (hb : ∀ x ∈ b, x.length = 6) (hna : a.length < 4611686018427387904) (hnb : b.length < 4611686018427387904) :
    SoundCall Try.prog F_law35_TallyOrder [.list 6 .plain (rowsOf a), .list 6 .plain (rowsOf b)] (bv true) := by
  have fin : ∀ {K : AV → Option Entry → Prop} {σ : Nat → Option Entry}, K (bv true) none → eCall Try.prog F_law35_awake σ [] K := fun h => eCall_i (xs := []) (args := []) awake_sound rfl (.inl rfl) h
  refine sound' t_law35_TallyOrder (by simp) ?_
  simp [c_law35_TallyOrder]
  refine eCall_i (moderate_sound (m := .plain) ha hna) (by simp) (by simp) ?_
  cases ma : modL a
  · simp
    refine fin ?_
    simp [r_law35_TallyOrder]
  simp
  refine eCall_i (moderate_sound (m := .plain) hb hnb) (by simp) (by simp) ?_
  cases mb : modL b
  · simp
    refine fin ?_
    simp [r_law35_TallyOrder]
  by_cases ha5 : 500 < a.length
  · have e : (500 : Int) < a.length := by omega
    simp [e]
    refine fin ?_
    simp [r_law35_TallyOrder]
  by_cases hb5 : 500 < b.length
  · have e0 : ¬ (500 : Int) < a.length := by omega
    have e : (500 : Int) < b.length := by omega
    simp [e, e0]
    refine fin ?_
    simp [r_law35_TallyOrder]
  have e1 : ¬ (500 : Int) < a.length := by omega
  have e2 : ¬ (500 : Int) < b.length := by omega
  simp [e1, e2]
  refine awp_for (stO a b) b.length ?_ (fun k hk => ?_) ?_
  · simp [stO, revK]
  · have e : (k : Int) < b.length := by omega
    have hbk := hb b[b.length - 1 - k] (by simp)
    have e3 : IntKind.i64.wrap ((b.length : Int) - 1) = ((b.length - 1 : Nat) : Int) := by rw [wrap64] <;> omega
    have e4 : IntKind.i64.wrap (((b.length - 1 : Nat) : Int) - k) = ((b.length - 1 - k : Nat) : Int) := by rw [wrap64] <;> omega
    have e5 : b.length - 1 - k < b.length := by omega
    simp [c_law35_TallyOrder_l0, stO, e, e3, e4, e5, hbk, wrap_succ (show k < 4611686018427387904 by omega)]
    have l1 : (revK b k).length = k := by simp [revK]; omega
    exact ⟨by omega, by omega, by simp [revK_succ hk]⟩
  · have l2 : revK b b.length = b.reverse := List.take_of_length_le (by simp)
    simp [c_law35_TallyOrder_l0, stO, c_law35_TallyOrder_k3, l2]
    refine eAppend_appV2 (by simp) (.inr rfl) (by simp) (by simp) (by simp; omega) (by simp; omega) fun t ht => ?_
    have t1 : ¬ t = 66 := by rcases ht with rfl | rfl <;> simp
    clear ht
    simp [St.dg, St.put]
    refine eCall_i (sum_sound (m := .plain) ha hna) (by simp) (by simp) ?_
    have sa := sumL_len ha
    have sb := sumL_len hb
    simp [sa]
    refine eCall_i (sum_sound (m := .plain) hb hnb) (by simp) (by simp) ?_
    have hz : z6.length = 6 := rfl
    have hs := addL_len sa sb
    simp
    refine awp_for (stP a b t) 6 ?_ (fun k hk => ?_) ?_
    · simp [stP]
    · have ek : (k : Int) < 6 := by omega
      have hg : (addL (sumL a) (sumL b))[k]? = some (wr ((sumL a)[k] + (sumL b)[k])) := by simp [addL, sa, sb, hk]
      have hmx := mix_set (hs.trans sa.symm) hg
      simp [c_law35_TallyOrder_l1, stP, ek, sa, sb, hs, hk, wrap_succ (show k < 4611686018427387904 by omega)]
      rw [← hmx, List.map_set]
      exact ⟨by omega, rfl⟩
    · simp [c_law35_TallyOrder_l1, stP, c_law35_TallyOrder_k2, mix_all hs sa, hs]
      have en : (rowsOf a).length = a.length := by simp
      have di : ∀ l, (Am.dg l ∘ iv) = iv := fun l => rfl
      have t2 : (66 : Nat) ≠ 68 := by omega
      simp [eAppend, addRows, St.dg, St.put, dg, tok1, dgE, t1, di, hs]
      refine ⟨by omega, by omega, by omega, by omega, ?_⟩
      refine eCall_i (sum_sound (m := .plain) (l := a ++ b) (fun x hx => (List.mem_append.1 hx).elim (ha x) (hb x)) (by simp; omega)) (by simp) (by simp) ?_
      have q1 := sumL_app ha hb ma mb (by omega) (by omega)
      have q2 := sumL_rev ha hb ma mb (by omega) (by omega)
      simp [q1, eql_bun, hs]
      refine eCall_i (sum_sound (m := .plain) (l := b.reverse ++ a) (fun x hx => (List.mem_append.1 hx).elim (fun h => hb x (by simpa using h)) (ha x)) (by simp; omega)) (by simp) (by simp) ?_
      simp [q2, eql_bun, hs]
      refine fin ?_
      simp [r_law35_TallyOrder]
end Go.Proofs.Ytljkjogggfdgiaa
