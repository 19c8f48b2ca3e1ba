import Derived.Test.YtljkjogggfdgiaaC
import Derived.Test.YtljkjogggfdgiaaAm27
namespace Go.Proofs.Ytljkjogggfdgiaa
open Go Go.Am

abbrev bun (l : List Int) : AV := .agg (l.map iv)
abbrev rowsOf (l : List (List Int)) : List (List AV) := l.map (·.map iv)
def z6 : List Int := [0, 0, 0, 0, 0, 0]
def wr (x : Int) : Int := IntKind.i64.wrap x
def overL (a b : List Int) : List Int := List.zipWith (fun x y => if y < x then wr (x - y) else 0) a b
def addL (a b : List Int) : List Int := List.zipWith (fun x y => wr (x + y)) a b
def sumL (l : List (List Int)) : List Int := l.foldl addL z6

theorem wrap_succ {k : Nat} (h : k < 4611686018427387904) : IntKind.i64.wrap ((k : Int) + 1) = ((k + 1 : Nat) : Int) := by
  rw [wrap64] <;> omega

/-! ### over -/
def st24 (a b : List Int) (k : Nat) : St :=
  { env := [(2, .ptr 2 0), (3, .ptr 3 0), (4, .ptr 4 0), (5, .ptr 5 0), (7, iv k)],
    sto := [(2, .var (a.map iv)), (3, .var (b.map iv)), (4, .var (z6.map iv)), (5, .var ((mix (overL a b) z6 k).map iv))] }
theorem over_sound {a b : List Int} (ha : a.length = 6) (hb : b.length = 6) : SoundCall Try.prog F_tally_over [bun a, bun b] (bun (overL a b)) := by
  have hl : (overL a b).length = 6 := by simp [overL, ha, hb]
  have hz : z6.length = 6 := rfl
  refine sound' t_tally_over (by simp) ?_
  simp [c_tally_over]
  refine awp_for (st24 a b) 6 ?_ (fun k hk => ?_) ?_
  · simp [st24]; rfl
  · have e : ((k : Int) < 6) := by omega
    have hg : (overL a b)[k]? = some (if b[k] < a[k] then wr (a[k] - b[k]) else 0) := by simp [overL, ha, hb, hk]
    have hzk : z6[k]? = some 0 := by
      match k, hk with
      | 0, _ | 1, _ | 2, _ | 3, _ | 4, _ | 5, _ => rfl
    have hs := mix_set (hl.trans hz.symm) hg
    simp [c_tally_over_l0, st24, e, ha, hb, hk, hl, hz, wrap_succ (show k < 4611686018427387904 by omega)]
    refine ⟨fun h => ?_, fun h => ?_⟩
    · rw [if_pos h] at hs; rw [← hs, List.map_set]; exact ⟨by omega, rfl⟩
    · rw [if_neg (by omega)] at hg; rw [mix_same (hl.trans hz.symm) hg hzk]
  · simp [c_tally_over_l0, st24, c_tally_over_k1, r_tally_over, hl, hz, mix_all hl hz]

theorem addL_len {a b : List Int} (ha : a.length = 6) (hb : b.length = 6) : (addL a b).length = 6 := by simp [addL, ha, hb]
theorem foldl_add_len : ∀ {l : List (List Int)} {a : List Int}, a.length = 6 → (∀ b ∈ l, b.length = 6) → (l.foldl addL a).length = 6
  | [], _, h, _ => h
  | b :: l, a, h, hl => by
    have hb := hl b (by simp)
    exact foldl_add_len (a := addL a b) (addL_len h hb) fun c hc => hl c (by simp [hc])
theorem sumL_len {l : List (List Int)} (hl : ∀ b ∈ l, b.length = 6) : (sumL l).length = 6 := foldl_add_len rfl hl
theorem sumL_take {l : List (List Int)} {k : Nat} (h : k < l.length) : sumL (l.take (k + 1)) = addL (sumL (l.take k)) l[k] := by
  unfold sumL
  rw [List.take_succ_eq_append_getElem h, List.foldl_append]
  rfl

/-! ### total -/
def st23 (m : Am.Mode) (l : List (List Int)) (k : Nat) : St :=
  { env := [(2, .ptr 2 0), (3, .ptr 3 0), (7, .list 6 m (rowsOf l)), (8, iv l.length), (9, iv k)],
    sto := [(2, .var (z6.map iv)), (3, .var ((sumL (l.take k)).map iv))] }
def st23i (m : Am.Mode) (l : List (List Int)) (k : Nat) (b : List Int) (j : Nat) : St :=
  { env := [(2, .ptr 2 0), (3, .ptr 3 0), (7, .list 6 m (rowsOf l)), (8, iv l.length), (9, iv k), (5, .ptr 5 0), (13, iv j)],
    sto := [(2, .var (z6.map iv)), (3, .var ((mix (addL (sumL (l.take k)) b) (sumL (l.take k)) j).map iv)), (5, .var (b.map iv))] }
theorem total_sound {m : Am.Mode} {l : List (List Int)} (hl : ∀ b ∈ l, b.length = 6) (hn : l.length < 4611686018427387904) :
    SoundCall Try.prog F_tally_total [.list 6 m (rowsOf l)] (bun (sumL l)) := by
  have hz : z6.length = 6 := rfl
  refine sound' t_tally_total (by simp) ?_
  simp [c_tally_total]
  refine awp_for (st23 m l) l.length ?_ (fun k hk => ?_) ?_
  · simp [st23]; exact ⟨rfl, rfl⟩
  · have hb := hl l[k] (by simp)
    have hs := sumL_len (l := l.take k) (fun b hb => hl b (List.mem_of_mem_take hb))
    have e : (k : Int) < l.length := by omega
    simp [c_tally_total_l2, st23, e, hk, hb]
    refine awp_for (st23i m l k l[k]) 6 ?_ (fun j hj => ?_) ?_
    · simp [st23i]
    · have ej : (j : Int) < 6 := by omega
      have ha := addL_len hs hb
      have hg : (addL (sumL (l.take k)) l[k])[j]? = some (wr ((sumL (l.take k))[j] + l[k][j])) := by simp [addL, hs, hb, hj]
      have hmx := mix_set (ha.trans hs.symm) hg
      simp [c_tally_total_l0, st23i, ej, ha, hb, hs, hj, wrap_succ (show j < 4611686018427387904 by omega)]
      rw [← hmx, List.map_set]
      exact ⟨by omega, rfl⟩
    · simp [c_tally_total_l0, st23i, st23, c_tally_total_k1, mix_all (addL_len hs hb) hs, sumL_take hk, wrap_succ (show k < 4611686018427387904 by omega)]
  · simp [c_tally_total_l2, st23, c_tally_total_k3, r_tally_total, sumL_len hl, hz]
end Go.Proofs.Ytljkjogggfdgiaa
