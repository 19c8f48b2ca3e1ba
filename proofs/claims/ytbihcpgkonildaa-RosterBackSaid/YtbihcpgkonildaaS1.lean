import Derived.RangeFuncBox
import Derived.RangeFuncLeaves
import Derived.Shelf.Abstract
import Derived.WalkKit
import Derived.OwnWalkIn
import Derived.TacticsInMore
import Derived.LoopNIn
import Derived.LoopIn
import Derived.Maps.AppendAt
import Derived.Test.YtbihcpgkonildaaC
namespace Go.Proofs.Ytbihcpgkonildaa
open Go Go.RowKit Go.Shelf

attribute [local go_sem] Oper.semAt_some

/-- How many sets there are. -/
def setsN (n : Int) : Nat := if n < 0 ∨ 8 < n then 0 else 2 ^ n.toNat
def upTo (k : Nat) : List Int := (List.range k).map fun (i : Nat) => (i : Int)
theorem upTo_succ {k : Nat} : upTo (k + 1) = upTo k ++ [(k : Int)] := by simp [upTo, List.range_succ]
theorem upTo_len {k : Nat} : (upTo k).length = k := by simp [upTo]

theorem setsN_le {n : Int} : setsN n ≤ 256 := by
  unfold setsN
  split
  · omega
  · have : n.toNat ≤ 8 := by omega
    exact Nat.pow_le_pow_right (by omega) this

set_option maxRecDepth 100000 in
set_option maxHeartbeats 1000000 in
theorem sets1_in (F : Fence) (n : Nat) (h30 : F.fn 30) (hro : F.round = none) (hn : 1 ≤ n) (l Bn n₀ : Nat) (m : Int) (J Jx : List Int → World → Prop)
    (hY : ∀ pre x W, J pre W → pre.length < (upTo (setsN m)).length → YieldAt F (n - 1) Try.prog l #[.int .i64 x] W fun e W' =>
      (e = .returned (.bool true) ∧ J (pre ++ [x]) W' ∧ Below n₀ W W') ∨ (e = .returned (.bool false) ∧ Jx (pre ++ [x]) W'))
    (W : World) (hBn : W.cell? ⟨Bn, 0, none⟩ = some (.int .i64 m)) (h0 : J [] W) :
    CallsIn F n Try.prog 30 #[.func (.yield l) #[] #[], .pointer (some ⟨Bn, 0, none⟩)] W fun e W' => (∃ v, e = .returned v) ∧
      ((∃ ys, ys = upTo (setsN m) ∧ J ys W') ∨ (∃ pre, pre <+: upTo (setsN m) ∧ Jx pre W')) := by
  refine callsIn_of_wp Try.func30 rfl h30 ?_ hro
  simp only [Try.ntmps30, List.size_toArray, List.length_cons, List.length_nil, Nat.reduceAdd, Nat.reduceSub, Array.replicate_succ, Array.replicate_zero, List.push_toArray, List.append_toArray, List.nil_append, List.cons_append]
  have e0 : (m < 0 ∨ 8 < m) → upTo (setsN m) = [] := fun h => by simp [setsN, h, upTo]
  by_cases h1 : m < 0
  · gi_wp2
    refine bodyPost_ret (results_none rfl _ _ _) rfl ?_
    exact ⟨⟨_, rfl⟩, .inl ⟨[], (e0 (.inl h1)).symm, h0⟩⟩
  by_cases h2 : 8 < m
  · gi_wp2
    refine bodyPost_ret (results_none rfl _ _ _) rfl ?_
    first | exact ⟨⟨_, rfl⟩, .inl ⟨[], (e0 (.inr h2)).symm, h0⟩⟩ | exact ⟨⟨_, rfl⟩, .inl h0⟩
  have hm : m = 0 ∨ m = 1 ∨ m = 2 ∨ m = 3 ∨ m = 4 ∨ m = 5 ∨ m = 6 ∨ m = 7 ∨ m = 8 := by omega
  clear e0 h1 h2
  have pre : ∀ {k N : Nat}, k < N → upTo k ++ [(k : Int)] <+: upTo N := by
    intro k N hk
    rw [← upTo_succ]
    exact ⟨(upTo N).drop (k + 1), by
      have : upTo (k + 1) = (upTo N).take (k + 1) := by
        apply List.ext_getElem
        · simp [upTo]; omega
        · intro i h1 h2; simp [upTo]
      rw [this, List.take_append_drop]⟩
  rcases hm with rfl | rfl | rfl | rfl | rfl | rfl | rfl | rfl | rfl
  · have hN : setsN 0 = 1 := by decide
    rw [hN] at *
    clear hN
    gi_wp2
    gi_loopw [12] (fun p wr => ∃ k : Nat, p = .int .i64 k ∧ k ≤ 1 ∧ J (upTo k) wr) (fun p wr => 1 - (intOf p).toNat)
    case atStart => exact ⟨0, rfl, by omega, h0⟩
    case round =>
      obtain ⟨k, rfl, hk, hJs⟩ := hrel
      by_cases hlt : k < 1
      · obtain ⟨fn, tmps, assign, body, hy, hR⟩ := hY (upTo k) k wr hJs (by rw [upTo_len, upTo_len]; exact hlt)
        have hki : (k : Int) < 1 := by omega
        gi_wp2
        refine hR.mono ?_
        rintro e W3 (⟨rfl, hJ3, hk3⟩ | ⟨rfl, hJx3⟩)
        · gi_wp2
          go_roundw
          case rel => exact ⟨k + 1, by first | (simp; done) | (simp; omega), by omega, by rw [upTo_succ]; exact hJ3⟩
          case measure => simp only [intOf]; omega
        · gi_wp2
          refine bodyPost_ret (results_none rfl _ _ _) rfl ?_
          exact ⟨⟨_, rfl⟩, .inr ⟨upTo k ++ [(k : Int)], pre hlt, hJx3⟩⟩
      · have hki : ¬ (k : Int) < 1 := by omega
        gi_wp2
        go_end0
        have hke : k = 1 := by omega
        subst hke
        first
          | exact ⟨⟨_, rfl⟩, .inl ⟨upTo 1, rfl, hJs⟩⟩
          | exact ⟨⟨_, rfl⟩, .inl hJs⟩
  · have hN : setsN 1 = 2 := by decide
    rw [hN] at *
    clear hN
    gi_wp2
    gi_loopw [12] (fun p wr => ∃ k : Nat, p = .int .i64 k ∧ k ≤ 2 ∧ J (upTo k) wr) (fun p wr => 2 - (intOf p).toNat)
    case atStart => exact ⟨0, rfl, by omega, h0⟩
    case round =>
      obtain ⟨k, rfl, hk, hJs⟩ := hrel
      by_cases hlt : k < 2
      · obtain ⟨fn, tmps, assign, body, hy, hR⟩ := hY (upTo k) k wr hJs (by rw [upTo_len, upTo_len]; exact hlt)
        have hki : (k : Int) < 2 := by omega
        gi_wp2
        refine hR.mono ?_
        rintro e W3 (⟨rfl, hJ3, hk3⟩ | ⟨rfl, hJx3⟩)
        · gi_wp2
          go_roundw
          case rel => exact ⟨k + 1, by first | (simp; done) | (simp; omega), by omega, by rw [upTo_succ]; exact hJ3⟩
          case measure => simp only [intOf]; omega
        · gi_wp2
          refine bodyPost_ret (results_none rfl _ _ _) rfl ?_
          exact ⟨⟨_, rfl⟩, .inr ⟨upTo k ++ [(k : Int)], pre hlt, hJx3⟩⟩
      · have hki : ¬ (k : Int) < 2 := by omega
        gi_wp2
        go_end0
        have hke : k = 2 := by omega
        subst hke
        first
          | exact ⟨⟨_, rfl⟩, .inl ⟨upTo 2, rfl, hJs⟩⟩
          | exact ⟨⟨_, rfl⟩, .inl hJs⟩
  · have hN : setsN 2 = 4 := by decide
    rw [hN] at *
    clear hN
    gi_wp2
    gi_loopw [12] (fun p wr => ∃ k : Nat, p = .int .i64 k ∧ k ≤ 4 ∧ J (upTo k) wr) (fun p wr => 4 - (intOf p).toNat)
    case atStart => exact ⟨0, rfl, by omega, h0⟩
    case round =>
      obtain ⟨k, rfl, hk, hJs⟩ := hrel
      by_cases hlt : k < 4
      · obtain ⟨fn, tmps, assign, body, hy, hR⟩ := hY (upTo k) k wr hJs (by rw [upTo_len, upTo_len]; exact hlt)
        have hki : (k : Int) < 4 := by omega
        gi_wp2
        refine hR.mono ?_
        rintro e W3 (⟨rfl, hJ3, hk3⟩ | ⟨rfl, hJx3⟩)
        · gi_wp2
          go_roundw
          case rel => exact ⟨k + 1, by first | (simp; done) | (simp; omega), by omega, by rw [upTo_succ]; exact hJ3⟩
          case measure => simp only [intOf]; omega
        · gi_wp2
          refine bodyPost_ret (results_none rfl _ _ _) rfl ?_
          exact ⟨⟨_, rfl⟩, .inr ⟨upTo k ++ [(k : Int)], pre hlt, hJx3⟩⟩
      · have hki : ¬ (k : Int) < 4 := by omega
        gi_wp2
        go_end0
        have hke : k = 4 := by omega
        subst hke
        first
          | exact ⟨⟨_, rfl⟩, .inl ⟨upTo 4, rfl, hJs⟩⟩
          | exact ⟨⟨_, rfl⟩, .inl hJs⟩
  · have hN : setsN 3 = 8 := by decide
    rw [hN] at *
    clear hN
    gi_wp2
    gi_loopw [12] (fun p wr => ∃ k : Nat, p = .int .i64 k ∧ k ≤ 8 ∧ J (upTo k) wr) (fun p wr => 8 - (intOf p).toNat)
    case atStart => exact ⟨0, rfl, by omega, h0⟩
    case round =>
      obtain ⟨k, rfl, hk, hJs⟩ := hrel
      by_cases hlt : k < 8
      · obtain ⟨fn, tmps, assign, body, hy, hR⟩ := hY (upTo k) k wr hJs (by rw [upTo_len, upTo_len]; exact hlt)
        have hki : (k : Int) < 8 := by omega
        gi_wp2
        refine hR.mono ?_
        rintro e W3 (⟨rfl, hJ3, hk3⟩ | ⟨rfl, hJx3⟩)
        · gi_wp2
          go_roundw
          case rel => exact ⟨k + 1, by first | (simp; done) | (simp; omega), by omega, by rw [upTo_succ]; exact hJ3⟩
          case measure => simp only [intOf]; omega
        · gi_wp2
          refine bodyPost_ret (results_none rfl _ _ _) rfl ?_
          exact ⟨⟨_, rfl⟩, .inr ⟨upTo k ++ [(k : Int)], pre hlt, hJx3⟩⟩
      · have hki : ¬ (k : Int) < 8 := by omega
        gi_wp2
        go_end0
        have hke : k = 8 := by omega
        subst hke
        first
          | exact ⟨⟨_, rfl⟩, .inl ⟨upTo 8, rfl, hJs⟩⟩
          | exact ⟨⟨_, rfl⟩, .inl hJs⟩
  · have hN : setsN 4 = 16 := by decide
    rw [hN] at *
    clear hN
    gi_wp2
    gi_loopw [12] (fun p wr => ∃ k : Nat, p = .int .i64 k ∧ k ≤ 16 ∧ J (upTo k) wr) (fun p wr => 16 - (intOf p).toNat)
    case atStart => exact ⟨0, rfl, by omega, h0⟩
    case round =>
      obtain ⟨k, rfl, hk, hJs⟩ := hrel
      by_cases hlt : k < 16
      · obtain ⟨fn, tmps, assign, body, hy, hR⟩ := hY (upTo k) k wr hJs (by rw [upTo_len, upTo_len]; exact hlt)
        have hki : (k : Int) < 16 := by omega
        gi_wp2
        refine hR.mono ?_
        rintro e W3 (⟨rfl, hJ3, hk3⟩ | ⟨rfl, hJx3⟩)
        · gi_wp2
          go_roundw
          case rel => exact ⟨k + 1, by first | (simp; done) | (simp; omega), by omega, by rw [upTo_succ]; exact hJ3⟩
          case measure => simp only [intOf]; omega
        · gi_wp2
          refine bodyPost_ret (results_none rfl _ _ _) rfl ?_
          exact ⟨⟨_, rfl⟩, .inr ⟨upTo k ++ [(k : Int)], pre hlt, hJx3⟩⟩
      · have hki : ¬ (k : Int) < 16 := by omega
        gi_wp2
        go_end0
        have hke : k = 16 := by omega
        subst hke
        first
          | exact ⟨⟨_, rfl⟩, .inl ⟨upTo 16, rfl, hJs⟩⟩
          | exact ⟨⟨_, rfl⟩, .inl hJs⟩
  · have hN : setsN 5 = 32 := by decide
    rw [hN] at *
    clear hN
    gi_wp2
    gi_loopw [12] (fun p wr => ∃ k : Nat, p = .int .i64 k ∧ k ≤ 32 ∧ J (upTo k) wr) (fun p wr => 32 - (intOf p).toNat)
    case atStart => exact ⟨0, rfl, by omega, h0⟩
    case round =>
      obtain ⟨k, rfl, hk, hJs⟩ := hrel
      by_cases hlt : k < 32
      · obtain ⟨fn, tmps, assign, body, hy, hR⟩ := hY (upTo k) k wr hJs (by rw [upTo_len, upTo_len]; exact hlt)
        have hki : (k : Int) < 32 := by omega
        gi_wp2
        refine hR.mono ?_
        rintro e W3 (⟨rfl, hJ3, hk3⟩ | ⟨rfl, hJx3⟩)
        · gi_wp2
          go_roundw
          case rel => exact ⟨k + 1, by first | (simp; done) | (simp; omega), by omega, by rw [upTo_succ]; exact hJ3⟩
          case measure => simp only [intOf]; omega
        · gi_wp2
          refine bodyPost_ret (results_none rfl _ _ _) rfl ?_
          exact ⟨⟨_, rfl⟩, .inr ⟨upTo k ++ [(k : Int)], pre hlt, hJx3⟩⟩
      · have hki : ¬ (k : Int) < 32 := by omega
        gi_wp2
        go_end0
        have hke : k = 32 := by omega
        subst hke
        first
          | exact ⟨⟨_, rfl⟩, .inl ⟨upTo 32, rfl, hJs⟩⟩
          | exact ⟨⟨_, rfl⟩, .inl hJs⟩
  · have hN : setsN 6 = 64 := by decide
    rw [hN] at *
    clear hN
    gi_wp2
    gi_loopw [12] (fun p wr => ∃ k : Nat, p = .int .i64 k ∧ k ≤ 64 ∧ J (upTo k) wr) (fun p wr => 64 - (intOf p).toNat)
    case atStart => exact ⟨0, rfl, by omega, h0⟩
    case round =>
      obtain ⟨k, rfl, hk, hJs⟩ := hrel
      by_cases hlt : k < 64
      · obtain ⟨fn, tmps, assign, body, hy, hR⟩ := hY (upTo k) k wr hJs (by rw [upTo_len, upTo_len]; exact hlt)
        have hki : (k : Int) < 64 := by omega
        gi_wp2
        refine hR.mono ?_
        rintro e W3 (⟨rfl, hJ3, hk3⟩ | ⟨rfl, hJx3⟩)
        · gi_wp2
          go_roundw
          case rel => exact ⟨k + 1, by first | (simp; done) | (simp; omega), by omega, by rw [upTo_succ]; exact hJ3⟩
          case measure => simp only [intOf]; omega
        · gi_wp2
          refine bodyPost_ret (results_none rfl _ _ _) rfl ?_
          exact ⟨⟨_, rfl⟩, .inr ⟨upTo k ++ [(k : Int)], pre hlt, hJx3⟩⟩
      · have hki : ¬ (k : Int) < 64 := by omega
        gi_wp2
        go_end0
        have hke : k = 64 := by omega
        subst hke
        first
          | exact ⟨⟨_, rfl⟩, .inl ⟨upTo 64, rfl, hJs⟩⟩
          | exact ⟨⟨_, rfl⟩, .inl hJs⟩
  · have hN : setsN 7 = 128 := by decide
    rw [hN] at *
    clear hN
    gi_wp2
    gi_loopw [12] (fun p wr => ∃ k : Nat, p = .int .i64 k ∧ k ≤ 128 ∧ J (upTo k) wr) (fun p wr => 128 - (intOf p).toNat)
    case atStart => exact ⟨0, rfl, by omega, h0⟩
    case round =>
      obtain ⟨k, rfl, hk, hJs⟩ := hrel
      by_cases hlt : k < 128
      · obtain ⟨fn, tmps, assign, body, hy, hR⟩ := hY (upTo k) k wr hJs (by rw [upTo_len, upTo_len]; exact hlt)
        have hki : (k : Int) < 128 := by omega
        gi_wp2
        refine hR.mono ?_
        rintro e W3 (⟨rfl, hJ3, hk3⟩ | ⟨rfl, hJx3⟩)
        · gi_wp2
          go_roundw
          case rel => exact ⟨k + 1, by first | (simp; done) | (simp; omega), by omega, by rw [upTo_succ]; exact hJ3⟩
          case measure => simp only [intOf]; omega
        · gi_wp2
          refine bodyPost_ret (results_none rfl _ _ _) rfl ?_
          exact ⟨⟨_, rfl⟩, .inr ⟨upTo k ++ [(k : Int)], pre hlt, hJx3⟩⟩
      · have hki : ¬ (k : Int) < 128 := by omega
        gi_wp2
        go_end0
        have hke : k = 128 := by omega
        subst hke
        first
          | exact ⟨⟨_, rfl⟩, .inl ⟨upTo 128, rfl, hJs⟩⟩
          | exact ⟨⟨_, rfl⟩, .inl hJs⟩
  · have hN : setsN 8 = 256 := by decide
    rw [hN] at *
    clear hN
    gi_wp2
    gi_loopw [12] (fun p wr => ∃ k : Nat, p = .int .i64 k ∧ k ≤ 256 ∧ J (upTo k) wr) (fun p wr => 256 - (intOf p).toNat)
    case atStart => exact ⟨0, rfl, by omega, h0⟩
    case round =>
      obtain ⟨k, rfl, hk, hJs⟩ := hrel
      by_cases hlt : k < 256
      · obtain ⟨fn, tmps, assign, body, hy, hR⟩ := hY (upTo k) k wr hJs (by rw [upTo_len, upTo_len]; exact hlt)
        have hki : (k : Int) < 256 := by omega
        gi_wp2
        refine hR.mono ?_
        rintro e W3 (⟨rfl, hJ3, hk3⟩ | ⟨rfl, hJx3⟩)
        · gi_wp2
          go_roundw
          case rel => exact ⟨k + 1, by first | (simp; done) | (simp; omega), by omega, by rw [upTo_succ]; exact hJ3⟩
          case measure => simp only [intOf]; omega
        · gi_wp2
          refine bodyPost_ret (results_none rfl _ _ _) rfl ?_
          exact ⟨⟨_, rfl⟩, .inr ⟨upTo k ++ [(k : Int)], pre hlt, hJx3⟩⟩
      · have hki : ¬ (k : Int) < 256 := by omega
        gi_wp2
        go_end0
        have hke : k = 256 := by omega
        subst hke
        first
          | exact ⟨⟨_, rfl⟩, .inl ⟨upTo 256, rfl, hJs⟩⟩
          | exact ⟨⟨_, rfl⟩, .inl hJs⟩
end Go.Proofs.Ytbihcpgkonildaa
