import Derived.Test.YtljkjogggfdgiaaT4
namespace Go.Proofs.Ytljkjogggfdgiaa
open Go Go.Am

theorem chgs_self {a : List (List Int)} {k : Nat} : chgs a a k = [] := by
  unfold chgs
  rw [List.filter_eq_nil_iff]
  intro i _
  simp
theorem chgs_comm {a b : List (List Int)} {k : Nat} : chgs b a k = chgs a b k := by
  unfold chgs
  congr 1
  funext i
  simp only [eq_comm]
theorem rowsN_rows1 {a : List Nat} : rowsN a = rows1 (a.map fun n : Nat => (n : Int)) := by simp [rowsN, rows1]
theorem sameN_sound {a b : List Nat} (hn : a.length < 4611686018427387904) : SoundCall Try.prog F_ref35_Same [outV 1 (rowsN a), outV 1 (rowsN b)] (bv (decide (a = b))) := by
  have e : decide (a = b) = decide (a.map (fun n : Nat => (n : Int)) = b.map (fun n : Nat => (n : Int))) := by
    by_cases h : a = b
    · simp [h]
    · have : a.map (fun n : Nat => (n : Int)) ≠ b.map (fun n : Nat => (n : Int)) := fun e => h (List.map_inj_right (f := fun n : Nat => (n : Int)) (fun x y h => Int.ofNat.inj h) |>.1 e)
      simp [h, this]
  rw [e, rowsN_rows1, rowsN_rows1]
  refine same_sound ?_ ?_ (by simpa using hn)
  · by_cases h : a = [] <;> simp [h]
  · by_cases h : b = [] <;> simp [h]

theorem law_changes {a b : List (List Int)} (ha : ∀ x ∈ a, x.length = 6) (hb : ∀ x ∈ b, x.length = 6) : SoundCall Try.prog F_law35_TallyChanges [.list 6 .plain (rowsOf a), .list 6 .plain (rowsOf b)] (bv true) := by
  refine sound' t_law35_TallyChanges (by simp) ?_
  have fin : ∀ {K : AV → Option Entry → Prop} {σ : Nat → Option Entry}, K (bv true) none → eCall Try.prog F_law35_awake σ [] K := fun h => eCall_i (xs := []) (args := []) awake_sound rfl (.inl rfl) h
  by_cases h1 : 1000 < a.length
  · have e1 : (1000 : Int) < a.length := by omega
    simp [c_law35_TallyChanges, e1]
    refine fin ?_
    simp [r_law35_TallyChanges]
  · have e1 : ¬ (1000 : Int) < a.length := by omega
    by_cases h2 : 1000 < b.length
    · have e2 : (1000 : Int) < b.length := by omega
      simp [c_law35_TallyChanges, e1, e2]
      refine fin ?_
      simp [r_law35_TallyChanges]
    · have e2 : ¬ (1000 : Int) < b.length := by omega
      have hc : chgs b a (max b.length a.length) = chgs a b (max a.length b.length) := by rw [chgs_comm, Nat.max_comm]
      have la := chgs_len (a := a) (b := b) (k := max a.length b.length)
      simp [c_law35_TallyChanges, e1, e2]
      refine eCall_i (changes_sound (m1 := .plain) (m2 := .plain) ha hb (by omega) rfl rfl) (by simp) (by simp) ?_
      simp
      refine eCall_i (changesR_sound (m1 := .plain) (m2 := .plain) ha hb (by omega) rfl rfl) (by simp) (by simp) ?_
      simp
      refine eCall_i (sameN_sound (a := chgs a b (max a.length b.length)) (b := chgs a b (max a.length b.length)) (by omega)) (by simp) (by simp) ?_
      simp
      refine eCall_i (changes_sound (m1 := .plain) (m2 := .plain) ha ha (by omega) rfl rfl) (by simp) (by simp) ?_
      rw [chgs_self]
      simp
      refine eCall_i (changes_sound (m1 := .plain) (m2 := .plain) hb ha (by omega) rfl rfl) (by simp) (by simp) ?_
      rw [hc]
      simp
      refine eCall_i (changes_sound (m1 := .plain) (m2 := .plain) ha hb (by omega) rfl rfl) (by simp) (by simp) ?_
      simp
      refine eCall_i (sameN_sound (a := chgs a b (max a.length b.length)) (b := chgs a b (max a.length b.length)) (by omega)) (by simp) (by simp) ?_
      simp
      refine fin ?_
      simp [r_law35_TallyChanges]
end Go.Proofs.Ytljkjogggfdgiaa
