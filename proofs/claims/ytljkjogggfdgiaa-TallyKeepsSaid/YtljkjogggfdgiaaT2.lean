import Derived.Test.YtljkjogggfdgiaaT1
namespace Go.Proofs.Ytljkjogggfdgiaa
open Go Go.Am

theorem eql_bun {ox oy : Operand} {a b : List AV} {K : AV → Option Entry → Prop} (ha : isInts 6 a = true) (hb : isInts 6 b = true) :
    eBin Try.prog .eql T_api_Bundle ox oy [.agg a, .agg b] K = K (bv (decide (intsA a = intsA b))) none := eBin_eql_ints kd_api_Bundle gd_api_Bundle ag_api_Bundle ha hb
theorem neq_bun {ox oy : Operand} {a b : List AV} {K : AV → Option Entry → Prop} (ha : isInts 6 a = true) (hb : isInts 6 b = true) :
    eBin Try.prog .neq T_api_Bundle ox oy [.agg a, .agg b] K = K (bv (!decide (intsA a = intsA b))) none := eBin_neq_ints kd_api_Bundle gd_api_Bundle ag_api_Bundle ha hb
theorem eql_bool {ox oy : Operand} {a b : Bool} {K : AV → Option Entry → Prop} :
    eBin Try.prog .eql T_bool ox oy [bv a, bv b] K = K (bv (a == b)) none := eBin_eql_bool ub_bool

section
variable {m : Am.Mode} {l : List (List Int)} (hl : ∀ b ∈ l, b.length = 6) (hn : l.length < 4611686018427387904)
include hl hn
theorem sum_sound : SoundCall Try.prog F_tally_Sum [.list 6 m (rowsOf l)] (bun (sumL l)) := by
  refine sound' t_tally_Sum (by simp) ?_
  simp [c_tally_Sum]
  refine eCall_i (total_sound (m := stm m) hl hn) (by simp) (by simp) ?_
  simp [r_tally_Sum, sumL_len hl]
theorem excess_sound {a : List Int} (ha : a.length = 6) : SoundCall Try.prog F_tally_Excess [bun a, .list 6 m (rowsOf l)] (bun (overL (sumL l) a)) := by
  have h1 := sumL_len hl
  refine sound' t_tally_Excess (by simp) ?_
  simp [c_tally_Excess]
  refine eCall_i (total_sound (m := stm m) hl hn) (by simp) (by simp) ?_
  simp [ha]
  refine eCall_i (over_sound h1 ha) (by simp) (by simp) ?_
  have h2 : (overL (sumL l) a).length = 6 := by simp [overL, h1, ha]
  simp [r_tally_Excess, h2]
theorem slack_sound {a : List Int} (ha : a.length = 6) : SoundCall Try.prog F_tally_Slack [bun a, .list 6 m (rowsOf l)] (bun (overL a (sumL l))) := by
  have h1 := sumL_len hl
  refine sound' t_tally_Slack (by simp) ?_
  simp [c_tally_Slack, ha]
  refine eCall_i (total_sound (m := stm m) hl hn) (by simp) (by simp) ?_
  simp [ha]
  refine eCall_i (over_sound ha h1) (by simp) (by simp) ?_
  have h2 : (overL a (sumL l)).length = 6 := by simp [overL, h1, ha]
  simp [r_tally_Slack, h2]
theorem cleared_sound {a : List Int} (ha : a.length = 6) : SoundCall Try.prog F_tally_Cleared [bun a, .list 6 m (rowsOf l)] (bv (decide (overL (sumL l) a = z6))) := by
  have h1 := sumL_len hl
  refine sound' t_tally_Cleared (by simp) ?_
  simp [c_tally_Cleared, ha]
  refine eCall_i (excess_sound (m := stm m) hl hn ha) (by simp) (by simp) ?_
  have h2 : (overL (sumL l) a).length = 6 := by simp [overL, h1, ha]
  simp [r_tally_Cleared, h2, eql_bun]
  rfl
end
end Go.Proofs.Ytljkjogggfdgiaa
