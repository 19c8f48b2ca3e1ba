/- The abstract code of the functions of this program, printed by program; each is held against the model's code by the kernel. -/
import Derived.Test.YtljkjogggfdgiaaProg
import Derived.Test.YtljkjogggfdgiaaAm27
namespace Go.Proofs.Ytljkjogggfdgiaa
open Go Go.Am
abbrev F_gosem_cut_init : FuncId := 2
abbrev F_law35_TallySums : FuncId := 3
abbrev F_law35_TallyChanges : FuncId := 4
abbrev F_law35_TallyBalances : FuncId := 5
abbrev F_law35_TallyOrder : FuncId := 6
abbrev F_law35_TallyKeeps : FuncId := 7
abbrev F_law35_few : FuncId := 8
abbrev F_law35_awake : FuncId := 9
abbrev F_tally_Sum : FuncId := 10
abbrev F_ref35_Sum : FuncId := 11
abbrev F_tally_Excess : FuncId := 12
abbrev F_ref35_Excess : FuncId := 13
abbrev F_tally_Slack : FuncId := 14
abbrev F_ref35_Slack : FuncId := 15
abbrev F_tally_Cleared : FuncId := 16
abbrev F_ref35_Cleared : FuncId := 17
abbrev F_ref35_Same : FuncId := 18
abbrev F_tally_Changes : FuncId := 19
abbrev F_ref35_Changes : FuncId := 20
abbrev F_ref35_Moderate : FuncId := 21
abbrev F_ref35_At : FuncId := 22
abbrev F_tally_total : FuncId := 23
abbrev F_tally_over : FuncId := 24
abbrev F_tally_at : FuncId := 25
abbrev T_int : TypeId := 3
abbrev T_bool : TypeId := 4
abbrev T_api_Bundle : TypeId := 23
theorem kd_api_Bundle : kds Try.prog Op.maxDepth T_api_Bundle = some (List.replicate 6 (.i .i64)) := by kernel_rfl
theorem gd_api_Bundle : Try.prog.eqGuardType Try.prog.depth T_api_Bundle = false := by kernel_rfl
theorem ag_api_Bundle : agT Try.prog T_api_Bundle = true := by kernel_rfl
theorem ub_bool : Try.prog.underlying T_bool = some .bool := by kernel_rfl

/- saleroom/saleroomlaw35.TallySums -/
def c_law35_TallySums : ACode :=
  (.seq (.region false []
    [⟨some 2, .box, [.t 0], none⟩,
     ⟨some 4, .mov, [.c (.val (.bool false))], none⟩]
    [0, 4] [])
  (.seq (.seq (.region false []
    [⟨some 5, .load (some 6), [.t 2], none⟩,
     ⟨some 6, .mov, [.t 1], none⟩,
     ⟨some 7, .call F_law35_few, [.t 5, .t 6], none⟩,
     ⟨some 8, .un .not, [.t 7], none⟩]
    [5, 6, 7] [])
  (.cond (.t 8) (.seq (.region false []
    [⟨some 9, .call F_law35_awake, [], none⟩,
     ⟨some 4, .mov, [.t 9], none⟩]
    [1, 2, 8, 9] [2])
  .ret)
  .skip))
  (.seq (.region true []
    [⟨some 10, .mov, [.t 1], none⟩,
     ⟨some 11, .call F_tally_Sum, [.t 10], none⟩,
     ⟨some 12, .mov, [.t 1], none⟩,
     ⟨some 13, .call F_ref35_Sum, [.t 12], none⟩,
     ⟨some 14, .bin .eql T_api_Bundle (.tmp 11) (.tmp 13), [.t 11, .t 13], none⟩,
     ⟨some 15, .mov, [.t 14], none⟩,
     ⟨some 16, .load (some 6), [.t 2], some (15, true)⟩,
     ⟨some 17, .mov, [.t 1], some (15, true)⟩,
     ⟨some 18, .call F_tally_Excess, [.t 16, .t 17], some (15, true)⟩,
     ⟨some 19, .load (some 6), [.t 2], some (15, true)⟩,
     ⟨some 20, .mov, [.t 1], some (15, true)⟩,
     ⟨some 21, .call F_ref35_Excess, [.t 19, .t 20], some (15, true)⟩,
     ⟨some 22, .bin .eql T_api_Bundle (.tmp 18) (.tmp 21), [.t 18, .t 21], some (15, true)⟩,
     ⟨some 23, .pick, [.t 15, .t 22, .c (.val (.bool false))], none⟩,
     ⟨some 24, .mov, [.t 23], none⟩,
     ⟨some 25, .load (some 6), [.t 2], some (24, true)⟩,
     ⟨some 26, .mov, [.t 1], some (24, true)⟩,
     ⟨some 27, .call F_tally_Slack, [.t 25, .t 26], some (24, true)⟩,
     ⟨some 28, .load (some 6), [.t 2], some (24, true)⟩,
     ⟨some 29, .mov, [.t 1], some (24, true)⟩,
     ⟨some 30, .call F_ref35_Slack, [.t 28, .t 29], some (24, true)⟩,
     ⟨some 31, .bin .eql T_api_Bundle (.tmp 27) (.tmp 30), [.t 27, .t 30], some (24, true)⟩,
     ⟨some 32, .pick, [.t 24, .t 31, .c (.val (.bool false))], none⟩,
     ⟨some 33, .mov, [.t 32], none⟩,
     ⟨some 34, .load (some 6), [.t 2], some (33, true)⟩,
     ⟨some 35, .mov, [.t 1], some (33, true)⟩,
     ⟨some 36, .call F_tally_Cleared, [.t 34, .t 35], some (33, true)⟩,
     ⟨some 37, .load (some 6), [.t 2], some (33, true)⟩,
     ⟨some 38, .mov, [.t 1], some (33, true)⟩,
     ⟨some 39, .call F_ref35_Cleared, [.t 37, .t 38], some (33, true)⟩,
     ⟨some 40, .bin .eql T_bool (.tmp 36) (.tmp 39), [.t 36, .t 39], some (33, true)⟩,
     ⟨some 41, .pick, [.t 33, .t 40, .c (.val (.bool false))], none⟩,
     ⟨some 42, .mov, [.t 41], none⟩,
     ⟨some 43, .call F_law35_awake, [], some (42, true)⟩,
     ⟨some 44, .pick, [.t 42, .t 43, .c (.val (.bool false))], none⟩,
     ⟨some 4, .mov, [.t 44], none⟩]
    [1, 2, 8, 10, 11, 12, 13, 14, 15, 16, 17, 18, 19, 20, 21, 22, 23, 24, 25, 26, 27, 28, 29, 30, 31, 32, 33, 34, 35, 36, 37, 38, 39, 40, 41, 42, 43, 44] [2])
  .ret)))
def r_law35_TallySums : List ResA := [.t 4]
theorem t_law35_TallySums : transl Try.prog F_law35_TallySums = some (bare c_law35_TallySums, r_law35_TallySums, 45) := by kernel_rfl

/- saleroom/saleroomlaw35.TallyChanges -/
def c_law35_TallyChanges : ACode :=
  (.seq (.region false []
    [⟨some 4, .mov, [.c (.val (.bool false))], none⟩]
    [4] [])
  (.seq (.seq (.region false []
    [⟨some 5, .mov, [.t 0], none⟩,
     ⟨some 6, .len false, [.t 5], none⟩,
     ⟨some 7, .bin .gtr T_int (.tmp 6) (.const (.int .i64 1000)), [.t 6, .c (.val (.int .i64 1000))], none⟩,
     ⟨some 8, .mov, [.t 7], none⟩,
     ⟨some 9, .mov, [.t 1], some (8, false)⟩,
     ⟨some 10, .len false, [.t 9], some (8, false)⟩,
     ⟨some 11, .bin .gtr T_int (.tmp 10) (.const (.int .i64 1000)), [.t 10, .c (.val (.int .i64 1000))], some (8, false)⟩,
     ⟨some 12, .pick, [.t 8, .c (.val (.bool true)), .t 11], none⟩]
    [5, 6, 7, 8, 9, 10, 11] [])
  (.cond (.t 12) (.seq (.region false []
    [⟨some 13, .call F_law35_awake, [], none⟩,
     ⟨some 4, .mov, [.t 13], none⟩]
    [0, 1, 12, 13] [])
  .ret)
  .skip))
  (.seq (.region false []
    [⟨some 14, .mov, [.t 0], none⟩,
     ⟨some 15, .mov, [.t 1], none⟩,
     ⟨some 16, .call F_tally_Changes, [.t 14, .t 15], none⟩,
     ⟨some 17, .mov, [.t 0], none⟩,
     ⟨some 18, .mov, [.t 1], none⟩,
     ⟨some 19, .call F_ref35_Changes, [.t 17, .t 18], none⟩,
     ⟨some 20, .call F_ref35_Same, [.t 16, .t 19], none⟩,
     ⟨some 21, .mov, [.t 20], none⟩,
     ⟨some 22, .mov, [.t 0], some (21, true)⟩,
     ⟨some 23, .mov, [.t 0], some (21, true)⟩,
     ⟨some 24, .call F_tally_Changes, [.t 22, .t 23], some (21, true)⟩,
     ⟨some 25, .len false, [.t 24], some (21, true)⟩,
     ⟨some 26, .bin .eql T_int (.tmp 25) (.const (.int .i64 0)), [.t 25, .c (.val (.int .i64 0))], some (21, true)⟩,
     ⟨some 27, .pick, [.t 21, .t 26, .c (.val (.bool false))], none⟩,
     ⟨some 28, .mov, [.t 27], none⟩,
     ⟨some 29, .mov, [.t 1], some (28, true)⟩,
     ⟨some 30, .mov, [.t 0], some (28, true)⟩,
     ⟨some 31, .call F_tally_Changes, [.t 29, .t 30], some (28, true)⟩,
     ⟨some 32, .mov, [.t 0], some (28, true)⟩,
     ⟨some 33, .mov, [.t 1], some (28, true)⟩,
     ⟨some 34, .call F_tally_Changes, [.t 32, .t 33], some (28, true)⟩,
     ⟨some 35, .call F_ref35_Same, [.t 31, .t 34], some (28, true)⟩,
     ⟨some 36, .pick, [.t 28, .t 35, .c (.val (.bool false))], none⟩,
     ⟨some 37, .mov, [.t 36], none⟩,
     ⟨some 38, .call F_law35_awake, [], some (37, true)⟩,
     ⟨some 39, .pick, [.t 37, .t 38, .c (.val (.bool false))], none⟩,
     ⟨some 4, .mov, [.t 39], none⟩]
    [0, 1, 12, 14, 15, 16, 17, 18, 19, 20, 21, 22, 23, 24, 25, 26, 27, 28, 29, 30, 31, 32, 33, 34, 35, 36, 37, 38, 39] [])
  .ret)))
def r_law35_TallyChanges : List ResA := [.t 4]
theorem t_law35_TallyChanges : transl Try.prog F_law35_TallyChanges = some (bare c_law35_TallyChanges, r_law35_TallyChanges, 40) := by kernel_rfl

/- saleroom/saleroomlaw35.TallyBalances -/
def c_law35_TallyBalances_l0 : ACode :=
  (.seq (.region false []
    [⟨some 28, .bin .lss T_int (.tmp 27) (.tmp 26), [.t 27, .t 26], none⟩]
    [] [])
  (.seq (.cond (.t 28) .skip
  (.exit 2))
  (.seq (.block 3 (.seq (.region false []
    [⟨some 29, .iaddrS 6, [.t 25, .t 27], none⟩,
     ⟨some 30, .load (some 6), [.t 29], none⟩,
     ⟨some 10, .alloc [.val (.int .i64 0), .val (.int .i64 0), .val (.int .i64 0), .val (.int .i64 0), .val (.int .i64 0), .val (.int .i64 0)], [], none⟩,
     ⟨none, .store 6, [.t 10, .t 30], none⟩]
    [28, 29, 30] [])
  (.region false []
    [⟨some 31, .mov, [.t 8], none⟩,
     ⟨some 32, .mov, [.t 7], none⟩,
     ⟨some 33, .iaddrA 6 1, [.t 10, .t 32], none⟩,
     ⟨some 34, .load none, [.t 33], none⟩,
     ⟨some 35, .bin .add T_int (.tmp 31) (.tmp 34), [.t 31, .t 34], none⟩,
     ⟨some 8, .mov, [.t 35], none⟩]
    [10, 31, 32, 33, 34, 35] [10])))
  (.region false []
    [⟨some 36, .bin .add T_int (.tmp 27) (.const (.int .i64 1)), [.t 27, .c (.val (.int .i64 1))], none⟩,
     ⟨some 27, .mov, [.t 36], none⟩]
    [36] []))))
def c_law35_TallyBalances_k1 : ACode :=
  (.seq (.region true []
    [⟨some 37, .mov, [.t 7], none⟩,
     ⟨some 38, .iaddrA 6 1, [.t 5, .t 37], none⟩,
     ⟨some 39, .load none, [.t 38], none⟩,
     ⟨some 40, .mov, [.t 7], none⟩,
     ⟨some 41, .iaddrA 6 1, [.t 6, .t 40], none⟩,
     ⟨some 42, .load none, [.t 41], none⟩,
     ⟨some 43, .bin .sub T_int (.tmp 39) (.tmp 42), [.t 39, .t 42], none⟩,
     ⟨some 44, .mov, [.t 8], none⟩,
     ⟨some 45, .mov, [.t 7], none⟩,
     ⟨some 46, .iaddrA 6 1, [.t 2, .t 45], none⟩,
     ⟨some 47, .load none, [.t 46], none⟩,
     ⟨some 48, .bin .sub T_int (.tmp 44) (.tmp 47), [.t 44, .t 47], none⟩,
     ⟨some 49, .bin .neq T_int (.tmp 43) (.tmp 48), [.t 43, .t 48], none⟩,
     ⟨some 50, .mov, [.t 49], none⟩,
     ⟨some 51, .mov, [.t 7], some (50, false)⟩,
     ⟨some 52, .iaddrA 6 1, [.t 5, .t 51], some (50, false)⟩,
     ⟨some 53, .load none, [.t 52], some (50, false)⟩,
     ⟨some 54, .bin .lss T_int (.tmp 53) (.const (.int .i64 0)), [.t 53, .c (.val (.int .i64 0))], some (50, false)⟩,
     ⟨some 55, .pick, [.t 50, .c (.val (.bool true)), .t 54], none⟩,
     ⟨some 56, .mov, [.t 55], none⟩,
     ⟨some 57, .mov, [.t 7], some (56, false)⟩,
     ⟨some 58, .iaddrA 6 1, [.t 6, .t 57], some (56, false)⟩,
     ⟨some 59, .load none, [.t 58], some (56, false)⟩,
     ⟨some 60, .bin .lss T_int (.tmp 59) (.const (.int .i64 0)), [.t 59, .c (.val (.int .i64 0))], some (56, false)⟩,
     ⟨some 61, .pick, [.t 56, .c (.val (.bool true)), .t 60], none⟩,
     ⟨some 62, .mov, [.t 61], none⟩,
     ⟨some 63, .mov, [.t 7], some (62, false)⟩,
     ⟨some 64, .iaddrA 6 1, [.t 5, .t 63], some (62, false)⟩,
     ⟨some 65, .load none, [.t 64], some (62, false)⟩,
     ⟨some 66, .bin .neq T_int (.tmp 65) (.const (.int .i64 0)), [.t 65, .c (.val (.int .i64 0))], some (62, false)⟩,
     ⟨some 67, .mov, [.t 66], some (62, false)⟩,
     ⟨some 68, .mov, [.t 7], some (67, true)⟩,
     ⟨some 69, .iaddrA 6 1, [.t 6, .t 68], some (67, true)⟩,
     ⟨some 70, .load none, [.t 69], some (67, true)⟩,
     ⟨some 71, .bin .neq T_int (.tmp 70) (.const (.int .i64 0)), [.t 70, .c (.val (.int .i64 0))], some (67, true)⟩,
     ⟨some 72, .pick, [.t 67, .t 71, .c (.val (.bool false))], some (62, false)⟩,
     ⟨some 73, .pick, [.t 62, .c (.val (.bool true)), .t 72], none⟩]
    [7, 8, 25, 26, 27, 28, 37, 38, 39, 40, 41, 42, 43, 44, 45, 46, 47, 48, 49, 50, 51, 52, 53, 54, 55, 56, 57, 58, 59, 60, 61, 62, 63, 64, 65, 66, 67, 68, 69, 70, 71, 72] [])
  (.cond (.t 73) (.seq (.region false []
    [⟨some 4, .mov, [.c (.val (.bool false))], none⟩]
    [1, 2, 5, 6, 22, 73] [2, 5, 6])
  .ret)
  .skip))
def c_law35_TallyBalances_k2 : ACode :=
  (.region false []
    [⟨some 74, .bin .add T_int (.tmp 22) (.const (.int .i64 1)), [.t 22, .c (.val (.int .i64 1))], none⟩,
     ⟨some 22, .mov, [.t 74], none⟩]
    [73, 74] [])
def c_law35_TallyBalances_l3 : ACode :=
  (.seq (.region false []
    [⟨some 23, .bin .lss T_int (.tmp 22) (.const (.int .i64 6)), [.t 22, .c (.val (.int .i64 6))], none⟩]
    [] [])
  (.seq (.cond (.t 23) .skip
  (.exit 0))
  (.seq (.block 1 (.seq (.region false []
    [⟨some 24, .mov, [.t 22], none⟩,
     ⟨some 7, .mov, [.t 24], none⟩]
    [23, 24] [])
  (.seq (.region false []
    [⟨some 8, .mov, [.c (.val (.int .i64 0))], none⟩]
    [] [])
  (.seq (.seq (.region false []
    [⟨some 25, .mov, [.t 1], none⟩,
     ⟨some 26, .len false, [.t 25], none⟩,
     ⟨some 27, .mov, [.c (.val (.int .i64 0))], none⟩]
    [] [])
  (.block 2 (.loop c_law35_TallyBalances_l0)))
  c_law35_TallyBalances_k1))))
  c_law35_TallyBalances_k2)))
def c_law35_TallyBalances_k4 : ACode :=
  (.seq (.region true []
    [⟨some 75, .load (some 6), [.t 2], none⟩,
     ⟨some 76, .mov, [.t 1], none⟩,
     ⟨some 77, .call F_tally_Cleared, [.t 75, .t 76], none⟩,
     ⟨some 78, .load (some 6), [.t 5], none⟩,
     ⟨some 79, .build [.val (.int .i64 0), .val (.int .i64 0), .val (.int .i64 0), .val (.int .i64 0), .val (.int .i64 0), .val (.int .i64 0)] [], [], none⟩,
     ⟨some 80, .bin .eql T_api_Bundle (.tmp 78) (.tmp 79), [.t 78, .t 79], none⟩,
     ⟨some 81, .bin .eql T_bool (.tmp 77) (.tmp 80), [.t 77, .t 80], none⟩,
     ⟨some 82, .mov, [.t 81], none⟩,
     ⟨some 83, .call F_law35_awake, [], some (82, true)⟩,
     ⟨some 84, .pick, [.t 82, .t 83, .c (.val (.bool false))], none⟩,
     ⟨some 4, .mov, [.t 84], none⟩]
    [1, 2, 5, 6, 22, 23, 75, 76, 77, 78, 79, 80, 81, 82, 83, 84] [2, 5, 6])
  .ret)
def c_law35_TallyBalances : ACode :=
  (.seq (.region false []
    [⟨some 2, .box, [.t 0], none⟩,
     ⟨some 4, .mov, [.c (.val (.bool false))], none⟩]
    [0, 4] [])
  (.seq (.seq (.region false []
    [⟨some 11, .load (some 6), [.t 2], none⟩,
     ⟨some 12, .mov, [.t 1], none⟩,
     ⟨some 13, .call F_law35_few, [.t 11, .t 12], none⟩,
     ⟨some 14, .un .not, [.t 13], none⟩]
    [11, 12, 13] [])
  (.cond (.t 14) (.seq (.region false []
    [⟨some 15, .call F_law35_awake, [], none⟩,
     ⟨some 4, .mov, [.t 15], none⟩]
    [1, 2, 14, 15] [2])
  .ret)
  .skip))
  (.seq (.region true []
    [⟨some 16, .load (some 6), [.t 2], none⟩,
     ⟨some 17, .mov, [.t 1], none⟩,
     ⟨some 18, .call F_tally_Excess, [.t 16, .t 17], none⟩,
     ⟨some 19, .load (some 6), [.t 2], none⟩,
     ⟨some 20, .mov, [.t 1], none⟩,
     ⟨some 21, .call F_tally_Slack, [.t 19, .t 20], none⟩,
     ⟨some 5, .alloc [.val (.int .i64 0), .val (.int .i64 0), .val (.int .i64 0), .val (.int .i64 0), .val (.int .i64 0), .val (.int .i64 0)], [], none⟩,
     ⟨some 6, .alloc [.val (.int .i64 0), .val (.int .i64 0), .val (.int .i64 0), .val (.int .i64 0), .val (.int .i64 0), .val (.int .i64 0)], [], none⟩,
     ⟨none, .store 6, [.t 5, .t 18], none⟩,
     ⟨none, .store 6, [.t 6, .t 21], none⟩]
    [14, 16, 17, 18, 19, 20, 21] [])
  (.seq (.seq (.region false []
    [⟨some 22, .mov, [.c (.val (.int .i64 0))], none⟩]
    [] [])
  (.block 0 (.loop c_law35_TallyBalances_l3)))
  c_law35_TallyBalances_k4))))
def r_law35_TallyBalances : List ResA := [.t 4]
theorem t_law35_TallyBalances : transl Try.prog F_law35_TallyBalances = some (bare c_law35_TallyBalances, r_law35_TallyBalances, 85) := by kernel_rfl

/- saleroom/saleroomlaw35.TallyOrder -/
def c_law35_TallyOrder_l0 : ACode :=
  (.seq (.region false []
    [⟨some 32, .bin .lss T_int (.tmp 31) (.tmp 30), [.t 31, .t 30], none⟩]
    [] [])
  (.seq (.cond (.t 32) .skip
  (.exit 0))
  (.seq (.block 1 (.seq (.region false []
    [⟨some 33, .mov, [.t 31], none⟩,
     ⟨some 6, .mov, [.t 33], none⟩]
    [32, 33] [])
  (.region false []
    [⟨some 34, .mov, [.t 5], none⟩,
     ⟨some 35, .mov, [.t 1], none⟩,
     ⟨some 36, .mov, [.t 1], none⟩,
     ⟨some 37, .len false, [.t 36], none⟩,
     ⟨some 38, .bin .sub T_int (.tmp 37) (.const (.int .i64 1)), [.t 37, .c (.val (.int .i64 1))], none⟩,
     ⟨some 39, .mov, [.t 6], none⟩,
     ⟨some 40, .bin .sub T_int (.tmp 38) (.tmp 39), [.t 38, .t 39], none⟩,
     ⟨some 41, .iaddrS 6, [.t 35, .t 40], none⟩,
     ⟨some 42, .load (some 6), [.t 41], none⟩,
     ⟨some 43, .mkslice 6 1 [.val (.int .i64 0), .val (.int .i64 0), .val (.int .i64 0), .val (.int .i64 0), .val (.int .i64 0), .val (.int .i64 0)] [0], [.t 42], none⟩,
     ⟨some 44, .append 6 48, [.t 34, .t 43], none⟩,
     ⟨some 5, .mov, [.t 44], none⟩]
    [6, 34, 35, 36, 37, 38, 39, 40, 41, 42, 43, 44] [])))
  (.region false []
    [⟨some 45, .bin .add T_int (.tmp 31) (.const (.int .i64 1)), [.t 31, .c (.val (.int .i64 1))], none⟩,
     ⟨some 31, .mov, [.t 45], none⟩]
    [45] []))))
def c_law35_TallyOrder_l1 : ACode :=
  (.seq (.region false []
    [⟨some 54, .bin .lss T_int (.tmp 53) (.const (.int .i64 6)), [.t 53, .c (.val (.int .i64 6))], none⟩]
    [] [])
  (.seq (.cond (.t 54) .skip
  (.exit 2))
  (.seq (.block 3 (.seq (.region false []
    [⟨some 55, .mov, [.t 53], none⟩,
     ⟨some 56, .idxA 6 1 none, [.t 52, .t 53], none⟩,
     ⟨some 8, .mov, [.t 55], none⟩,
     ⟨some 9, .mov, [.t 56], none⟩]
    [54, 55, 56] [])
  (.region false []
    [⟨some 57, .mov, [.t 8], none⟩,
     ⟨some 58, .iaddrA 6 1, [.t 7, .t 57], none⟩,
     ⟨some 59, .load none, [.t 58], none⟩,
     ⟨some 60, .mov, [.t 9], none⟩,
     ⟨some 61, .bin .add T_int (.tmp 59) (.tmp 60), [.t 59, .t 60], none⟩,
     ⟨some 62, .iaddrA 6 1, [.t 7, .t 57], none⟩,
     ⟨none, .store 1, [.t 62, .t 61], none⟩]
    [8, 9, 57, 58, 59, 60, 61, 62] [])))
  (.region false []
    [⟨some 63, .bin .add T_int (.tmp 53) (.const (.int .i64 1)), [.t 53, .c (.val (.int .i64 1))], none⟩,
     ⟨some 53, .mov, [.t 63], none⟩]
    [63] []))))
def c_law35_TallyOrder_k2 : ACode :=
  (.seq (.region true []
    [⟨none, .start [64, 65, 66, 67, 68, 69, 70, 71, 72, 73, 74, 75], [], none⟩,
     ⟨some 64, .mkslice 6 0 [.val (.int .i64 0), .val (.int .i64 0), .val (.int .i64 0), .val (.int .i64 0), .val (.int .i64 0), .val (.int .i64 0)] [], [], none⟩,
     ⟨some 65, .mov, [.t 0], none⟩,
     ⟨some 67, .mov, [.t 1], none⟩,
     ⟨some 70, .load (some 6), [.t 7], none⟩,
     ⟨some 66, .append 6 48, [.t 64, .t 65], none⟩,
     ⟨some 67, .chk (.mov), [.t 1], none⟩,
     ⟨some 70, .chk (.load (some 6)), [.t 7], none⟩,
     ⟨some 68, .append 6 48, [.t 66, .t 67], none⟩,
     ⟨some 70, .chk (.load (some 6)), [.t 7], none⟩,
     ⟨some 69, .call F_tally_Sum, [.t 68], none⟩,
     ⟨some 71, .bin .eql T_api_Bundle (.tmp 69) (.tmp 70), [.t 69, .t 70], none⟩,
     ⟨some 72, .mov, [.t 71], none⟩,
     ⟨some 73, .mov, [.t 5], some (72, true)⟩,
     ⟨some 74, .call F_tally_Sum, [.t 73], some (72, true)⟩,
     ⟨some 75, .load (some 6), [.t 7], some (72, true)⟩,
     ⟨some 76, .bin .eql T_api_Bundle (.tmp 74) (.tmp 75), [.t 74, .t 75], some (72, true)⟩,
     ⟨some 77, .pick, [.t 72, .t 76, .c (.val (.bool false))], none⟩,
     ⟨some 78, .mov, [.t 77], none⟩,
     ⟨some 79, .call F_law35_awake, [], some (78, true)⟩,
     ⟨some 80, .pick, [.t 78, .t 79, .c (.val (.bool false))], none⟩,
     ⟨some 4, .mov, [.t 80], none⟩]
    [0, 1, 5, 7, 52, 53, 54, 64, 65, 67, 70, 66, 68, 69, 71, 72, 73, 74, 75, 76, 77, 78, 79, 80] [7])
  .ret)
def c_law35_TallyOrder_k3 : ACode :=
  (.seq (.region false []
    [⟨some 46, .mov, [.t 5], none⟩,
     ⟨some 47, .mov, [.t 0], none⟩,
     ⟨some 48, .append 6 48, [.t 46, .t 47], none⟩,
     ⟨some 5, .mov, [.t 48], none⟩]
    [30, 31, 32, 46, 47, 48] [])
  (.seq (.region false []
    [⟨some 49, .mov, [.t 0], none⟩,
     ⟨some 50, .call F_tally_Sum, [.t 49], none⟩,
     ⟨some 7, .alloc [.val (.int .i64 0), .val (.int .i64 0), .val (.int .i64 0), .val (.int .i64 0), .val (.int .i64 0), .val (.int .i64 0)], [], none⟩,
     ⟨none, .store 6, [.t 7, .t 50], none⟩]
    [49, 50] [])
  (.seq (.seq (.region false []
    [⟨some 51, .mov, [.t 1], none⟩,
     ⟨some 52, .call F_tally_Sum, [.t 51], none⟩,
     ⟨some 53, .mov, [.c (.val (.int .i64 0))], none⟩]
    [51] [])
  (.block 2 (.loop c_law35_TallyOrder_l1)))
  c_law35_TallyOrder_k2)))
def c_law35_TallyOrder : ACode :=
  (.seq (.region false []
    [⟨some 4, .mov, [.c (.val (.bool false))], none⟩]
    [4] [])
  (.seq (.seq (.region false []
    [⟨some 10, .mov, [.t 0], none⟩,
     ⟨some 11, .call F_ref35_Moderate, [.t 10], none⟩,
     ⟨some 12, .un .not, [.t 11], none⟩,
     ⟨some 13, .mov, [.t 12], none⟩,
     ⟨some 14, .mov, [.t 1], some (13, false)⟩,
     ⟨some 15, .call F_ref35_Moderate, [.t 14], some (13, false)⟩,
     ⟨some 16, .un .not, [.t 15], some (13, false)⟩,
     ⟨some 17, .pick, [.t 13, .c (.val (.bool true)), .t 16], none⟩,
     ⟨some 18, .mov, [.t 17], none⟩,
     ⟨some 19, .mov, [.t 0], some (18, false)⟩,
     ⟨some 20, .len false, [.t 19], some (18, false)⟩,
     ⟨some 21, .bin .gtr T_int (.tmp 20) (.const (.int .i64 500)), [.t 20, .c (.val (.int .i64 500))], some (18, false)⟩,
     ⟨some 22, .pick, [.t 18, .c (.val (.bool true)), .t 21], none⟩,
     ⟨some 23, .mov, [.t 22], none⟩,
     ⟨some 24, .mov, [.t 1], some (23, false)⟩,
     ⟨some 25, .len false, [.t 24], some (23, false)⟩,
     ⟨some 26, .bin .gtr T_int (.tmp 25) (.const (.int .i64 500)), [.t 25, .c (.val (.int .i64 500))], some (23, false)⟩,
     ⟨some 27, .pick, [.t 23, .c (.val (.bool true)), .t 26], none⟩]
    [10, 11, 12, 13, 14, 15, 16, 17, 18, 19, 20, 21, 22, 23, 24, 25, 26] [])
  (.cond (.t 27) (.seq (.region false []
    [⟨some 28, .call F_law35_awake, [], none⟩,
     ⟨some 4, .mov, [.t 28], none⟩]
    [0, 1, 27, 28] [])
  .ret)
  .skip))
  (.seq (.region false []
    [⟨some 5, .mov, [.c (.list 0 .full [])], none⟩]
    [27] [])
  (.seq (.seq (.region false []
    [⟨some 29, .mov, [.t 1], none⟩,
     ⟨some 30, .len false, [.t 29], none⟩,
     ⟨some 31, .mov, [.c (.val (.int .i64 0))], none⟩]
    [29] [])
  (.block 0 (.loop c_law35_TallyOrder_l0)))
  c_law35_TallyOrder_k3))))
def r_law35_TallyOrder : List ResA := [.t 4]
theorem t_law35_TallyOrder : transl Try.prog F_law35_TallyOrder = some (bare c_law35_TallyOrder, r_law35_TallyOrder, 81) := by kernel_rfl

/- saleroom/saleroomlaw35.TallyKeeps -/
def c_law35_TallyKeeps_l0 : ACode :=
  (.seq (.region false []
    [⟨some 42, .bin .lss T_int (.tmp 41) (.tmp 40), [.t 41, .t 40], none⟩]
    [] [])
  (.seq (.cond (.t 42) .skip
  (.exit 0))
  (.seq (.block 1 (.seq (.region false []
    [⟨some 43, .iaddrS 1, [.t 39, .t 41], none⟩,
     ⟨some 44, .load none, [.t 43], none⟩,
     ⟨some 7, .mov, [.t 44], none⟩]
    [42, 43, 44] [])
  (.seq (.seq (.region true []
    [⟨some 45, .mov, [.t 7], none⟩,
     ⟨some 46, .bin .lss T_int (.tmp 45) (.const (.int .i64 0)), [.t 45, .c (.val (.int .i64 0))], none⟩,
     ⟨some 47, .mov, [.t 46], none⟩,
     ⟨some 48, .mov, [.t 7], some (47, false)⟩,
     ⟨some 49, .mov, [.t 5], some (47, false)⟩,
     ⟨some 50, .len false, [.t 49], some (47, false)⟩,
     ⟨some 51, .bin .geq T_int (.tmp 48) (.tmp 50), [.t 48, .t 50], some (47, false)⟩,
     ⟨some 52, .pick, [.t 47, .c (.val (.bool true)), .t 51], none⟩,
     ⟨some 53, .mov, [.t 52], none⟩,
     ⟨some 54, .mov, [.t 5], some (53, false)⟩,
     ⟨some 55, .mov, [.t 7], some (53, false)⟩,
     ⟨some 56, .iaddrS 6, [.t 54, .t 55], some (53, false)⟩,
     ⟨some 57, .load (some 6), [.t 56], some (53, false)⟩,
     ⟨some 58, .mov, [.t 1], some (53, false)⟩,
     ⟨some 59, .mov, [.t 7], some (53, false)⟩,
     ⟨some 60, .call F_ref35_At, [.t 58, .t 59], some (53, false)⟩,
     ⟨some 61, .bin .eql T_api_Bundle (.tmp 57) (.tmp 60), [.t 57, .t 60], some (53, false)⟩,
     ⟨some 62, .pick, [.t 53, .c (.val (.bool true)), .t 61], none⟩]
    [45, 46, 47, 48, 49, 50, 51, 52, 53, 54, 55, 56, 57, 58, 59, 60, 61] [])
  (.cond (.t 62) (.seq (.region false []
    [⟨some 4, .mov, [.c (.val (.bool false))], none⟩]
    [1, 5, 39, 40, 41, 7, 62] [33])
  .ret)
  .skip))
  (.region false []
    [⟨some 63, .mov, [.t 5], none⟩,
     ⟨some 64, .mov, [.t 7], none⟩,
     ⟨some 65, .mov, [.t 1], none⟩,
     ⟨some 66, .mov, [.t 7], none⟩,
     ⟨some 67, .call F_ref35_At, [.t 65, .t 66], none⟩,
     ⟨some 68, .iaddrS 6, [.t 63, .t 64], none⟩,
     ⟨none, .store 6, [.t 68, .t 67], none⟩]
    [7, 62, 63, 64, 65, 66, 67, 68] []))))
  (.region false []
    [⟨some 69, .bin .add T_int (.tmp 41) (.const (.int .i64 1)), [.t 41, .c (.val (.int .i64 1))], none⟩,
     ⟨some 41, .mov, [.t 69], none⟩]
    [69] []))))
def c_law35_TallyKeeps_l1 : ACode :=
  (.seq (.region false []
    [⟨some 73, .bin .lss T_int (.tmp 72) (.tmp 71), [.t 72, .t 71], none⟩]
    [] [])
  (.seq (.cond (.t 73) .skip
  (.exit 2))
  (.seq (.block 3 (.seq (.region false []
    [⟨some 74, .mov, [.t 72], none⟩,
     ⟨some 8, .mov, [.t 74], none⟩]
    [73, 74] [])
  (.seq (.region true []
    [⟨some 75, .mov, [.t 5], none⟩,
     ⟨some 76, .mov, [.t 8], none⟩,
     ⟨some 77, .iaddrS 6, [.t 75, .t 76], none⟩,
     ⟨some 78, .load (some 6), [.t 77], none⟩,
     ⟨some 79, .mov, [.t 1], none⟩,
     ⟨some 80, .mov, [.t 8], none⟩,
     ⟨some 81, .call F_ref35_At, [.t 79, .t 80], none⟩,
     ⟨some 82, .bin .neq T_api_Bundle (.tmp 78) (.tmp 81), [.t 78, .t 81], none⟩]
    [8, 75, 76, 77, 78, 79, 80, 81] [])
  (.cond (.t 82) (.seq (.region false []
    [⟨some 4, .mov, [.c (.val (.bool false))], none⟩]
    [1, 5, 71, 72, 82] [33])
  .ret)
  .skip))))
  (.region false []
    [⟨some 83, .bin .add T_int (.tmp 72) (.const (.int .i64 1)), [.t 72, .c (.val (.int .i64 1))], none⟩,
     ⟨some 72, .mov, [.t 83], none⟩]
    [82, 83] []))))
def c_law35_TallyKeeps_k2 : ACode :=
  (.seq (.region false []
    [⟨some 84, .mov, [.t 5], none⟩,
     ⟨some 85, .call F_tally_Sum, [.t 84], none⟩,
     ⟨some 86, .mov, [.t 1], none⟩,
     ⟨some 87, .call F_tally_Sum, [.t 86], none⟩,
     ⟨some 88, .bin .eql T_api_Bundle (.tmp 85) (.tmp 87), [.t 85, .t 87], none⟩,
     ⟨some 89, .mov, [.t 88], none⟩,
     ⟨some 90, .call F_law35_awake, [], some (89, true)⟩,
     ⟨some 91, .pick, [.t 89, .t 90, .c (.val (.bool false))], none⟩,
     ⟨some 4, .mov, [.t 91], none⟩]
    [1, 5, 71, 72, 73, 84, 85, 86, 87, 88, 89, 90, 91] [33])
  .ret)
def c_law35_TallyKeeps_k3 : ACode :=
  (.seq (.seq (.region false []
    [⟨some 70, .mov, [.t 5], none⟩,
     ⟨some 71, .len false, [.t 70], none⟩,
     ⟨some 72, .mov, [.c (.val (.int .i64 0))], none⟩]
    [39, 40, 41, 42, 70] [])
  (.block 2 (.loop c_law35_TallyKeeps_l1)))
  c_law35_TallyKeeps_k2)
def c_law35_TallyKeeps : ACode :=
  (.seq (.region false []
    [⟨some 4, .mov, [.c (.val (.bool false))], none⟩]
    [4] [])
  (.seq (.seq (.region false []
    [⟨some 9, .mov, [.t 0], none⟩,
     ⟨some 10, .call F_ref35_Moderate, [.t 9], none⟩,
     ⟨some 11, .un .not, [.t 10], none⟩,
     ⟨some 12, .mov, [.t 11], none⟩,
     ⟨some 13, .mov, [.t 1], some (12, false)⟩,
     ⟨some 14, .call F_ref35_Moderate, [.t 13], some (12, false)⟩,
     ⟨some 15, .un .not, [.t 14], some (12, false)⟩,
     ⟨some 16, .pick, [.t 12, .c (.val (.bool true)), .t 15], none⟩,
     ⟨some 17, .mov, [.t 16], none⟩,
     ⟨some 18, .mov, [.t 0], some (17, false)⟩,
     ⟨some 19, .len false, [.t 18], some (17, false)⟩,
     ⟨some 20, .bin .gtr T_int (.tmp 19) (.const (.int .i64 500)), [.t 19, .c (.val (.int .i64 500))], some (17, false)⟩,
     ⟨some 21, .pick, [.t 17, .c (.val (.bool true)), .t 20], none⟩,
     ⟨some 22, .mov, [.t 21], none⟩,
     ⟨some 23, .mov, [.t 1], some (22, false)⟩,
     ⟨some 24, .len false, [.t 23], some (22, false)⟩,
     ⟨some 25, .bin .gtr T_int (.tmp 24) (.const (.int .i64 500)), [.t 24, .c (.val (.int .i64 500))], some (22, false)⟩,
     ⟨some 26, .pick, [.t 22, .c (.val (.bool true)), .t 25], none⟩]
    [9, 10, 11, 12, 13, 14, 15, 16, 17, 18, 19, 20, 21, 22, 23, 24, 25] [])
  (.cond (.t 26) (.seq (.region false []
    [⟨some 27, .call F_law35_awake, [], none⟩,
     ⟨some 4, .mov, [.t 27], none⟩]
    [0, 1, 26, 27] [])
  .ret)
  .skip))
  (.seq (.region false []
    [⟨some 28, .mov, [.t 0], none⟩,
     ⟨some 29, .len false, [.t 28], none⟩,
     ⟨some 30, .mov, [.t 1], none⟩,
     ⟨some 31, .len false, [.t 30], none⟩,
     ⟨some 32, .mm .max #[T_int, T_int] T_int, [.t 29, .t 31], none⟩,
     ⟨some 33, .mk 6 48 [.val (.int .i64 0), .val (.int .i64 0), .val (.int .i64 0), .val (.int .i64 0), .val (.int .i64 0), .val (.int .i64 0)], [.t 32, .t 32], none⟩,
     ⟨some 5, .mov, [.t 33], none⟩]
    [26, 28, 29, 30, 31, 32, 33] [])
  (.seq (.region false []
    [⟨some 34, .mov, [.t 5], none⟩,
     ⟨some 35, .mov, [.t 0], none⟩,
     ⟨some 36, .copy 6, [.t 34, .t 35], none⟩]
    [34, 35, 36] [])
  (.seq (.seq (.region false []
    [⟨some 37, .mov, [.t 0], none⟩,
     ⟨some 38, .mov, [.t 1], none⟩,
     ⟨some 39, .call F_tally_Changes, [.t 37, .t 38], none⟩,
     ⟨some 40, .len false, [.t 39], none⟩,
     ⟨some 41, .mov, [.c (.val (.int .i64 0))], none⟩]
    [0, 37, 38] [])
  (.block 0 (.loop c_law35_TallyKeeps_l0)))
  c_law35_TallyKeeps_k3)))))
def r_law35_TallyKeeps : List ResA := [.t 4]
theorem t_law35_TallyKeeps : transl Try.prog F_law35_TallyKeeps = some (bare c_law35_TallyKeeps, r_law35_TallyKeeps, 92) := by kernel_rfl

/- saleroom/saleroomlaw35.few -/
def c_law35_few : ACode :=
  (.seq (.region false []
    [⟨some 2, .box, [.t 0], none⟩,
     ⟨some 4, .mov, [.c (.val (.bool false))], none⟩]
    [0, 4] [])
  (.seq (.region false []
    [⟨some 5, .mov, [.t 1], none⟩,
     ⟨some 6, .call F_ref35_Moderate, [.t 5], none⟩,
     ⟨some 7, .mov, [.t 6], none⟩,
     ⟨some 8, .load (some 6), [.t 2], some (7, true)⟩,
     ⟨some 9, .mkslice 6 1 [.val (.int .i64 0), .val (.int .i64 0), .val (.int .i64 0), .val (.int .i64 0), .val (.int .i64 0), .val (.int .i64 0)] [0], [.t 8], some (7, true)⟩,
     ⟨some 10, .call F_ref35_Moderate, [.t 9], some (7, true)⟩,
     ⟨some 11, .pick, [.t 7, .t 10, .c (.val (.bool false))], none⟩,
     ⟨some 4, .mov, [.t 11], none⟩]
    [1, 2, 5, 6, 7, 8, 9, 10, 11] [2])
  .ret))
def r_law35_few : List ResA := [.t 4]
theorem t_law35_few : transl Try.prog F_law35_few = some (bare c_law35_few, r_law35_few, 12) := by kernel_rfl

/- saleroom/saleroomlaw35.awake -/
def c_law35_awake : ACode :=
  (.seq (.region false []
    [⟨some 0, .mov, [.c (.val (.bool false))], none⟩]
    [0] [])
  (.seq (.region false []
    [⟨some 2, .build [.val (.int .i64 0), .val (.int .i64 0), .val (.int .i64 0), .val (.int .i64 0), .val (.int .i64 0), .val (.int .i64 0)] [(0, 1)], [.c (.val (.int .i64 1))], none⟩,
     ⟨some 3, .build [.val (.int .i64 0), .val (.int .i64 0), .val (.int .i64 0), .val (.int .i64 0), .val (.int .i64 0), .val (.int .i64 0)] [(0, 1), (1, 1)], [.c (.val (.int .i64 1)), .c (.val (.int .i64 2))], none⟩,
     ⟨some 4, .mkslice 6 2 [.val (.int .i64 0), .val (.int .i64 0), .val (.int .i64 0), .val (.int .i64 0), .val (.int .i64 0), .val (.int .i64 0)] [0, 1], [.t 2, .t 3], none⟩,
     ⟨some 1, .mov, [.t 4], none⟩]
    [2, 3, 4] [])
  (.seq (.region false []
    [⟨some 5, .mov, [.t 1], none⟩,
     ⟨some 6, .call F_tally_Sum, [.t 5], none⟩,
     ⟨some 7, .build [.val (.int .i64 0), .val (.int .i64 0), .val (.int .i64 0), .val (.int .i64 0), .val (.int .i64 0), .val (.int .i64 0)] [(0, 1), (1, 1)], [.c (.val (.int .i64 2)), .c (.val (.int .i64 2))], none⟩,
     ⟨some 8, .bin .eql T_api_Bundle (.tmp 6) (.tmp 7), [.t 6, .t 7], none⟩,
     ⟨some 9, .mov, [.t 8], none⟩,
     ⟨some 10, .build [.val (.int .i64 0), .val (.int .i64 0), .val (.int .i64 0), .val (.int .i64 0), .val (.int .i64 0), .val (.int .i64 0)] [(0, 1), (1, 1)], [.c (.val (.int .i64 1)), .c (.val (.int .i64 2))], some (9, true)⟩,
     ⟨some 11, .mov, [.t 1], some (9, true)⟩,
     ⟨some 12, .call F_tally_Excess, [.t 10, .t 11], some (9, true)⟩,
     ⟨some 13, .build [.val (.int .i64 0), .val (.int .i64 0), .val (.int .i64 0), .val (.int .i64 0), .val (.int .i64 0), .val (.int .i64 0)] [(0, 1)], [.c (.val (.int .i64 1))], some (9, true)⟩,
     ⟨some 14, .bin .eql T_api_Bundle (.tmp 12) (.tmp 13), [.t 12, .t 13], some (9, true)⟩,
     ⟨some 15, .pick, [.t 9, .t 14, .c (.val (.bool false))], none⟩,
     ⟨some 16, .mov, [.t 15], none⟩,
     ⟨some 17, .build [.val (.int .i64 0), .val (.int .i64 0), .val (.int .i64 0), .val (.int .i64 0), .val (.int .i64 0), .val (.int .i64 0)] [(0, 1), (1, 1)], [.c (.val (.int .i64 3)), .c (.val (.int .i64 3))], some (16, true)⟩,
     ⟨some 18, .mov, [.t 1], some (16, true)⟩,
     ⟨some 19, .call F_tally_Slack, [.t 17, .t 18], some (16, true)⟩,
     ⟨some 20, .build [.val (.int .i64 0), .val (.int .i64 0), .val (.int .i64 0), .val (.int .i64 0), .val (.int .i64 0), .val (.int .i64 0)] [(0, 1), (1, 1)], [.c (.val (.int .i64 1)), .c (.val (.int .i64 1))], some (16, true)⟩,
     ⟨some 21, .bin .eql T_api_Bundle (.tmp 19) (.tmp 20), [.t 19, .t 20], some (16, true)⟩,
     ⟨some 22, .pick, [.t 16, .t 21, .c (.val (.bool false))], none⟩,
     ⟨some 23, .mov, [.t 22], none⟩,
     ⟨some 24, .build [.val (.int .i64 0), .val (.int .i64 0), .val (.int .i64 0), .val (.int .i64 0), .val (.int .i64 0), .val (.int .i64 0)] [(0, 1), (1, 1)], [.c (.val (.int .i64 2)), .c (.val (.int .i64 2))], some (23, true)⟩,
     ⟨some 25, .mov, [.t 1], some (23, true)⟩,
     ⟨some 26, .call F_tally_Cleared, [.t 24, .t 25], some (23, true)⟩,
     ⟨some 27, .pick, [.t 23, .t 26, .c (.val (.bool false))], none⟩,
     ⟨some 28, .mov, [.t 27], none⟩,
     ⟨some 29, .build [.val (.int .i64 0), .val (.int .i64 0), .val (.int .i64 0), .val (.int .i64 0), .val (.int .i64 0), .val (.int .i64 0)] [(0, 1), (1, 1)], [.c (.val (.int .i64 1)), .c (.val (.int .i64 2))], some (28, true)⟩,
     ⟨some 30, .mov, [.t 1], some (28, true)⟩,
     ⟨some 31, .call F_tally_Cleared, [.t 29, .t 30], some (28, true)⟩,
     ⟨some 32, .un .not, [.t 31], some (28, true)⟩,
     ⟨some 33, .pick, [.t 28, .t 32, .c (.val (.bool false))], none⟩,
     ⟨some 34, .mov, [.t 33], none⟩,
     ⟨some 35, .build [.val (.int .i64 0), .val (.int .i64 0), .val (.int .i64 0), .val (.int .i64 0), .val (.int .i64 0), .val (.int .i64 0)] [(0, 1)], [.c (.val (.int .i64 1))], some (34, true)⟩,
     ⟨some 36, .build [.val (.int .i64 0), .val (.int .i64 0), .val (.int .i64 0), .val (.int .i64 0), .val (.int .i64 0), .val (.int .i64 0)] [(0, 1), (1, 1)], [.c (.val (.int .i64 0)), .c (.val (.int .i64 1))], some (34, true)⟩,
     ⟨some 37, .mkslice 6 2 [.val (.int .i64 0), .val (.int .i64 0), .val (.int .i64 0), .val (.int .i64 0), .val (.int .i64 0), .val (.int .i64 0)] [0, 1], [.t 35, .t 36], some (34, true)⟩,
     ⟨some 38, .build [.val (.int .i64 0), .val (.int .i64 0), .val (.int .i64 0), .val (.int .i64 0), .val (.int .i64 0), .val (.int .i64 0)] [(0, 1)], [.c (.val (.int .i64 1))], some (34, true)⟩,
     ⟨some 39, .mkslice 6 1 [.val (.int .i64 0), .val (.int .i64 0), .val (.int .i64 0), .val (.int .i64 0), .val (.int .i64 0), .val (.int .i64 0)] [0], [.t 38], some (34, true)⟩,
     ⟨some 40, .call F_tally_Changes, [.t 37, .t 39], some (34, true)⟩,
     ⟨some 41, .mkslice 1 1 [.val (.int .i64 0)] [0], [.c (.val (.int .i64 1))], some (34, true)⟩,
     ⟨some 42, .call F_ref35_Same, [.t 40, .t 41], some (34, true)⟩,
     ⟨some 43, .pick, [.t 34, .t 42, .c (.val (.bool false))], none⟩,
     ⟨some 0, .mov, [.t 43], none⟩]
    [1, 5, 6, 7, 8, 9, 10, 11, 12, 13, 14, 15, 16, 17, 18, 19, 20, 21, 22, 23, 24, 25, 26, 27, 28, 29, 30, 31, 32, 33, 34, 35, 36, 37, 38, 39, 40, 41, 42, 43] [])
  .ret)))
def r_law35_awake : List ResA := [.t 0]
theorem t_law35_awake : transl Try.prog F_law35_awake = some (bare c_law35_awake, r_law35_awake, 44) := by kernel_rfl

/- saleroom/tally.Sum -/
def c_tally_Sum : ACode :=
  (.seq (.region false []
    [⟨some 2, .alloc [.val (.int .i64 0), .val (.int .i64 0), .val (.int .i64 0), .val (.int .i64 0), .val (.int .i64 0), .val (.int .i64 0)], [], none⟩]
    [] [])
  (.seq (.region false []
    [⟨some 3, .mov, [.t 0], none⟩,
     ⟨some 4, .call F_tally_total, [.t 3], none⟩,
     ⟨none, .store 6, [.t 2, .t 4], none⟩]
    [0, 3, 4] [])
  .ret))
def r_tally_Sum : List ResA := [.cell 2 (some 6)]
theorem t_tally_Sum : transl Try.prog F_tally_Sum = some (bare c_tally_Sum, r_tally_Sum, 5) := by kernel_rfl

/- saleroom/saleroomref35.Sum -/
def c_ref35_Sum_l0 : ACode :=
  (.seq (.seq (.region false []
    [⟨some 12, .mov, [.t 5], none⟩,
     ⟨some 13, .bin .lss T_int (.tmp 12) (.const (.int .i64 6)), [.t 12, .c (.val (.int .i64 6))], none⟩]
    [12] [])
  (.cond (.t 13) .skip
  (.exit 2)))
  (.seq (.block 3 (.region true []
    [⟨some 16, .mov, [.t 5], none⟩,
     ⟨some 17, .mov, [.t 5], none⟩,
     ⟨some 18, .iaddrA 6 1, [.t 3, .t 17], none⟩,
     ⟨some 19, .load none, [.t 18], none⟩,
     ⟨some 20, .mov, [.t 0], none⟩,
     ⟨some 21, .mov, [.t 4], none⟩,
     ⟨some 22, .mov, [.t 5], none⟩,
     ⟨some 23, .iaddrS 6, [.t 20, .t 21], none⟩,
     ⟨some 24, .iaddrA 6 1, [.t 23, .t 22], none⟩,
     ⟨some 25, .load none, [.t 24], none⟩,
     ⟨some 26, .bin .add T_int (.tmp 19) (.tmp 25), [.t 19, .t 25], none⟩,
     ⟨some 27, .iaddrA 6 1, [.t 3, .t 16], none⟩,
     ⟨none, .store 1, [.t 27, .t 26], none⟩]
    [13, 16, 17, 18, 19, 20, 21, 22, 23, 24, 25, 26, 27] []))
  (.region false []
    [⟨some 14, .mov, [.t 5], none⟩,
     ⟨some 15, .bin .add T_int (.tmp 14) (.const (.int .i64 1)), [.t 14, .c (.val (.int .i64 1))], none⟩,
     ⟨some 5, .mov, [.t 15], none⟩]
    [14, 15] [])))
def c_ref35_Sum_k1 : ACode :=
  (.region false []
    [⟨some 10, .mov, [.t 4], none⟩,
     ⟨some 11, .bin .add T_int (.tmp 10) (.const (.int .i64 1)), [.t 10, .c (.val (.int .i64 1))], none⟩,
     ⟨some 4, .mov, [.t 11], none⟩]
    [5, 13, 10, 11] [])
def c_ref35_Sum_l2 : ACode :=
  (.seq (.seq (.region false []
    [⟨some 6, .mov, [.t 4], none⟩,
     ⟨some 7, .mov, [.t 0], none⟩,
     ⟨some 8, .len false, [.t 7], none⟩,
     ⟨some 9, .bin .lss T_int (.tmp 6) (.tmp 8), [.t 6, .t 8], none⟩]
    [6, 7, 8] [])
  (.cond (.t 9) .skip
  (.exit 0)))
  (.seq (.block 1 (.seq (.region false []
    [⟨some 5, .mov, [.c (.val (.int .i64 0))], none⟩]
    [9] [])
  (.block 2 (.loop c_ref35_Sum_l0))))
  c_ref35_Sum_k1))
def c_ref35_Sum_k3 : ACode :=
  (.seq (.region false []
    [⟨some 28, .load (some 6), [.t 3], none⟩,
     ⟨none, .store 6, [.t 2, .t 28], none⟩]
    [0, 3, 4, 9, 28] [3])
  .ret)
def c_ref35_Sum : ACode :=
  (.seq (.region false []
    [⟨some 2, .alloc [.val (.int .i64 0), .val (.int .i64 0), .val (.int .i64 0), .val (.int .i64 0), .val (.int .i64 0), .val (.int .i64 0)], [], none⟩]
    [] [])
  (.seq (.region false []
    [⟨some 3, .alloc [.val (.int .i64 0), .val (.int .i64 0), .val (.int .i64 0), .val (.int .i64 0), .val (.int .i64 0), .val (.int .i64 0)], [], none⟩]
    [] [])
  (.seq (.seq (.region false []
    [⟨some 4, .mov, [.c (.val (.int .i64 0))], none⟩]
    [] [])
  (.block 0 (.loop c_ref35_Sum_l2)))
  c_ref35_Sum_k3)))
def r_ref35_Sum : List ResA := [.cell 2 (some 6)]
theorem t_ref35_Sum : transl Try.prog F_ref35_Sum = some (bare c_ref35_Sum, r_ref35_Sum, 29) := by kernel_rfl

/- saleroom/tally.Excess -/
def c_tally_Excess : ACode :=
  (.seq (.region false []
    [⟨some 2, .box, [.t 0], none⟩,
     ⟨some 4, .alloc [.val (.int .i64 0), .val (.int .i64 0), .val (.int .i64 0), .val (.int .i64 0), .val (.int .i64 0), .val (.int .i64 0)], [], none⟩]
    [0] [])
  (.seq (.region true []
    [⟨some 5, .mov, [.t 1], none⟩,
     ⟨some 6, .call F_tally_total, [.t 5], none⟩,
     ⟨some 7, .load (some 6), [.t 2], none⟩,
     ⟨some 8, .call F_tally_over, [.t 6, .t 7], none⟩,
     ⟨none, .store 6, [.t 4, .t 8], none⟩]
    [1, 2, 5, 6, 7, 8] [2])
  .ret))
def r_tally_Excess : List ResA := [.cell 4 (some 6)]
theorem t_tally_Excess : transl Try.prog F_tally_Excess = some (bare c_tally_Excess, r_tally_Excess, 9) := by kernel_rfl

/- saleroom/saleroomref35.Excess -/
def c_ref35_Excess_l0 : ACode :=
  (.seq (.seq (.region false []
    [⟨some 9, .mov, [.t 6], none⟩,
     ⟨some 10, .bin .lss T_int (.tmp 9) (.const (.int .i64 6)), [.t 9, .c (.val (.int .i64 6))], none⟩]
    [9] [])
  (.cond (.t 10) .skip
  (.exit 0)))
  (.seq (.block 1 (.region true []
    [⟨some 13, .mov, [.t 6], none⟩,
     ⟨some 14, .mov, [.t 6], none⟩,
     ⟨some 15, .iaddrA 6 1, [.t 5, .t 14], none⟩,
     ⟨some 16, .load none, [.t 15], none⟩,
     ⟨some 17, .mov, [.t 6], none⟩,
     ⟨some 18, .iaddrA 6 1, [.t 2, .t 17], none⟩,
     ⟨some 19, .load none, [.t 18], none⟩,
     ⟨some 20, .bin .sub T_int (.tmp 16) (.tmp 19), [.t 16, .t 19], none⟩,
     ⟨some 21, .mm .max #[T_int, T_int] T_int, [.t 20, .c (.val (.int .i64 0))], none⟩,
     ⟨some 22, .iaddrA 6 1, [.t 5, .t 13], none⟩,
     ⟨none, .store 1, [.t 22, .t 21], none⟩]
    [10, 13, 14, 15, 16, 17, 18, 19, 20, 21, 22] []))
  (.region false []
    [⟨some 11, .mov, [.t 6], none⟩,
     ⟨some 12, .bin .add T_int (.tmp 11) (.const (.int .i64 1)), [.t 11, .c (.val (.int .i64 1))], none⟩,
     ⟨some 6, .mov, [.t 12], none⟩]
    [11, 12] [])))
def c_ref35_Excess_k1 : ACode :=
  (.seq (.region false []
    [⟨some 23, .load (some 6), [.t 5], none⟩,
     ⟨none, .store 6, [.t 4, .t 23], none⟩]
    [2, 5, 6, 10, 23] [2, 5])
  .ret)
def c_ref35_Excess : ACode :=
  (.seq (.region false []
    [⟨some 2, .box, [.t 0], none⟩,
     ⟨some 4, .alloc [.val (.int .i64 0), .val (.int .i64 0), .val (.int .i64 0), .val (.int .i64 0), .val (.int .i64 0), .val (.int .i64 0)], [], none⟩]
    [0] [])
  (.seq (.region false []
    [⟨some 7, .mov, [.t 1], none⟩,
     ⟨some 8, .call F_ref35_Sum, [.t 7], none⟩,
     ⟨some 5, .alloc [.val (.int .i64 0), .val (.int .i64 0), .val (.int .i64 0), .val (.int .i64 0), .val (.int .i64 0), .val (.int .i64 0)], [], none⟩,
     ⟨none, .store 6, [.t 5, .t 8], none⟩]
    [1, 7, 8] [])
  (.seq (.seq (.region false []
    [⟨some 6, .mov, [.c (.val (.int .i64 0))], none⟩]
    [] [])
  (.block 0 (.loop c_ref35_Excess_l0)))
  c_ref35_Excess_k1)))
def r_ref35_Excess : List ResA := [.cell 4 (some 6)]
theorem t_ref35_Excess : transl Try.prog F_ref35_Excess = some (bare c_ref35_Excess, r_ref35_Excess, 24) := by kernel_rfl

/- saleroom/tally.Slack -/
def c_tally_Slack : ACode :=
  (.seq (.region false []
    [⟨some 2, .box, [.t 0], none⟩,
     ⟨some 4, .alloc [.val (.int .i64 0), .val (.int .i64 0), .val (.int .i64 0), .val (.int .i64 0), .val (.int .i64 0), .val (.int .i64 0)], [], none⟩]
    [0] [])
  (.seq (.region true []
    [⟨some 5, .load (some 6), [.t 2], none⟩,
     ⟨some 6, .mov, [.t 1], none⟩,
     ⟨some 7, .call F_tally_total, [.t 6], none⟩,
     ⟨some 8, .call F_tally_over, [.t 5, .t 7], none⟩,
     ⟨none, .store 6, [.t 4, .t 8], none⟩]
    [1, 2, 5, 6, 7, 8] [2])
  .ret))
def r_tally_Slack : List ResA := [.cell 4 (some 6)]
theorem t_tally_Slack : transl Try.prog F_tally_Slack = some (bare c_tally_Slack, r_tally_Slack, 9) := by kernel_rfl

/- saleroom/saleroomref35.Slack -/
def c_ref35_Slack_l0 : ACode :=
  (.seq (.seq (.region false []
    [⟨some 9, .mov, [.t 6], none⟩,
     ⟨some 10, .bin .lss T_int (.tmp 9) (.const (.int .i64 6)), [.t 9, .c (.val (.int .i64 6))], none⟩]
    [9] [])
  (.cond (.t 10) .skip
  (.exit 0)))
  (.seq (.block 1 (.region true []
    [⟨some 13, .mov, [.t 6], none⟩,
     ⟨some 14, .mov, [.t 6], none⟩,
     ⟨some 15, .iaddrA 6 1, [.t 2, .t 14], none⟩,
     ⟨some 16, .load none, [.t 15], none⟩,
     ⟨some 17, .mov, [.t 6], none⟩,
     ⟨some 18, .iaddrA 6 1, [.t 5, .t 17], none⟩,
     ⟨some 19, .load none, [.t 18], none⟩,
     ⟨some 20, .bin .sub T_int (.tmp 16) (.tmp 19), [.t 16, .t 19], none⟩,
     ⟨some 21, .mm .max #[T_int, T_int] T_int, [.t 20, .c (.val (.int .i64 0))], none⟩,
     ⟨some 22, .iaddrA 6 1, [.t 5, .t 13], none⟩,
     ⟨none, .store 1, [.t 22, .t 21], none⟩]
    [10, 13, 14, 15, 16, 17, 18, 19, 20, 21, 22] []))
  (.region false []
    [⟨some 11, .mov, [.t 6], none⟩,
     ⟨some 12, .bin .add T_int (.tmp 11) (.const (.int .i64 1)), [.t 11, .c (.val (.int .i64 1))], none⟩,
     ⟨some 6, .mov, [.t 12], none⟩]
    [11, 12] [])))
def c_ref35_Slack_k1 : ACode :=
  (.seq (.region false []
    [⟨some 23, .load (some 6), [.t 5], none⟩,
     ⟨none, .store 6, [.t 4, .t 23], none⟩]
    [2, 5, 6, 10, 23] [2, 5])
  .ret)
def c_ref35_Slack : ACode :=
  (.seq (.region false []
    [⟨some 2, .box, [.t 0], none⟩,
     ⟨some 4, .alloc [.val (.int .i64 0), .val (.int .i64 0), .val (.int .i64 0), .val (.int .i64 0), .val (.int .i64 0), .val (.int .i64 0)], [], none⟩]
    [0] [])
  (.seq (.region false []
    [⟨some 7, .mov, [.t 1], none⟩,
     ⟨some 8, .call F_ref35_Sum, [.t 7], none⟩,
     ⟨some 5, .alloc [.val (.int .i64 0), .val (.int .i64 0), .val (.int .i64 0), .val (.int .i64 0), .val (.int .i64 0), .val (.int .i64 0)], [], none⟩,
     ⟨none, .store 6, [.t 5, .t 8], none⟩]
    [1, 7, 8] [])
  (.seq (.seq (.region false []
    [⟨some 6, .mov, [.c (.val (.int .i64 0))], none⟩]
    [] [])
  (.block 0 (.loop c_ref35_Slack_l0)))
  c_ref35_Slack_k1)))
def r_ref35_Slack : List ResA := [.cell 4 (some 6)]
theorem t_ref35_Slack : transl Try.prog F_ref35_Slack = some (bare c_ref35_Slack, r_ref35_Slack, 24) := by kernel_rfl

/- saleroom/tally.Cleared -/
def c_tally_Cleared : ACode :=
  (.seq (.region false []
    [⟨some 2, .box, [.t 0], none⟩,
     ⟨some 4, .mov, [.c (.val (.bool false))], none⟩]
    [0, 4] [])
  (.seq (.region false []
    [⟨some 5, .load (some 6), [.t 2], none⟩,
     ⟨some 6, .mov, [.t 1], none⟩,
     ⟨some 7, .call F_tally_Excess, [.t 5, .t 6], none⟩,
     ⟨some 8, .build [.val (.int .i64 0), .val (.int .i64 0), .val (.int .i64 0), .val (.int .i64 0), .val (.int .i64 0), .val (.int .i64 0)] [], [], none⟩,
     ⟨some 9, .bin .eql T_api_Bundle (.tmp 7) (.tmp 8), [.t 7, .t 8], none⟩,
     ⟨some 4, .mov, [.t 9], none⟩]
    [1, 2, 5, 6, 7, 8, 9] [2])
  .ret))
def r_tally_Cleared : List ResA := [.t 4]
theorem t_tally_Cleared : transl Try.prog F_tally_Cleared = some (bare c_tally_Cleared, r_tally_Cleared, 10) := by kernel_rfl

/- saleroom/saleroomref35.Cleared -/
def c_ref35_Cleared : ACode :=
  (.seq (.region false []
    [⟨some 2, .box, [.t 0], none⟩,
     ⟨some 4, .mov, [.c (.val (.bool false))], none⟩]
    [0, 4] [])
  (.seq (.region false []
    [⟨some 5, .alloc [.val (.int .i64 0), .val (.int .i64 0), .val (.int .i64 0), .val (.int .i64 0), .val (.int .i64 0), .val (.int .i64 0)], [], none⟩]
    [] [])
  (.seq (.region true []
    [⟨some 6, .load (some 6), [.t 2], none⟩,
     ⟨some 7, .mov, [.t 1], none⟩,
     ⟨some 8, .call F_ref35_Excess, [.t 6, .t 7], none⟩,
     ⟨some 9, .load (some 6), [.t 5], none⟩,
     ⟨some 10, .bin .eql T_api_Bundle (.tmp 8) (.tmp 9), [.t 8, .t 9], none⟩,
     ⟨some 4, .mov, [.t 10], none⟩]
    [1, 2, 5, 6, 7, 8, 9, 10] [2, 5])
  .ret)))
def r_ref35_Cleared : List ResA := [.t 4]
theorem t_ref35_Cleared : transl Try.prog F_ref35_Cleared = some (bare c_ref35_Cleared, r_ref35_Cleared, 11) := by kernel_rfl

/- saleroom/saleroomref35.Same -/
def c_ref35_Same_l0 : ACode :=
  (.seq (.seq (.region false []
    [⟨some 11, .mov, [.t 5], none⟩,
     ⟨some 12, .mov, [.t 0], none⟩,
     ⟨some 13, .len false, [.t 12], none⟩,
     ⟨some 14, .bin .lss T_int (.tmp 11) (.tmp 13), [.t 11, .t 13], none⟩]
    [11, 12, 13] [])
  (.cond (.t 14) .skip
  (.exit 0)))
  (.seq (.block 1 (.seq (.region true []
    [⟨some 17, .mov, [.t 0], none⟩,
     ⟨some 18, .mov, [.t 5], none⟩,
     ⟨some 19, .iaddrS 1, [.t 17, .t 18], none⟩,
     ⟨some 20, .load none, [.t 19], none⟩,
     ⟨some 21, .mov, [.t 1], none⟩,
     ⟨some 22, .mov, [.t 5], none⟩,
     ⟨some 23, .iaddrS 1, [.t 21, .t 22], none⟩,
     ⟨some 24, .load none, [.t 23], none⟩,
     ⟨some 25, .bin .neq T_int (.tmp 20) (.tmp 24), [.t 20, .t 24], none⟩]
    [14, 17, 18, 19, 20, 21, 22, 23, 24] [])
  (.cond (.t 25) (.seq (.region false []
    [⟨some 4, .mov, [.c (.val (.bool false))], none⟩]
    [0, 1, 5, 25] [])
  .ret)
  .skip)))
  (.region false []
    [⟨some 15, .mov, [.t 5], none⟩,
     ⟨some 16, .bin .add T_int (.tmp 15) (.const (.int .i64 1)), [.t 15, .c (.val (.int .i64 1))], none⟩,
     ⟨some 5, .mov, [.t 16], none⟩]
    [25, 15, 16] [])))
def c_ref35_Same_k1 : ACode :=
  (.seq (.region false []
    [⟨some 4, .mov, [.c (.val (.bool true))], none⟩]
    [0, 1, 5, 14] [])
  .ret)
def c_ref35_Same : ACode :=
  (.seq (.region false []
    [⟨some 4, .mov, [.c (.val (.bool false))], none⟩]
    [4] [])
  (.seq (.seq (.region false []
    [⟨some 6, .mov, [.t 0], none⟩,
     ⟨some 7, .len false, [.t 6], none⟩,
     ⟨some 8, .mov, [.t 1], none⟩,
     ⟨some 9, .len false, [.t 8], none⟩,
     ⟨some 10, .bin .neq T_int (.tmp 7) (.tmp 9), [.t 7, .t 9], none⟩]
    [6, 7, 8, 9] [])
  (.cond (.t 10) (.seq (.region false []
    [⟨some 4, .mov, [.c (.val (.bool false))], none⟩]
    [0, 1, 10] [])
  .ret)
  .skip))
  (.seq (.seq (.region false []
    [⟨some 5, .mov, [.c (.val (.int .i64 0))], none⟩]
    [10] [])
  (.block 0 (.loop c_ref35_Same_l0)))
  c_ref35_Same_k1)))
def r_ref35_Same : List ResA := [.t 4]
theorem t_ref35_Same : transl Try.prog F_ref35_Same = some (bare c_ref35_Same, r_ref35_Same, 26) := by kernel_rfl

/- saleroom/tally.Changes -/
def c_tally_Changes_l0 : ACode :=
  (.seq (.region false []
    [⟨some 13, .bin .lss T_int (.tmp 12) (.tmp 11), [.t 12, .t 11], none⟩]
    [] [])
  (.seq (.cond (.t 13) .skip
  (.exit 0))
  (.seq (.block 1 (.seq (.region false []
    [⟨some 14, .mov, [.t 12], none⟩,
     ⟨some 6, .mov, [.t 14], none⟩]
    [13, 14] [])
  (.seq (.region false []
    [⟨some 15, .mov, [.t 0], none⟩,
     ⟨some 16, .mov, [.t 6], none⟩,
     ⟨some 17, .call F_tally_at, [.t 15, .t 16], none⟩,
     ⟨some 18, .mov, [.t 1], none⟩,
     ⟨some 19, .mov, [.t 6], none⟩,
     ⟨some 20, .call F_tally_at, [.t 18, .t 19], none⟩,
     ⟨some 21, .bin .neq T_api_Bundle (.tmp 17) (.tmp 20), [.t 17, .t 20], none⟩]
    [15, 16, 17, 18, 19, 20] [])
  (.cond (.t 21) (.region false []
    [⟨some 22, .mov, [.t 5], none⟩,
     ⟨some 23, .mov, [.t 6], none⟩,
     ⟨some 24, .mkslice 1 1 [.val (.int .i64 0)] [0], [.t 23], none⟩,
     ⟨some 25, .append 1 8, [.t 22, .t 24], none⟩,
     ⟨some 5, .mov, [.t 25], none⟩]
    [6, 21, 22, 23, 24, 25] [])
  .skip))))
  (.region false []
    [⟨some 26, .bin .add T_int (.tmp 12) (.const (.int .i64 1)), [.t 12, .c (.val (.int .i64 1))], none⟩,
     ⟨some 12, .mov, [.t 26], none⟩]
    [6, 21, 26] []))))
def c_tally_Changes_k1 : ACode :=
  (.seq (.region false []
    [⟨some 27, .mov, [.t 5], none⟩,
     ⟨some 4, .mov, [.t 27], none⟩]
    [0, 1, 5, 11, 12, 13, 27] [])
  .ret)
def c_tally_Changes : ACode :=
  (.seq (.region false []
    [⟨some 4, .mov, [.c (.list 0 .full [])], none⟩]
    [4] [])
  (.seq (.region false []
    [⟨some 5, .mov, [.c (.list 0 .full [])], none⟩]
    [] [])
  (.seq (.seq (.region false []
    [⟨some 7, .mov, [.t 0], none⟩,
     ⟨some 8, .len false, [.t 7], none⟩,
     ⟨some 9, .mov, [.t 1], none⟩,
     ⟨some 10, .len false, [.t 9], none⟩,
     ⟨some 11, .mm .max #[T_int, T_int] T_int, [.t 8, .t 10], none⟩,
     ⟨some 12, .mov, [.c (.val (.int .i64 0))], none⟩]
    [7, 8, 9, 10] [])
  (.block 0 (.loop c_tally_Changes_l0)))
  c_tally_Changes_k1)))
def r_tally_Changes : List ResA := [.t 4]
theorem t_tally_Changes : transl Try.prog F_tally_Changes = some (bare c_tally_Changes, r_tally_Changes, 28) := by kernel_rfl

/- saleroom/saleroomref35.Changes -/
def c_ref35_Changes_l0 : ACode :=
  (.seq (.seq (.region false []
    [⟨some 7, .mov, [.t 6], none⟩,
     ⟨some 8, .mov, [.t 0], none⟩,
     ⟨some 9, .len false, [.t 8], none⟩,
     ⟨some 10, .bin .lss T_int (.tmp 7) (.tmp 9), [.t 7, .t 9], none⟩,
     ⟨some 11, .mov, [.t 10], none⟩,
     ⟨some 12, .mov, [.t 6], some (11, false)⟩,
     ⟨some 13, .mov, [.t 1], some (11, false)⟩,
     ⟨some 14, .len false, [.t 13], some (11, false)⟩,
     ⟨some 15, .bin .lss T_int (.tmp 12) (.tmp 14), [.t 12, .t 14], some (11, false)⟩,
     ⟨some 16, .pick, [.t 11, .c (.val (.bool true)), .t 15], none⟩]
    [7, 8, 9, 10, 11, 12, 13, 14, 15] [])
  (.cond (.t 16) .skip
  (.exit 0)))
  (.seq (.block 1 (.seq (.region false []
    [⟨some 19, .mov, [.t 0], none⟩,
     ⟨some 20, .mov, [.t 6], none⟩,
     ⟨some 21, .call F_ref35_At, [.t 19, .t 20], none⟩,
     ⟨some 22, .mov, [.t 1], none⟩,
     ⟨some 23, .mov, [.t 6], none⟩,
     ⟨some 24, .call F_ref35_At, [.t 22, .t 23], none⟩,
     ⟨some 25, .bin .neq T_api_Bundle (.tmp 21) (.tmp 24), [.t 21, .t 24], none⟩]
    [16, 19, 20, 21, 22, 23, 24] [])
  (.cond (.t 25) (.region false []
    [⟨some 26, .mov, [.t 5], none⟩,
     ⟨some 27, .mov, [.t 6], none⟩,
     ⟨some 28, .mkslice 1 1 [.val (.int .i64 0)] [0], [.t 27], none⟩,
     ⟨some 29, .append 1 8, [.t 26, .t 28], none⟩,
     ⟨some 5, .mov, [.t 29], none⟩]
    [25, 26, 27, 28, 29] [])
  .skip)))
  (.region false []
    [⟨some 17, .mov, [.t 6], none⟩,
     ⟨some 18, .bin .add T_int (.tmp 17) (.const (.int .i64 1)), [.t 17, .c (.val (.int .i64 1))], none⟩,
     ⟨some 6, .mov, [.t 18], none⟩]
    [25, 17, 18] [])))
def c_ref35_Changes_k1 : ACode :=
  (.seq (.region false []
    [⟨some 30, .mov, [.t 5], none⟩,
     ⟨some 4, .mov, [.t 30], none⟩]
    [0, 1, 5, 6, 16, 30] [])
  .ret)
def c_ref35_Changes : ACode :=
  (.seq (.region false []
    [⟨some 4, .mov, [.c (.list 0 .full [])], none⟩]
    [4] [])
  (.seq (.region false []
    [⟨some 5, .mov, [.c (.list 0 .full [])], none⟩]
    [] [])
  (.seq (.seq (.region false []
    [⟨some 6, .mov, [.c (.val (.int .i64 0))], none⟩]
    [] [])
  (.block 0 (.loop c_ref35_Changes_l0)))
  c_ref35_Changes_k1)))
def r_ref35_Changes : List ResA := [.t 4]
theorem t_ref35_Changes : transl Try.prog F_ref35_Changes = some (bare c_ref35_Changes, r_ref35_Changes, 31) := by kernel_rfl

/- saleroom/saleroomref35.Moderate -/
def c_ref35_Moderate_l0 : ACode :=
  (.seq (.seq (.region false []
    [⟨some 11, .mov, [.t 4], none⟩,
     ⟨some 12, .bin .lss T_int (.tmp 11) (.const (.int .i64 6)), [.t 11, .c (.val (.int .i64 6))], none⟩]
    [11] [])
  (.cond (.t 12) .skip
  (.exit 2)))
  (.seq (.block 3 (.seq (.region false []
    [⟨some 15, .mov, [.t 0], none⟩,
     ⟨some 16, .mov, [.t 3], none⟩,
     ⟨some 17, .mov, [.t 4], none⟩,
     ⟨some 18, .iaddrS 6, [.t 15, .t 16], none⟩,
     ⟨some 19, .iaddrA 6 1, [.t 18, .t 17], none⟩,
     ⟨some 20, .load none, [.t 19], none⟩,
     ⟨some 21, .bin .lss T_int (.tmp 20) (.const (.int .i64 (-1099511627776))), [.t 20, .c (.val (.int .i64 (-1099511627776)))], none⟩,
     ⟨some 22, .mov, [.t 21], none⟩,
     ⟨some 23, .mov, [.t 0], some (22, false)⟩,
     ⟨some 24, .mov, [.t 3], some (22, false)⟩,
     ⟨some 25, .mov, [.t 4], some (22, false)⟩,
     ⟨some 26, .iaddrS 6, [.t 23, .t 24], some (22, false)⟩,
     ⟨some 27, .iaddrA 6 1, [.t 26, .t 25], some (22, false)⟩,
     ⟨some 28, .load none, [.t 27], some (22, false)⟩,
     ⟨some 29, .bin .gtr T_int (.tmp 28) (.const (.int .i64 1099511627776)), [.t 28, .c (.val (.int .i64 1099511627776))], some (22, false)⟩,
     ⟨some 30, .pick, [.t 22, .c (.val (.bool true)), .t 29], none⟩]
    [12, 15, 16, 17, 18, 19, 20, 21, 22, 23, 24, 25, 26, 27, 28, 29] [])
  (.cond (.t 30) (.seq (.region false []
    [⟨some 2, .mov, [.c (.val (.bool false))], none⟩]
    [0, 3, 4, 30] [])
  .ret)
  .skip)))
  (.region false []
    [⟨some 13, .mov, [.t 4], none⟩,
     ⟨some 14, .bin .add T_int (.tmp 13) (.const (.int .i64 1)), [.t 13, .c (.val (.int .i64 1))], none⟩,
     ⟨some 4, .mov, [.t 14], none⟩]
    [30, 13, 14] [])))
def c_ref35_Moderate_k1 : ACode :=
  (.region false []
    [⟨some 9, .mov, [.t 3], none⟩,
     ⟨some 10, .bin .add T_int (.tmp 9) (.const (.int .i64 1)), [.t 9, .c (.val (.int .i64 1))], none⟩,
     ⟨some 3, .mov, [.t 10], none⟩]
    [4, 12, 9, 10] [])
def c_ref35_Moderate_l2 : ACode :=
  (.seq (.seq (.region false []
    [⟨some 5, .mov, [.t 3], none⟩,
     ⟨some 6, .mov, [.t 0], none⟩,
     ⟨some 7, .len false, [.t 6], none⟩,
     ⟨some 8, .bin .lss T_int (.tmp 5) (.tmp 7), [.t 5, .t 7], none⟩]
    [5, 6, 7] [])
  (.cond (.t 8) .skip
  (.exit 0)))
  (.seq (.block 1 (.seq (.region false []
    [⟨some 4, .mov, [.c (.val (.int .i64 0))], none⟩]
    [8] [])
  (.block 2 (.loop c_ref35_Moderate_l0))))
  c_ref35_Moderate_k1))
def c_ref35_Moderate_k3 : ACode :=
  (.seq (.region false []
    [⟨some 31, .mov, [.t 0], none⟩,
     ⟨some 32, .len false, [.t 31], none⟩,
     ⟨some 33, .bin .leq T_int (.tmp 32) (.const (.int .i64 1000)), [.t 32, .c (.val (.int .i64 1000))], none⟩,
     ⟨some 2, .mov, [.t 33], none⟩]
    [0, 3, 8, 31, 32, 33] [])
  .ret)
def c_ref35_Moderate : ACode :=
  (.seq (.region false []
    [⟨some 2, .mov, [.c (.val (.bool false))], none⟩]
    [2] [])
  (.seq (.seq (.region false []
    [⟨some 3, .mov, [.c (.val (.int .i64 0))], none⟩]
    [] [])
  (.block 0 (.loop c_ref35_Moderate_l2)))
  c_ref35_Moderate_k3))
def r_ref35_Moderate : List ResA := [.t 2]
theorem t_ref35_Moderate : transl Try.prog F_ref35_Moderate = some (bare c_ref35_Moderate, r_ref35_Moderate, 34) := by kernel_rfl

/- saleroom/saleroomref35.At -/
def c_ref35_At : ACode :=
  (.seq (.region false []
    [⟨some 4, .alloc [.val (.int .i64 0), .val (.int .i64 0), .val (.int .i64 0), .val (.int .i64 0), .val (.int .i64 0), .val (.int .i64 0)], [], none⟩]
    [] [])
  (.seq (.region false []
    [⟨some 5, .alloc [.val (.int .i64 0), .val (.int .i64 0), .val (.int .i64 0), .val (.int .i64 0), .val (.int .i64 0), .val (.int .i64 0)], [], none⟩]
    [] [])
  (.seq (.seq (.region false []
    [⟨some 6, .mov, [.t 1], none⟩,
     ⟨some 7, .mov, [.t 0], none⟩,
     ⟨some 8, .len false, [.t 7], none⟩,
     ⟨some 9, .bin .geq T_int (.tmp 6) (.tmp 8), [.t 6, .t 8], none⟩]
    [6, 7, 8] [])
  (.cond (.t 9) (.seq (.region false []
    [⟨some 10, .load (some 6), [.t 5], none⟩,
     ⟨none, .store 6, [.t 4, .t 10], none⟩]
    [0, 1, 5, 9, 10] [5])
  .ret)
  .skip))
  (.seq (.region false []
    [⟨some 11, .mov, [.t 0], none⟩,
     ⟨some 12, .mov, [.t 1], none⟩,
     ⟨some 13, .iaddrS 6, [.t 11, .t 12], none⟩,
     ⟨some 14, .load (some 6), [.t 13], none⟩,
     ⟨none, .store 6, [.t 4, .t 14], none⟩]
    [0, 1, 5, 9, 11, 12, 13, 14] [5])
  .ret))))
def r_ref35_At : List ResA := [.cell 4 (some 6)]
theorem t_ref35_At : transl Try.prog F_ref35_At = some (bare c_ref35_At, r_ref35_At, 15) := by kernel_rfl

/- saleroom/tally.total -/
def c_tally_total_l0 : ACode :=
  (.seq (.region false []
    [⟨some 14, .bin .lss T_int (.tmp 13) (.const (.int .i64 6)), [.t 13, .c (.val (.int .i64 6))], none⟩]
    [] [])
  (.seq (.cond (.t 14) .skip
  (.exit 2))
  (.seq (.block 3 (.seq (.region false []
    [⟨some 15, .mov, [.t 13], none⟩,
     ⟨some 6, .mov, [.t 15], none⟩]
    [14, 15] [])
  (.region true []
    [⟨some 16, .mov, [.t 6], none⟩,
     ⟨some 17, .iaddrA 6 1, [.t 3, .t 16], none⟩,
     ⟨some 18, .load none, [.t 17], none⟩,
     ⟨some 19, .mov, [.t 6], none⟩,
     ⟨some 20, .iaddrA 6 1, [.t 5, .t 19], none⟩,
     ⟨some 21, .load none, [.t 20], none⟩,
     ⟨some 22, .bin .add T_int (.tmp 18) (.tmp 21), [.t 18, .t 21], none⟩,
     ⟨some 23, .iaddrA 6 1, [.t 3, .t 16], none⟩,
     ⟨none, .store 1, [.t 23, .t 22], none⟩]
    [6, 16, 17, 18, 19, 20, 21, 22, 23] [])))
  (.region false []
    [⟨some 24, .bin .add T_int (.tmp 13) (.const (.int .i64 1)), [.t 13, .c (.val (.int .i64 1))], none⟩,
     ⟨some 13, .mov, [.t 24], none⟩]
    [24] []))))
def c_tally_total_k1 : ACode :=
  (.region false []
    [⟨some 25, .bin .add T_int (.tmp 9) (.const (.int .i64 1)), [.t 9, .c (.val (.int .i64 1))], none⟩,
     ⟨some 9, .mov, [.t 25], none⟩]
    [5, 13, 14, 25] [5])
def c_tally_total_l2 : ACode :=
  (.seq (.region false []
    [⟨some 10, .bin .lss T_int (.tmp 9) (.tmp 8), [.t 9, .t 8], none⟩]
    [] [])
  (.seq (.cond (.t 10) .skip
  (.exit 0))
  (.seq (.block 1 (.seq (.region false []
    [⟨some 11, .iaddrS 6, [.t 7, .t 9], none⟩,
     ⟨some 12, .load (some 6), [.t 11], none⟩,
     ⟨some 5, .alloc [.val (.int .i64 0), .val (.int .i64 0), .val (.int .i64 0), .val (.int .i64 0), .val (.int .i64 0), .val (.int .i64 0)], [], none⟩,
     ⟨none, .store 6, [.t 5, .t 12], none⟩]
    [10, 11, 12] [])
  (.seq (.region false []
    [⟨some 13, .mov, [.c (.val (.int .i64 0))], none⟩]
    [] [])
  (.block 2 (.loop c_tally_total_l0)))))
  c_tally_total_k1)))
def c_tally_total_k3 : ACode :=
  (.seq (.region false []
    [⟨some 26, .load (some 6), [.t 3], none⟩,
     ⟨none, .store 6, [.t 2, .t 26], none⟩]
    [3, 7, 8, 9, 10, 26] [3])
  .ret)
def c_tally_total : ACode :=
  (.seq (.region false []
    [⟨some 2, .alloc [.val (.int .i64 0), .val (.int .i64 0), .val (.int .i64 0), .val (.int .i64 0), .val (.int .i64 0), .val (.int .i64 0)], [], none⟩]
    [] [])
  (.seq (.region false []
    [⟨some 3, .alloc [.val (.int .i64 0), .val (.int .i64 0), .val (.int .i64 0), .val (.int .i64 0), .val (.int .i64 0), .val (.int .i64 0)], [], none⟩]
    [] [])
  (.seq (.seq (.region false []
    [⟨some 7, .mov, [.t 0], none⟩,
     ⟨some 8, .len false, [.t 7], none⟩,
     ⟨some 9, .mov, [.c (.val (.int .i64 0))], none⟩]
    [0] [])
  (.block 0 (.loop c_tally_total_l2)))
  c_tally_total_k3)))
def r_tally_total : List ResA := [.cell 2 (some 6)]
theorem t_tally_total : transl Try.prog F_tally_total = some (bare c_tally_total, r_tally_total, 27) := by kernel_rfl

/- saleroom/tally.over -/
def c_tally_over_l0 : ACode :=
  (.seq (.region false []
    [⟨some 8, .bin .lss T_int (.tmp 7) (.const (.int .i64 6)), [.t 7, .c (.val (.int .i64 6))], none⟩]
    [] [])
  (.seq (.cond (.t 8) .skip
  (.exit 0))
  (.seq (.block 1 (.seq (.region false []
    [⟨some 9, .mov, [.t 7], none⟩,
     ⟨some 6, .mov, [.t 9], none⟩]
    [8, 9] [])
  (.seq (.region true []
    [⟨some 10, .mov, [.t 6], none⟩,
     ⟨some 11, .iaddrA 6 1, [.t 2, .t 10], none⟩,
     ⟨some 12, .load none, [.t 11], none⟩,
     ⟨some 13, .mov, [.t 6], none⟩,
     ⟨some 14, .iaddrA 6 1, [.t 3, .t 13], none⟩,
     ⟨some 15, .load none, [.t 14], none⟩,
     ⟨some 16, .bin .gtr T_int (.tmp 12) (.tmp 15), [.t 12, .t 15], none⟩]
    [10, 11, 12, 13, 14, 15] [])
  (.cond (.t 16) (.region true []
    [⟨some 17, .mov, [.t 6], none⟩,
     ⟨some 18, .mov, [.t 6], none⟩,
     ⟨some 19, .iaddrA 6 1, [.t 2, .t 18], none⟩,
     ⟨some 20, .load none, [.t 19], none⟩,
     ⟨some 21, .mov, [.t 6], none⟩,
     ⟨some 22, .iaddrA 6 1, [.t 3, .t 21], none⟩,
     ⟨some 23, .load none, [.t 22], none⟩,
     ⟨some 24, .bin .sub T_int (.tmp 20) (.tmp 23), [.t 20, .t 23], none⟩,
     ⟨some 25, .iaddrA 6 1, [.t 5, .t 17], none⟩,
     ⟨none, .store 1, [.t 25, .t 24], none⟩]
    [6, 16, 17, 18, 19, 20, 21, 22, 23, 24, 25] [])
  .skip))))
  (.region false []
    [⟨some 26, .bin .add T_int (.tmp 7) (.const (.int .i64 1)), [.t 7, .c (.val (.int .i64 1))], none⟩,
     ⟨some 7, .mov, [.t 26], none⟩]
    [6, 16, 26] []))))
def c_tally_over_k1 : ACode :=
  (.seq (.region false []
    [⟨some 27, .load (some 6), [.t 5], none⟩,
     ⟨none, .store 6, [.t 4, .t 27], none⟩]
    [2, 3, 5, 7, 8, 27] [2, 3, 5])
  .ret)
def c_tally_over : ACode :=
  (.seq (.region false []
    [⟨some 2, .box, [.t 0], none⟩,
     ⟨some 3, .box, [.t 1], none⟩,
     ⟨some 4, .alloc [.val (.int .i64 0), .val (.int .i64 0), .val (.int .i64 0), .val (.int .i64 0), .val (.int .i64 0), .val (.int .i64 0)], [], none⟩]
    [0, 1] [])
  (.seq (.region false []
    [⟨some 5, .alloc [.val (.int .i64 0), .val (.int .i64 0), .val (.int .i64 0), .val (.int .i64 0), .val (.int .i64 0), .val (.int .i64 0)], [], none⟩]
    [] [])
  (.seq (.seq (.region false []
    [⟨some 7, .mov, [.c (.val (.int .i64 0))], none⟩]
    [] [])
  (.block 0 (.loop c_tally_over_l0)))
  c_tally_over_k1)))
def r_tally_over : List ResA := [.cell 4 (some 6)]
theorem t_tally_over : transl Try.prog F_tally_over = some (bare c_tally_over, r_tally_over, 28) := by kernel_rfl

/- saleroom/tally.at -/
def c_tally_at : ACode :=
  (.seq (.region false []
    [⟨some 4, .alloc [.val (.int .i64 0), .val (.int .i64 0), .val (.int .i64 0), .val (.int .i64 0), .val (.int .i64 0), .val (.int .i64 0)], [], none⟩]
    [] [])
  (.seq (.seq (.region false []
    [⟨some 5, .mov, [.t 1], none⟩,
     ⟨some 6, .mov, [.t 0], none⟩,
     ⟨some 7, .len false, [.t 6], none⟩,
     ⟨some 8, .bin .lss T_int (.tmp 5) (.tmp 7), [.t 5, .t 7], none⟩]
    [5, 6, 7] [])
  (.cond (.t 8) (.seq (.region false []
    [⟨some 9, .mov, [.t 0], none⟩,
     ⟨some 10, .mov, [.t 1], none⟩,
     ⟨some 11, .iaddrS 6, [.t 9, .t 10], none⟩,
     ⟨some 12, .load (some 6), [.t 11], none⟩,
     ⟨none, .store 6, [.t 4, .t 12], none⟩]
    [0, 1, 8, 9, 10, 11, 12] [])
  .ret)
  .skip))
  (.seq (.region false []
    [⟨some 13, .build [.val (.int .i64 0), .val (.int .i64 0), .val (.int .i64 0), .val (.int .i64 0), .val (.int .i64 0), .val (.int .i64 0)] [], [], none⟩,
     ⟨none, .store 6, [.t 4, .t 13], none⟩]
    [0, 1, 8, 13] [])
  .ret)))
def r_tally_at : List ResA := [.cell 4 (some 6)]
theorem t_tally_at : transl Try.prog F_tally_at = some (bare c_tally_at, r_tally_at, 14) := by kernel_rfl

def tabL : List (Nat × (ACode × List ResA × Nat)) := [(F_law35_TallySums, (c_law35_TallySums, r_law35_TallySums, 45)), (F_law35_TallyChanges, (c_law35_TallyChanges, r_law35_TallyChanges, 40)), (F_law35_TallyBalances, (c_law35_TallyBalances, r_law35_TallyBalances, 85)), (F_law35_TallyOrder, (c_law35_TallyOrder, r_law35_TallyOrder, 81)), (F_law35_TallyKeeps, (c_law35_TallyKeeps, r_law35_TallyKeeps, 92)), (F_law35_few, (c_law35_few, r_law35_few, 12)), (F_law35_awake, (c_law35_awake, r_law35_awake, 44)), (F_tally_Sum, (c_tally_Sum, r_tally_Sum, 5)), (F_ref35_Sum, (c_ref35_Sum, r_ref35_Sum, 29)), (F_tally_Excess, (c_tally_Excess, r_tally_Excess, 9)), (F_ref35_Excess, (c_ref35_Excess, r_ref35_Excess, 24)), (F_tally_Slack, (c_tally_Slack, r_tally_Slack, 9)), (F_ref35_Slack, (c_ref35_Slack, r_ref35_Slack, 24)), (F_tally_Cleared, (c_tally_Cleared, r_tally_Cleared, 10)), (F_ref35_Cleared, (c_ref35_Cleared, r_ref35_Cleared, 11)), (F_ref35_Same, (c_ref35_Same, r_ref35_Same, 26)), (F_tally_Changes, (c_tally_Changes, r_tally_Changes, 28)), (F_ref35_Changes, (c_ref35_Changes, r_ref35_Changes, 31)), (F_ref35_Moderate, (c_ref35_Moderate, r_ref35_Moderate, 34)), (F_ref35_At, (c_ref35_At, r_ref35_At, 15)), (F_tally_total, (c_tally_total, r_tally_total, 27)), (F_tally_over, (c_tally_over, r_tally_over, 28)), (F_tally_at, (c_tally_at, r_tally_at, 14))]
abbrev tab : FTab := lk tabL
theorem tab_ok : TabOk Try.prog tab := (.cons t_law35_TallySums
  (.cons t_law35_TallyChanges
  (.cons t_law35_TallyBalances
  (.cons t_law35_TallyOrder
  (.cons t_law35_TallyKeeps
  (.cons t_law35_few
  (.cons t_law35_awake
  (.cons t_tally_Sum
  (.cons t_ref35_Sum
  (.cons t_tally_Excess
  (.cons t_ref35_Excess
  (.cons t_tally_Slack
  (.cons t_ref35_Slack
  (.cons t_tally_Cleared
  (.cons t_ref35_Cleared
  (.cons t_ref35_Same
  (.cons t_tally_Changes
  (.cons t_ref35_Changes
  (.cons t_ref35_Moderate
  (.cons t_ref35_At
  (.cons t_tally_total
  (.cons t_tally_over
  (.cons t_tally_at
  .nil)))))))))))))))))))))))
end Go.Proofs.Ytljkjogggfdgiaa
