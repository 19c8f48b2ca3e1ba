/- The abstract code of the functions of this program, printed by program; each is held against the model's code by the kernel. -/
import Derived.Test.YtbihcpgkonildaaProg
import Derived.Test.YtbihcpgkonildaaAmD
namespace Go.Proofs.Ytbihcpgkonildaa
open Go Go.Am
abbrev F_gosem_cut_init : FuncId := 2
abbrev F_law09_RosterSets : FuncId := 3
abbrev F_law09_RosterChecks : FuncId := 4
abbrev F_law09_RosterFinds : FuncId := 5
abbrev F_law09_RosterNames : FuncId := 6
abbrev F_law09_RosterBack : FuncId := 7
abbrev F_law09_sets : FuncId := 8
abbrev F_ref09_SameInts : FuncId := 9
abbrev F_ref09_Sets : FuncId := 10
abbrev F_law09_awake : FuncId := 11
abbrev F_law09_few : FuncId := 12
abbrev F_roster_Check : FuncId := 13
abbrev F_ref09_Check : FuncId := 14
abbrev F_roster_Find : FuncId := 15
abbrev F_ref09_Find : FuncId := 16
abbrev F_roster_Class : FuncId := 17
abbrev F_ref09_Class : FuncId := 18
abbrev F_roster_Members : FuncId := 19
abbrev F_ref09_Members : FuncId := 20
abbrev F_ref09_SameTexts : FuncId := 21
abbrev F_roster_Names : FuncId := 22
abbrev F_ref09_Names : FuncId := 23
abbrev F_ref09_Bit : FuncId := 24
abbrev F_roster_Sets : FuncId := 25
abbrev F_law09_three : FuncId := 26
abbrev F_lexer_IsName : FuncId := 27
abbrev F_ref06_IsName : FuncId := 28
abbrev F_ref09_Has : FuncId := 29
abbrev F_roster_Sets_1 : FuncId := 30
abbrev F_lexer_letter : FuncId := 31
abbrev F_lexer_run : FuncId := 32
abbrev F_lexer_inner : FuncId := 33
abbrev F_ref06_letter : FuncId := 34
abbrev F_ref06_One : FuncId := 35
abbrev F_lexer_digit : FuncId := 36
abbrev F_ref06_digit : FuncId := 37
abbrev F_ref06_mark : FuncId := 38
abbrev T_int64 : TypeId := 2
abbrev T_int : TypeId := 3
abbrev T_bool : TypeId := 4
abbrev T_uint8 : TypeId := 5
abbrev T_string : TypeId := 9
abbrev T_int32 : TypeId := 21
abbrev T_api_Errno : TypeId := 31
theorem ub_bool : Try.prog.underlying T_bool = some .bool := by kernel_rfl
theorem us_string : Try.prog.underlying T_string = some .string := by kernel_rfl
@[simp] theorem un_int : Try.prog.underlying T_int = some (.int .i64) := by kernel_rfl
@[simp] theorem un_api_Errno : Try.prog.underlying T_api_Errno = some (.int .i64) := by kernel_rfl
@[simp] theorem un_bool : Try.prog.underlying T_bool = some .bool := by kernel_rfl
@[simp] theorem un_int64 : Try.prog.underlying T_int64 = some (.int .i64) := by kernel_rfl
@[simp] theorem un_string : Try.prog.underlying T_string = some .string := by kernel_rfl
@[simp] theorem un_uint8 : Try.prog.underlying T_uint8 = some (.int .u8) := by kernel_rfl
@[simp] theorem un_int32 : Try.prog.underlying T_int32 = some (.int .i32) := by kernel_rfl

/- saleroom/saleroomlaw09.RosterSets -/
def c_law09_RosterSets : ACode :=
  (.seq (.region false []
    [⟨some 4, .mov, [.c (.val (.bool false))], none⟩]
    [4] [])
  (.seq (.region false []
    [⟨some 10, .mov, [.t 0], none⟩,
     ⟨some 11, .call F_law09_sets, [.t 10, .c (.val (.int .i64 300))], none⟩,
     ⟨some 9, .mov, [.t 11], none⟩,
     ⟨some 12, .extract 0, [.t 9], none⟩,
     ⟨some 13, .extract 1, [.t 9], none⟩,
     ⟨some 5, .mov, [.t 12], none⟩,
     ⟨some 6, .mov, [.t 13], none⟩]
    [10, 11, 9, 12, 13] [])
  (.seq (.seq (.region false []
    [⟨some 14, .mov, [.t 6], none⟩,
     ⟨some 15, .un .not, [.t 14], none⟩,
     ⟨some 16, .mov, [.t 15], none⟩,
     ⟨some 17, .mov, [.t 5], some (16, false)⟩,
     ⟨some 18, .mov, [.t 0], some (16, false)⟩,
     ⟨some 19, .call F_ref09_Sets, [.t 18], some (16, false)⟩,
     ⟨some 20, .call F_ref09_SameInts, [.t 17, .t 19], some (16, false)⟩,
     ⟨some 21, .un .not, [.t 20], some (16, false)⟩,
     ⟨some 22, .pick, [.t 16, .c (.val (.bool true)), .t 21], none⟩]
    [6, 14, 15, 16, 17, 18, 19, 20, 21] [])
  (.cond (.t 22) (.seq (.region false []
    [⟨some 4, .mov, [.c (.val (.bool false))], none⟩]
    [0, 1, 5, 22] [])
  .ret)
  .skip))
  (.seq (.seq (.region false []
    [⟨some 23, .mov, [.t 1], none⟩,
     ⟨some 24, .bin .lss T_int (.tmp 23) (.const (.int .i64 1)), [.t 23, .c (.val (.int .i64 1))], none⟩,
     ⟨some 25, .mov, [.t 24], none⟩,
     ⟨some 26, .mov, [.t 1], some (25, false)⟩,
     ⟨some 27, .mov, [.t 5], some (25, false)⟩,
     ⟨some 28, .len false, [.t 27], some (25, false)⟩,
     ⟨some 29, .bin .geq T_int (.tmp 26) (.tmp 28), [.t 26, .t 28], some (25, false)⟩,
     ⟨some 30, .pick, [.t 25, .c (.val (.bool true)), .t 29], none⟩]
    [22, 23, 24, 25, 26, 27, 28, 29] [])
  (.cond (.t 30) (.seq (.region false []
    [⟨some 31, .call F_law09_awake, [], none⟩,
     ⟨some 4, .mov, [.t 31], none⟩]
    [0, 1, 5, 30, 31] [])
  .ret)
  .skip))
  (.seq (.region false []
    [⟨some 33, .mov, [.t 0], none⟩,
     ⟨some 34, .mov, [.t 1], none⟩,
     ⟨some 35, .call F_law09_sets, [.t 33, .t 34], none⟩,
     ⟨some 32, .mov, [.t 35], none⟩,
     ⟨some 36, .extract 0, [.t 32], none⟩,
     ⟨some 37, .extract 1, [.t 32], none⟩,
     ⟨some 7, .mov, [.t 36], none⟩,
     ⟨some 8, .mov, [.t 37], none⟩]
    [0, 30, 33, 34, 35, 32, 36, 37] [])
  (.seq (.region false []
    [⟨some 38, .mov, [.t 8], none⟩,
     ⟨some 39, .mov, [.t 38], none⟩,
     ⟨some 40, .mov, [.t 7], some (39, true)⟩,
     ⟨some 41, .mov, [.t 5], some (39, true)⟩,
     ⟨some 42, .mov, [.t 1], some (39, true)⟩,
     ⟨some 43, .slice 1 true true false, [.t 41, .c (.val (.int .i64 0)), .t 42], some (39, true)⟩,
     ⟨some 44, .call F_ref09_SameInts, [.t 40, .t 43], some (39, true)⟩,
     ⟨some 45, .pick, [.t 39, .t 44, .c (.val (.bool false))], none⟩,
     ⟨some 46, .mov, [.t 45], none⟩,
     ⟨some 47, .call F_law09_awake, [], some (46, true)⟩,
     ⟨some 48, .pick, [.t 46, .t 47, .c (.val (.bool false))], none⟩,
     ⟨some 4, .mov, [.t 48], none⟩]
    [1, 5, 7, 8, 38, 39, 40, 41, 42, 43, 44, 45, 46, 47, 48] [])
  .ret))))))
def r_law09_RosterSets : List ResA := [.t 4]
theorem t_law09_RosterSets : transl Try.prog F_law09_RosterSets = some (bare c_law09_RosterSets, r_law09_RosterSets, 49) := by kernel_rfl

/- saleroom/saleroomlaw09.RosterChecks -/
def c_law09_RosterChecks : ACode :=
  (.seq (.region false []
    [⟨some 2, .mov, [.c (.val (.bool false))], none⟩]
    [2] [])
  (.seq (.seq (.region false []
    [⟨some 3, .mov, [.t 0], none⟩,
     ⟨some 4, .call F_law09_few, [.t 3], none⟩,
     ⟨some 5, .un .not, [.t 4], none⟩]
    [3, 4] [])
  (.cond (.t 5) (.seq (.region false []
    [⟨some 6, .call F_law09_awake, [], none⟩,
     ⟨some 2, .mov, [.t 6], none⟩]
    [0, 5, 6] [])
  .ret)
  .skip))
  (.seq (.region false []
    [⟨some 7, .mov, [.t 0], none⟩,
     ⟨some 8, .call F_roster_Check, [.t 7], none⟩,
     ⟨some 9, .mov, [.t 0], none⟩,
     ⟨some 10, .call F_ref09_Check, [.t 9], none⟩,
     ⟨some 11, .bin .eql T_api_Errno (.tmp 8) (.tmp 10), [.t 8, .t 10], none⟩,
     ⟨some 12, .mov, [.t 11], none⟩,
     ⟨some 13, .call F_law09_awake, [], some (12, true)⟩,
     ⟨some 14, .pick, [.t 12, .t 13, .c (.val (.bool false))], none⟩,
     ⟨some 2, .mov, [.t 14], none⟩]
    [0, 5, 7, 8, 9, 10, 11, 12, 13, 14] [])
  .ret)))
def r_law09_RosterChecks : List ResA := [.t 2]
theorem t_law09_RosterChecks : transl Try.prog F_law09_RosterChecks = some (bare c_law09_RosterChecks, r_law09_RosterChecks, 15) := by kernel_rfl

/- saleroom/saleroomlaw09.RosterFinds -/
def c_law09_RosterFinds : ACode :=
  (.seq (.region false []
    [⟨some 6, .mov, [.c (.val (.bool false))], none⟩]
    [6] [])
  (.seq (.seq (.region false []
    [⟨some 11, .mov, [.t 0], none⟩,
     ⟨some 12, .call F_law09_few, [.t 11], none⟩,
     ⟨some 13, .un .not, [.t 12], none⟩,
     ⟨some 14, .mov, [.t 13], none⟩,
     ⟨some 15, .mov, [.t 1], some (14, false)⟩,
     ⟨some 16, .len true, [.t 15], some (14, false)⟩,
     ⟨some 17, .bin .gtr T_int (.tmp 16) (.const (.int .i64 40)), [.t 16, .c (.val (.int .i64 40))], some (14, false)⟩,
     ⟨some 18, .pick, [.t 14, .c (.val (.bool true)), .t 17], none⟩]
    [11, 12, 13, 14, 15, 16, 17] [])
  (.cond (.t 18) (.seq (.region false []
    [⟨some 19, .call F_law09_awake, [], none⟩,
     ⟨some 6, .mov, [.t 19], none⟩]
    [0, 1, 2, 18, 19] [])
  .ret)
  .skip))
  (.seq (.region false []
    [⟨some 21, .mov, [.t 0], none⟩,
     ⟨some 22, .mov, [.t 1], none⟩,
     ⟨some 23, .call F_roster_Find, [.t 21, .t 22], none⟩,
     ⟨some 20, .mov, [.t 23], none⟩,
     ⟨some 24, .extract 0, [.t 20], none⟩,
     ⟨some 25, .extract 1, [.t 20], none⟩,
     ⟨some 7, .mov, [.t 24], none⟩,
     ⟨some 8, .mov, [.t 25], none⟩]
    [18, 21, 22, 23, 20, 24, 25] [])
  (.seq (.region false []
    [⟨some 27, .mov, [.t 0], none⟩,
     ⟨some 28, .mov, [.t 1], none⟩,
     ⟨some 29, .call F_ref09_Find, [.t 27, .t 28], none⟩,
     ⟨some 26, .mov, [.t 29], none⟩,
     ⟨some 30, .extract 0, [.t 26], none⟩,
     ⟨some 31, .extract 1, [.t 26], none⟩,
     ⟨some 9, .mov, [.t 30], none⟩,
     ⟨some 10, .mov, [.t 31], none⟩]
    [1, 27, 28, 29, 26, 30, 31] [])
  (.seq (.region false []
    [⟨some 32, .mov, [.t 7], none⟩,
     ⟨some 33, .mov, [.t 9], none⟩,
     ⟨some 34, .bin .eql T_int (.tmp 32) (.tmp 33), [.t 32, .t 33], none⟩,
     ⟨some 35, .mov, [.t 34], none⟩,
     ⟨some 36, .mov, [.t 8], some (35, true)⟩,
     ⟨some 37, .mov, [.t 10], some (35, true)⟩,
     ⟨some 38, .bin .eql T_bool (.tmp 36) (.tmp 37), [.t 36, .t 37], some (35, true)⟩,
     ⟨some 39, .pick, [.t 35, .t 38, .c (.val (.bool false))], none⟩,
     ⟨some 40, .mov, [.t 39], none⟩,
     ⟨some 41, .mov, [.t 0], some (40, true)⟩,
     ⟨some 42, .mov, [.t 2], some (40, true)⟩,
     ⟨some 43, .call F_roster_Class, [.t 41, .t 42], some (40, true)⟩,
     ⟨some 44, .mov, [.t 0], some (40, true)⟩,
     ⟨some 45, .mov, [.t 2], some (40, true)⟩,
     ⟨some 46, .call F_ref09_Class, [.t 44, .t 45], some (40, true)⟩,
     ⟨some 47, .call F_ref09_SameInts, [.t 43, .t 46], some (40, true)⟩,
     ⟨some 48, .pick, [.t 40, .t 47, .c (.val (.bool false))], none⟩,
     ⟨some 49, .mov, [.t 48], none⟩,
     ⟨some 50, .call F_law09_awake, [], some (49, true)⟩,
     ⟨some 51, .pick, [.t 49, .t 50, .c (.val (.bool false))], none⟩,
     ⟨some 6, .mov, [.t 51], none⟩]
    [0, 2, 7, 8, 9, 10, 32, 33, 34, 35, 36, 37, 38, 39, 40, 41, 42, 43, 44, 45, 46, 47, 48, 49, 50, 51] [])
  .ret)))))
def r_law09_RosterFinds : List ResA := [.t 6]
theorem t_law09_RosterFinds : transl Try.prog F_law09_RosterFinds = some (bare c_law09_RosterFinds, r_law09_RosterFinds, 52) := by kernel_rfl

/- saleroom/saleroomlaw09.RosterNames -/
def c_law09_RosterNames_l0 : ACode :=
  (.seq (.seq (.region false []
    [⟨some 21, .mov, [.t 7], none⟩,
     ⟨some 22, .mov, [.t 2], none⟩,
     ⟨some 23, .len false, [.t 22], none⟩,
     ⟨some 24, .bin .lss T_int (.tmp 21) (.tmp 23), [.t 21, .t 23], none⟩]
    [21, 22, 23] [])
  (.cond (.t 24) .skip
  (.exit 0)))
  (.seq (.block 1 (.seq (.region false []
    [⟨some 27, .mov, [.t 2], none⟩,
     ⟨some 28, .mov, [.t 7], none⟩,
     ⟨some 29, .iaddrS 1, [.t 27, .t 28], none⟩,
     ⟨some 30, .load none, [.t 29], none⟩,
     ⟨some 31, .len true, [.t 30], none⟩,
     ⟨some 32, .bin .gtr T_int (.tmp 31) (.const (.int .i64 40)), [.t 31, .c (.val (.int .i64 40))], none⟩]
    [24, 27, 28, 29, 30, 31] [])
  (.cond (.t 32) (.seq (.region false []
    [⟨some 33, .call F_law09_awake, [], none⟩,
     ⟨some 6, .mov, [.t 33], none⟩]
    [0, 1, 2, 7, 32, 33] [])
  .ret)
  .skip)))
  (.region false []
    [⟨some 25, .mov, [.t 7], none⟩,
     ⟨some 26, .bin .add T_int (.tmp 25) (.const (.int .i64 1)), [.t 25, .c (.val (.int .i64 1))], none⟩,
     ⟨some 7, .mov, [.t 26], none⟩]
    [32, 25, 26] [])))
def c_law09_RosterNames_k1 : ACode :=
  (.seq (.region false []
    [⟨some 35, .mov, [.t 0], none⟩,
     ⟨some 36, .mov, [.t 2], none⟩,
     ⟨some 37, .call F_roster_Members, [.t 35, .t 36], none⟩,
     ⟨some 34, .mov, [.t 37], none⟩,
     ⟨some 38, .extract 0, [.t 34], none⟩,
     ⟨some 39, .extract 1, [.t 34], none⟩,
     ⟨some 8, .mov, [.t 38], none⟩,
     ⟨some 9, .mov, [.t 39], none⟩]
    [7, 24, 35, 36, 37, 34, 38, 39] [])
  (.seq (.region false []
    [⟨some 41, .mov, [.t 0], none⟩,
     ⟨some 42, .mov, [.t 2], none⟩,
     ⟨some 43, .call F_ref09_Members, [.t 41, .t 42], none⟩,
     ⟨some 40, .mov, [.t 43], none⟩,
     ⟨some 44, .extract 0, [.t 40], none⟩,
     ⟨some 45, .extract 1, [.t 40], none⟩,
     ⟨some 10, .mov, [.t 44], none⟩,
     ⟨some 11, .mov, [.t 45], none⟩]
    [2, 41, 42, 43, 40, 44, 45] [])
  (.seq (.region false []
    [⟨some 46, .mov, [.t 0], none⟩,
     ⟨some 47, .mov, [.t 1], none⟩,
     ⟨some 48, .call F_roster_Names, [.t 46, .t 47], none⟩,
     ⟨some 49, .mov, [.t 0], none⟩,
     ⟨some 50, .mov, [.t 1], none⟩,
     ⟨some 51, .call F_ref09_Names, [.t 49, .t 50], none⟩,
     ⟨some 52, .call F_ref09_SameTexts, [.t 48, .t 51], none⟩,
     ⟨some 53, .mov, [.t 52], none⟩,
     ⟨some 54, .mov, [.t 8], some (53, true)⟩,
     ⟨some 55, .mov, [.t 10], some (53, true)⟩,
     ⟨some 56, .bin .eql T_int (.tmp 54) (.tmp 55), [.t 54, .t 55], some (53, true)⟩,
     ⟨some 57, .pick, [.t 53, .t 56, .c (.val (.bool false))], none⟩,
     ⟨some 58, .mov, [.t 57], none⟩,
     ⟨some 59, .mov, [.t 9], some (58, true)⟩,
     ⟨some 60, .mov, [.t 11], some (58, true)⟩,
     ⟨some 61, .bin .eql T_api_Errno (.tmp 59) (.tmp 60), [.t 59, .t 60], some (58, true)⟩,
     ⟨some 62, .pick, [.t 58, .t 61, .c (.val (.bool false))], none⟩,
     ⟨some 63, .mov, [.t 62], none⟩,
     ⟨some 64, .call F_law09_awake, [], some (63, true)⟩,
     ⟨some 65, .pick, [.t 63, .t 64, .c (.val (.bool false))], none⟩,
     ⟨some 6, .mov, [.t 65], none⟩]
    [0, 1, 8, 9, 10, 11, 46, 47, 48, 49, 50, 51, 52, 53, 54, 55, 56, 57, 58, 59, 60, 61, 62, 63, 64, 65] [])
  .ret)))
def c_law09_RosterNames : ACode :=
  (.seq (.region false []
    [⟨some 6, .mov, [.c (.val (.bool false))], none⟩]
    [6] [])
  (.seq (.seq (.region false []
    [⟨some 12, .mov, [.t 0], none⟩,
     ⟨some 13, .call F_law09_few, [.t 12], none⟩,
     ⟨some 14, .un .not, [.t 13], none⟩,
     ⟨some 15, .mov, [.t 14], none⟩,
     ⟨some 16, .mov, [.t 2], some (15, false)⟩,
     ⟨some 17, .len false, [.t 16], some (15, false)⟩,
     ⟨some 18, .bin .gtr T_int (.tmp 17) (.const (.int .i64 12)), [.t 17, .c (.val (.int .i64 12))], some (15, false)⟩,
     ⟨some 19, .pick, [.t 15, .c (.val (.bool true)), .t 18], none⟩]
    [12, 13, 14, 15, 16, 17, 18] [])
  (.cond (.t 19) (.seq (.region false []
    [⟨some 20, .call F_law09_awake, [], none⟩,
     ⟨some 6, .mov, [.t 20], none⟩]
    [0, 1, 2, 19, 20] [])
  .ret)
  .skip))
  (.seq (.seq (.region false []
    [⟨some 7, .mov, [.c (.val (.int .i64 0))], none⟩]
    [19] [])
  (.block 0 (.loop c_law09_RosterNames_l0)))
  c_law09_RosterNames_k1)))
def r_law09_RosterNames : List ResA := [.t 6]
theorem t_law09_RosterNames : transl Try.prog F_law09_RosterNames = some (bare c_law09_RosterNames, r_law09_RosterNames, 66) := by kernel_rfl

/- saleroom/saleroomlaw09.RosterBack -/
def c_law09_RosterBack : ACode :=
  (.seq (.region false []
    [⟨some 4, .mov, [.c (.val (.bool false))], none⟩]
    [4] [])
  (.seq (.seq (.region false []
    [⟨some 7, .mov, [.t 0], none⟩,
     ⟨some 8, .call F_law09_few, [.t 7], none⟩,
     ⟨some 9, .un .not, [.t 8], none⟩,
     ⟨some 10, .mov, [.t 9], none⟩,
     ⟨some 11, .mov, [.t 0], some (10, false)⟩,
     ⟨some 12, .call F_ref09_Check, [.t 11], some (10, false)⟩,
     ⟨some 13, .bin .neq T_api_Errno (.tmp 12) (.const (.int .i64 0)), [.t 12, .c (.val (.int .i64 0))], some (10, false)⟩,
     ⟨some 14, .pick, [.t 10, .c (.val (.bool true)), .t 13], none⟩,
     ⟨some 15, .mov, [.t 14], none⟩,
     ⟨some 16, .mov, [.t 1], some (15, false)⟩,
     ⟨some 17, .bin .lss T_int (.tmp 16) (.const (.int .i64 0)), [.t 16, .c (.val (.int .i64 0))], some (15, false)⟩,
     ⟨some 18, .pick, [.t 15, .c (.val (.bool true)), .t 17], none⟩,
     ⟨some 19, .mov, [.t 18], none⟩,
     ⟨some 20, .mov, [.t 1], some (19, false)⟩,
     ⟨some 21, .mov, [.t 0], some (19, false)⟩,
     ⟨some 22, .len false, [.t 21], some (19, false)⟩,
     ⟨some 23, .call F_ref09_Bit, [.t 22], some (19, false)⟩,
     ⟨some 24, .bin .geq T_int (.tmp 20) (.tmp 23), [.t 20, .t 23], some (19, false)⟩,
     ⟨some 25, .pick, [.t 19, .c (.val (.bool true)), .t 24], none⟩]
    [7, 8, 9, 10, 11, 12, 13, 14, 15, 16, 17, 18, 19, 20, 21, 22, 23, 24] [])
  (.cond (.t 25) (.seq (.region false []
    [⟨some 26, .call F_law09_awake, [], none⟩,
     ⟨some 4, .mov, [.t 26], none⟩]
    [0, 1, 25, 26] [])
  .ret)
  .skip))
  (.seq (.region false []
    [⟨some 28, .mov, [.t 0], none⟩,
     ⟨some 29, .mov, [.t 0], none⟩,
     ⟨some 30, .mov, [.t 1], none⟩,
     ⟨some 31, .call F_roster_Names, [.t 29, .t 30], none⟩,
     ⟨some 32, .call F_roster_Members, [.t 28, .t 31], none⟩,
     ⟨some 27, .mov, [.t 32], none⟩,
     ⟨some 33, .extract 0, [.t 27], none⟩,
     ⟨some 34, .extract 1, [.t 27], none⟩,
     ⟨some 5, .mov, [.t 33], none⟩,
     ⟨some 6, .mov, [.t 34], none⟩]
    [0, 25, 28, 29, 30, 31, 32, 27, 33, 34] [])
  (.seq (.region false []
    [⟨some 35, .mov, [.t 5], none⟩,
     ⟨some 36, .mov, [.t 1], none⟩,
     ⟨some 37, .bin .eql T_int (.tmp 35) (.tmp 36), [.t 35, .t 36], none⟩,
     ⟨some 38, .mov, [.t 37], none⟩,
     ⟨some 39, .mov, [.t 6], some (38, true)⟩,
     ⟨some 40, .bin .eql T_api_Errno (.tmp 39) (.const (.int .i64 0)), [.t 39, .c (.val (.int .i64 0))], some (38, true)⟩,
     ⟨some 41, .pick, [.t 38, .t 40, .c (.val (.bool false))], none⟩,
     ⟨some 42, .mov, [.t 41], none⟩,
     ⟨some 43, .call F_law09_awake, [], some (42, true)⟩,
     ⟨some 44, .pick, [.t 42, .t 43, .c (.val (.bool false))], none⟩,
     ⟨some 4, .mov, [.t 44], none⟩]
    [1, 5, 6, 35, 36, 37, 38, 39, 40, 41, 42, 43, 44] [])
  .ret))))
def r_law09_RosterBack : List ResA := [.t 4]
theorem t_law09_RosterBack : transl Try.prog F_law09_RosterBack = some (bare c_law09_RosterBack, r_law09_RosterBack, 45) := by kernel_rfl


/- saleroom/saleroomref09.SameInts -/
def c_ref09_SameInts_l0 : ACode :=
  (.seq (.seq (.region false []
    [⟨some 11, .mov, [.t 5], none⟩,
     ⟨some 12, .mov, [.t 0], none⟩,
     ⟨some 13, .len false, [.t 12], none⟩,
     ⟨some 14, .bin .lss T_int (.tmp 11) (.tmp 13), [.t 11, .t 13], none⟩]
    [11, 12, 13] [])
  (.cond (.t 14) .skip
  (.exit 0)))
  (.seq (.block 1 (.seq (.region true []
    [⟨some 17, .mov, [.t 0], none⟩,
     ⟨some 18, .mov, [.t 5], none⟩,
     ⟨some 19, .iaddrS 1, [.t 17, .t 18], none⟩,
     ⟨some 20, .load none, [.t 19], none⟩,
     ⟨some 21, .mov, [.t 1], none⟩,
     ⟨some 22, .mov, [.t 5], none⟩,
     ⟨some 23, .iaddrS 1, [.t 21, .t 22], none⟩,
     ⟨some 24, .load none, [.t 23], none⟩,
     ⟨some 25, .bin .neq T_int (.tmp 20) (.tmp 24), [.t 20, .t 24], none⟩]
    [14, 17, 18, 19, 20, 21, 22, 23, 24] [])
  (.cond (.t 25) (.seq (.region false []
    [⟨some 4, .mov, [.c (.val (.bool false))], none⟩]
    [0, 1, 5, 25] [])
  .ret)
  .skip)))
  (.region false []
    [⟨some 15, .mov, [.t 5], none⟩,
     ⟨some 16, .bin .add T_int (.tmp 15) (.const (.int .i64 1)), [.t 15, .c (.val (.int .i64 1))], none⟩,
     ⟨some 5, .mov, [.t 16], none⟩]
    [25, 15, 16] [])))
def c_ref09_SameInts_k1 : ACode :=
  (.seq (.region false []
    [⟨some 4, .mov, [.c (.val (.bool true))], none⟩]
    [0, 1, 5, 14] [])
  .ret)
def c_ref09_SameInts : ACode :=
  (.seq (.region false []
    [⟨some 4, .mov, [.c (.val (.bool false))], none⟩]
    [4] [])
  (.seq (.seq (.region false []
    [⟨some 6, .mov, [.t 0], none⟩,
     ⟨some 7, .len false, [.t 6], none⟩,
     ⟨some 8, .mov, [.t 1], none⟩,
     ⟨some 9, .len false, [.t 8], none⟩,
     ⟨some 10, .bin .neq T_int (.tmp 7) (.tmp 9), [.t 7, .t 9], none⟩]
    [6, 7, 8, 9] [])
  (.cond (.t 10) (.seq (.region false []
    [⟨some 4, .mov, [.c (.val (.bool false))], none⟩]
    [0, 1, 10] [])
  .ret)
  .skip))
  (.seq (.seq (.region false []
    [⟨some 5, .mov, [.c (.val (.int .i64 0))], none⟩]
    [10] [])
  (.block 0 (.loop c_ref09_SameInts_l0)))
  c_ref09_SameInts_k1)))
def r_ref09_SameInts : List ResA := [.t 4]
theorem t_ref09_SameInts : transl Try.prog F_ref09_SameInts = some (bare c_ref09_SameInts, r_ref09_SameInts, 26) := by kernel_rfl

/- saleroom/saleroomref09.Sets -/
def c_ref09_Sets_l0 : ACode :=
  (.seq (.seq (.region false []
    [⟨some 11, .mov, [.t 4], none⟩,
     ⟨some 12, .mov, [.t 0], none⟩,
     ⟨some 13, .call F_ref09_Bit, [.t 12], none⟩,
     ⟨some 14, .bin .lss T_int (.tmp 11) (.tmp 13), [.t 11, .t 13], none⟩]
    [11, 12, 13] [])
  (.cond (.t 14) .skip
  (.exit 0)))
  (.seq (.block 1 (.region false []
    [⟨some 17, .mov, [.t 3], none⟩,
     ⟨some 18, .mov, [.t 4], none⟩,
     ⟨some 19, .mkslice 1 1 [.val (.int .i64 0)] [0], [.t 18], none⟩,
     ⟨some 20, .append 1 8, [.t 17, .t 19], none⟩,
     ⟨some 3, .mov, [.t 20], none⟩]
    [14, 17, 18, 19, 20] []))
  (.region false []
    [⟨some 15, .mov, [.t 4], none⟩,
     ⟨some 16, .bin .add T_int (.tmp 15) (.const (.int .i64 1)), [.t 15, .c (.val (.int .i64 1))], none⟩,
     ⟨some 4, .mov, [.t 16], none⟩]
    [15, 16] [])))
def c_ref09_Sets_k1 : ACode :=
  (.seq (.region false []
    [⟨some 21, .mov, [.t 3], none⟩,
     ⟨some 2, .mov, [.t 21], none⟩]
    [0, 3, 4, 14, 21] [])
  .ret)
def c_ref09_Sets : ACode :=
  (.seq (.region false []
    [⟨some 2, .mov, [.c (.list 0 .full [])], none⟩]
    [2] [])
  (.seq (.region false []
    [⟨some 3, .mov, [.c (.list 0 .full [])], none⟩]
    [] [])
  (.seq (.seq (.region false []
    [⟨some 5, .mov, [.t 0], none⟩,
     ⟨some 6, .bin .lss T_int (.tmp 5) (.const (.int .i64 0)), [.t 5, .c (.val (.int .i64 0))], none⟩,
     ⟨some 7, .mov, [.t 6], none⟩,
     ⟨some 8, .mov, [.t 0], some (7, false)⟩,
     ⟨some 9, .bin .gtr T_int (.tmp 8) (.const (.int .i64 8)), [.t 8, .c (.val (.int .i64 8))], some (7, false)⟩,
     ⟨some 10, .pick, [.t 7, .c (.val (.bool true)), .t 9], none⟩]
    [5, 6, 7, 8, 9] [])
  (.cond (.t 10) (.seq (.region false []
    [⟨some 2, .mov, [.c (.list 0 .full [])], none⟩]
    [0, 3, 10] [])
  .ret)
  .skip))
  (.seq (.seq (.region false []
    [⟨some 4, .mov, [.c (.val (.int .i64 0))], none⟩]
    [10] [])
  (.block 0 (.loop c_ref09_Sets_l0)))
  c_ref09_Sets_k1))))
def r_ref09_Sets : List ResA := [.t 2]
theorem t_ref09_Sets : transl Try.prog F_ref09_Sets = some (bare c_ref09_Sets, r_ref09_Sets, 22) := by kernel_rfl

/- saleroom/saleroomlaw09.awake -/
def c_law09_awake : ACode :=
  (.seq (.region false []
    [⟨some 0, .mov, [.c (.val (.bool false))], none⟩]
    [0] [])
  (.seq (.region false []
    [⟨some 12, .call F_law09_three, [], none⟩,
     ⟨some 1, .mov, [.t 12], none⟩]
    [12] [])
  (.seq (.region false []
    [⟨some 14, .mov, [.t 1], none⟩,
     ⟨some 15, .mkslice 1 2 [.val (.string ⟨#[]⟩)] [0, 1], [.c (.val (.string ⟨#[99, 121, 100]⟩)), .c (.val (.string ⟨#[97, 110, 110]⟩))], none⟩,
     ⟨some 16, .call F_roster_Members, [.t 14, .t 15], none⟩,
     ⟨some 13, .mov, [.t 16], none⟩,
     ⟨some 17, .extract 0, [.t 13], none⟩,
     ⟨some 18, .extract 1, [.t 13], none⟩,
     ⟨some 2, .mov, [.t 17], none⟩,
     ⟨some 3, .mov, [.t 18], none⟩]
    [14, 15, 16, 13, 17, 18] [])
  (.seq (.region false []
    [⟨some 20, .mov, [.t 1], none⟩,
     ⟨some 21, .mkslice 1 1 [.val (.string ⟨#[]⟩)] [0], [.c (.val (.string ⟨#[100, 97, 110]⟩))], none⟩,
     ⟨some 22, .call F_roster_Members, [.t 20, .t 21], none⟩,
     ⟨some 19, .mov, [.t 22], none⟩,
     ⟨some 23, .extract 0, [.t 19], none⟩,
     ⟨some 24, .extract 1, [.t 19], none⟩,
     ⟨some 4, .mov, [.t 23], none⟩,
     ⟨some 5, .mov, [.t 24], none⟩]
    [20, 21, 22, 19, 23, 24, 4] [])
  (.seq (.region false []
    [⟨some 26, .mov, [.t 1], none⟩,
     ⟨some 27, .mkslice 1 2 [.val (.string ⟨#[]⟩)] [0, 1], [.c (.val (.string ⟨#[97, 110, 110]⟩)), .c (.val (.string ⟨#[97, 110, 110]⟩))], none⟩,
     ⟨some 28, .call F_roster_Members, [.t 26, .t 27], none⟩,
     ⟨some 25, .mov, [.t 28], none⟩,
     ⟨some 29, .extract 0, [.t 25], none⟩,
     ⟨some 30, .extract 1, [.t 25], none⟩,
     ⟨some 6, .mov, [.t 29], none⟩,
     ⟨some 7, .mov, [.t 30], none⟩]
    [26, 27, 28, 25, 29, 30, 6] [])
  (.seq (.region false []
    [⟨some 32, .mov, [.t 1], none⟩,
     ⟨some 33, .call F_roster_Find, [.t 32, .c (.val (.string ⟨#[98, 111, 98]⟩))], none⟩,
     ⟨some 31, .mov, [.t 33], none⟩,
     ⟨some 34, .extract 0, [.t 31], none⟩,
     ⟨some 35, .extract 1, [.t 31], none⟩,
     ⟨some 8, .mov, [.t 34], none⟩,
     ⟨some 9, .mov, [.t 35], none⟩]
    [32, 33, 31, 34, 35] [])
  (.seq (.region false []
    [⟨some 37, .call F_law09_sets, [.c (.val (.int .i64 1)), .c (.val (.int .i64 10))], none⟩,
     ⟨some 36, .mov, [.t 37], none⟩,
     ⟨some 38, .extract 0, [.t 36], none⟩,
     ⟨some 39, .extract 1, [.t 36], none⟩,
     ⟨some 10, .mov, [.t 38], none⟩,
     ⟨some 11, .mov, [.t 39], none⟩]
    [37, 36, 38, 39] [])
  (.seq (.region false []
    [⟨some 40, .mov, [.t 1], none⟩,
     ⟨some 41, .call F_roster_Check, [.t 40], none⟩,
     ⟨some 42, .bin .eql T_api_Errno (.tmp 41) (.const (.int .i64 0)), [.t 41, .c (.val (.int .i64 0))], none⟩,
     ⟨some 43, .mov, [.t 42], none⟩,
     ⟨some 44, .call F_roster_Check, [.c (.list 0 .full [])], some (43, true)⟩,
     ⟨some 45, .bin .eql T_api_Errno (.tmp 44) (.const (.int .i64 1)), [.t 44, .c (.val (.int .i64 1))], some (43, true)⟩,
     ⟨some 46, .pick, [.t 43, .t 45, .c (.val (.bool false))], none⟩,
     ⟨some 47, .mov, [.t 46], none⟩,
     ⟨some 48, .mov, [.t 2], some (47, true)⟩,
     ⟨some 49, .bin .eql T_int (.tmp 48) (.const (.int .i64 5)), [.t 48, .c (.val (.int .i64 5))], some (47, true)⟩,
     ⟨some 50, .pick, [.t 47, .t 49, .c (.val (.bool false))], none⟩,
     ⟨some 51, .mov, [.t 50], none⟩,
     ⟨some 52, .mov, [.t 3], some (51, true)⟩,
     ⟨some 53, .bin .eql T_api_Errno (.tmp 52) (.const (.int .i64 0)), [.t 52, .c (.val (.int .i64 0))], some (51, true)⟩,
     ⟨some 54, .pick, [.t 51, .t 53, .c (.val (.bool false))], none⟩,
     ⟨some 55, .mov, [.t 54], none⟩,
     ⟨some 56, .mov, [.t 5], some (55, true)⟩,
     ⟨some 57, .bin .eql T_api_Errno (.tmp 56) (.const (.int .i64 6)), [.t 56, .c (.val (.int .i64 6))], some (55, true)⟩,
     ⟨some 58, .pick, [.t 55, .t 57, .c (.val (.bool false))], none⟩,
     ⟨some 59, .mov, [.t 58], none⟩,
     ⟨some 60, .mov, [.t 7], some (59, true)⟩,
     ⟨some 61, .bin .eql T_api_Errno (.tmp 60) (.const (.int .i64 7)), [.t 60, .c (.val (.int .i64 7))], some (59, true)⟩,
     ⟨some 62, .pick, [.t 59, .t 61, .c (.val (.bool false))], none⟩,
     ⟨some 63, .mov, [.t 62], none⟩,
     ⟨some 64, .mov, [.t 8], some (63, true)⟩,
     ⟨some 65, .bin .eql T_int (.tmp 64) (.const (.int .i64 1)), [.t 64, .c (.val (.int .i64 1))], some (63, true)⟩,
     ⟨some 66, .pick, [.t 63, .t 65, .c (.val (.bool false))], none⟩,
     ⟨some 67, .mov, [.t 66], none⟩,
     ⟨some 68, .mov, [.t 9], some (67, true)⟩,
     ⟨some 69, .pick, [.t 67, .t 68, .c (.val (.bool false))], none⟩,
     ⟨some 70, .mov, [.t 69], none⟩,
     ⟨some 71, .mov, [.t 1], some (70, true)⟩,
     ⟨some 72, .call F_roster_Names, [.t 71, .c (.val (.int .i64 5))], some (70, true)⟩,
     ⟨some 73, .mkslice 1 2 [.val (.string ⟨#[]⟩)] [0, 1], [.c (.val (.string ⟨#[97, 110, 110]⟩)), .c (.val (.string ⟨#[99, 121, 100]⟩))], some (70, true)⟩,
     ⟨some 74, .call F_ref09_SameTexts, [.t 72, .t 73], some (70, true)⟩,
     ⟨some 75, .pick, [.t 70, .t 74, .c (.val (.bool false))], none⟩,
     ⟨some 76, .mov, [.t 75], none⟩,
     ⟨some 77, .mov, [.t 1], some (76, true)⟩,
     ⟨some 78, .call F_roster_Class, [.t 77, .c (.val (.int .i64 1))], some (76, true)⟩,
     ⟨some 79, .mkslice 1 2 [.val (.int .i64 0)] [0, 1], [.c (.val (.int .i64 0)), .c (.val (.int .i64 2))], some (76, true)⟩,
     ⟨some 80, .call F_ref09_SameInts, [.t 78, .t 79], some (76, true)⟩,
     ⟨some 81, .pick, [.t 76, .t 80, .c (.val (.bool false))], none⟩,
     ⟨some 82, .mov, [.t 81], none⟩,
     ⟨some 83, .mov, [.t 11], some (82, true)⟩,
     ⟨some 84, .pick, [.t 82, .t 83, .c (.val (.bool false))], none⟩,
     ⟨some 85, .mov, [.t 84], none⟩,
     ⟨some 86, .mov, [.t 10], some (85, true)⟩,
     ⟨some 87, .mkslice 1 2 [.val (.int .i64 0)] [0, 1], [.c (.val (.int .i64 0)), .c (.val (.int .i64 1))], some (85, true)⟩,
     ⟨some 88, .call F_ref09_SameInts, [.t 86, .t 87], some (85, true)⟩,
     ⟨some 89, .pick, [.t 85, .t 88, .c (.val (.bool false))], none⟩,
     ⟨some 0, .mov, [.t 89], none⟩]
    [1, 2, 3, 5, 7, 8, 9, 10, 11, 40, 41, 42, 43, 44, 45, 46, 47, 48, 49, 50, 51, 52, 53, 54, 55, 56, 57, 58, 59, 60, 61, 62, 63, 64, 65, 66, 67, 68, 69, 70, 71, 72, 73, 74, 75, 76, 77, 78, 79, 80, 81, 82, 83, 84, 85, 86, 87, 88, 89] [])
  .ret))))))))
def r_law09_awake : List ResA := [.t 0]
theorem t_law09_awake : transl Try.prog F_law09_awake = some (bare c_law09_awake, r_law09_awake, 90) := by kernel_rfl

/- saleroom/saleroomlaw09.few -/
def c_law09_few_l0 : ACode :=
  (.seq (.seq (.region false []
    [⟨some 7, .mov, [.t 3], none⟩,
     ⟨some 8, .mov, [.t 0], none⟩,
     ⟨some 9, .len false, [.t 8], none⟩,
     ⟨some 10, .bin .lss T_int (.tmp 7) (.tmp 9), [.t 7, .t 9], none⟩]
    [7, 8, 9] [])
  (.cond (.t 10) .skip
  (.exit 0)))
  (.seq (.block 1 (.seq (.region false []
    [⟨some 13, .mov, [.t 0], none⟩,
     ⟨some 14, .mov, [.t 3], none⟩,
     ⟨some 15, .iaddrS 4, [.t 13, .t 14], none⟩,
     ⟨some 16, .faddr 0, [.t 15], none⟩,
     ⟨some 17, .load none, [.t 16], none⟩,
     ⟨some 18, .len true, [.t 17], none⟩,
     ⟨some 19, .bin .gtr T_int (.tmp 18) (.const (.int .i64 40)), [.t 18, .c (.val (.int .i64 40))], none⟩]
    [10, 13, 14, 15, 16, 17, 18] [])
  (.cond (.t 19) (.seq (.region false []
    [⟨some 2, .mov, [.c (.val (.bool false))], none⟩]
    [0, 3, 19] [])
  .ret)
  .skip)))
  (.region false []
    [⟨some 11, .mov, [.t 3], none⟩,
     ⟨some 12, .bin .add T_int (.tmp 11) (.const (.int .i64 1)), [.t 11, .c (.val (.int .i64 1))], none⟩,
     ⟨some 3, .mov, [.t 12], none⟩]
    [19, 11, 12] [])))
def c_law09_few_k1 : ACode :=
  (.seq (.region false []
    [⟨some 2, .mov, [.c (.val (.bool true))], none⟩]
    [0, 3, 10] [])
  .ret)
def c_law09_few : ACode :=
  (.seq (.region false []
    [⟨some 2, .mov, [.c (.val (.bool false))], none⟩]
    [2] [])
  (.seq (.seq (.region false []
    [⟨some 4, .mov, [.t 0], none⟩,
     ⟨some 5, .len false, [.t 4], none⟩,
     ⟨some 6, .bin .gtr T_int (.tmp 5) (.const (.int .i64 12)), [.t 5, .c (.val (.int .i64 12))], none⟩]
    [4, 5] [])
  (.cond (.t 6) (.seq (.region false []
    [⟨some 2, .mov, [.c (.val (.bool false))], none⟩]
    [0, 6] [])
  .ret)
  .skip))
  (.seq (.seq (.region false []
    [⟨some 3, .mov, [.c (.val (.int .i64 0))], none⟩]
    [6] [])
  (.block 0 (.loop c_law09_few_l0)))
  c_law09_few_k1)))
def r_law09_few : List ResA := [.t 2]
theorem t_law09_few : transl Try.prog F_law09_few = some (bare c_law09_few, r_law09_few, 20) := by kernel_rfl

/- saleroom/roster.Check -/
def c_roster_Check_l0 : ACode :=
  (.seq (.region false []
    [⟨some 18, .bin .lss T_int (.tmp 17) (.tmp 16), [.t 17, .t 16], none⟩]
    [] [])
  (.seq (.cond (.t 18) .skip
  (.exit 1))
  (.seq (.block 2 (.seq (.region false []
    [⟨some 19, .mov, [.t 17], none⟩,
     ⟨some 20, .iaddrS 4, [.t 15, .t 17], none⟩,
     ⟨some 21, .load (some 4), [.t 20], none⟩,
     ⟨some 4, .alloc [.val (.string ⟨#[]⟩), .val (.int .i64 0), .val (.int .i64 0), .val (.int .i64 0)], [], none⟩,
     ⟨some 3, .mov, [.t 19], none⟩,
     ⟨none, .store 4, [.t 4, .t 21], none⟩]
    [18, 19, 20, 21] [])
  (.seq (.seq (.region false []
    [⟨some 22, .faddr 0, [.t 4], none⟩,
     ⟨some 23, .load none, [.t 22], none⟩,
     ⟨some 24, .call F_lexer_IsName, [.t 23], none⟩,
     ⟨some 25, .un .not, [.t 24], none⟩]
    [22, 23, 24] [])
  (.cond (.t 25) (.seq (.region false []
    [⟨some 2, .mov, [.c (.val (.int .i64 5))], none⟩]
    [0, 15, 16, 17, 4, 3, 25] [4])
  .ret)
  .skip))
  (.seq (.seq (.region true []
    [⟨some 27, .mov, [.t 0], none⟩,
     ⟨some 28, .mov, [.t 3], none⟩,
     ⟨some 29, .slice 4 false true false, [.t 27, .t 28], none⟩,
     ⟨some 30, .faddr 0, [.t 4], none⟩,
     ⟨some 31, .load none, [.t 30], none⟩,
     ⟨some 32, .call F_roster_Find, [.t 29, .t 31], none⟩,
     ⟨some 26, .mov, [.t 32], none⟩,
     ⟨some 33, .extract 0, [.t 26], none⟩,
     ⟨some 34, .extract 1, [.t 26], none⟩,
     ⟨some 5, .mov, [.t 33], none⟩,
     ⟨some 6, .mov, [.t 34], none⟩]
    [3, 25, 27, 28, 29, 30, 31, 32, 26, 33, 34, 5] [])
  (.seq (.region false []
    [⟨some 35, .mov, [.t 6], none⟩]
    [6] [])
  (.cond (.t 35) (.seq (.region false []
    [⟨some 2, .mov, [.c (.val (.int .i64 7))], none⟩]
    [0, 15, 16, 17, 4, 35] [4])
  .ret)
  .skip)))
  (.seq (.region false []
    [⟨some 36, .faddr 1, [.t 4], none⟩,
     ⟨some 37, .load none, [.t 36], none⟩,
     ⟨some 38, .bin .lss T_int (.tmp 37) (.const (.int .i64 0)), [.t 37, .c (.val (.int .i64 0))], none⟩,
     ⟨some 39, .mov, [.t 38], none⟩,
     ⟨some 40, .faddr 1, [.t 4], some (39, false)⟩,
     ⟨some 41, .load none, [.t 40], some (39, false)⟩,
     ⟨some 42, .bin .gtr T_int (.tmp 41) (.const (.int .i64 4)), [.t 41, .c (.val (.int .i64 4))], some (39, false)⟩,
     ⟨some 43, .pick, [.t 39, .c (.val (.bool true)), .t 42], none⟩,
     ⟨some 44, .mov, [.t 43], none⟩,
     ⟨some 45, .faddr 2, [.t 4], some (44, false)⟩,
     ⟨some 46, .load none, [.t 45], some (44, false)⟩,
     ⟨some 47, .bin .lss T_int64 (.tmp 46) (.const (.int .i64 0)), [.t 46, .c (.val (.int .i64 0))], some (44, false)⟩,
     ⟨some 48, .pick, [.t 44, .c (.val (.bool true)), .t 47], none⟩,
     ⟨some 49, .mov, [.t 48], none⟩,
     ⟨some 50, .faddr 2, [.t 4], some (49, false)⟩,
     ⟨some 51, .load none, [.t 50], some (49, false)⟩,
     ⟨some 52, .bin .gtr T_int64 (.tmp 51) (.const (.int .i64 1000000)), [.t 51, .c (.val (.int .i64 1000000))], some (49, false)⟩,
     ⟨some 53, .pick, [.t 49, .c (.val (.bool true)), .t 52], none⟩,
     ⟨some 54, .mov, [.t 53], none⟩,
     ⟨some 55, .faddr 3, [.t 4], some (54, false)⟩,
     ⟨some 56, .load none, [.t 55], some (54, false)⟩,
     ⟨some 57, .bin .lss T_int (.tmp 56) (.const (.int .i64 0)), [.t 56, .c (.val (.int .i64 0))], some (54, false)⟩,
     ⟨some 58, .pick, [.t 54, .c (.val (.bool true)), .t 57], none⟩,
     ⟨some 59, .mov, [.t 58], none⟩,
     ⟨some 60, .faddr 3, [.t 4], some (59, false)⟩,
     ⟨some 61, .load none, [.t 60], some (59, false)⟩,
     ⟨some 62, .bin .gtr T_int (.tmp 61) (.const (.int .i64 24000)), [.t 61, .c (.val (.int .i64 24000))], some (59, false)⟩,
     ⟨some 63, .pick, [.t 59, .c (.val (.bool true)), .t 62], none⟩]
    [4, 35, 36, 37, 38, 39, 40, 41, 42, 43, 44, 45, 46, 47, 48, 49, 50, 51, 52, 53, 54, 55, 56, 57, 58, 59, 60, 61, 62] [4])
  (.cond (.t 63) (.seq (.region false []
    [⟨some 2, .mov, [.c (.val (.int .i64 4))], none⟩]
    [0, 15, 16, 17, 63] [])
  .ret)
  .skip))))))
  (.region false []
    [⟨some 64, .bin .add T_int (.tmp 17) (.const (.int .i64 1)), [.t 17, .c (.val (.int .i64 1))], none⟩,
     ⟨some 17, .mov, [.t 64], none⟩]
    [63, 64] []))))
def c_roster_Check_k1 : ACode :=
  (.seq (.region false []
    [⟨some 2, .mov, [.c (.val (.int .i64 0))], none⟩]
    [0, 15, 16, 17, 18] [])
  .ret)
def c_roster_Check : ACode :=
  (.seq (.region false []
    [⟨some 2, .mov, [.c (.val (.int .i64 0))], none⟩]
    [2] [])
  (.seq (.block 0 (.seq (.region false []
    [⟨some 8, .mov, [.t 0], none⟩,
     ⟨some 9, .len false, [.t 8], none⟩,
     ⟨some 10, .bin .eql T_int (.tmp 9) (.const (.int .i64 0)), [.t 9, .c (.val (.int .i64 0))], none⟩,
     ⟨some 7, .mov, [.t 10], none⟩]
    [8, 9, 10] [])
  (.cond (.t 7) (.seq (.region false []
    [⟨some 2, .mov, [.c (.val (.int .i64 1))], none⟩]
    [0, 7] [])
  .ret)
  (.seq (.region false []
    [⟨some 12, .mov, [.t 0], none⟩,
     ⟨some 13, .len false, [.t 12], none⟩,
     ⟨some 14, .bin .gtr T_int (.tmp 13) (.const (.int .i64 8)), [.t 13, .c (.val (.int .i64 8))], none⟩,
     ⟨some 11, .mov, [.t 14], none⟩]
    [7, 12, 13, 14] [])
  (.cond (.t 11) (.seq (.region false []
    [⟨some 2, .mov, [.c (.val (.int .i64 3))], none⟩]
    [0, 11] [])
  .ret)
  .skip)))))
  (.seq (.seq (.region false []
    [⟨some 15, .mov, [.t 0], none⟩,
     ⟨some 16, .len false, [.t 15], none⟩,
     ⟨some 17, .mov, [.c (.val (.int .i64 0))], none⟩]
    [11] [])
  (.block 1 (.loop c_roster_Check_l0)))
  c_roster_Check_k1)))
def r_roster_Check : List ResA := [.t 2]
theorem t_roster_Check : transl Try.prog F_roster_Check = some (bare c_roster_Check, r_roster_Check, 65) := by kernel_rfl

/- saleroom/saleroomref09.Check -/
def c_ref09_Check_l0 : ACode :=
  (.seq (.seq (.region false []
    [⟨some 12, .mov, [.t 3], none⟩,
     ⟨some 13, .mov, [.t 0], none⟩,
     ⟨some 14, .len false, [.t 13], none⟩,
     ⟨some 15, .bin .lss T_int (.tmp 12) (.tmp 14), [.t 12, .t 14], none⟩]
    [12, 13, 14] [])
  (.cond (.t 15) .skip
  (.exit 0)))
  (.seq (.block 1 (.seq (.seq (.region false []
    [⟨some 18, .mov, [.t 0], none⟩,
     ⟨some 19, .mov, [.t 3], none⟩,
     ⟨some 20, .iaddrS 4, [.t 18, .t 19], none⟩,
     ⟨some 21, .faddr 0, [.t 20], none⟩,
     ⟨some 22, .load none, [.t 21], none⟩,
     ⟨some 23, .call F_ref06_IsName, [.t 22], none⟩,
     ⟨some 24, .un .not, [.t 23], none⟩]
    [15, 18, 19, 20, 21, 22, 23] [])
  (.cond (.t 24) (.seq (.region false []
    [⟨some 2, .mov, [.c (.val (.int .i64 5))], none⟩]
    [0, 3, 24] [])
  .ret)
  .skip))
  (.seq (.seq (.region false []
    [⟨some 26, .mov, [.t 0], none⟩,
     ⟨some 27, .mov, [.t 0], none⟩,
     ⟨some 28, .mov, [.t 3], none⟩,
     ⟨some 29, .iaddrS 4, [.t 27, .t 28], none⟩,
     ⟨some 30, .faddr 0, [.t 29], none⟩,
     ⟨some 31, .load none, [.t 30], none⟩,
     ⟨some 32, .call F_ref09_Find, [.t 26, .t 31], none⟩,
     ⟨some 25, .mov, [.t 32], none⟩,
     ⟨some 33, .extract 0, [.t 25], none⟩,
     ⟨some 34, .extract 1, [.t 25], none⟩,
     ⟨some 4, .mov, [.t 33], none⟩,
     ⟨some 5, .mov, [.t 34], none⟩]
    [24, 26, 27, 28, 29, 30, 31, 32, 25, 33, 34, 5] [])
  (.seq (.region false []
    [⟨some 35, .mov, [.t 4], none⟩,
     ⟨some 36, .mov, [.t 3], none⟩,
     ⟨some 37, .bin .neq T_int (.tmp 35) (.tmp 36), [.t 35, .t 36], none⟩]
    [4, 35, 36] [])
  (.cond (.t 37) (.seq (.region false []
    [⟨some 2, .mov, [.c (.val (.int .i64 7))], none⟩]
    [0, 3, 37] [])
  .ret)
  .skip)))
  (.seq (.region false []
    [⟨some 38, .mov, [.t 0], none⟩,
     ⟨some 39, .mov, [.t 3], none⟩,
     ⟨some 40, .iaddrS 4, [.t 38, .t 39], none⟩,
     ⟨some 41, .faddr 1, [.t 40], none⟩,
     ⟨some 42, .load none, [.t 41], none⟩,
     ⟨some 43, .bin .lss T_int (.tmp 42) (.const (.int .i64 0)), [.t 42, .c (.val (.int .i64 0))], none⟩,
     ⟨some 44, .mov, [.t 43], none⟩,
     ⟨some 45, .mov, [.t 0], some (44, false)⟩,
     ⟨some 46, .mov, [.t 3], some (44, false)⟩,
     ⟨some 47, .iaddrS 4, [.t 45, .t 46], some (44, false)⟩,
     ⟨some 48, .faddr 1, [.t 47], some (44, false)⟩,
     ⟨some 49, .load none, [.t 48], some (44, false)⟩,
     ⟨some 50, .bin .gtr T_int (.tmp 49) (.const (.int .i64 4)), [.t 49, .c (.val (.int .i64 4))], some (44, false)⟩,
     ⟨some 51, .pick, [.t 44, .c (.val (.bool true)), .t 50], none⟩,
     ⟨some 52, .mov, [.t 51], none⟩,
     ⟨some 53, .mov, [.t 0], some (52, false)⟩,
     ⟨some 54, .mov, [.t 3], some (52, false)⟩,
     ⟨some 55, .iaddrS 4, [.t 53, .t 54], some (52, false)⟩,
     ⟨some 56, .faddr 2, [.t 55], some (52, false)⟩,
     ⟨some 57, .load none, [.t 56], some (52, false)⟩,
     ⟨some 58, .bin .lss T_int64 (.tmp 57) (.const (.int .i64 0)), [.t 57, .c (.val (.int .i64 0))], some (52, false)⟩,
     ⟨some 59, .pick, [.t 52, .c (.val (.bool true)), .t 58], none⟩,
     ⟨some 60, .mov, [.t 59], none⟩,
     ⟨some 61, .mov, [.t 0], some (60, false)⟩,
     ⟨some 62, .mov, [.t 3], some (60, false)⟩,
     ⟨some 63, .iaddrS 4, [.t 61, .t 62], some (60, false)⟩,
     ⟨some 64, .faddr 2, [.t 63], some (60, false)⟩,
     ⟨some 65, .load none, [.t 64], some (60, false)⟩,
     ⟨some 66, .bin .gtr T_int64 (.tmp 65) (.const (.int .i64 1000000)), [.t 65, .c (.val (.int .i64 1000000))], some (60, false)⟩,
     ⟨some 67, .pick, [.t 60, .c (.val (.bool true)), .t 66], none⟩,
     ⟨some 68, .mov, [.t 67], none⟩,
     ⟨some 69, .mov, [.t 0], some (68, false)⟩,
     ⟨some 70, .mov, [.t 3], some (68, false)⟩,
     ⟨some 71, .iaddrS 4, [.t 69, .t 70], some (68, false)⟩,
     ⟨some 72, .faddr 3, [.t 71], some (68, false)⟩,
     ⟨some 73, .load none, [.t 72], some (68, false)⟩,
     ⟨some 74, .bin .lss T_int (.tmp 73) (.const (.int .i64 0)), [.t 73, .c (.val (.int .i64 0))], some (68, false)⟩,
     ⟨some 75, .pick, [.t 68, .c (.val (.bool true)), .t 74], none⟩,
     ⟨some 76, .mov, [.t 75], none⟩,
     ⟨some 77, .mov, [.t 0], some (76, false)⟩,
     ⟨some 78, .mov, [.t 3], some (76, false)⟩,
     ⟨some 79, .iaddrS 4, [.t 77, .t 78], some (76, false)⟩,
     ⟨some 80, .faddr 3, [.t 79], some (76, false)⟩,
     ⟨some 81, .load none, [.t 80], some (76, false)⟩,
     ⟨some 82, .bin .gtr T_int (.tmp 81) (.const (.int .i64 24000)), [.t 81, .c (.val (.int .i64 24000))], some (76, false)⟩,
     ⟨some 83, .pick, [.t 76, .c (.val (.bool true)), .t 82], none⟩]
    [37, 38, 39, 40, 41, 42, 43, 44, 45, 46, 47, 48, 49, 50, 51, 52, 53, 54, 55, 56, 57, 58, 59, 60, 61, 62, 63, 64, 65, 66, 67, 68, 69, 70, 71, 72, 73, 74, 75, 76, 77, 78, 79, 80, 81, 82] [])
  (.cond (.t 83) (.seq (.region false []
    [⟨some 2, .mov, [.c (.val (.int .i64 4))], none⟩]
    [0, 3, 83] [])
  .ret)
  .skip)))))
  (.region false []
    [⟨some 16, .mov, [.t 3], none⟩,
     ⟨some 17, .bin .add T_int (.tmp 16) (.const (.int .i64 1)), [.t 16, .c (.val (.int .i64 1))], none⟩,
     ⟨some 3, .mov, [.t 17], none⟩]
    [83, 16, 17] [])))
def c_ref09_Check_k1 : ACode :=
  (.seq (.region false []
    [⟨some 2, .mov, [.c (.val (.int .i64 0))], none⟩]
    [0, 3, 15] [])
  .ret)
def c_ref09_Check : ACode :=
  (.seq (.region false []
    [⟨some 2, .mov, [.c (.val (.int .i64 0))], none⟩]
    [2] [])
  (.seq (.seq (.region false []
    [⟨some 6, .mov, [.t 0], none⟩,
     ⟨some 7, .len false, [.t 6], none⟩,
     ⟨some 8, .bin .eql T_int (.tmp 7) (.const (.int .i64 0)), [.t 7, .c (.val (.int .i64 0))], none⟩]
    [6, 7] [])
  (.cond (.t 8) (.seq (.region false []
    [⟨some 2, .mov, [.c (.val (.int .i64 1))], none⟩]
    [0, 8] [])
  .ret)
  .skip))
  (.seq (.seq (.region false []
    [⟨some 9, .mov, [.t 0], none⟩,
     ⟨some 10, .len false, [.t 9], none⟩,
     ⟨some 11, .bin .gtr T_int (.tmp 10) (.const (.int .i64 8)), [.t 10, .c (.val (.int .i64 8))], none⟩]
    [8, 9, 10] [])
  (.cond (.t 11) (.seq (.region false []
    [⟨some 2, .mov, [.c (.val (.int .i64 3))], none⟩]
    [0, 11] [])
  .ret)
  .skip))
  (.seq (.seq (.region false []
    [⟨some 3, .mov, [.c (.val (.int .i64 0))], none⟩]
    [11] [])
  (.block 0 (.loop c_ref09_Check_l0)))
  c_ref09_Check_k1))))
def r_ref09_Check : List ResA := [.t 2]
theorem t_ref09_Check : transl Try.prog F_ref09_Check = some (bare c_ref09_Check, r_ref09_Check, 84) := by kernel_rfl

/- saleroom/roster.Find -/
def c_roster_Find_l0 : ACode :=
  (.seq (.region false []
    [⟨some 11, .bin .lss T_int (.tmp 10) (.tmp 9), [.t 10, .t 9], none⟩]
    [] [])
  (.seq (.cond (.t 11) .skip
  (.exit 0))
  (.seq (.block 1 (.seq (.region false []
    [⟨some 12, .mov, [.t 10], none⟩,
     ⟨some 13, .iaddrS 4, [.t 8, .t 10], none⟩,
     ⟨some 14, .load (some 4), [.t 13], none⟩,
     ⟨some 7, .alloc [.val (.string ⟨#[]⟩), .val (.int .i64 0), .val (.int .i64 0), .val (.int .i64 0)], [], none⟩,
     ⟨some 6, .mov, [.t 12], none⟩,
     ⟨none, .store 4, [.t 7, .t 14], none⟩]
    [11, 12, 13, 14] [])
  (.seq (.region false []
    [⟨some 15, .faddr 0, [.t 7], none⟩,
     ⟨some 16, .load none, [.t 15], none⟩,
     ⟨some 17, .mov, [.t 1], none⟩,
     ⟨some 18, .bin .eql T_string (.tmp 16) (.tmp 17), [.t 16, .t 17], none⟩]
    [7, 15, 16, 17] [7])
  (.cond (.t 18) (.seq (.region false []
    [⟨some 19, .mov, [.t 6], none⟩,
     ⟨some 4, .mov, [.t 19], none⟩,
     ⟨some 5, .mov, [.c (.val (.bool true))], none⟩]
    [1, 8, 9, 10, 6, 18, 19] [])
  .ret)
  .skip))))
  (.region false []
    [⟨some 20, .bin .add T_int (.tmp 10) (.const (.int .i64 1)), [.t 10, .c (.val (.int .i64 1))], none⟩,
     ⟨some 10, .mov, [.t 20], none⟩]
    [6, 18, 20] []))))
def c_roster_Find_k1 : ACode :=
  (.seq (.region false []
    [⟨some 4, .mov, [.c (.val (.int .i64 0))], none⟩,
     ⟨some 5, .mov, [.c (.val (.bool false))], none⟩]
    [1, 8, 9, 10, 11] [])
  .ret)
def c_roster_Find : ACode :=
  (.seq (.region false []
    [⟨some 4, .mov, [.c (.val (.int .i64 0))], none⟩,
     ⟨some 5, .mov, [.c (.val (.bool false))], none⟩]
    [4, 5] [])
  (.seq (.seq (.region false []
    [⟨some 8, .mov, [.t 0], none⟩,
     ⟨some 9, .len false, [.t 8], none⟩,
     ⟨some 10, .mov, [.c (.val (.int .i64 0))], none⟩]
    [0] [])
  (.block 0 (.loop c_roster_Find_l0)))
  c_roster_Find_k1))
def r_roster_Find : List ResA := [.t 4, .t 5]
theorem t_roster_Find : transl Try.prog F_roster_Find = some (bare c_roster_Find, r_roster_Find, 21) := by kernel_rfl

/- saleroom/saleroomref09.Find -/
def c_ref09_Find_l0 : ACode :=
  (.seq (.seq (.region false []
    [⟨some 7, .mov, [.t 6], none⟩,
     ⟨some 8, .mov, [.t 0], none⟩,
     ⟨some 9, .len false, [.t 8], none⟩,
     ⟨some 10, .bin .lss T_int (.tmp 7) (.tmp 9), [.t 7, .t 9], none⟩]
    [7, 8, 9] [])
  (.cond (.t 10) .skip
  (.exit 0)))
  (.seq (.block 1 (.seq (.region false []
    [⟨some 13, .mov, [.t 0], none⟩,
     ⟨some 14, .mov, [.t 6], none⟩,
     ⟨some 15, .iaddrS 4, [.t 13, .t 14], none⟩,
     ⟨some 16, .faddr 0, [.t 15], none⟩,
     ⟨some 17, .load none, [.t 16], none⟩,
     ⟨some 18, .mov, [.t 1], none⟩,
     ⟨some 19, .bin .eql T_string (.tmp 17) (.tmp 18), [.t 17, .t 18], none⟩]
    [10, 13, 14, 15, 16, 17, 18] [])
  (.cond (.t 19) (.seq (.region false []
    [⟨some 20, .mov, [.t 6], none⟩,
     ⟨some 4, .mov, [.t 20], none⟩,
     ⟨some 5, .mov, [.c (.val (.bool true))], none⟩]
    [0, 1, 6, 19, 20] [])
  .ret)
  .skip)))
  (.region false []
    [⟨some 11, .mov, [.t 6], none⟩,
     ⟨some 12, .bin .add T_int (.tmp 11) (.const (.int .i64 1)), [.t 11, .c (.val (.int .i64 1))], none⟩,
     ⟨some 6, .mov, [.t 12], none⟩]
    [19, 11, 12] [])))
def c_ref09_Find_k1 : ACode :=
  (.seq (.region false []
    [⟨some 4, .mov, [.c (.val (.int .i64 0))], none⟩,
     ⟨some 5, .mov, [.c (.val (.bool false))], none⟩]
    [0, 1, 6, 10] [])
  .ret)
def c_ref09_Find : ACode :=
  (.seq (.region false []
    [⟨some 4, .mov, [.c (.val (.int .i64 0))], none⟩,
     ⟨some 5, .mov, [.c (.val (.bool false))], none⟩]
    [4, 5] [])
  (.seq (.seq (.region false []
    [⟨some 6, .mov, [.c (.val (.int .i64 0))], none⟩]
    [] [])
  (.block 0 (.loop c_ref09_Find_l0)))
  c_ref09_Find_k1))
def r_ref09_Find : List ResA := [.t 4, .t 5]
theorem t_ref09_Find : transl Try.prog F_ref09_Find = some (bare c_ref09_Find, r_ref09_Find, 21) := by kernel_rfl

/- saleroom/roster.Class -/
def c_roster_Class_l0 : ACode :=
  (.seq (.region false []
    [⟨some 11, .bin .lss T_int (.tmp 10) (.tmp 9), [.t 10, .t 9], none⟩]
    [] [])
  (.seq (.cond (.t 11) .skip
  (.exit 0))
  (.seq (.block 1 (.seq (.region false []
    [⟨some 12, .mov, [.t 10], none⟩,
     ⟨some 13, .iaddrS 4, [.t 8, .t 10], none⟩,
     ⟨some 14, .load (some 4), [.t 13], none⟩,
     ⟨some 7, .alloc [.val (.string ⟨#[]⟩), .val (.int .i64 0), .val (.int .i64 0), .val (.int .i64 0)], [], none⟩,
     ⟨some 6, .mov, [.t 12], none⟩,
     ⟨none, .store 4, [.t 7, .t 14], none⟩]
    [11, 12, 13, 14] [])
  (.seq (.region false []
    [⟨some 15, .faddr 1, [.t 7], none⟩,
     ⟨some 16, .load none, [.t 15], none⟩,
     ⟨some 17, .mov, [.t 1], none⟩,
     ⟨some 18, .bin .eql T_int (.tmp 16) (.tmp 17), [.t 16, .t 17], none⟩]
    [7, 15, 16, 17] [7])
  (.cond (.t 18) (.region false []
    [⟨some 19, .mov, [.t 5], none⟩,
     ⟨some 20, .mov, [.t 6], none⟩,
     ⟨some 21, .mkslice 1 1 [.val (.int .i64 0)] [0], [.t 20], none⟩,
     ⟨some 22, .append 1 8, [.t 19, .t 21], none⟩,
     ⟨some 5, .mov, [.t 22], none⟩]
    [6, 18, 19, 20, 21, 22] [])
  .skip))))
  (.region false []
    [⟨some 23, .bin .add T_int (.tmp 10) (.const (.int .i64 1)), [.t 10, .c (.val (.int .i64 1))], none⟩,
     ⟨some 10, .mov, [.t 23], none⟩]
    [6, 18, 23] []))))
def c_roster_Class_k1 : ACode :=
  (.seq (.region false []
    [⟨some 24, .mov, [.t 5], none⟩,
     ⟨some 4, .mov, [.t 24], none⟩]
    [1, 5, 8, 9, 10, 11, 24] [])
  .ret)
def c_roster_Class : ACode :=
  (.seq (.region false []
    [⟨some 4, .mov, [.c (.list 0 .full [])], none⟩]
    [4] [])
  (.seq (.region false []
    [⟨some 5, .mov, [.c (.list 0 .full [])], none⟩]
    [] [])
  (.seq (.seq (.region false []
    [⟨some 8, .mov, [.t 0], none⟩,
     ⟨some 9, .len false, [.t 8], none⟩,
     ⟨some 10, .mov, [.c (.val (.int .i64 0))], none⟩]
    [0] [])
  (.block 0 (.loop c_roster_Class_l0)))
  c_roster_Class_k1)))
def r_roster_Class : List ResA := [.t 4]
theorem t_roster_Class : transl Try.prog F_roster_Class = some (bare c_roster_Class, r_roster_Class, 25) := by kernel_rfl

/- saleroom/saleroomref09.Class -/
def c_ref09_Class_l0 : ACode :=
  (.seq (.seq (.region false []
    [⟨some 7, .mov, [.t 6], none⟩,
     ⟨some 8, .mov, [.t 0], none⟩,
     ⟨some 9, .len false, [.t 8], none⟩,
     ⟨some 10, .bin .lss T_int (.tmp 7) (.tmp 9), [.t 7, .t 9], none⟩]
    [7, 8, 9] [])
  (.cond (.t 10) .skip
  (.exit 0)))
  (.seq (.block 1 (.seq (.region false []
    [⟨some 13, .mov, [.t 0], none⟩,
     ⟨some 14, .mov, [.t 6], none⟩,
     ⟨some 15, .iaddrS 4, [.t 13, .t 14], none⟩,
     ⟨some 16, .faddr 1, [.t 15], none⟩,
     ⟨some 17, .load none, [.t 16], none⟩,
     ⟨some 18, .mov, [.t 1], none⟩,
     ⟨some 19, .bin .eql T_int (.tmp 17) (.tmp 18), [.t 17, .t 18], none⟩]
    [10, 13, 14, 15, 16, 17, 18] [])
  (.cond (.t 19) (.region false []
    [⟨some 20, .mov, [.t 5], none⟩,
     ⟨some 21, .mov, [.t 6], none⟩,
     ⟨some 22, .mkslice 1 1 [.val (.int .i64 0)] [0], [.t 21], none⟩,
     ⟨some 23, .append 1 8, [.t 20, .t 22], none⟩,
     ⟨some 5, .mov, [.t 23], none⟩]
    [19, 20, 21, 22, 23] [])
  .skip)))
  (.region false []
    [⟨some 11, .mov, [.t 6], none⟩,
     ⟨some 12, .bin .add T_int (.tmp 11) (.const (.int .i64 1)), [.t 11, .c (.val (.int .i64 1))], none⟩,
     ⟨some 6, .mov, [.t 12], none⟩]
    [19, 11, 12] [])))
def c_ref09_Class_k1 : ACode :=
  (.seq (.region false []
    [⟨some 24, .mov, [.t 5], none⟩,
     ⟨some 4, .mov, [.t 24], none⟩]
    [0, 1, 5, 6, 10, 24] [])
  .ret)
def c_ref09_Class : ACode :=
  (.seq (.region false []
    [⟨some 4, .mov, [.c (.list 0 .full [])], none⟩]
    [4] [])
  (.seq (.region false []
    [⟨some 5, .mov, [.c (.list 0 .full [])], none⟩]
    [] [])
  (.seq (.seq (.region false []
    [⟨some 6, .mov, [.c (.val (.int .i64 0))], none⟩]
    [] [])
  (.block 0 (.loop c_ref09_Class_l0)))
  c_ref09_Class_k1)))
def r_ref09_Class : List ResA := [.t 4]
theorem t_ref09_Class : transl Try.prog F_ref09_Class = some (bare c_ref09_Class, r_ref09_Class, 25) := by kernel_rfl

/- saleroom/roster.Members -/
def c_roster_Members_l0 : ACode :=
  (.seq (.region false []
    [⟨some 23, .bin .lss T_int (.tmp 22) (.tmp 21), [.t 22, .t 21], none⟩]
    [] [])
  (.seq (.cond (.t 23) .skip
  (.exit 2))
  (.seq (.block 3 (.seq (.region false []
    [⟨some 24, .mov, [.t 22], none⟩,
     ⟨some 25, .iaddrS 4, [.t 20, .t 22], none⟩,
     ⟨some 26, .load (some 4), [.t 25], none⟩,
     ⟨some 10, .alloc [.val (.string ⟨#[]⟩), .val (.int .i64 0), .val (.int .i64 0), .val (.int .i64 0)], [], none⟩,
     ⟨some 9, .mov, [.t 24], none⟩,
     ⟨none, .store 4, [.t 10, .t 26], none⟩]
    [23, 24, 25, 26] [])
  (.seq (.seq (.region false []
    [⟨some 27, .faddr 0, [.t 10], none⟩,
     ⟨some 28, .load none, [.t 27], none⟩,
     ⟨some 29, .mov, [.t 8], none⟩,
     ⟨some 30, .bin .neq T_string (.tmp 28) (.tmp 29), [.t 28, .t 29], none⟩]
    [10, 27, 28, 29] [10])
  (.cond (.t 30) (.exit 3)
  .skip))
  (.seq (.seq (.region false []
    [⟨some 31, .mov, [.t 6], none⟩,
     ⟨some 32, .mov, [.t 9], none⟩,
     ⟨some 33, .bin .shr T_int (.tmp 31) (.tmp 32), [.t 31, .t 32], none⟩,
     ⟨some 34, .bin .and T_int (.tmp 33) (.const (.int .i64 1)), [.t 33, .c (.val (.int .i64 1))], none⟩,
     ⟨some 35, .bin .eql T_int (.tmp 34) (.const (.int .i64 1)), [.t 34, .c (.val (.int .i64 1))], none⟩]
    [8, 20, 21, 22, 30, 31, 32, 33, 34] [])
  (.cond (.t 35) (.seq (.region false []
    [⟨some 4, .mov, [.c (.val (.int .i64 0))], none⟩,
     ⟨some 5, .mov, [.c (.val (.int .i64 7))], none⟩]
    [0, 6, 14, 15, 16, 9, 35] [])
  .ret)
  .skip))
  (.seq (.region false []
    [⟨some 36, .mov, [.t 6], none⟩,
     ⟨some 37, .mov, [.t 9], none⟩,
     ⟨some 38, .bin .shl T_int (.const (.int .i64 1)) (.tmp 37), [.c (.val (.int .i64 1)), .t 37], none⟩,
     ⟨some 39, .bin .or T_int (.tmp 36) (.tmp 38), [.t 36, .t 38], none⟩,
     ⟨some 6, .mov, [.t 39], none⟩]
    [9, 35, 36, 37, 38, 39] [])
  (.exit 1))))))
  (.region false []
    [⟨some 40, .bin .add T_int (.tmp 22) (.const (.int .i64 1)), [.t 22, .c (.val (.int .i64 1))], none⟩,
     ⟨some 22, .mov, [.t 40], none⟩]
    [9, 30, 40] []))))
def c_roster_Members_k1 : ACode :=
  (.seq (.region false []
    [⟨some 4, .mov, [.c (.val (.int .i64 0))], none⟩,
     ⟨some 5, .mov, [.c (.val (.int .i64 6))], none⟩]
    [0, 6, 14, 15, 16, 8, 20, 21, 22, 23] [])
  .ret)
def c_roster_Members_k2 : ACode :=
  (.region false []
    [⟨some 41, .bin .add T_int (.tmp 16) (.const (.int .i64 1)), [.t 16, .c (.val (.int .i64 1))], none⟩,
     ⟨some 16, .mov, [.t 41], none⟩]
    [41] [])
def c_roster_Members_l3 : ACode :=
  (.seq (.region false []
    [⟨some 17, .bin .lss T_int (.tmp 16) (.tmp 15), [.t 16, .t 15], none⟩]
    [] [])
  (.seq (.cond (.t 17) .skip
  (.exit 0))
  (.seq (.block 1 (.seq (.region false []
    [⟨some 18, .iaddrS 1, [.t 14, .t 16], none⟩,
     ⟨some 19, .load none, [.t 18], none⟩,
     ⟨some 8, .mov, [.t 19], none⟩]
    [17, 18, 19] [])
  (.seq (.seq (.region false []
    [⟨some 20, .mov, [.t 0], none⟩,
     ⟨some 21, .len false, [.t 20], none⟩,
     ⟨some 22, .mov, [.c (.val (.int .i64 0))], none⟩]
    [] [])
  (.block 2 (.loop c_roster_Members_l0)))
  c_roster_Members_k1)))
  c_roster_Members_k2)))
def c_roster_Members_k4 : ACode :=
  (.seq (.region false []
    [⟨some 42, .mov, [.t 6], none⟩,
     ⟨some 4, .mov, [.t 42], none⟩,
     ⟨some 5, .mov, [.c (.val (.int .i64 0))], none⟩]
    [0, 6, 14, 15, 16, 17, 42] [])
  .ret)
def c_roster_Members : ACode :=
  (.seq (.region false []
    [⟨some 4, .mov, [.c (.val (.int .i64 0))], none⟩,
     ⟨some 5, .mov, [.c (.val (.int .i64 0))], none⟩]
    [4, 5] [])
  (.seq (.seq (.region false []
    [⟨some 11, .mov, [.t 0], none⟩,
     ⟨some 12, .len false, [.t 11], none⟩,
     ⟨some 13, .bin .gtr T_int (.tmp 12) (.const (.int .i64 8)), [.t 12, .c (.val (.int .i64 8))], none⟩]
    [11, 12] [])
  (.cond (.t 13) (.seq (.region false []
    [⟨some 4, .mov, [.c (.val (.int .i64 0))], none⟩,
     ⟨some 5, .mov, [.c (.val (.int .i64 3))], none⟩]
    [0, 1, 13] [])
  .ret)
  .skip))
  (.seq (.region false []
    [⟨some 6, .mov, [.c (.val (.int .i64 0))], none⟩]
    [13] [])
  (.seq .skip
  (.seq (.seq (.region false []
    [⟨some 14, .mov, [.t 1], none⟩,
     ⟨some 15, .len false, [.t 14], none⟩,
     ⟨some 16, .mov, [.c (.val (.int .i64 0))], none⟩]
    [1] [])
  (.block 0 (.loop c_roster_Members_l3)))
  c_roster_Members_k4)))))
def r_roster_Members : List ResA := [.t 4, .t 5]
theorem t_roster_Members : transl Try.prog F_roster_Members = some (bare c_roster_Members, r_roster_Members, 43) := by kernel_rfl

/- saleroom/saleroomref09.Members -/
def c_ref09_Members_l0 : ACode :=
  (.seq (.seq (.region false []
    [⟨some 13, .mov, [.t 7], none⟩,
     ⟨some 14, .mov, [.t 1], none⟩,
     ⟨some 15, .len false, [.t 14], none⟩,
     ⟨some 16, .bin .lss T_int (.tmp 13) (.tmp 15), [.t 13, .t 15], none⟩]
    [13, 14, 15] [])
  (.cond (.t 16) .skip
  (.exit 0)))
  (.seq (.block 1 (.seq (.region false []
    [⟨some 20, .mov, [.t 0], none⟩,
     ⟨some 21, .mov, [.t 1], none⟩,
     ⟨some 22, .mov, [.t 7], none⟩,
     ⟨some 23, .iaddrS 1, [.t 21, .t 22], none⟩,
     ⟨some 24, .load none, [.t 23], none⟩,
     ⟨some 25, .call F_ref09_Find, [.t 20, .t 24], none⟩,
     ⟨some 19, .mov, [.t 25], none⟩,
     ⟨some 26, .extract 0, [.t 19], none⟩,
     ⟨some 27, .extract 1, [.t 19], none⟩,
     ⟨some 8, .mov, [.t 26], none⟩,
     ⟨some 9, .mov, [.t 27], none⟩]
    [16, 20, 21, 22, 23, 24, 25, 19, 26, 27] [])
  (.seq (.seq (.region false []
    [⟨some 28, .mov, [.t 9], none⟩,
     ⟨some 29, .un .not, [.t 28], none⟩]
    [9, 28] [])
  (.cond (.t 29) (.seq (.region false []
    [⟨some 4, .mov, [.c (.val (.int .i64 0))], none⟩,
     ⟨some 5, .mov, [.c (.val (.int .i64 6))], none⟩]
    [0, 1, 6, 7, 8, 29] [])
  .ret)
  .skip))
  (.seq (.seq (.region false []
    [⟨some 30, .mov, [.t 6], none⟩,
     ⟨some 31, .mov, [.t 8], none⟩,
     ⟨some 32, .call F_ref09_Has, [.t 30, .t 31], none⟩]
    [29, 30, 31] [])
  (.cond (.t 32) (.seq (.region false []
    [⟨some 4, .mov, [.c (.val (.int .i64 0))], none⟩,
     ⟨some 5, .mov, [.c (.val (.int .i64 7))], none⟩]
    [0, 1, 6, 7, 8, 32] [])
  .ret)
  .skip))
  (.region false []
    [⟨some 33, .mov, [.t 6], none⟩,
     ⟨some 34, .mov, [.t 8], none⟩,
     ⟨some 35, .call F_ref09_Bit, [.t 34], none⟩,
     ⟨some 36, .bin .add T_int (.tmp 33) (.tmp 35), [.t 33, .t 35], none⟩,
     ⟨some 6, .mov, [.t 36], none⟩]
    [8, 32, 33, 34, 35, 36] [])))))
  (.region false []
    [⟨some 17, .mov, [.t 7], none⟩,
     ⟨some 18, .bin .add T_int (.tmp 17) (.const (.int .i64 1)), [.t 17, .c (.val (.int .i64 1))], none⟩,
     ⟨some 7, .mov, [.t 18], none⟩]
    [17, 18] [])))
def c_ref09_Members_k1 : ACode :=
  (.seq (.region false []
    [⟨some 37, .mov, [.t 6], none⟩,
     ⟨some 4, .mov, [.t 37], none⟩,
     ⟨some 5, .mov, [.c (.val (.int .i64 0))], none⟩]
    [0, 1, 6, 7, 16, 37] [])
  .ret)
def c_ref09_Members : ACode :=
  (.seq (.region false []
    [⟨some 4, .mov, [.c (.val (.int .i64 0))], none⟩,
     ⟨some 5, .mov, [.c (.val (.int .i64 0))], none⟩]
    [4, 5] [])
  (.seq (.seq (.region false []
    [⟨some 10, .mov, [.t 0], none⟩,
     ⟨some 11, .len false, [.t 10], none⟩,
     ⟨some 12, .bin .gtr T_int (.tmp 11) (.const (.int .i64 8)), [.t 11, .c (.val (.int .i64 8))], none⟩]
    [10, 11] [])
  (.cond (.t 12) (.seq (.region false []
    [⟨some 4, .mov, [.c (.val (.int .i64 0))], none⟩,
     ⟨some 5, .mov, [.c (.val (.int .i64 3))], none⟩]
    [0, 1, 12] [])
  .ret)
  .skip))
  (.seq (.region false []
    [⟨some 6, .mov, [.c (.val (.int .i64 0))], none⟩]
    [12] [])
  (.seq (.seq (.region false []
    [⟨some 7, .mov, [.c (.val (.int .i64 0))], none⟩]
    [] [])
  (.block 0 (.loop c_ref09_Members_l0)))
  c_ref09_Members_k1))))
def r_ref09_Members : List ResA := [.t 4, .t 5]
theorem t_ref09_Members : transl Try.prog F_ref09_Members = some (bare c_ref09_Members, r_ref09_Members, 38) := by kernel_rfl

/- saleroom/saleroomref09.SameTexts -/
def c_ref09_SameTexts_l0 : ACode :=
  (.seq (.seq (.region false []
    [⟨some 11, .mov, [.t 5], none⟩,
     ⟨some 12, .mov, [.t 0], none⟩,
     ⟨some 13, .len false, [.t 12], none⟩,
     ⟨some 14, .bin .lss T_int (.tmp 11) (.tmp 13), [.t 11, .t 13], none⟩]
    [11, 12, 13] [])
  (.cond (.t 14) .skip
  (.exit 0)))
  (.seq (.block 1 (.seq (.region true []
    [⟨some 17, .mov, [.t 0], none⟩,
     ⟨some 18, .mov, [.t 5], none⟩,
     ⟨some 19, .iaddrS 1, [.t 17, .t 18], none⟩,
     ⟨some 20, .load none, [.t 19], none⟩,
     ⟨some 21, .mov, [.t 1], none⟩,
     ⟨some 22, .mov, [.t 5], none⟩,
     ⟨some 23, .iaddrS 1, [.t 21, .t 22], none⟩,
     ⟨some 24, .load none, [.t 23], none⟩,
     ⟨some 25, .bin .neq T_string (.tmp 20) (.tmp 24), [.t 20, .t 24], none⟩]
    [14, 17, 18, 19, 20, 21, 22, 23, 24] [])
  (.cond (.t 25) (.seq (.region false []
    [⟨some 4, .mov, [.c (.val (.bool false))], none⟩]
    [0, 1, 5, 25] [])
  .ret)
  .skip)))
  (.region false []
    [⟨some 15, .mov, [.t 5], none⟩,
     ⟨some 16, .bin .add T_int (.tmp 15) (.const (.int .i64 1)), [.t 15, .c (.val (.int .i64 1))], none⟩,
     ⟨some 5, .mov, [.t 16], none⟩]
    [25, 15, 16] [])))
def c_ref09_SameTexts_k1 : ACode :=
  (.seq (.region false []
    [⟨some 4, .mov, [.c (.val (.bool true))], none⟩]
    [0, 1, 5, 14] [])
  .ret)
def c_ref09_SameTexts : ACode :=
  (.seq (.region false []
    [⟨some 4, .mov, [.c (.val (.bool false))], none⟩]
    [4] [])
  (.seq (.seq (.region false []
    [⟨some 6, .mov, [.t 0], none⟩,
     ⟨some 7, .len false, [.t 6], none⟩,
     ⟨some 8, .mov, [.t 1], none⟩,
     ⟨some 9, .len false, [.t 8], none⟩,
     ⟨some 10, .bin .neq T_int (.tmp 7) (.tmp 9), [.t 7, .t 9], none⟩]
    [6, 7, 8, 9] [])
  (.cond (.t 10) (.seq (.region false []
    [⟨some 4, .mov, [.c (.val (.bool false))], none⟩]
    [0, 1, 10] [])
  .ret)
  .skip))
  (.seq (.seq (.region false []
    [⟨some 5, .mov, [.c (.val (.int .i64 0))], none⟩]
    [10] [])
  (.block 0 (.loop c_ref09_SameTexts_l0)))
  c_ref09_SameTexts_k1)))
def r_ref09_SameTexts : List ResA := [.t 4]
theorem t_ref09_SameTexts : transl Try.prog F_ref09_SameTexts = some (bare c_ref09_SameTexts, r_ref09_SameTexts, 26) := by kernel_rfl

/- saleroom/roster.Names -/
def c_roster_Names_l0 : ACode :=
  (.seq (.region false []
    [⟨some 15, .bin .lss T_int (.tmp 14) (.tmp 13), [.t 14, .t 13], none⟩]
    [] [])
  (.seq (.cond (.t 15) .skip
  (.exit 0))
  (.seq (.block 1 (.seq (.region false []
    [⟨some 16, .mov, [.t 14], none⟩,
     ⟨some 17, .iaddrS 4, [.t 12, .t 14], none⟩,
     ⟨some 18, .load (some 4), [.t 17], none⟩,
     ⟨some 7, .alloc [.val (.string ⟨#[]⟩), .val (.int .i64 0), .val (.int .i64 0), .val (.int .i64 0)], [], none⟩,
     ⟨some 6, .mov, [.t 16], none⟩,
     ⟨none, .store 4, [.t 7, .t 18], none⟩]
    [15, 16, 17, 18] [])
  (.seq (.region false []
    [⟨some 19, .mov, [.t 1], none⟩,
     ⟨some 20, .mov, [.t 6], none⟩,
     ⟨some 21, .bin .shr T_int (.tmp 19) (.tmp 20), [.t 19, .t 20], none⟩,
     ⟨some 22, .bin .and T_int (.tmp 21) (.const (.int .i64 1)), [.t 21, .c (.val (.int .i64 1))], none⟩,
     ⟨some 23, .bin .eql T_int (.tmp 22) (.const (.int .i64 1)), [.t 22, .c (.val (.int .i64 1))], none⟩]
    [6, 19, 20, 21, 22] [])
  (.cond (.t 23) (.region false []
    [⟨some 24, .mov, [.t 5], none⟩,
     ⟨some 25, .faddr 0, [.t 7], none⟩,
     ⟨some 26, .load none, [.t 25], none⟩,
     ⟨some 27, .mkslice 1 1 [.val (.string ⟨#[]⟩)] [0], [.t 26], none⟩,
     ⟨some 28, .append 1 16, [.t 24, .t 27], none⟩,
     ⟨some 5, .mov, [.t 28], none⟩]
    [7, 23, 24, 25, 26, 27, 28] [7])
  .skip))))
  (.region false []
    [⟨some 29, .bin .add T_int (.tmp 14) (.const (.int .i64 1)), [.t 14, .c (.val (.int .i64 1))], none⟩,
     ⟨some 14, .mov, [.t 29], none⟩]
    [7, 23, 29] [7]))))
def c_roster_Names_k1 : ACode :=
  (.seq (.region false []
    [⟨some 30, .mov, [.t 5], none⟩,
     ⟨some 4, .mov, [.t 30], none⟩]
    [1, 5, 12, 13, 14, 15, 30] [])
  .ret)
def c_roster_Names : ACode :=
  (.seq (.region false []
    [⟨some 4, .mov, [.c (.list 0 .full [])], none⟩]
    [4] [])
  (.seq (.region false []
    [⟨some 5, .mov, [.c (.list 0 .full [])], none⟩]
    [] [])
  (.seq (.seq (.region false []
    [⟨some 8, .mov, [.t 0], none⟩,
     ⟨some 9, .mov, [.t 0], none⟩,
     ⟨some 10, .len false, [.t 9], none⟩,
     ⟨some 11, .mm .min #[T_int, T_int] T_int, [.t 10, .c (.val (.int .i64 8))], none⟩,
     ⟨some 12, .slice 4 false true false, [.t 8, .t 11], none⟩,
     ⟨some 13, .len false, [.t 12], none⟩,
     ⟨some 14, .mov, [.c (.val (.int .i64 0))], none⟩]
    [0, 8, 9, 10, 11] [])
  (.block 0 (.loop c_roster_Names_l0)))
  c_roster_Names_k1)))
def r_roster_Names : List ResA := [.t 4]
theorem t_roster_Names : transl Try.prog F_roster_Names = some (bare c_roster_Names, r_roster_Names, 31) := by kernel_rfl

/- saleroom/saleroomref09.Names -/
def c_ref09_Names_l0 : ACode :=
  (.seq (.seq (.region false []
    [⟨some 7, .mov, [.t 6], none⟩,
     ⟨some 8, .mov, [.t 0], none⟩,
     ⟨some 9, .len false, [.t 8], none⟩,
     ⟨some 10, .bin .lss T_int (.tmp 7) (.tmp 9), [.t 7, .t 9], none⟩,
     ⟨some 11, .mov, [.t 10], none⟩,
     ⟨some 12, .mov, [.t 6], some (11, true)⟩,
     ⟨some 13, .bin .lss T_int (.tmp 12) (.const (.int .i64 8)), [.t 12, .c (.val (.int .i64 8))], some (11, true)⟩,
     ⟨some 14, .pick, [.t 11, .t 13, .c (.val (.bool false))], none⟩]
    [7, 8, 9, 10, 11, 12, 13] [])
  (.cond (.t 14) .skip
  (.exit 0)))
  (.seq (.block 1 (.seq (.region false []
    [⟨some 17, .mov, [.t 1], none⟩,
     ⟨some 18, .mov, [.t 6], none⟩,
     ⟨some 19, .call F_ref09_Has, [.t 17, .t 18], none⟩]
    [14, 17, 18] [])
  (.cond (.t 19) (.region false []
    [⟨some 20, .mov, [.t 5], none⟩,
     ⟨some 21, .mov, [.t 0], none⟩,
     ⟨some 22, .mov, [.t 6], none⟩,
     ⟨some 23, .iaddrS 4, [.t 21, .t 22], none⟩,
     ⟨some 24, .faddr 0, [.t 23], none⟩,
     ⟨some 25, .load none, [.t 24], none⟩,
     ⟨some 26, .mkslice 1 1 [.val (.string ⟨#[]⟩)] [0], [.t 25], none⟩,
     ⟨some 27, .append 1 16, [.t 20, .t 26], none⟩,
     ⟨some 5, .mov, [.t 27], none⟩]
    [19, 20, 21, 22, 23, 24, 25, 26, 27] [])
  .skip)))
  (.region false []
    [⟨some 15, .mov, [.t 6], none⟩,
     ⟨some 16, .bin .add T_int (.tmp 15) (.const (.int .i64 1)), [.t 15, .c (.val (.int .i64 1))], none⟩,
     ⟨some 6, .mov, [.t 16], none⟩]
    [19, 15, 16] [])))
def c_ref09_Names_k1 : ACode :=
  (.seq (.region false []
    [⟨some 28, .mov, [.t 5], none⟩,
     ⟨some 4, .mov, [.t 28], none⟩]
    [0, 1, 5, 6, 14, 28] [])
  .ret)
def c_ref09_Names : ACode :=
  (.seq (.region false []
    [⟨some 4, .mov, [.c (.list 0 .full [])], none⟩]
    [4] [])
  (.seq (.region false []
    [⟨some 5, .mov, [.c (.list 0 .full [])], none⟩]
    [] [])
  (.seq (.seq (.region false []
    [⟨some 6, .mov, [.c (.val (.int .i64 0))], none⟩]
    [] [])
  (.block 0 (.loop c_ref09_Names_l0)))
  c_ref09_Names_k1)))
def r_ref09_Names : List ResA := [.t 4]
theorem t_ref09_Names : transl Try.prog F_ref09_Names = some (bare c_ref09_Names, r_ref09_Names, 29) := by kernel_rfl

/- saleroom/saleroomref09.Bit -/
def c_ref09_Bit_l0 : ACode :=
  (.seq (.seq (.region false []
    [⟨some 5, .mov, [.t 4], none⟩,
     ⟨some 6, .mov, [.t 0], none⟩,
     ⟨some 7, .bin .lss T_int (.tmp 5) (.tmp 6), [.t 5, .t 6], none⟩]
    [5, 6] [])
  (.cond (.t 7) .skip
  (.exit 0)))
  (.seq (.block 1 (.region false []
    [⟨some 10, .mov, [.t 3], none⟩,
     ⟨some 11, .bin .mul T_int (.const (.int .i64 2)) (.tmp 10), [.c (.val (.int .i64 2)), .t 10], none⟩,
     ⟨some 3, .mov, [.t 11], none⟩]
    [7, 10, 11] []))
  (.region false []
    [⟨some 8, .mov, [.t 4], none⟩,
     ⟨some 9, .bin .add T_int (.tmp 8) (.const (.int .i64 1)), [.t 8, .c (.val (.int .i64 1))], none⟩,
     ⟨some 4, .mov, [.t 9], none⟩]
    [8, 9] [])))
def c_ref09_Bit_k1 : ACode :=
  (.seq (.region false []
    [⟨some 12, .mov, [.t 3], none⟩,
     ⟨some 2, .mov, [.t 12], none⟩]
    [0, 3, 4, 7, 12] [])
  .ret)
def c_ref09_Bit : ACode :=
  (.seq (.region false []
    [⟨some 2, .mov, [.c (.val (.int .i64 0))], none⟩]
    [2] [])
  (.seq (.region false []
    [⟨some 3, .mov, [.c (.val (.int .i64 1))], none⟩]
    [] [])
  (.seq (.seq (.region false []
    [⟨some 4, .mov, [.c (.val (.int .i64 0))], none⟩]
    [] [])
  (.block 0 (.loop c_ref09_Bit_l0)))
  c_ref09_Bit_k1)))
def r_ref09_Bit : List ResA := [.t 2]
theorem t_ref09_Bit : transl Try.prog F_ref09_Bit = some (bare c_ref09_Bit, r_ref09_Bit, 13) := by kernel_rfl

/- saleroom/roster.Sets -/
def c_roster_Sets : ACode :=
  (.seq (.region false []
    [⟨some 1, .box, [.t 0], none⟩,
     ⟨some 2, .mov, [.c (.val (.nilFunc))], none⟩]
    [0, 2] [])
  (.seq (.region false []
    [⟨some 3, .mkfn F_roster_Sets_1, [.t 1], none⟩,
     ⟨some 2, .mov, [.t 3], none⟩]
    [1, 3] [])
  .ret))
def r_roster_Sets : List ResA := [.t 2]
theorem t_roster_Sets : transl Try.prog F_roster_Sets = some (bare c_roster_Sets, r_roster_Sets, 4) := by kernel_rfl

/- saleroom/saleroomlaw09.three -/
def c_law09_three : ACode :=
  (.seq (.region false []
    [⟨some 0, .mov, [.c (.list 0 .full [])], none⟩]
    [0] [])
  (.seq (.region false []
    [⟨some 1, .build [.val (.string ⟨#[]⟩), .val (.int .i64 0), .val (.int .i64 0), .val (.int .i64 0)] [(0, 1), (1, 1)], [.c (.val (.string ⟨#[97, 110, 110]⟩)), .c (.val (.int .i64 1))], none⟩,
     ⟨some 2, .build [.val (.string ⟨#[]⟩), .val (.int .i64 0), .val (.int .i64 0), .val (.int .i64 0)] [(0, 1)], [.c (.val (.string ⟨#[98, 111, 98]⟩))], none⟩,
     ⟨some 3, .build [.val (.string ⟨#[]⟩), .val (.int .i64 0), .val (.int .i64 0), .val (.int .i64 0)] [(0, 1), (1, 1)], [.c (.val (.string ⟨#[99, 121, 100]⟩)), .c (.val (.int .i64 1))], none⟩,
     ⟨some 4, .mkslice 4 3 [.val (.string ⟨#[]⟩), .val (.int .i64 0), .val (.int .i64 0), .val (.int .i64 0)] [0, 1, 2], [.t 1, .t 2, .t 3], none⟩,
     ⟨some 0, .mov, [.t 4], none⟩]
    [1, 2, 3, 4] [])
  .ret))
def r_law09_three : List ResA := [.t 0]
theorem t_law09_three : transl Try.prog F_law09_three = some (bare c_law09_three, r_law09_three, 5) := by kernel_rfl

/- saleroom/lexer.IsName -/
def c_lexer_IsName : ACode :=
  (.seq (.region false []
    [⟨some 2, .mov, [.c (.val (.bool false))], none⟩]
    [2] [])
  (.seq (.region false []
    [⟨some 3, .mov, [.t 0], none⟩,
     ⟨some 4, .bin .neq T_string (.tmp 3) (.const (.string ⟨#[]⟩)), [.t 3, .c (.val (.string ⟨#[]⟩))], none⟩,
     ⟨some 5, .mov, [.t 4], none⟩,
     ⟨some 6, .mov, [.t 0], some (5, true)⟩,
     ⟨some 7, .len true, [.t 6], some (5, true)⟩,
     ⟨some 8, .bin .leq T_int (.tmp 7) (.const (.int .i64 12)), [.t 7, .c (.val (.int .i64 12))], some (5, true)⟩,
     ⟨some 9, .pick, [.t 5, .t 8, .c (.val (.bool false))], none⟩,
     ⟨some 10, .mov, [.t 9], none⟩,
     ⟨some 11, .mov, [.t 0], some (10, true)⟩,
     ⟨some 12, .idxV T_string, [.t 11, .c (.val (.int .i64 0))], some (10, true)⟩,
     ⟨some 13, .conv T_uint8 T_int32, [.t 12], some (10, true)⟩,
     ⟨some 14, .call F_lexer_letter, [.t 13], some (10, true)⟩,
     ⟨some 15, .pick, [.t 10, .t 14, .c (.val (.bool false))], none⟩,
     ⟨some 16, .mov, [.t 15], none⟩,
     ⟨some 17, .mov, [.t 0], some (16, true)⟩,
     ⟨some 18, .call F_lexer_run, [.t 17, .c (.val (.int .i64 0)), .c (.fn (.func 33) [])], some (16, true)⟩,
     ⟨some 19, .mov, [.t 0], some (16, true)⟩,
     ⟨some 20, .bin .eql T_string (.tmp 18) (.tmp 19), [.t 18, .t 19], some (16, true)⟩,
     ⟨some 21, .pick, [.t 16, .t 20, .c (.val (.bool false))], none⟩,
     ⟨some 2, .mov, [.t 21], none⟩]
    [0, 3, 4, 5, 6, 7, 8, 9, 10, 11, 12, 13, 14, 15, 16, 17, 18, 19, 20, 21] [])
  .ret))
def r_lexer_IsName : List ResA := [.t 2]
theorem t_lexer_IsName : transl Try.prog F_lexer_IsName = some (bare c_lexer_IsName, r_lexer_IsName, 22) := by kernel_rfl

/- saleroom/saleroomref06.IsName -/
def c_ref06_IsName : ACode :=
  (.seq (.region false []
    [⟨some 2, .mov, [.c (.val (.bool false))], none⟩]
    [2] [])
  (.seq (.seq (.region false []
    [⟨some 5, .mov, [.t 0], none⟩,
     ⟨some 6, .bin .eql T_string (.tmp 5) (.const (.string ⟨#[]⟩)), [.t 5, .c (.val (.string ⟨#[]⟩))], none⟩,
     ⟨some 7, .mov, [.t 6], none⟩,
     ⟨some 8, .mov, [.t 0], some (7, false)⟩,
     ⟨some 9, .len true, [.t 8], some (7, false)⟩,
     ⟨some 10, .bin .gtr T_int (.tmp 9) (.const (.int .i64 12)), [.t 9, .c (.val (.int .i64 12))], some (7, false)⟩,
     ⟨some 11, .pick, [.t 7, .c (.val (.bool true)), .t 10], none⟩,
     ⟨some 12, .mov, [.t 11], none⟩,
     ⟨some 13, .mov, [.t 0], some (12, false)⟩,
     ⟨some 14, .idxV T_string, [.t 13, .c (.val (.int .i64 0))], some (12, false)⟩,
     ⟨some 15, .call F_ref06_letter, [.t 14], some (12, false)⟩,
     ⟨some 16, .un .not, [.t 15], some (12, false)⟩,
     ⟨some 17, .pick, [.t 12, .c (.val (.bool true)), .t 16], none⟩]
    [5, 6, 7, 8, 9, 10, 11, 12, 13, 14, 15, 16] [])
  (.cond (.t 17) (.seq (.region false []
    [⟨some 2, .mov, [.c (.val (.bool false))], none⟩]
    [0, 17] [])
  .ret)
  .skip))
  (.seq (.region false []
    [⟨some 19, .mov, [.t 0], none⟩,
     ⟨some 20, .call F_ref06_One, [.t 19], none⟩,
     ⟨some 18, .mov, [.t 20], none⟩,
     ⟨some 21, .extract 0, [.t 18], none⟩,
     ⟨some 22, .extract 1, [.t 18], none⟩,
     ⟨some 3, .alloc [.val (.int .i64 0), .val (.string ⟨#[]⟩), .val (.int .i64 0), .val (.int .i64 0)], [], none⟩,
     ⟨none, .store 4, [.t 3, .t 21], none⟩,
     ⟨some 4, .mov, [.t 22], none⟩]
    [17, 19, 20, 18, 21, 22] [])
  (.seq (.region false []
    [⟨some 23, .mov, [.t 4], none⟩,
     ⟨some 24, .bin .eql T_api_Errno (.tmp 23) (.const (.int .i64 0)), [.t 23, .c (.val (.int .i64 0))], none⟩,
     ⟨some 25, .mov, [.t 24], none⟩,
     ⟨some 26, .faddr 1, [.t 3], some (25, true)⟩,
     ⟨some 27, .load none, [.t 26], some (25, true)⟩,
     ⟨some 28, .mov, [.t 0], some (25, true)⟩,
     ⟨some 29, .bin .eql T_string (.tmp 27) (.tmp 28), [.t 27, .t 28], some (25, true)⟩,
     ⟨some 30, .pick, [.t 25, .t 29, .c (.val (.bool false))], none⟩,
     ⟨some 2, .mov, [.t 30], none⟩]
    [0, 3, 4, 23, 24, 25, 26, 27, 28, 29, 30] [3])
  .ret))))
def r_ref06_IsName : List ResA := [.t 2]
theorem t_ref06_IsName : transl Try.prog F_ref06_IsName = some (bare c_ref06_IsName, r_ref06_IsName, 31) := by kernel_rfl

/- saleroom/saleroomref09.Has -/
def c_ref09_Has_l0 : ACode :=
  (.seq (.seq (.region false []
    [⟨some 6, .mov, [.t 5], none⟩,
     ⟨some 7, .mov, [.t 1], none⟩,
     ⟨some 8, .bin .lss T_int (.tmp 6) (.tmp 7), [.t 6, .t 7], none⟩]
    [6, 7] [])
  (.cond (.t 8) .skip
  (.exit 0)))
  (.seq (.block 1 (.region false []
    [⟨some 11, .mov, [.t 0], none⟩,
     ⟨some 12, .bin .shr T_int (.tmp 11) (.const (.int .u64 1)), [.t 11, .c (.val (.int .u64 1))], none⟩,
     ⟨some 0, .mov, [.t 12], none⟩]
    [8, 11, 12] []))
  (.region false []
    [⟨some 9, .mov, [.t 5], none⟩,
     ⟨some 10, .bin .add T_int (.tmp 9) (.const (.int .i64 1)), [.t 9, .c (.val (.int .i64 1))], none⟩,
     ⟨some 5, .mov, [.t 10], none⟩]
    [9, 10] [])))
def c_ref09_Has_k1 : ACode :=
  (.seq (.region false []
    [⟨some 13, .mov, [.t 0], none⟩,
     ⟨some 14, .bin .and T_int (.tmp 13) (.const (.int .i64 1)), [.t 13, .c (.val (.int .i64 1))], none⟩,
     ⟨some 15, .bin .eql T_int (.tmp 14) (.const (.int .i64 1)), [.t 14, .c (.val (.int .i64 1))], none⟩,
     ⟨some 4, .mov, [.t 15], none⟩]
    [0, 1, 5, 8, 13, 14, 15] [])
  .ret)
def c_ref09_Has : ACode :=
  (.seq (.region false []
    [⟨some 4, .mov, [.c (.val (.bool false))], none⟩]
    [4] [])
  (.seq (.seq (.region false []
    [⟨some 5, .mov, [.c (.val (.int .i64 0))], none⟩]
    [] [])
  (.block 0 (.loop c_ref09_Has_l0)))
  c_ref09_Has_k1))
def r_ref09_Has : List ResA := [.t 4]
theorem t_ref09_Has : transl Try.prog F_ref09_Has = some (bare c_ref09_Has, r_ref09_Has, 16) := by kernel_rfl

/- saleroom/roster.Sets$1 -/
def c_roster_Sets_1_l0 : ACode :=
  (.seq (.region false []
    [⟨some 13, .bin .lss T_int (.tmp 12) (.tmp 11), [.t 12, .t 11], none⟩]
    [] [])
  (.seq (.cond (.t 13) .skip
  (.exit 0))
  (.seq (.block 1 (.seq (.region false []
    [⟨some 14, .mov, [.t 12], none⟩,
     ⟨some 3, .mov, [.t 14], none⟩]
    [13, 14] [])
  (.seq (.region false []
    [⟨some 15, .mov, [.t 0], none⟩,
     ⟨some 16, .mov, [.t 3], none⟩,
     ⟨some 17, .callv, [.t 15, .t 16], none⟩,
     ⟨some 18, .un .not, [.t 17], none⟩]
    [3, 15, 16, 17] [])
  (.cond (.t 18) .ret
  .skip))))
  (.region false []
    [⟨some 19, .bin .add T_int (.tmp 12) (.const (.int .i64 1)), [.t 12, .c (.val (.int .i64 1))], none⟩,
     ⟨some 12, .mov, [.t 19], none⟩]
    [18, 19] []))))
def c_roster_Sets_1 : ACode :=
  (.seq (.seq (.region false []
    [⟨some 4, .load none, [.t 1], none⟩,
     ⟨some 5, .bin .lss T_int (.tmp 4) (.const (.int .i64 0)), [.t 4, .c (.val (.int .i64 0))], none⟩,
     ⟨some 6, .mov, [.t 5], none⟩,
     ⟨some 7, .load none, [.t 1], some (6, false)⟩,
     ⟨some 8, .bin .gtr T_int (.tmp 7) (.const (.int .i64 8)), [.t 7, .c (.val (.int .i64 8))], some (6, false)⟩,
     ⟨some 9, .pick, [.t 6, .c (.val (.bool true)), .t 8], none⟩]
    [4, 5, 6, 7, 8] [])
  (.cond (.t 9) .ret
  .skip))
  (.seq (.region false []
    [⟨some 10, .load none, [.t 1], none⟩,
     ⟨some 11, .bin .shl T_int (.const (.int .i64 1)) (.tmp 10), [.c (.val (.int .i64 1)), .t 10], none⟩,
     ⟨some 12, .mov, [.c (.val (.int .i64 0))], none⟩]
    [9, 10] [])
  (.block 0 (.loop c_roster_Sets_1_l0))))
def r_roster_Sets_1 : List ResA := []
theorem t_roster_Sets_1 : transl Try.prog F_roster_Sets_1 = some (bare c_roster_Sets_1, r_roster_Sets_1, 20) := by kernel_rfl

/- saleroom/lexer.letter -/
def c_lexer_letter : ACode :=
  (.seq (.region false []
    [⟨some 2, .mov, [.c (.val (.bool false))], none⟩]
    [2] [])
  (.seq (.region false []
    [⟨some 3, .mov, [.t 0], none⟩,
     ⟨some 4, .bin .geq T_int32 (.tmp 3) (.const (.int .i32 97)), [.t 3, .c (.val (.int .i32 97))], none⟩,
     ⟨some 5, .mov, [.t 4], none⟩,
     ⟨some 6, .mov, [.t 0], some (5, true)⟩,
     ⟨some 7, .bin .leq T_int32 (.tmp 6) (.const (.int .i32 122)), [.t 6, .c (.val (.int .i32 122))], some (5, true)⟩,
     ⟨some 8, .pick, [.t 5, .t 7, .c (.val (.bool false))], none⟩,
     ⟨some 2, .mov, [.t 8], none⟩]
    [0, 3, 4, 5, 6, 7, 8] [])
  .ret))
def r_lexer_letter : List ResA := [.t 2]
theorem t_lexer_letter : transl Try.prog F_lexer_letter = some (bare c_lexer_letter, r_lexer_letter, 9) := by kernel_rfl

/- saleroom/lexer.run -/
def c_lexer_run_l0 : ACode :=
  (.seq (.seq (.region false []
    [⟨some 9, .mov, [.t 7], none⟩,
     ⟨some 10, .mov, [.t 0], none⟩,
     ⟨some 11, .len true, [.t 10], none⟩,
     ⟨some 12, .bin .lss T_int (.tmp 9) (.tmp 11), [.t 9, .t 11], none⟩,
     ⟨some 13, .mov, [.t 12], none⟩,
     ⟨some 14, .mov, [.t 2], some (13, true)⟩,
     ⟨some 15, .mov, [.t 0], some (13, true)⟩,
     ⟨some 16, .mov, [.t 7], some (13, true)⟩,
     ⟨some 17, .idxV T_string, [.t 15, .t 16], some (13, true)⟩,
     ⟨some 18, .conv T_uint8 T_int32, [.t 17], some (13, true)⟩,
     ⟨some 19, .callv, [.t 14, .t 18], some (13, true)⟩,
     ⟨some 20, .pick, [.t 13, .t 19, .c (.val (.bool false))], none⟩]
    [9, 10, 11, 12, 13, 14, 15, 16, 17, 18, 19] [])
  (.cond (.t 20) .skip
  (.exit 0)))
  (.block 1 (.region false []
    [⟨some 21, .mov, [.t 7], none⟩,
     ⟨some 22, .bin .add T_int (.tmp 21) (.const (.int .i64 1)), [.t 21, .c (.val (.int .i64 1))], none⟩,
     ⟨some 7, .mov, [.t 22], none⟩]
    [20, 21, 22] [])))
def c_lexer_run_k1 : ACode :=
  (.seq (.region false []
    [⟨some 23, .mov, [.t 0], none⟩,
     ⟨some 24, .mov, [.t 1], none⟩,
     ⟨some 25, .mov, [.t 7], none⟩,
     ⟨some 26, .sliceV T_string true true false, [.t 23, .t 24, .t 25], none⟩,
     ⟨some 6, .mov, [.t 26], none⟩]
    [0, 1, 2, 7, 20, 23, 24, 25, 26] [])
  .ret)
def c_lexer_run : ACode :=
  (.seq (.region false []
    [⟨some 6, .mov, [.c (.val (.string ⟨#[]⟩))], none⟩]
    [6] [])
  (.seq (.region false []
    [⟨some 8, .mov, [.t 1], none⟩,
     ⟨some 7, .mov, [.t 8], none⟩]
    [8] [])
  (.seq (.block 0 (.loop c_lexer_run_l0))
  c_lexer_run_k1)))
def r_lexer_run : List ResA := [.t 6]
theorem t_lexer_run : transl Try.prog F_lexer_run = some (bare c_lexer_run, r_lexer_run, 27) := by kernel_rfl

/- saleroom/lexer.inner -/
def c_lexer_inner : ACode :=
  (.seq (.region false []
    [⟨some 2, .mov, [.c (.val (.bool false))], none⟩]
    [2] [])
  (.seq (.region false []
    [⟨some 3, .mov, [.t 0], none⟩,
     ⟨some 4, .call F_lexer_letter, [.t 3], none⟩,
     ⟨some 5, .mov, [.t 4], none⟩,
     ⟨some 6, .mov, [.t 0], some (5, false)⟩,
     ⟨some 7, .call F_lexer_digit, [.t 6], some (5, false)⟩,
     ⟨some 8, .pick, [.t 5, .c (.val (.bool true)), .t 7], none⟩,
     ⟨some 9, .mov, [.t 8], none⟩,
     ⟨some 10, .mov, [.t 0], some (9, false)⟩,
     ⟨some 11, .bin .eql T_int32 (.tmp 10) (.const (.int .i32 95)), [.t 10, .c (.val (.int .i32 95))], some (9, false)⟩,
     ⟨some 12, .pick, [.t 9, .c (.val (.bool true)), .t 11], none⟩,
     ⟨some 2, .mov, [.t 12], none⟩]
    [0, 3, 4, 5, 6, 7, 8, 9, 10, 11, 12] [])
  .ret))
def r_lexer_inner : List ResA := [.t 2]
theorem t_lexer_inner : transl Try.prog F_lexer_inner = some (bare c_lexer_inner, r_lexer_inner, 13) := by kernel_rfl

/- saleroom/saleroomref06.letter -/
def c_ref06_letter : ACode :=
  (.seq (.region false []
    [⟨some 2, .mov, [.c (.val (.bool false))], none⟩]
    [2] [])
  (.seq (.region false []
    [⟨some 3, .mov, [.t 0], none⟩,
     ⟨some 4, .bin .geq T_uint8 (.tmp 3) (.const (.int .u8 97)), [.t 3, .c (.val (.int .u8 97))], none⟩,
     ⟨some 5, .mov, [.t 4], none⟩,
     ⟨some 6, .mov, [.t 0], some (5, true)⟩,
     ⟨some 7, .bin .leq T_uint8 (.tmp 6) (.const (.int .u8 122)), [.t 6, .c (.val (.int .u8 122))], some (5, true)⟩,
     ⟨some 8, .pick, [.t 5, .t 7, .c (.val (.bool false))], none⟩,
     ⟨some 2, .mov, [.t 8], none⟩]
    [0, 3, 4, 5, 6, 7, 8] [])
  .ret))
def r_ref06_letter : List ResA := [.t 2]
theorem t_ref06_letter : transl Try.prog F_ref06_letter = some (bare c_ref06_letter, r_ref06_letter, 9) := by kernel_rfl

/- saleroom/saleroomref06.One -/
def c_ref06_One_l0 : ACode :=
  (.seq (.seq (.region false []
    [⟨some 11, .mov, [.t 4], none⟩,
     ⟨some 12, .mov, [.t 0], none⟩,
     ⟨some 13, .len true, [.t 12], none⟩,
     ⟨some 14, .bin .lss T_int (.tmp 11) (.tmp 13), [.t 11, .t 13], none⟩,
     ⟨some 15, .mov, [.t 14], none⟩,
     ⟨some 16, .mov, [.t 0], some (15, true)⟩,
     ⟨some 17, .mov, [.t 4], some (15, true)⟩,
     ⟨some 18, .idxV T_string, [.t 16, .t 17], some (15, true)⟩,
     ⟨some 19, .call F_ref06_letter, [.t 18], some (15, true)⟩,
     ⟨some 20, .mov, [.t 19], some (15, true)⟩,
     ⟨some 21, .mov, [.t 0], some (20, false)⟩,
     ⟨some 22, .mov, [.t 4], some (20, false)⟩,
     ⟨some 23, .idxV T_string, [.t 21, .t 22], some (20, false)⟩,
     ⟨some 24, .call F_ref06_digit, [.t 23], some (20, false)⟩,
     ⟨some 25, .pick, [.t 20, .c (.val (.bool true)), .t 24], some (15, true)⟩,
     ⟨some 26, .mov, [.t 25], some (15, true)⟩,
     ⟨some 27, .mov, [.t 0], some (26, false)⟩,
     ⟨some 28, .mov, [.t 4], some (26, false)⟩,
     ⟨some 29, .idxV T_string, [.t 27, .t 28], some (26, false)⟩,
     ⟨some 30, .bin .eql T_uint8 (.tmp 29) (.const (.int .u8 95)), [.t 29, .c (.val (.int .u8 95))], some (26, false)⟩,
     ⟨some 31, .pick, [.t 26, .c (.val (.bool true)), .t 30], some (15, true)⟩,
     ⟨some 32, .pick, [.t 15, .t 31, .c (.val (.bool false))], none⟩]
    [7, 11, 12, 13, 14, 15, 16, 17, 18, 19, 20, 21, 22, 23, 24, 25, 26, 27, 28, 29, 30, 31] [])
  (.cond (.t 32) .skip
  (.exit 1)))
  (.block 2 (.region false []
    [⟨some 33, .mov, [.t 4], none⟩,
     ⟨some 34, .bin .add T_int (.tmp 33) (.const (.int .i64 1)), [.t 33, .c (.val (.int .i64 1))], none⟩,
     ⟨some 4, .mov, [.t 34], none⟩]
    [32, 33, 34] [])))
def c_ref06_One_k1 : ACode :=
  (.seq (.seq (.region false []
    [⟨some 35, .mov, [.t 4], none⟩,
     ⟨some 36, .bin .gtr T_int (.tmp 35) (.const (.int .i64 12)), [.t 35, .c (.val (.int .i64 12))], none⟩]
    [32, 35] [])
  (.cond (.t 36) (.seq (.region false []
    [⟨some 37, .build [.val (.int .i64 0), .val (.string ⟨#[]⟩), .val (.int .i64 0), .val (.int .i64 0)] [], [], none⟩,
     ⟨none, .store 4, [.t 2, .t 37], none⟩,
     ⟨some 3, .mov, [.c (.val (.int .i64 3))], none⟩]
    [0, 4, 36, 37] [])
  .ret)
  .skip))
  (.seq (.region false []
    [⟨some 38, .mov, [.t 0], none⟩,
     ⟨some 39, .mov, [.t 4], none⟩,
     ⟨some 40, .sliceV T_string false true false, [.t 38, .t 39], none⟩,
     ⟨some 41, .build [.val (.int .i64 0), .val (.string ⟨#[]⟩), .val (.int .i64 0), .val (.int .i64 0)] [(0, 1), (1, 1)], [.c (.val (.int .i64 1)), .t 40], none⟩,
     ⟨none, .store 4, [.t 2, .t 41], none⟩,
     ⟨some 3, .mov, [.c (.val (.int .i64 0))], none⟩]
    [0, 4, 36, 38, 39, 40, 41] [])
  .ret))
def c_ref06_One_l2 : ACode :=
  (.seq (.seq (.region false []
    [⟨some 46, .mov, [.t 4], none⟩,
     ⟨some 47, .mov, [.t 0], none⟩,
     ⟨some 48, .len true, [.t 47], none⟩,
     ⟨some 49, .bin .lss T_int (.tmp 46) (.tmp 48), [.t 46, .t 48], none⟩,
     ⟨some 50, .mov, [.t 49], none⟩,
     ⟨some 51, .mov, [.t 0], some (50, true)⟩,
     ⟨some 52, .mov, [.t 4], some (50, true)⟩,
     ⟨some 53, .idxV T_string, [.t 51, .t 52], some (50, true)⟩,
     ⟨some 54, .call F_ref06_digit, [.t 53], some (50, true)⟩,
     ⟨some 55, .pick, [.t 50, .t 54, .c (.val (.bool false))], none⟩]
    [42, 46, 47, 48, 49, 50, 51, 52, 53, 54] [])
  (.cond (.t 55) .skip
  (.exit 3)))
  (.block 4 (.region false []
    [⟨some 56, .mov, [.t 4], none⟩,
     ⟨some 57, .bin .add T_int (.tmp 56) (.const (.int .i64 1)), [.t 56, .c (.val (.int .i64 1))], none⟩,
     ⟨some 4, .mov, [.t 57], none⟩]
    [55, 56, 57] [])))
def c_ref06_One_l3 : ACode :=
  (.seq (.seq (.region false []
    [⟨some 69, .mov, [.t 6], none⟩,
     ⟨some 70, .mov, [.t 4], none⟩,
     ⟨some 71, .bin .lss T_int (.tmp 69) (.tmp 70), [.t 69, .t 70], none⟩]
    [69, 70] [])
  (.cond (.t 71) .skip
  (.exit 5)))
  (.seq (.block 6 (.region false []
    [⟨some 74, .mov, [.t 5], none⟩,
     ⟨some 75, .bin .mul T_int64 (.tmp 74) (.const (.int .i64 10)), [.t 74, .c (.val (.int .i64 10))], none⟩,
     ⟨some 76, .mov, [.t 0], none⟩,
     ⟨some 77, .mov, [.t 6], none⟩,
     ⟨some 78, .idxV T_string, [.t 76, .t 77], none⟩,
     ⟨some 79, .bin .sub T_uint8 (.tmp 78) (.const (.int .u8 48)), [.t 78, .c (.val (.int .u8 48))], none⟩,
     ⟨some 80, .conv T_uint8 T_int64, [.t 79], none⟩,
     ⟨some 81, .bin .add T_int64 (.tmp 75) (.tmp 80), [.t 75, .t 80], none⟩,
     ⟨some 5, .mov, [.t 81], none⟩]
    [71, 74, 75, 76, 77, 78, 79, 80, 81] []))
  (.region false []
    [⟨some 72, .mov, [.t 6], none⟩,
     ⟨some 73, .bin .add T_int (.tmp 72) (.const (.int .i64 1)), [.t 72, .c (.val (.int .i64 1))], none⟩,
     ⟨some 6, .mov, [.t 73], none⟩]
    [72, 73] [])))
def c_ref06_One_k4 : ACode :=
  (.seq (.region false []
    [⟨some 82, .mov, [.t 0], none⟩,
     ⟨some 83, .mov, [.t 4], none⟩,
     ⟨some 84, .sliceV T_string false true false, [.t 82, .t 83], none⟩,
     ⟨some 85, .mov, [.t 5], none⟩,
     ⟨some 86, .build [.val (.int .i64 0), .val (.string ⟨#[]⟩), .val (.int .i64 0), .val (.int .i64 0)] [(0, 1), (1, 1), (2, 1)], [.c (.val (.int .i64 2)), .t 84, .t 85], none⟩,
     ⟨none, .store 4, [.t 2, .t 86], none⟩,
     ⟨some 3, .mov, [.c (.val (.int .i64 0))], none⟩]
    [0, 4, 5, 6, 71, 82, 83, 84, 85, 86] [])
  .ret)
def c_ref06_One_k5 : ACode :=
  (.seq (.seq (.region false []
    [⟨some 58, .mov, [.t 4], none⟩,
     ⟨some 59, .bin .gtr T_int (.tmp 58) (.const (.int .i64 1)), [.t 58, .c (.val (.int .i64 1))], none⟩,
     ⟨some 60, .mov, [.t 59], none⟩,
     ⟨some 61, .mov, [.t 0], some (60, true)⟩,
     ⟨some 62, .idxV T_string, [.t 61, .c (.val (.int .i64 0))], some (60, true)⟩,
     ⟨some 63, .bin .eql T_uint8 (.tmp 62) (.const (.int .u8 48)), [.t 62, .c (.val (.int .u8 48))], some (60, true)⟩,
     ⟨some 64, .pick, [.t 60, .t 63, .c (.val (.bool false))], none⟩]
    [55, 58, 59, 60, 61, 62, 63] [])
  (.cond (.t 64) (.seq (.region false []
    [⟨some 65, .build [.val (.int .i64 0), .val (.string ⟨#[]⟩), .val (.int .i64 0), .val (.int .i64 0)] [], [], none⟩,
     ⟨none, .store 4, [.t 2, .t 65], none⟩,
     ⟨some 3, .mov, [.c (.val (.int .i64 2))], none⟩]
    [0, 4, 64, 65] [])
  .ret)
  .skip))
  (.seq (.seq (.region false []
    [⟨some 66, .mov, [.t 4], none⟩,
     ⟨some 67, .bin .gtr T_int (.tmp 66) (.const (.int .i64 9)), [.t 66, .c (.val (.int .i64 9))], none⟩]
    [64, 66] [])
  (.cond (.t 67) (.seq (.region false []
    [⟨some 68, .build [.val (.int .i64 0), .val (.string ⟨#[]⟩), .val (.int .i64 0), .val (.int .i64 0)] [], [], none⟩,
     ⟨none, .store 4, [.t 2, .t 68], none⟩,
     ⟨some 3, .mov, [.c (.val (.int .i64 4))], none⟩]
    [0, 4, 67, 68] [])
  .ret)
  .skip))
  (.seq (.region false []
    [⟨some 5, .mov, [.c (.val (.int .i64 0))], none⟩]
    [67] [])
  (.seq (.seq (.region false []
    [⟨some 6, .mov, [.c (.val (.int .i64 0))], none⟩]
    [] [])
  (.block 5 (.loop c_ref06_One_l3)))
  c_ref06_One_k4))))
def c_ref06_One_k6 : ACode :=
  (.seq (.region false []
    [⟨some 94, .build [.val (.int .i64 0), .val (.string ⟨#[]⟩), .val (.int .i64 0), .val (.int .i64 0)] [], [], none⟩,
     ⟨none, .store 4, [.t 2, .t 94], none⟩,
     ⟨some 3, .mov, [.c (.val (.int .i64 2))], none⟩]
    [0, 87, 94] [])
  .ret)
def c_ref06_One : ACode :=
  (.seq (.region false []
    [⟨some 2, .alloc [.val (.int .i64 0), .val (.string ⟨#[]⟩), .val (.int .i64 0), .val (.int .i64 0)], [], none⟩,
     ⟨some 3, .mov, [.c (.val (.int .i64 0))], none⟩]
    [3] [])
  (.seq (.region false []
    [⟨some 4, .mov, [.c (.val (.int .i64 1))], none⟩]
    [] [])
  (.seq (.block 0 (.seq (.region false []
    [⟨some 8, .mov, [.t 0], none⟩,
     ⟨some 9, .idxV T_string, [.t 8, .c (.val (.int .i64 0))], none⟩,
     ⟨some 10, .call F_ref06_letter, [.t 9], none⟩,
     ⟨some 7, .mov, [.t 10], none⟩]
    [8, 9, 10] [])
  (.cond (.t 7) (.seq (.block 1 (.loop c_ref06_One_l0))
  c_ref06_One_k1)
  (.seq (.region false []
    [⟨some 43, .mov, [.t 0], none⟩,
     ⟨some 44, .idxV T_string, [.t 43, .c (.val (.int .i64 0))], none⟩,
     ⟨some 45, .call F_ref06_digit, [.t 44], none⟩,
     ⟨some 42, .mov, [.t 45], none⟩]
    [7, 43, 44, 45] [])
  (.cond (.t 42) (.seq (.block 3 (.loop c_ref06_One_l2))
  c_ref06_One_k5)
  (.seq (.region false []
    [⟨some 88, .mov, [.t 0], none⟩,
     ⟨some 89, .idxV T_string, [.t 88, .c (.val (.int .i64 0))], none⟩,
     ⟨some 90, .call F_ref06_mark, [.t 89], none⟩,
     ⟨some 87, .mov, [.t 90], none⟩]
    [4, 42, 88, 89, 90] [])
  (.cond (.t 87) (.seq (.region false []
    [⟨some 91, .mov, [.t 0], none⟩,
     ⟨some 92, .sliceV T_string false true false, [.t 91, .c (.val (.int .i64 1))], none⟩,
     ⟨some 93, .build [.val (.int .i64 0), .val (.string ⟨#[]⟩), .val (.int .i64 0), .val (.int .i64 0)] [(0, 1), (1, 1)], [.c (.val (.int .i64 3)), .t 92], none⟩,
     ⟨none, .store 4, [.t 2, .t 93], none⟩,
     ⟨some 3, .mov, [.c (.val (.int .i64 0))], none⟩]
    [0, 87, 91, 92, 93] [])
  .ret)
  .skip)))))))
  c_ref06_One_k6)))
def r_ref06_One : List ResA := [.cell 2 (some 4), .t 3]
theorem t_ref06_One : transl Try.prog F_ref06_One = some (bare c_ref06_One, r_ref06_One, 95) := by kernel_rfl

/- saleroom/lexer.digit -/
def c_lexer_digit : ACode :=
  (.seq (.region false []
    [⟨some 2, .mov, [.c (.val (.bool false))], none⟩]
    [2] [])
  (.seq (.region false []
    [⟨some 3, .mov, [.t 0], none⟩,
     ⟨some 4, .bin .geq T_int32 (.tmp 3) (.const (.int .i32 48)), [.t 3, .c (.val (.int .i32 48))], none⟩,
     ⟨some 5, .mov, [.t 4], none⟩,
     ⟨some 6, .mov, [.t 0], some (5, true)⟩,
     ⟨some 7, .bin .leq T_int32 (.tmp 6) (.const (.int .i32 57)), [.t 6, .c (.val (.int .i32 57))], some (5, true)⟩,
     ⟨some 8, .pick, [.t 5, .t 7, .c (.val (.bool false))], none⟩,
     ⟨some 2, .mov, [.t 8], none⟩]
    [0, 3, 4, 5, 6, 7, 8] [])
  .ret))
def r_lexer_digit : List ResA := [.t 2]
theorem t_lexer_digit : transl Try.prog F_lexer_digit = some (bare c_lexer_digit, r_lexer_digit, 9) := by kernel_rfl

/- saleroom/saleroomref06.digit -/
def c_ref06_digit : ACode :=
  (.seq (.region false []
    [⟨some 2, .mov, [.c (.val (.bool false))], none⟩]
    [2] [])
  (.seq (.region false []
    [⟨some 3, .mov, [.t 0], none⟩,
     ⟨some 4, .bin .geq T_uint8 (.tmp 3) (.const (.int .u8 48)), [.t 3, .c (.val (.int .u8 48))], none⟩,
     ⟨some 5, .mov, [.t 4], none⟩,
     ⟨some 6, .mov, [.t 0], some (5, true)⟩,
     ⟨some 7, .bin .leq T_uint8 (.tmp 6) (.const (.int .u8 57)), [.t 6, .c (.val (.int .u8 57))], some (5, true)⟩,
     ⟨some 8, .pick, [.t 5, .t 7, .c (.val (.bool false))], none⟩,
     ⟨some 2, .mov, [.t 8], none⟩]
    [0, 3, 4, 5, 6, 7, 8] [])
  .ret))
def r_ref06_digit : List ResA := [.t 2]
theorem t_ref06_digit : transl Try.prog F_ref06_digit = some (bare c_ref06_digit, r_ref06_digit, 9) := by kernel_rfl

/- saleroom/saleroomref06.mark -/
def c_ref06_mark_l0 : ACode :=
  (.seq (.seq (.region false []
    [⟨some 5, .mov, [.t 4], none⟩,
     ⟨some 6, .mov, [.t 3], none⟩,
     ⟨some 7, .len true, [.t 6], none⟩,
     ⟨some 8, .bin .lss T_int (.tmp 5) (.tmp 7), [.t 5, .t 7], none⟩]
    [5, 6, 7] [])
  (.cond (.t 8) .skip
  (.exit 0)))
  (.seq (.block 1 (.seq (.region false []
    [⟨some 11, .mov, [.t 3], none⟩,
     ⟨some 12, .mov, [.t 4], none⟩,
     ⟨some 13, .idxV T_string, [.t 11, .t 12], none⟩,
     ⟨some 14, .mov, [.t 0], none⟩,
     ⟨some 15, .bin .eql T_uint8 (.tmp 13) (.tmp 14), [.t 13, .t 14], none⟩]
    [8, 11, 12, 13, 14] [])
  (.cond (.t 15) (.seq (.region false []
    [⟨some 2, .mov, [.c (.val (.bool true))], none⟩]
    [0, 3, 4, 15] [])
  .ret)
  .skip)))
  (.region false []
    [⟨some 9, .mov, [.t 4], none⟩,
     ⟨some 10, .bin .add T_int (.tmp 9) (.const (.int .i64 1)), [.t 9, .c (.val (.int .i64 1))], none⟩,
     ⟨some 4, .mov, [.t 10], none⟩]
    [15, 9, 10] [])))
def c_ref06_mark_k1 : ACode :=
  (.seq (.region false []
    [⟨some 2, .mov, [.c (.val (.bool false))], none⟩]
    [0, 3, 4, 8] [])
  .ret)
def c_ref06_mark : ACode :=
  (.seq (.region false []
    [⟨some 2, .mov, [.c (.val (.bool false))], none⟩]
    [2] [])
  (.seq (.region false []
    [⟨some 3, .mov, [.c (.val (.string ⟨#[123, 125, 40, 41, 58, 44, 64, 43, 45, 61]⟩))], none⟩]
    [] [])
  (.seq (.seq (.region false []
    [⟨some 4, .mov, [.c (.val (.int .i64 0))], none⟩]
    [] [])
  (.block 0 (.loop c_ref06_mark_l0)))
  c_ref06_mark_k1)))
def r_ref06_mark : List ResA := [.t 2]
theorem t_ref06_mark : transl Try.prog F_ref06_mark = some (bare c_ref06_mark, r_ref06_mark, 16) := by kernel_rfl

def tabL : List (Nat × (ACode × List ResA × Nat)) := [(F_law09_RosterSets, (c_law09_RosterSets, r_law09_RosterSets, 49)), (F_law09_RosterChecks, (c_law09_RosterChecks, r_law09_RosterChecks, 15)), (F_law09_RosterFinds, (c_law09_RosterFinds, r_law09_RosterFinds, 52)), (F_law09_RosterNames, (c_law09_RosterNames, r_law09_RosterNames, 66)), (F_law09_RosterBack, (c_law09_RosterBack, r_law09_RosterBack, 45)), (F_ref09_SameInts, (c_ref09_SameInts, r_ref09_SameInts, 26)), (F_ref09_Sets, (c_ref09_Sets, r_ref09_Sets, 22)), (F_law09_awake, (c_law09_awake, r_law09_awake, 90)), (F_law09_few, (c_law09_few, r_law09_few, 20)), (F_roster_Check, (c_roster_Check, r_roster_Check, 65)), (F_ref09_Check, (c_ref09_Check, r_ref09_Check, 84)), (F_roster_Find, (c_roster_Find, r_roster_Find, 21)), (F_ref09_Find, (c_ref09_Find, r_ref09_Find, 21)), (F_roster_Class, (c_roster_Class, r_roster_Class, 25)), (F_ref09_Class, (c_ref09_Class, r_ref09_Class, 25)), (F_roster_Members, (c_roster_Members, r_roster_Members, 43)), (F_ref09_Members, (c_ref09_Members, r_ref09_Members, 38)), (F_ref09_SameTexts, (c_ref09_SameTexts, r_ref09_SameTexts, 26)), (F_roster_Names, (c_roster_Names, r_roster_Names, 31)), (F_ref09_Names, (c_ref09_Names, r_ref09_Names, 29)), (F_ref09_Bit, (c_ref09_Bit, r_ref09_Bit, 13)), (F_roster_Sets, (c_roster_Sets, r_roster_Sets, 4)), (F_law09_three, (c_law09_three, r_law09_three, 5)), (F_lexer_IsName, (c_lexer_IsName, r_lexer_IsName, 22)), (F_ref06_IsName, (c_ref06_IsName, r_ref06_IsName, 31)), (F_ref09_Has, (c_ref09_Has, r_ref09_Has, 16)), (F_roster_Sets_1, (c_roster_Sets_1, r_roster_Sets_1, 20)), (F_lexer_letter, (c_lexer_letter, r_lexer_letter, 9)), (F_lexer_run, (c_lexer_run, r_lexer_run, 27)), (F_lexer_inner, (c_lexer_inner, r_lexer_inner, 13)), (F_ref06_letter, (c_ref06_letter, r_ref06_letter, 9)), (F_ref06_One, (c_ref06_One, r_ref06_One, 95)), (F_lexer_digit, (c_lexer_digit, r_lexer_digit, 9)), (F_ref06_digit, (c_ref06_digit, r_ref06_digit, 9)), (F_ref06_mark, (c_ref06_mark, r_ref06_mark, 16))]
abbrev tab : FTab := lk tabL
theorem tab_ok : TabOk Try.prog tab := (.cons t_law09_RosterSets
  (.cons t_law09_RosterChecks
  (.cons t_law09_RosterFinds
  (.cons t_law09_RosterNames
  (.cons t_law09_RosterBack
  (.cons t_ref09_SameInts
  (.cons t_ref09_Sets
  (.cons t_law09_awake
  (.cons t_law09_few
  (.cons t_roster_Check
  (.cons t_ref09_Check
  (.cons t_roster_Find
  (.cons t_ref09_Find
  (.cons t_roster_Class
  (.cons t_ref09_Class
  (.cons t_roster_Members
  (.cons t_ref09_Members
  (.cons t_ref09_SameTexts
  (.cons t_roster_Names
  (.cons t_ref09_Names
  (.cons t_ref09_Bit
  (.cons t_roster_Sets
  (.cons t_law09_three
  (.cons t_lexer_IsName
  (.cons t_ref06_IsName
  (.cons t_ref09_Has
  (.cons t_roster_Sets_1
  (.cons t_lexer_letter
  (.cons t_lexer_run
  (.cons t_lexer_inner
  (.cons t_ref06_letter
  (.cons t_ref06_One
  (.cons t_lexer_digit
  (.cons t_ref06_digit
  (.cons t_ref06_mark
  .nil)))))))))))))))))))))))))))))))))))
end Go.Proofs.Ytbihcpgkonildaa
