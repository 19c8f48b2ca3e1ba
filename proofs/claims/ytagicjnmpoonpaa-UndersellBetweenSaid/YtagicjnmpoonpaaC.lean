/- The abstract code of the functions of this program, printed by program; each is held against the model's code by the kernel. -/
import Derived.Test.YtagicjnmpoonpaaProg
import Derived.Test.YtagicjnmpoonpaaAm27
namespace Go.Proofs.Ytagicjnmpoonpaa
open Go Go.Am
abbrev F_gosem_cut_init : FuncId := 2
abbrev F_law38_UndersellApplies : FuncId := 3
abbrev F_law38_UndersellUndersold : FuncId := 4
abbrev F_law38_UndersellKeeps : FuncId := 5
abbrev F_law38_UndersellBetween : FuncId := 6
abbrev F_law38_UndersellWhole : FuncId := 7
abbrev F_law38_awake : FuncId := 8
abbrev F_undersell_Apply : FuncId := 9
abbrev F_ref38_Apply : FuncId := 10
abbrev F_ref38_Same : FuncId := 11
abbrev F_ref35_Moderate : FuncId := 12
abbrev F_undersell_Undersold : FuncId := 13
abbrev F_ref38_Undersold : FuncId := 14
abbrev F_undersell_check : FuncId := 15
abbrev F_slices_Cloneasl_api_Bundle_api_Bundle_ : FuncId := 16
abbrev F_tally_Sum : FuncId := 17
abbrev F_undersell_refused : FuncId := 18
abbrev F_undersell_partly : FuncId := 19
abbrev F_ref07_Check : FuncId := 20
abbrev F_ref38_refused : FuncId := 21
abbrev F_ref38_partly : FuncId := 22
abbrev F_ref35_Sum : FuncId := 23
abbrev F_bundle_Check : FuncId := 24
abbrev F_tally_total : FuncId := 25
abbrev T_int : TypeId := 3
abbrev T_bool : TypeId := 4
abbrev T_api_Bundle : TypeId := 23
abbrev T_api_Errno : TypeId := 26
theorem ub_bool : Try.prog.underlying T_bool = some .bool := by kernel_rfl
theorem kd_api_Bundle : kds Try.prog Op.maxDepth T_api_Bundle = some (List.replicate 6 (.i .i64)) := by kernel_rfl
theorem gd_api_Bundle : Try.prog.eqGuardType Try.prog.depth T_api_Bundle = false := by kernel_rfl
theorem ag_api_Bundle : agT Try.prog T_api_Bundle = true := by kernel_rfl

/- saleroom/saleroomlaw38.UndersellApplies -/
def c_law38_UndersellApplies : ACode :=
  (.seq (.region false []
    [⟨some 5, .box, [.t 1], none⟩,
     ⟨some 8, .mov, [.c (.val (.bool false))], none⟩]
    [1, 8] [])
  (.seq (.seq (.region false []
    [⟨some 13, .mov, [.t 2], none⟩,
     ⟨some 14, .len false, [.t 13], none⟩,
     ⟨some 15, .bin .gtr T_int (.tmp 14) (.const (.int .i64 60)), [.t 14, .c (.val (.int .i64 60))], none⟩,
     ⟨some 16, .mov, [.t 15], none⟩,
     ⟨some 17, .mov, [.t 3], some (16, false)⟩,
     ⟨some 18, .len false, [.t 17], some (16, false)⟩,
     ⟨some 19, .bin .gtr T_int (.tmp 18) (.const (.int .i64 60)), [.t 18, .c (.val (.int .i64 60))], some (16, false)⟩,
     ⟨some 20, .pick, [.t 16, .c (.val (.bool true)), .t 19], none⟩]
    [13, 14, 15, 16, 17, 18, 19] [])
  (.cond (.t 20) (.seq (.region false []
    [⟨some 21, .call F_law38_awake, [], none⟩,
     ⟨some 8, .mov, [.t 21], none⟩]
    [0, 2, 3, 5, 20, 21] [5])
  .ret)
  .skip))
  (.seq (.region false []
    [⟨some 23, .mov, [.t 0], none⟩,
     ⟨some 24, .load (some 6), [.t 5], none⟩,
     ⟨some 25, .mov, [.t 2], none⟩,
     ⟨some 26, .mov, [.t 3], none⟩,
     ⟨some 27, .call F_undersell_Apply, [.t 23, .t 24, .t 25, .t 26], none⟩,
     ⟨some 22, .mov, [.t 27], none⟩,
     ⟨some 28, .extract 0, [.t 22], none⟩,
     ⟨some 29, .extract 1, [.t 22], none⟩,
     ⟨some 9, .mov, [.t 28], none⟩,
     ⟨some 10, .mov, [.t 29], none⟩]
    [20, 23, 24, 25, 26, 27, 22, 28, 29] [])
  (.seq (.region false []
    [⟨some 31, .mov, [.t 0], none⟩,
     ⟨some 32, .load (some 6), [.t 5], none⟩,
     ⟨some 33, .mov, [.t 2], none⟩,
     ⟨some 34, .mov, [.t 3], none⟩,
     ⟨some 35, .call F_ref38_Apply, [.t 31, .t 32, .t 33, .t 34], none⟩,
     ⟨some 30, .mov, [.t 35], none⟩,
     ⟨some 36, .extract 0, [.t 30], none⟩,
     ⟨some 37, .extract 1, [.t 30], none⟩,
     ⟨some 11, .mov, [.t 36], none⟩,
     ⟨some 12, .mov, [.t 37], none⟩]
    [0, 2, 3, 5, 31, 32, 33, 34, 35, 30, 36, 37] [5])
  (.seq (.region false []
    [⟨some 38, .mov, [.t 9], none⟩,
     ⟨some 39, .mov, [.t 11], none⟩,
     ⟨some 40, .call F_ref38_Same, [.t 38, .t 39], none⟩,
     ⟨some 41, .mov, [.t 40], none⟩,
     ⟨some 42, .mov, [.t 10], some (41, true)⟩,
     ⟨some 43, .mov, [.t 12], some (41, true)⟩,
     ⟨some 44, .bin .eql T_api_Errno (.tmp 42) (.tmp 43), [.t 42, .t 43], some (41, true)⟩,
     ⟨some 45, .pick, [.t 41, .t 44, .c (.val (.bool false))], none⟩,
     ⟨some 46, .mov, [.t 45], none⟩,
     ⟨some 47, .call F_law38_awake, [], some (46, true)⟩,
     ⟨some 48, .pick, [.t 46, .t 47, .c (.val (.bool false))], none⟩,
     ⟨some 8, .mov, [.t 48], none⟩]
    [9, 10, 11, 12, 38, 39, 40, 41, 42, 43, 44, 45, 46, 47, 48] [])
  .ret)))))
def r_law38_UndersellApplies : List ResA := [.t 8]
theorem t_law38_UndersellApplies : transl Try.prog F_law38_UndersellApplies = some (bare c_law38_UndersellApplies, r_law38_UndersellApplies, 49) := by kernel_rfl

/- saleroom/saleroomlaw38.UndersellUndersold -/
def c_law38_UndersellUndersold : ACode :=
  (.seq (.region false []
    [⟨some 3, .box, [.t 0], none⟩,
     ⟨some 6, .mov, [.c (.val (.bool false))], none⟩]
    [0, 6] [])
  (.seq (.seq (.region false []
    [⟨some 7, .mov, [.t 1], none⟩,
     ⟨some 8, .call F_ref35_Moderate, [.t 7], none⟩,
     ⟨some 9, .un .not, [.t 8], none⟩,
     ⟨some 10, .mov, [.t 9], none⟩,
     ⟨some 11, .mov, [.t 2], some (10, false)⟩,
     ⟨some 12, .call F_ref35_Moderate, [.t 11], some (10, false)⟩,
     ⟨some 13, .un .not, [.t 12], some (10, false)⟩,
     ⟨some 14, .pick, [.t 10, .c (.val (.bool true)), .t 13], none⟩,
     ⟨some 15, .mov, [.t 14], none⟩,
     ⟨some 16, .load (some 6), [.t 3], some (15, false)⟩,
     ⟨some 17, .mkslice 6 1 [.val (.int .i64 0), .val (.int .i64 0), .val (.int .i64 0), .val (.int .i64 0), .val (.int .i64 0), .val (.int .i64 0)] [0], [.t 16], some (15, false)⟩,
     ⟨some 18, .call F_ref35_Moderate, [.t 17], some (15, false)⟩,
     ⟨some 19, .un .not, [.t 18], some (15, false)⟩,
     ⟨some 20, .pick, [.t 15, .c (.val (.bool true)), .t 19], none⟩]
    [7, 8, 9, 10, 11, 12, 13, 14, 15, 16, 17, 18, 19] [])
  (.cond (.t 20) (.seq (.region false []
    [⟨some 21, .call F_law38_awake, [], none⟩,
     ⟨some 6, .mov, [.t 21], none⟩]
    [1, 2, 3, 20, 21] [3])
  .ret)
  .skip))
  (.seq (.region true []
    [⟨some 22, .load (some 6), [.t 3], none⟩,
     ⟨some 23, .mov, [.t 1], none⟩,
     ⟨some 24, .mov, [.t 2], none⟩,
     ⟨some 25, .call F_undersell_Undersold, [.t 22, .t 23, .t 24], none⟩,
     ⟨some 26, .load (some 6), [.t 3], none⟩,
     ⟨some 27, .mov, [.t 1], none⟩,
     ⟨some 28, .mov, [.t 2], none⟩,
     ⟨some 29, .call F_ref38_Undersold, [.t 26, .t 27, .t 28], none⟩,
     ⟨some 30, .bin .eql T_bool (.tmp 25) (.tmp 29), [.t 25, .t 29], none⟩,
     ⟨some 31, .mov, [.t 30], none⟩,
     ⟨some 32, .load (some 6), [.t 3], some (31, true)⟩,
     ⟨some 33, .mov, [.t 1], some (31, true)⟩,
     ⟨some 34, .mov, [.t 1], some (31, true)⟩,
     ⟨some 35, .call F_undersell_Undersold, [.t 32, .t 33, .t 34], some (31, true)⟩,
     ⟨some 36, .un .not, [.t 35], some (31, true)⟩,
     ⟨some 37, .pick, [.t 31, .t 36, .c (.val (.bool false))], none⟩,
     ⟨some 38, .mov, [.t 37], none⟩,
     ⟨some 39, .call F_law38_awake, [], some (38, true)⟩,
     ⟨some 40, .pick, [.t 38, .t 39, .c (.val (.bool false))], none⟩,
     ⟨some 6, .mov, [.t 40], none⟩]
    [1, 2, 3, 20, 22, 23, 24, 25, 26, 27, 28, 29, 30, 31, 32, 33, 34, 35, 36, 37, 38, 39, 40] [3])
  .ret)))
def r_law38_UndersellUndersold : List ResA := [.t 6]
theorem t_law38_UndersellUndersold : transl Try.prog F_law38_UndersellUndersold = some (bare c_law38_UndersellUndersold, r_law38_UndersellUndersold, 41) := by kernel_rfl

/- saleroom/saleroomlaw38.UndersellKeeps -/
def c_law38_UndersellKeeps : ACode :=
  (.seq (.region false []
    [⟨some 5, .box, [.t 1], none⟩,
     ⟨some 8, .mov, [.c (.val (.bool false))], none⟩]
    [1, 8] [])
  (.seq (.seq (.region false []
    [⟨some 11, .mov, [.t 2], none⟩,
     ⟨some 12, .len false, [.t 11], none⟩,
     ⟨some 13, .bin .gtr T_int (.tmp 12) (.const (.int .i64 60)), [.t 12, .c (.val (.int .i64 60))], none⟩,
     ⟨some 14, .mov, [.t 13], none⟩,
     ⟨some 15, .mov, [.t 3], some (14, false)⟩,
     ⟨some 16, .len false, [.t 15], some (14, false)⟩,
     ⟨some 17, .bin .gtr T_int (.tmp 16) (.const (.int .i64 60)), [.t 16, .c (.val (.int .i64 60))], some (14, false)⟩,
     ⟨some 18, .pick, [.t 14, .c (.val (.bool true)), .t 17], none⟩,
     ⟨some 19, .mov, [.t 18], none⟩,
     ⟨some 20, .mov, [.t 0], some (19, false)⟩,
     ⟨some 21, .bin .eql T_int (.tmp 20) (.const (.int .i64 1)), [.t 20, .c (.val (.int .i64 1))], some (19, false)⟩,
     ⟨some 22, .pick, [.t 19, .c (.val (.bool true)), .t 21], none⟩]
    [11, 12, 13, 14, 15, 16, 17, 18, 19, 20, 21] [])
  (.cond (.t 22) (.seq (.region false []
    [⟨some 23, .call F_law38_awake, [], none⟩,
     ⟨some 8, .mov, [.t 23], none⟩]
    [0, 2, 3, 5, 22, 23] [5])
  .ret)
  .skip))
  (.seq (.region false []
    [⟨some 25, .mov, [.t 0], none⟩,
     ⟨some 26, .load (some 6), [.t 5], none⟩,
     ⟨some 27, .mov, [.t 2], none⟩,
     ⟨some 28, .mov, [.t 3], none⟩,
     ⟨some 29, .call F_undersell_Apply, [.t 25, .t 26, .t 27, .t 28], none⟩,
     ⟨some 24, .mov, [.t 29], none⟩,
     ⟨some 30, .extract 0, [.t 24], none⟩,
     ⟨some 31, .extract 1, [.t 24], none⟩,
     ⟨some 9, .mov, [.t 30], none⟩,
     ⟨some 10, .mov, [.t 31], none⟩]
    [0, 3, 22, 25, 26, 27, 28, 29, 24, 30, 31] [])
  (.seq (.region false []
    [⟨some 32, .mov, [.t 10], none⟩,
     ⟨some 33, .bin .neq T_api_Errno (.tmp 32) (.const (.int .i64 0)), [.t 32, .c (.val (.int .i64 0))], none⟩,
     ⟨some 34, .mov, [.t 33], none⟩,
     ⟨some 35, .load (some 6), [.t 5], some (34, false)⟩,
     ⟨some 36, .mov, [.t 2], some (34, false)⟩,
     ⟨some 37, .mov, [.t 9], some (34, false)⟩,
     ⟨some 38, .call F_ref38_Undersold, [.t 35, .t 36, .t 37], some (34, false)⟩,
     ⟨some 39, .un .not, [.t 38], some (34, false)⟩,
     ⟨some 40, .pick, [.t 34, .c (.val (.bool true)), .t 39], none⟩,
     ⟨some 41, .mov, [.t 40], none⟩,
     ⟨some 42, .call F_law38_awake, [], some (41, true)⟩,
     ⟨some 43, .pick, [.t 41, .t 42, .c (.val (.bool false))], none⟩,
     ⟨some 8, .mov, [.t 43], none⟩]
    [2, 5, 9, 10, 32, 33, 34, 35, 36, 37, 38, 39, 40, 41, 42, 43] [5])
  .ret))))
def r_law38_UndersellKeeps : List ResA := [.t 8]
theorem t_law38_UndersellKeeps : transl Try.prog F_law38_UndersellKeeps = some (bare c_law38_UndersellKeeps, r_law38_UndersellKeeps, 44) := by kernel_rfl

/- saleroom/saleroomlaw38.UndersellBetween -/
def c_law38_UndersellBetween_l0 : ACode :=
  (.seq (.region false []
    [⟨some 59, .bin .lss T_int (.tmp 58) (.const (.int .i64 6)), [.t 58, .c (.val (.int .i64 6))], none⟩]
    [] [])
  (.seq (.cond (.t 59) .skip
  (.exit 2))
  (.seq (.block 3 (.seq (.region false []
    [⟨some 60, .mov, [.t 58], none⟩,
     ⟨some 13, .mov, [.t 60], none⟩]
    [59, 60] [])
  (.seq (.region true []
    [⟨some 61, .mov, [.t 2], none⟩,
     ⟨some 62, .mov, [.t 11], none⟩,
     ⟨some 63, .mov, [.t 13], none⟩,
     ⟨some 64, .iaddrS 6, [.t 61, .t 62], none⟩,
     ⟨some 65, .iaddrA 6 1, [.t 64, .t 63], none⟩,
     ⟨some 66, .load none, [.t 65], none⟩,
     ⟨some 67, .mov, [.t 3], none⟩,
     ⟨some 68, .mov, [.t 11], none⟩,
     ⟨some 69, .mov, [.t 13], none⟩,
     ⟨some 70, .iaddrS 6, [.t 67, .t 68], none⟩,
     ⟨some 71, .iaddrA 6 1, [.t 70, .t 69], none⟩,
     ⟨some 72, .load none, [.t 71], none⟩,
     ⟨some 73, .mm .min #[T_int, T_int] T_int, [.t 66, .t 72], none⟩,
     ⟨some 74, .mov, [.t 2], none⟩,
     ⟨some 75, .mov, [.t 11], none⟩,
     ⟨some 76, .mov, [.t 13], none⟩,
     ⟨some 77, .iaddrS 6, [.t 74, .t 75], none⟩,
     ⟨some 78, .iaddrA 6 1, [.t 77, .t 76], none⟩,
     ⟨some 79, .load none, [.t 78], none⟩,
     ⟨some 80, .mov, [.t 3], none⟩,
     ⟨some 81, .mov, [.t 11], none⟩,
     ⟨some 82, .mov, [.t 13], none⟩,
     ⟨some 83, .iaddrS 6, [.t 80, .t 81], none⟩,
     ⟨some 84, .iaddrA 6 1, [.t 83, .t 82], none⟩,
     ⟨some 85, .load none, [.t 84], none⟩,
     ⟨some 86, .mm .max #[T_int, T_int] T_int, [.t 79, .t 85], none⟩,
     ⟨some 14, .mov, [.t 73], none⟩,
     ⟨some 15, .mov, [.t 86], none⟩]
    [61, 62, 63, 64, 65, 66, 67, 68, 69, 70, 71, 72, 73, 74, 75, 76, 77, 78, 79, 80, 81, 82, 83, 84, 85, 86] [])
  (.seq (.seq (.region false []
    [⟨some 87, .mov, [.t 9], none⟩,
     ⟨some 88, .mov, [.t 11], none⟩,
     ⟨some 89, .mov, [.t 13], none⟩,
     ⟨some 90, .iaddrS 6, [.t 87, .t 88], none⟩,
     ⟨some 91, .iaddrA 6 1, [.t 90, .t 89], none⟩,
     ⟨some 92, .load none, [.t 91], none⟩,
     ⟨some 93, .mov, [.t 14], none⟩,
     ⟨some 94, .bin .lss T_int (.tmp 92) (.tmp 93), [.t 92, .t 93], none⟩,
     ⟨some 95, .mov, [.t 94], none⟩,
     ⟨some 96, .mov, [.t 9], some (95, false)⟩,
     ⟨some 97, .mov, [.t 11], some (95, false)⟩,
     ⟨some 98, .mov, [.t 13], some (95, false)⟩,
     ⟨some 99, .iaddrS 6, [.t 96, .t 97], some (95, false)⟩,
     ⟨some 100, .iaddrA 6 1, [.t 99, .t 98], some (95, false)⟩,
     ⟨some 101, .load none, [.t 100], some (95, false)⟩,
     ⟨some 102, .mov, [.t 15], some (95, false)⟩,
     ⟨some 103, .bin .gtr T_int (.tmp 101) (.tmp 102), [.t 101, .t 102], some (95, false)⟩,
     ⟨some 104, .pick, [.t 95, .c (.val (.bool true)), .t 103], none⟩]
    [14, 15, 87, 88, 89, 90, 91, 92, 93, 94, 95, 96, 97, 98, 99, 100, 101, 102, 103] [])
  (.cond (.t 104) (.seq (.region false []
    [⟨some 8, .mov, [.c (.val (.bool false))], none⟩]
    [0, 2, 3, 9, 54, 55, 11, 12, 58, 13, 104] [])
  .ret)
  .skip))
  (.region true []
    [⟨some 105, .mov, [.t 12], none⟩,
     ⟨some 106, .mov, [.t 105], none⟩,
     ⟨some 107, .mov, [.t 3], some (106, false)⟩,
     ⟨some 108, .mov, [.t 11], some (106, false)⟩,
     ⟨some 109, .mov, [.t 13], some (106, false)⟩,
     ⟨some 110, .iaddrS 6, [.t 107, .t 108], some (106, false)⟩,
     ⟨some 111, .iaddrA 6 1, [.t 110, .t 109], some (106, false)⟩,
     ⟨some 112, .load none, [.t 111], some (106, false)⟩,
     ⟨some 113, .mov, [.t 2], some (106, false)⟩,
     ⟨some 114, .mov, [.t 11], some (106, false)⟩,
     ⟨some 115, .mov, [.t 13], some (106, false)⟩,
     ⟨some 116, .iaddrS 6, [.t 113, .t 114], some (106, false)⟩,
     ⟨some 117, .iaddrA 6 1, [.t 116, .t 115], some (106, false)⟩,
     ⟨some 118, .load none, [.t 117], some (106, false)⟩,
     ⟨some 119, .bin .lss T_int (.tmp 112) (.tmp 118), [.t 112, .t 118], some (106, false)⟩,
     ⟨some 120, .pick, [.t 106, .c (.val (.bool true)), .t 119], none⟩,
     ⟨some 12, .mov, [.t 120], none⟩]
    [13, 104, 105, 106, 107, 108, 109, 110, 111, 112, 113, 114, 115, 116, 117, 118, 119, 120] [])))))
  (.region false []
    [⟨some 121, .bin .add T_int (.tmp 58) (.const (.int .i64 1)), [.t 58, .c (.val (.int .i64 1))], none⟩,
     ⟨some 58, .mov, [.t 121], none⟩]
    [121] []))))
def c_law38_UndersellBetween_k1 : ACode :=
  (.seq (.region true []
    [⟨some 122, .mov, [.t 9], none⟩,
     ⟨some 123, .mov, [.t 11], none⟩,
     ⟨some 124, .iaddrS 6, [.t 122, .t 123], none⟩,
     ⟨some 125, .load (some 6), [.t 124], none⟩,
     ⟨some 126, .mov, [.t 3], none⟩,
     ⟨some 127, .mov, [.t 11], none⟩,
     ⟨some 128, .iaddrS 6, [.t 126, .t 127], none⟩,
     ⟨some 129, .load (some 6), [.t 128], none⟩,
     ⟨some 130, .bin .neq T_api_Bundle (.tmp 125) (.tmp 129), [.t 125, .t 129], none⟩,
     ⟨some 131, .mov, [.t 130], none⟩,
     ⟨some 132, .mov, [.t 12], some (131, true)⟩,
     ⟨some 133, .un .not, [.t 132], some (131, true)⟩,
     ⟨some 134, .mov, [.t 133], some (131, true)⟩,
     ⟨some 135, .mov, [.t 0], some (134, false)⟩,
     ⟨some 136, .bin .eql T_int (.tmp 135) (.const (.int .i64 1)), [.t 135, .c (.val (.int .i64 1))], some (134, false)⟩,
     ⟨some 137, .pick, [.t 134, .c (.val (.bool true)), .t 136], some (131, true)⟩,
     ⟨some 138, .mov, [.t 137], some (131, true)⟩,
     ⟨some 139, .mov, [.t 0], some (138, false)⟩,
     ⟨some 140, .bin .eql T_int (.tmp 139) (.const (.int .i64 2)), [.t 139, .c (.val (.int .i64 2))], some (138, false)⟩,
     ⟨some 141, .mov, [.t 140], some (138, false)⟩,
     ⟨some 142, .mov, [.t 9], some (141, true)⟩,
     ⟨some 143, .mov, [.t 11], some (141, true)⟩,
     ⟨some 144, .iaddrS 6, [.t 142, .t 143], some (141, true)⟩,
     ⟨some 145, .load (some 6), [.t 144], some (141, true)⟩,
     ⟨some 146, .mov, [.t 2], some (141, true)⟩,
     ⟨some 147, .mov, [.t 11], some (141, true)⟩,
     ⟨some 148, .iaddrS 6, [.t 146, .t 147], some (141, true)⟩,
     ⟨some 149, .load (some 6), [.t 148], some (141, true)⟩,
     ⟨some 150, .bin .neq T_api_Bundle (.tmp 145) (.tmp 149), [.t 145, .t 149], some (141, true)⟩,
     ⟨some 151, .pick, [.t 141, .t 150, .c (.val (.bool false))], some (138, false)⟩,
     ⟨some 152, .pick, [.t 138, .c (.val (.bool true)), .t 151], some (131, true)⟩,
     ⟨some 153, .pick, [.t 131, .t 152, .c (.val (.bool false))], none⟩]
    [11, 12, 58, 59, 122, 123, 124, 125, 126, 127, 128, 129, 130, 131, 132, 133, 134, 135, 136, 137, 138, 139, 140, 141, 142, 143, 144, 145, 146, 147, 148, 149, 150, 151, 152] [])
  (.cond (.t 153) (.seq (.region false []
    [⟨some 8, .mov, [.c (.val (.bool false))], none⟩]
    [0, 2, 3, 9, 54, 55, 153] [])
  .ret)
  .skip))
def c_law38_UndersellBetween_k2 : ACode :=
  (.region false []
    [⟨some 154, .bin .add T_int (.tmp 55) (.const (.int .i64 1)), [.t 55, .c (.val (.int .i64 1))], none⟩,
     ⟨some 55, .mov, [.t 154], none⟩]
    [153, 154] [])
def c_law38_UndersellBetween_l3 : ACode :=
  (.seq (.region false []
    [⟨some 56, .bin .lss T_int (.tmp 55) (.tmp 54), [.t 55, .t 54], none⟩]
    [] [])
  (.seq (.cond (.t 56) .skip
  (.exit 0))
  (.seq (.block 1 (.seq (.region false []
    [⟨some 57, .mov, [.t 55], none⟩,
     ⟨some 11, .mov, [.t 57], none⟩]
    [56, 57] [])
  (.seq (.region false []
    [⟨some 12, .mov, [.c (.val (.bool false))], none⟩]
    [] [])
  (.seq (.seq (.region false []
    [⟨some 58, .mov, [.c (.val (.int .i64 0))], none⟩]
    [] [])
  (.block 2 (.loop c_law38_UndersellBetween_l0)))
  c_law38_UndersellBetween_k1))))
  c_law38_UndersellBetween_k2)))
def c_law38_UndersellBetween_k4 : ACode :=
  (.seq (.region false []
    [⟨some 155, .call F_law38_awake, [], none⟩,
     ⟨some 8, .mov, [.t 155], none⟩]
    [0, 2, 3, 9, 54, 55, 56, 155] [])
  .ret)
def c_law38_UndersellBetween : ACode :=
  (.seq (.region false []
    [⟨some 5, .box, [.t 1], none⟩,
     ⟨some 8, .mov, [.c (.val (.bool false))], none⟩]
    [1, 8] [])
  (.seq (.seq (.region false []
    [⟨some 16, .mov, [.t 2], none⟩,
     ⟨some 17, .len false, [.t 16], none⟩,
     ⟨some 18, .bin .gtr T_int (.tmp 17) (.const (.int .i64 8)), [.t 17, .c (.val (.int .i64 8))], none⟩,
     ⟨some 19, .mov, [.t 18], none⟩,
     ⟨some 20, .mov, [.t 3], some (19, false)⟩,
     ⟨some 21, .len false, [.t 20], some (19, false)⟩,
     ⟨some 22, .bin .gtr T_int (.tmp 21) (.const (.int .i64 8)), [.t 21, .c (.val (.int .i64 8))], some (19, false)⟩,
     ⟨some 23, .pick, [.t 19, .c (.val (.bool true)), .t 22], none⟩]
    [16, 17, 18, 19, 20, 21, 22] [])
  (.cond (.t 23) (.seq (.region false []
    [⟨some 24, .call F_law38_awake, [], none⟩,
     ⟨some 8, .mov, [.t 24], none⟩]
    [0, 2, 3, 5, 23, 24] [5])
  .ret)
  .skip))
  (.seq (.region false []
    [⟨some 26, .mov, [.t 0], none⟩,
     ⟨some 27, .load (some 6), [.t 5], none⟩,
     ⟨some 28, .mov, [.t 2], none⟩,
     ⟨some 29, .mov, [.t 3], none⟩,
     ⟨some 30, .call F_undersell_Apply, [.t 26, .t 27, .t 28, .t 29], none⟩,
     ⟨some 25, .mov, [.t 30], none⟩,
     ⟨some 31, .extract 0, [.t 25], none⟩,
     ⟨some 32, .extract 1, [.t 25], none⟩,
     ⟨some 9, .mov, [.t 31], none⟩,
     ⟨some 10, .mov, [.t 32], none⟩]
    [5, 23, 26, 27, 28, 29, 30, 25, 31, 32] [5])
  (.seq (.seq (.region false []
    [⟨some 33, .mov, [.t 10], none⟩,
     ⟨some 34, .bin .neq T_api_Errno (.tmp 33) (.const (.int .i64 0)), [.t 33, .c (.val (.int .i64 0))], none⟩]
    [10, 33] [])
  (.cond (.t 34) (.seq (.region false []
    [⟨some 35, .mov, [.t 9], none⟩,
     ⟨some 36, .len false, [.t 35], none⟩,
     ⟨some 37, .bin .eql T_int (.tmp 36) (.const (.int .i64 0)), [.t 36, .c (.val (.int .i64 0))], none⟩,
     ⟨some 38, .mov, [.t 37], none⟩,
     ⟨some 39, .call F_law38_awake, [], some (38, true)⟩,
     ⟨some 40, .pick, [.t 38, .t 39, .c (.val (.bool false))], none⟩,
     ⟨some 8, .mov, [.t 40], none⟩]
    [0, 2, 3, 9, 34, 35, 36, 37, 38, 39, 40] [])
  .ret)
  .skip))
  (.seq (.seq (.region false []
    [⟨some 41, .mov, [.t 9], none⟩,
     ⟨some 42, .len false, [.t 41], none⟩,
     ⟨some 43, .mov, [.t 2], none⟩,
     ⟨some 44, .len false, [.t 43], none⟩,
     ⟨some 45, .bin .neq T_int (.tmp 42) (.tmp 44), [.t 42, .t 44], none⟩,
     ⟨some 46, .mov, [.t 45], none⟩,
     ⟨some 47, .mov, [.t 3], some (46, false)⟩,
     ⟨some 48, .len false, [.t 47], some (46, false)⟩,
     ⟨some 49, .mov, [.t 2], some (46, false)⟩,
     ⟨some 50, .len false, [.t 49], some (46, false)⟩,
     ⟨some 51, .bin .neq T_int (.tmp 48) (.tmp 50), [.t 48, .t 50], some (46, false)⟩,
     ⟨some 52, .pick, [.t 46, .c (.val (.bool true)), .t 51], none⟩]
    [34, 41, 42, 43, 44, 45, 46, 47, 48, 49, 50, 51] [])
  (.cond (.t 52) (.seq (.region false []
    [⟨some 8, .mov, [.c (.val (.bool false))], none⟩]
    [0, 2, 3, 9, 52] [])
  .ret)
  .skip))
  (.seq (.seq (.region false []
    [⟨some 53, .mov, [.t 9], none⟩,
     ⟨some 54, .len false, [.t 53], none⟩,
     ⟨some 55, .mov, [.c (.val (.int .i64 0))], none⟩]
    [52, 53] [])
  (.block 0 (.loop c_law38_UndersellBetween_l3)))
  c_law38_UndersellBetween_k4))))))
def r_law38_UndersellBetween : List ResA := [.t 8]
theorem t_law38_UndersellBetween : transl Try.prog F_law38_UndersellBetween = some (bare c_law38_UndersellBetween, r_law38_UndersellBetween, 156) := by kernel_rfl

/- saleroom/saleroomlaw38.UndersellWhole -/
def c_law38_UndersellWhole : ACode :=
  (.seq (.region false []
    [⟨some 4, .box, [.t 0], none⟩,
     ⟨some 7, .box, [.t 3], none⟩,
     ⟨some 8, .mov, [.c (.val (.bool false))], none⟩]
    [0, 3, 8] [])
  (.seq (.seq (.region false []
    [⟨some 12, .mov, [.t 1], none⟩,
     ⟨some 13, .len false, [.t 12], none⟩,
     ⟨some 14, .bin .gtr T_int (.tmp 13) (.const (.int .i64 8)), [.t 13, .c (.val (.int .i64 8))], none⟩,
     ⟨some 15, .mov, [.t 14], none⟩,
     ⟨some 16, .mov, [.t 2], some (15, false)⟩,
     ⟨some 17, .bin .lss T_int (.tmp 16) (.const (.int .i64 0)), [.t 16, .c (.val (.int .i64 0))], some (15, false)⟩,
     ⟨some 18, .pick, [.t 15, .c (.val (.bool true)), .t 17], none⟩,
     ⟨some 19, .mov, [.t 18], none⟩,
     ⟨some 20, .mov, [.t 2], some (19, false)⟩,
     ⟨some 21, .mov, [.t 1], some (19, false)⟩,
     ⟨some 22, .len false, [.t 21], some (19, false)⟩,
     ⟨some 23, .bin .geq T_int (.tmp 20) (.tmp 22), [.t 20, .t 22], some (19, false)⟩,
     ⟨some 24, .pick, [.t 19, .c (.val (.bool true)), .t 23], none⟩]
    [12, 13, 14, 15, 16, 17, 18, 19, 20, 21, 22, 23] [])
  (.cond (.t 24) (.seq (.region false []
    [⟨some 25, .call F_law38_awake, [], none⟩,
     ⟨some 8, .mov, [.t 25], none⟩]
    [1, 2, 4, 7, 24, 25] [4, 7])
  .ret)
  .skip))
  (.seq (.region false []
    [⟨some 26, .mkslice 6 0 [.val (.int .i64 0), .val (.int .i64 0), .val (.int .i64 0), .val (.int .i64 0), .val (.int .i64 0), .val (.int .i64 0)] [], [], none⟩,
     ⟨some 27, .mov, [.t 1], none⟩,
     ⟨some 28, .appendU 6 48, [.t 26, .t 27], none⟩,
     ⟨some 9, .mov, [.t 28], none⟩]
    [24, 26, 27, 28] [])
  (.seq (.region false []
    [⟨some 29, .mov, [.t 9], none⟩,
     ⟨some 30, .mov, [.t 2], none⟩,
     ⟨some 31, .load (some 6), [.t 7], none⟩,
     ⟨some 32, .iaddrS 6, [.t 29, .t 30], none⟩,
     ⟨none, .store 6, [.t 32, .t 31], none⟩]
    [2, 7, 29, 30, 31, 32] [7])
  (.seq (.region false [28]
    [⟨some 34, .load (some 6), [.t 4], none⟩,
     ⟨some 35, .mov, [.t 1], none⟩,
     ⟨some 36, .mov, [.t 9], none⟩,
     ⟨some 37, .call F_undersell_Apply, [.c (.val (.int .i64 2)), .t 34, .t 35, .t 36], none⟩,
     ⟨some 33, .mov, [.t 37], none⟩,
     ⟨some 38, .extract 0, [.t 33], none⟩,
     ⟨some 39, .extract 1, [.t 33], none⟩,
     ⟨some 10, .mov, [.t 38], none⟩,
     ⟨some 11, .mov, [.t 39], none⟩]
    [34, 35, 36, 37, 33, 38, 39] [])
  (.seq (.seq (.region false []
    [⟨some 40, .mov, [.t 11], none⟩,
     ⟨some 41, .bin .neq T_api_Errno (.tmp 40) (.const (.int .i64 0)), [.t 40, .c (.val (.int .i64 0))], none⟩]
    [11, 40] [])
  (.cond (.t 41) (.seq (.region false []
    [⟨some 42, .call F_law38_awake, [], none⟩,
     ⟨some 8, .mov, [.t 42], none⟩]
    [1, 4, 9, 10, 41, 42] [4])
  .ret)
  .skip))
  (.seq (.seq (.region false []
    [⟨some 43, .load (some 6), [.t 4], none⟩,
     ⟨some 44, .mov, [.t 1], none⟩,
     ⟨some 45, .mov, [.t 9], none⟩,
     ⟨some 46, .call F_ref38_Undersold, [.t 43, .t 44, .t 45], none⟩]
    [4, 41, 43, 44, 45] [4])
  (.cond (.t 46) (.seq (.region false []
    [⟨some 47, .mov, [.t 10], none⟩,
     ⟨some 48, .mov, [.t 1], none⟩,
     ⟨some 49, .call F_ref38_Same, [.t 47, .t 48], none⟩,
     ⟨some 50, .mov, [.t 49], none⟩,
     ⟨some 51, .call F_law38_awake, [], some (50, true)⟩,
     ⟨some 52, .pick, [.t 50, .t 51, .c (.val (.bool false))], none⟩,
     ⟨some 8, .mov, [.t 52], none⟩]
    [1, 9, 10, 46, 47, 48, 49, 50, 51, 52] [])
  .ret)
  .skip))
  (.seq (.region false []
    [⟨some 53, .mov, [.t 10], none⟩,
     ⟨some 54, .mov, [.t 9], none⟩,
     ⟨some 55, .call F_ref38_Same, [.t 53, .t 54], none⟩,
     ⟨some 56, .mov, [.t 55], none⟩,
     ⟨some 57, .call F_law38_awake, [], some (56, true)⟩,
     ⟨some 58, .pick, [.t 56, .t 57, .c (.val (.bool false))], none⟩,
     ⟨some 8, .mov, [.t 58], none⟩]
    [1, 9, 10, 46, 53, 54, 55, 56, 57, 58] [])
  .ret))))))))
def r_law38_UndersellWhole : List ResA := [.t 8]
theorem t_law38_UndersellWhole : transl Try.prog F_law38_UndersellWhole = some (bare c_law38_UndersellWhole, r_law38_UndersellWhole, 59) := by kernel_rfl

/- saleroom/saleroomlaw38.awake -/
def c_law38_awake : ACode :=
  (.seq (.region false []
    [⟨some 0, .mov, [.c (.val (.bool false))], none⟩]
    [0] [])
  (.seq (.region false []
    [⟨some 12, .build [.val (.int .i64 0), .val (.int .i64 0), .val (.int .i64 0), .val (.int .i64 0), .val (.int .i64 0), .val (.int .i64 0)] [(0, 1)], [.c (.val (.int .i64 2))], none⟩,
     ⟨some 13, .build [.val (.int .i64 0), .val (.int .i64 0), .val (.int .i64 0), .val (.int .i64 0), .val (.int .i64 0), .val (.int .i64 0)] [(0, 1)], [.c (.val (.int .i64 2))], none⟩,
     ⟨some 14, .build [.val (.int .i64 0), .val (.int .i64 0), .val (.int .i64 0), .val (.int .i64 0), .val (.int .i64 0), .val (.int .i64 0)] [(0, 1)], [.c (.val (.int .i64 1))], none⟩,
     ⟨some 15, .mkslice 6 2 [.val (.int .i64 0), .val (.int .i64 0), .val (.int .i64 0), .val (.int .i64 0), .val (.int .i64 0), .val (.int .i64 0)] [0, 1], [.t 13, .t 14], none⟩,
     ⟨some 16, .build [.val (.int .i64 0), .val (.int .i64 0), .val (.int .i64 0), .val (.int .i64 0), .val (.int .i64 0), .val (.int .i64 0)] [], [], none⟩,
     ⟨some 17, .build [.val (.int .i64 0), .val (.int .i64 0), .val (.int .i64 0), .val (.int .i64 0), .val (.int .i64 0), .val (.int .i64 0)] [], [], none⟩,
     ⟨some 18, .mkslice 6 2 [.val (.int .i64 0), .val (.int .i64 0), .val (.int .i64 0), .val (.int .i64 0), .val (.int .i64 0), .val (.int .i64 0)] [0, 1], [.t 16, .t 17], none⟩,
     ⟨some 1, .alloc [.val (.int .i64 0), .val (.int .i64 0), .val (.int .i64 0), .val (.int .i64 0), .val (.int .i64 0), .val (.int .i64 0)], [], none⟩,
     ⟨none, .store 6, [.t 1, .t 12], none⟩,
     ⟨some 2, .mov, [.t 15], none⟩,
     ⟨some 3, .mov, [.t 18], none⟩]
    [12, 13, 14, 15, 16, 17, 18] [])
  (.seq (.region false []
    [⟨some 20, .load (some 6), [.t 1], none⟩,
     ⟨some 21, .mov, [.t 2], none⟩,
     ⟨some 22, .mov, [.t 3], none⟩,
     ⟨some 23, .call F_undersell_Apply, [.c (.val (.int .i64 2)), .t 20, .t 21, .t 22], none⟩,
     ⟨some 19, .mov, [.t 23], none⟩,
     ⟨some 24, .extract 0, [.t 19], none⟩,
     ⟨some 25, .extract 1, [.t 19], none⟩,
     ⟨some 4, .mov, [.t 24], none⟩,
     ⟨some 5, .mov, [.t 25], none⟩]
    [20, 21, 22, 23, 19, 24, 25] [])
  (.seq (.region false []
    [⟨some 27, .load (some 6), [.t 1], none⟩,
     ⟨some 28, .mov, [.t 2], none⟩,
     ⟨some 29, .mov, [.t 3], none⟩,
     ⟨some 30, .call F_undersell_Apply, [.c (.val (.int .i64 3)), .t 27, .t 28, .t 29], none⟩,
     ⟨some 26, .mov, [.t 30], none⟩,
     ⟨some 31, .extract 0, [.t 26], none⟩,
     ⟨some 32, .extract 1, [.t 26], none⟩,
     ⟨some 6, .mov, [.t 31], none⟩,
     ⟨some 7, .mov, [.t 32], none⟩]
    [27, 28, 29, 30, 26, 31, 32] [])
  (.seq (.region false []
    [⟨some 34, .load (some 6), [.t 1], none⟩,
     ⟨some 35, .mov, [.t 2], none⟩,
     ⟨some 36, .mov, [.t 3], none⟩,
     ⟨some 37, .call F_undersell_Apply, [.c (.val (.int .i64 1)), .t 34, .t 35, .t 36], none⟩,
     ⟨some 33, .mov, [.t 37], none⟩,
     ⟨some 38, .extract 0, [.t 33], none⟩,
     ⟨some 39, .extract 1, [.t 33], none⟩,
     ⟨some 8, .mov, [.t 38], none⟩,
     ⟨some 9, .mov, [.t 39], none⟩]
    [34, 35, 36, 37, 33, 38, 39] [])
  (.seq (.region false []
    [⟨some 41, .load (some 6), [.t 1], none⟩,
     ⟨some 42, .mov, [.t 2], none⟩,
     ⟨some 43, .mov, [.t 3], none⟩,
     ⟨some 44, .call F_undersell_Apply, [.c (.val (.int .i64 4)), .t 41, .t 42, .t 43], none⟩,
     ⟨some 40, .mov, [.t 44], none⟩,
     ⟨some 45, .extract 0, [.t 40], none⟩,
     ⟨some 46, .extract 1, [.t 40], none⟩,
     ⟨some 10, .mov, [.t 45], none⟩,
     ⟨some 11, .mov, [.t 46], none⟩]
    [2, 41, 42, 43, 44, 40, 45, 46, 10] [])
  (.seq (.region false []
    [⟨some 47, .mov, [.t 5], none⟩,
     ⟨some 48, .bin .eql T_api_Errno (.tmp 47) (.const (.int .i64 0)), [.t 47, .c (.val (.int .i64 0))], none⟩,
     ⟨some 49, .mov, [.t 48], none⟩,
     ⟨some 50, .mov, [.t 4], some (49, true)⟩,
     ⟨some 51, .build [.val (.int .i64 0), .val (.int .i64 0), .val (.int .i64 0), .val (.int .i64 0), .val (.int .i64 0), .val (.int .i64 0)] [(0, 1)], [.c (.val (.int .i64 2))], some (49, true)⟩,
     ⟨some 52, .build [.val (.int .i64 0), .val (.int .i64 0), .val (.int .i64 0), .val (.int .i64 0), .val (.int .i64 0), .val (.int .i64 0)] [], [], some (49, true)⟩,
     ⟨some 53, .mkslice 6 2 [.val (.int .i64 0), .val (.int .i64 0), .val (.int .i64 0), .val (.int .i64 0), .val (.int .i64 0), .val (.int .i64 0)] [0, 1], [.t 51, .t 52], some (49, true)⟩,
     ⟨some 54, .call F_ref38_Same, [.t 50, .t 53], some (49, true)⟩,
     ⟨some 55, .pick, [.t 49, .t 54, .c (.val (.bool false))], none⟩,
     ⟨some 56, .mov, [.t 55], none⟩,
     ⟨some 57, .mov, [.t 7], some (56, true)⟩,
     ⟨some 58, .bin .eql T_api_Errno (.tmp 57) (.const (.int .i64 0)), [.t 57, .c (.val (.int .i64 0))], some (56, true)⟩,
     ⟨some 59, .pick, [.t 56, .t 58, .c (.val (.bool false))], none⟩,
     ⟨some 60, .mov, [.t 59], none⟩,
     ⟨some 61, .mov, [.t 6], some (60, true)⟩,
     ⟨some 62, .build [.val (.int .i64 0), .val (.int .i64 0), .val (.int .i64 0), .val (.int .i64 0), .val (.int .i64 0), .val (.int .i64 0)] [(0, 1)], [.c (.val (.int .i64 1))], some (60, true)⟩,
     ⟨some 63, .build [.val (.int .i64 0), .val (.int .i64 0), .val (.int .i64 0), .val (.int .i64 0), .val (.int .i64 0), .val (.int .i64 0)] [(0, 1)], [.c (.val (.int .i64 1))], some (60, true)⟩,
     ⟨some 64, .mkslice 6 2 [.val (.int .i64 0), .val (.int .i64 0), .val (.int .i64 0), .val (.int .i64 0), .val (.int .i64 0), .val (.int .i64 0)] [0, 1], [.t 62, .t 63], some (60, true)⟩,
     ⟨some 65, .call F_ref38_Same, [.t 61, .t 64], some (60, true)⟩,
     ⟨some 66, .pick, [.t 60, .t 65, .c (.val (.bool false))], none⟩,
     ⟨some 67, .mov, [.t 66], none⟩,
     ⟨some 68, .mov, [.t 9], some (67, true)⟩,
     ⟨some 69, .bin .eql T_api_Errno (.tmp 68) (.const (.int .i64 0)), [.t 68, .c (.val (.int .i64 0))], some (67, true)⟩,
     ⟨some 70, .pick, [.t 67, .t 69, .c (.val (.bool false))], none⟩,
     ⟨some 71, .mov, [.t 70], none⟩,
     ⟨some 72, .mov, [.t 8], some (71, true)⟩,
     ⟨some 73, .mov, [.t 3], some (71, true)⟩,
     ⟨some 74, .call F_ref38_Same, [.t 72, .t 73], some (71, true)⟩,
     ⟨some 75, .pick, [.t 71, .t 74, .c (.val (.bool false))], none⟩,
     ⟨some 76, .mov, [.t 75], none⟩,
     ⟨some 77, .mov, [.t 11], some (76, true)⟩,
     ⟨some 78, .bin .eql T_api_Errno (.tmp 77) (.const (.int .i64 4)), [.t 77, .c (.val (.int .i64 4))], some (76, true)⟩,
     ⟨some 79, .pick, [.t 76, .t 78, .c (.val (.bool false))], none⟩,
     ⟨some 80, .mov, [.t 79], none⟩,
     ⟨some 81, .load (some 6), [.t 1], some (80, true)⟩,
     ⟨some 82, .build [.val (.int .i64 0), .val (.int .i64 0), .val (.int .i64 0), .val (.int .i64 0), .val (.int .i64 0), .val (.int .i64 0)] [(0, 1)], [.c (.val (.int .i64 3))], some (80, true)⟩,
     ⟨some 83, .mkslice 6 1 [.val (.int .i64 0), .val (.int .i64 0), .val (.int .i64 0), .val (.int .i64 0), .val (.int .i64 0), .val (.int .i64 0)] [0], [.t 82], some (80, true)⟩,
     ⟨some 84, .build [.val (.int .i64 0), .val (.int .i64 0), .val (.int .i64 0), .val (.int .i64 0), .val (.int .i64 0), .val (.int .i64 0)] [(0, 1)], [.c (.val (.int .i64 1))], some (80, true)⟩,
     ⟨some 85, .mkslice 6 1 [.val (.int .i64 0), .val (.int .i64 0), .val (.int .i64 0), .val (.int .i64 0), .val (.int .i64 0), .val (.int .i64 0)] [0], [.t 84], some (80, true)⟩,
     ⟨some 86, .call F_undersell_Undersold, [.t 81, .t 83, .t 85], some (80, true)⟩,
     ⟨some 87, .pick, [.t 80, .t 86, .c (.val (.bool false))], none⟩,
     ⟨some 88, .mov, [.t 87], none⟩,
     ⟨some 89, .load (some 6), [.t 1], some (88, true)⟩,
     ⟨some 90, .build [.val (.int .i64 0), .val (.int .i64 0), .val (.int .i64 0), .val (.int .i64 0), .val (.int .i64 0), .val (.int .i64 0)] [(0, 1)], [.c (.val (.int .i64 1))], some (88, true)⟩,
     ⟨some 91, .mkslice 6 1 [.val (.int .i64 0), .val (.int .i64 0), .val (.int .i64 0), .val (.int .i64 0), .val (.int .i64 0), .val (.int .i64 0)] [0], [.t 90], some (88, true)⟩,
     ⟨some 92, .build [.val (.int .i64 0), .val (.int .i64 0), .val (.int .i64 0), .val (.int .i64 0), .val (.int .i64 0), .val (.int .i64 0)] [(0, 1)], [.c (.val (.int .i64 1))], some (88, true)⟩,
     ⟨some 93, .mkslice 6 1 [.val (.int .i64 0), .val (.int .i64 0), .val (.int .i64 0), .val (.int .i64 0), .val (.int .i64 0), .val (.int .i64 0)] [0], [.t 92], some (88, true)⟩,
     ⟨some 94, .call F_undersell_Undersold, [.t 89, .t 91, .t 93], some (88, true)⟩,
     ⟨some 95, .un .not, [.t 94], some (88, true)⟩,
     ⟨some 96, .pick, [.t 88, .t 95, .c (.val (.bool false))], none⟩,
     ⟨some 0, .mov, [.t 96], none⟩]
    [1, 3, 4, 5, 6, 7, 8, 9, 11, 47, 48, 49, 50, 51, 52, 53, 54, 55, 56, 57, 58, 59, 60, 61, 62, 63, 64, 65, 66, 67, 68, 69, 70, 71, 72, 73, 74, 75, 76, 77, 78, 79, 80, 81, 82, 83, 84, 85, 86, 87, 88, 89, 90, 91, 92, 93, 94, 95, 96] [1])
  .ret)))))))
def r_law38_awake : List ResA := [.t 0]
theorem t_law38_awake : transl Try.prog F_law38_awake = some (bare c_law38_awake, r_law38_awake, 97) := by kernel_rfl

/- saleroom/undersell.Apply -/
def c_undersell_Apply_l0 : ACode :=
  (.seq (.region false []
    [⟨some 28, .bin .lss T_int (.tmp 27) (.tmp 26), [.t 27, .t 26], none⟩]
    [] [])
  (.seq (.cond (.t 28) .skip
  (.exit 0))
  (.seq (.block 1 (.seq (.region false []
    [⟨some 29, .mov, [.t 27], none⟩,
     ⟨some 30, .iaddrS 6, [.t 25, .t 27], none⟩,
     ⟨some 31, .load (some 6), [.t 30], none⟩,
     ⟨some 13, .alloc [.val (.int .i64 0), .val (.int .i64 0), .val (.int .i64 0), .val (.int .i64 0), .val (.int .i64 0), .val (.int .i64 0)], [], none⟩,
     ⟨some 12, .mov, [.t 29], none⟩,
     ⟨none, .store 6, [.t 13, .t 31], none⟩]
    [28, 29, 30, 31] [])
  (.seq (.region false []
    [⟨some 32, .mov, [.t 11], none⟩,
     ⟨some 33, .call F_tally_Sum, [.t 32], none⟩,
     ⟨some 14, .alloc [.val (.int .i64 0), .val (.int .i64 0), .val (.int .i64 0), .val (.int .i64 0), .val (.int .i64 0), .val (.int .i64 0)], [], none⟩,
     ⟨none, .store 6, [.t 14, .t 33], none⟩]
    [32, 33] [])
  (.seq (.seq (.region false []
    [⟨some 34, .mov, [.t 0], none⟩]
    [] [])
  (.block 2 (.seq (.region false []
    [⟨some 36, .bin .eql T_int (.tmp 34) (.const (.int .i64 2)), [.t 34, .c (.val (.int .i64 2))], none⟩,
     ⟨some 35, .mov, [.t 36], none⟩]
    [36] [])
  (.cond (.t 35) (.seq (.region true []
    [⟨some 37, .load (some 6), [.t 5], none⟩,
     ⟨some 38, .load (some 6), [.t 14], none⟩,
     ⟨some 39, .mov, [.t 11], none⟩,
     ⟨some 40, .mov, [.t 12], none⟩,
     ⟨some 41, .iaddrS 6, [.t 39, .t 40], none⟩,
     ⟨some 42, .load (some 6), [.t 41], none⟩,
     ⟨some 43, .load (some 6), [.t 13], none⟩,
     ⟨some 44, .call F_undersell_refused, [.t 37, .t 38, .t 42, .t 43], none⟩]
    [14, 34, 35, 37, 38, 39, 40, 41, 42, 43] [14])
  (.cond (.t 44) (.exit 1)
  .skip))
  (.seq (.region false []
    [⟨some 46, .bin .eql T_int (.tmp 34) (.const (.int .i64 3)), [.t 34, .c (.val (.int .i64 3))], none⟩,
     ⟨some 45, .mov, [.t 46], none⟩]
    [34, 35, 46] [])
  (.cond (.t 45) (.region true []
    [⟨some 47, .load (some 6), [.t 5], none⟩,
     ⟨some 48, .load (some 6), [.t 14], none⟩,
     ⟨some 49, .mov, [.t 11], none⟩,
     ⟨some 50, .mov, [.t 12], none⟩,
     ⟨some 51, .iaddrS 6, [.t 49, .t 50], none⟩,
     ⟨some 52, .load (some 6), [.t 51], none⟩,
     ⟨some 53, .load (some 6), [.t 13], none⟩,
     ⟨some 54, .call F_undersell_partly, [.t 47, .t 48, .t 52, .t 53], none⟩,
     ⟨none, .store 6, [.t 13, .t 54], none⟩]
    [14, 45, 47, 48, 49, 50, 51, 52, 53, 54] [14])
  .skip))))))
  (.region false []
    [⟨some 55, .mov, [.t 11], none⟩,
     ⟨some 56, .mov, [.t 12], none⟩,
     ⟨some 57, .load (some 6), [.t 13], none⟩,
     ⟨some 58, .iaddrS 6, [.t 55, .t 56], none⟩,
     ⟨none, .store 6, [.t 58, .t 57], none⟩]
    [13, 12, 44, 14, 45, 55, 56, 57, 58] [13, 14])))))
  (.region false []
    [⟨some 59, .bin .add T_int (.tmp 27) (.const (.int .i64 1)), [.t 27, .c (.val (.int .i64 1))], none⟩,
     ⟨some 27, .mov, [.t 59], none⟩]
    [13, 12, 44, 59] [13]))))
def c_undersell_Apply_k1 : ACode :=
  (.seq (.region false []
    [⟨some 60, .mov, [.t 11], none⟩,
     ⟨some 8, .mov, [.t 60], none⟩,
     ⟨some 9, .mov, [.c (.val (.int .i64 0))], none⟩]
    [0, 5, 11, 25, 26, 27, 28, 60] [5])
  .ret)
def c_undersell_Apply : ACode :=
  (.seq (.region false []
    [⟨some 5, .box, [.t 1], none⟩,
     ⟨some 8, .mov, [.c (.list 0 .full [])], none⟩,
     ⟨some 9, .mov, [.c (.val (.int .i64 0))], none⟩]
    [1, 8, 9] [])
  (.seq (.seq (.region false []
    [⟨some 15, .mov, [.t 0], none⟩,
     ⟨some 16, .load (some 6), [.t 5], none⟩,
     ⟨some 17, .mov, [.t 2], none⟩,
     ⟨some 18, .mov, [.t 3], none⟩,
     ⟨some 19, .call F_undersell_check, [.t 15, .t 16, .t 17, .t 18], none⟩,
     ⟨some 10, .mov, [.t 19], none⟩]
    [15, 16, 17, 18, 19] [])
  (.seq (.region false []
    [⟨some 20, .mov, [.t 10], none⟩,
     ⟨some 21, .bin .neq T_api_Errno (.tmp 20) (.const (.int .i64 0)), [.t 20, .c (.val (.int .i64 0))], none⟩]
    [20] [])
  (.cond (.t 21) (.seq (.region false []
    [⟨some 22, .mov, [.t 10], none⟩,
     ⟨some 8, .mov, [.c (.list 0 .full [])], none⟩,
     ⟨some 9, .mov, [.t 22], none⟩]
    [0, 2, 3, 5, 10, 21, 22] [5])
  .ret)
  .skip)))
  (.seq (.region false []
    [⟨some 23, .mov, [.t 2], none⟩,
     ⟨some 24, .callI F_slices_Cloneasl_api_Bundle_api_Bundle_, [.t 23], none⟩,
     ⟨some 11, .mov, [.t 24], none⟩]
    [2, 10, 21, 23, 24] [])
  (.seq (.seq (.region false []
    [⟨some 25, .mov, [.t 3], none⟩,
     ⟨some 26, .len false, [.t 25], none⟩,
     ⟨some 27, .mov, [.c (.val (.int .i64 0))], none⟩]
    [3] [])
  (.block 0 (.loop c_undersell_Apply_l0)))
  c_undersell_Apply_k1))))
def r_undersell_Apply : List ResA := [.t 8, .t 9]
theorem t_undersell_Apply : transl Try.prog F_undersell_Apply = some (bare c_undersell_Apply, r_undersell_Apply, 61) := by kernel_rfl

/- saleroom/saleroomref38.Apply -/
def c_ref38_Apply_l0 : ACode :=
  (.seq (.seq (.region false []
    [⟨some 37, .mov, [.t 11], none⟩,
     ⟨some 38, .mov, [.t 10], none⟩,
     ⟨some 39, .len false, [.t 38], none⟩,
     ⟨some 40, .bin .lss T_int (.tmp 37) (.tmp 39), [.t 37, .t 39], none⟩]
    [37, 38, 39] [])
  (.cond (.t 40) .skip
  (.exit 0)))
  (.seq (.block 1 (.seq (.region false []
    [⟨some 43, .mov, [.t 10], none⟩,
     ⟨some 44, .mov, [.t 11], none⟩,
     ⟨some 45, .iaddrS 6, [.t 43, .t 44], none⟩,
     ⟨some 46, .load (some 6), [.t 45], none⟩,
     ⟨some 47, .call F_ref07_Check, [.t 46], none⟩,
     ⟨some 48, .bin .neq T_api_Errno (.tmp 47) (.const (.int .i64 0)), [.t 47, .c (.val (.int .i64 0))], none⟩]
    [40, 43, 44, 45, 46, 47] [])
  (.cond (.t 48) (.seq (.region false []
    [⟨some 8, .mov, [.c (.list 0 .full [])], none⟩,
     ⟨some 9, .mov, [.c (.val (.int .i64 4))], none⟩]
    [0, 2, 3, 5, 10, 11, 48] [5])
  .ret)
  .skip)))
  (.region false []
    [⟨some 41, .mov, [.t 11], none⟩,
     ⟨some 42, .bin .add T_int (.tmp 41) (.const (.int .i64 1)), [.t 41, .c (.val (.int .i64 1))], none⟩,
     ⟨some 11, .mov, [.t 42], none⟩]
    [48, 41, 42] [])))
def c_ref38_Apply_l1 : ACode :=
  (.seq (.seq (.region false []
    [⟨some 52, .mov, [.t 13], none⟩,
     ⟨some 53, .mov, [.t 12], none⟩,
     ⟨some 54, .len false, [.t 53], none⟩,
     ⟨some 55, .bin .lss T_int (.tmp 52) (.tmp 54), [.t 52, .t 54], none⟩]
    [52, 53, 54] [])
  (.cond (.t 55) .skip
  (.exit 2)))
  (.seq (.block 3 (.seq (.region false []
    [⟨some 58, .mov, [.t 0], none⟩]
    [55] [])
  (.block 4 (.seq (.region false []
    [⟨some 60, .bin .eql T_int (.tmp 58) (.const (.int .i64 1)), [.t 58, .c (.val (.int .i64 1))], none⟩,
     ⟨some 59, .mov, [.t 60], none⟩]
    [60] [])
  (.cond (.t 59) (.region false []
    [⟨some 61, .mov, [.t 12], none⟩,
     ⟨some 62, .mov, [.t 13], none⟩,
     ⟨some 63, .mov, [.t 3], none⟩,
     ⟨some 64, .mov, [.t 13], none⟩,
     ⟨some 65, .iaddrS 6, [.t 63, .t 64], none⟩,
     ⟨some 66, .load (some 6), [.t 65], none⟩,
     ⟨some 67, .iaddrS 6, [.t 61, .t 62], none⟩,
     ⟨none, .store 6, [.t 67, .t 66], none⟩]
    [58, 59, 61, 62, 63, 64, 65, 66, 67] [])
  (.seq (.region false []
    [⟨some 69, .bin .eql T_int (.tmp 58) (.const (.int .i64 2)), [.t 58, .c (.val (.int .i64 2))], none⟩,
     ⟨some 68, .mov, [.t 69], none⟩]
    [59, 69] [])
  (.cond (.t 68) (.seq (.region true []
    [⟨some 70, .load (some 6), [.t 5], none⟩,
     ⟨some 71, .mov, [.t 12], none⟩,
     ⟨some 72, .mov, [.t 13], none⟩,
     ⟨some 73, .mov, [.t 3], none⟩,
     ⟨some 74, .mov, [.t 13], none⟩,
     ⟨some 75, .iaddrS 6, [.t 73, .t 74], none⟩,
     ⟨some 76, .load (some 6), [.t 75], none⟩,
     ⟨some 77, .call F_ref38_refused, [.t 70, .t 71, .t 72, .t 76], none⟩,
     ⟨some 78, .un .not, [.t 77], none⟩]
    [58, 68, 70, 71, 72, 73, 74, 75, 76, 77] [])
  (.cond (.t 78) (.region false []
    [⟨some 79, .mov, [.t 12], none⟩,
     ⟨some 80, .mov, [.t 13], none⟩,
     ⟨some 81, .mov, [.t 3], none⟩,
     ⟨some 82, .mov, [.t 13], none⟩,
     ⟨some 83, .iaddrS 6, [.t 81, .t 82], none⟩,
     ⟨some 84, .load (some 6), [.t 83], none⟩,
     ⟨some 85, .iaddrS 6, [.t 79, .t 80], none⟩,
     ⟨none, .store 6, [.t 85, .t 84], none⟩]
    [78, 79, 80, 81, 82, 83, 84, 85] [])
  .skip))
  (.seq (.region false []
    [⟨some 87, .bin .eql T_int (.tmp 58) (.const (.int .i64 3)), [.t 58, .c (.val (.int .i64 3))], none⟩,
     ⟨some 86, .mov, [.t 87], none⟩]
    [58, 68, 87] [])
  (.cond (.t 86) (.region true []
    [⟨some 88, .mov, [.t 12], none⟩,
     ⟨some 89, .mov, [.t 13], none⟩,
     ⟨some 90, .load (some 6), [.t 5], none⟩,
     ⟨some 91, .mov, [.t 12], none⟩,
     ⟨some 92, .mov, [.t 13], none⟩,
     ⟨some 93, .mov, [.t 3], none⟩,
     ⟨some 94, .mov, [.t 13], none⟩,
     ⟨some 95, .iaddrS 6, [.t 93, .t 94], none⟩,
     ⟨some 96, .load (some 6), [.t 95], none⟩,
     ⟨some 97, .call F_ref38_partly, [.t 90, .t 91, .t 92, .t 96], none⟩,
     ⟨some 98, .iaddrS 6, [.t 88, .t 89], none⟩,
     ⟨none, .store 6, [.t 98, .t 97], none⟩]
    [86, 88, 89, 90, 91, 92, 93, 94, 95, 96, 97, 98] [])
  .skip)))))))))
  (.region false []
    [⟨some 56, .mov, [.t 13], none⟩,
     ⟨some 57, .bin .add T_int (.tmp 56) (.const (.int .i64 1)), [.t 56, .c (.val (.int .i64 1))], none⟩,
     ⟨some 13, .mov, [.t 57], none⟩]
    [78, 86, 56, 57] [])))
def c_ref38_Apply_k2 : ACode :=
  (.seq (.region false []
    [⟨some 99, .mov, [.t 12], none⟩,
     ⟨some 8, .mov, [.t 99], none⟩,
     ⟨some 9, .mov, [.c (.val (.int .i64 0))], none⟩]
    [0, 3, 5, 12, 13, 55, 99] [5])
  .ret)
def c_ref38_Apply_k3 : ACode :=
  (.seq (.region false []
    [⟨some 49, .mkslice 6 0 [.val (.int .i64 0), .val (.int .i64 0), .val (.int .i64 0), .val (.int .i64 0), .val (.int .i64 0), .val (.int .i64 0)] [], [], none⟩,
     ⟨some 50, .mov, [.t 2], none⟩,
     ⟨some 51, .appendU 6 48, [.t 49, .t 50], none⟩,
     ⟨some 12, .mov, [.t 51], none⟩]
    [2, 10, 11, 40, 49, 50, 51] [])
  (.seq (.seq (.region false []
    [⟨some 13, .mov, [.c (.val (.int .i64 0))], none⟩]
    [] [])
  (.block 2 (.loop c_ref38_Apply_l1)))
  c_ref38_Apply_k2))
def c_ref38_Apply : ACode :=
  (.seq (.region false []
    [⟨some 5, .box, [.t 1], none⟩,
     ⟨some 8, .mov, [.c (.list 0 .full [])], none⟩,
     ⟨some 9, .mov, [.c (.val (.int .i64 0))], none⟩]
    [1, 8, 9] [])
  (.seq (.seq (.region false []
    [⟨some 14, .mov, [.t 0], none⟩,
     ⟨some 15, .bin .lss T_int (.tmp 14) (.const (.int .i64 1)), [.t 14, .c (.val (.int .i64 1))], none⟩,
     ⟨some 16, .mov, [.t 15], none⟩,
     ⟨some 17, .mov, [.t 0], some (16, false)⟩,
     ⟨some 18, .bin .gtr T_int (.tmp 17) (.const (.int .i64 3)), [.t 17, .c (.val (.int .i64 3))], some (16, false)⟩,
     ⟨some 19, .pick, [.t 16, .c (.val (.bool true)), .t 18], none⟩]
    [14, 15, 16, 17, 18] [])
  (.cond (.t 19) (.seq (.region false []
    [⟨some 8, .mov, [.c (.list 0 .full [])], none⟩,
     ⟨some 9, .mov, [.c (.val (.int .i64 4))], none⟩]
    [0, 2, 3, 5, 19] [5])
  .ret)
  .skip))
  (.seq (.seq (.region false []
    [⟨some 20, .mov, [.t 2], none⟩,
     ⟨some 21, .len false, [.t 20], none⟩,
     ⟨some 22, .mov, [.t 3], none⟩,
     ⟨some 23, .len false, [.t 22], none⟩,
     ⟨some 24, .bin .neq T_int (.tmp 21) (.tmp 23), [.t 21, .t 23], none⟩,
     ⟨some 25, .mov, [.t 24], none⟩,
     ⟨some 26, .mov, [.t 2], some (25, false)⟩,
     ⟨some 27, .len false, [.t 26], some (25, false)⟩,
     ⟨some 28, .bin .gtr T_int (.tmp 27) (.const (.int .i64 8)), [.t 27, .c (.val (.int .i64 8))], some (25, false)⟩,
     ⟨some 29, .pick, [.t 25, .c (.val (.bool true)), .t 28], none⟩]
    [19, 20, 21, 22, 23, 24, 25, 26, 27, 28] [])
  (.cond (.t 29) (.seq (.region false []
    [⟨some 8, .mov, [.c (.list 0 .full [])], none⟩,
     ⟨some 9, .mov, [.c (.val (.int .i64 3))], none⟩]
    [0, 2, 3, 5, 29] [5])
  .ret)
  .skip))
  (.seq (.region false []
    [⟨some 30, .load (some 6), [.t 5], none⟩,
     ⟨some 31, .mkslice 6 1 [.val (.int .i64 0), .val (.int .i64 0), .val (.int .i64 0), .val (.int .i64 0), .val (.int .i64 0), .val (.int .i64 0)] [0], [.t 30], none⟩,
     ⟨some 32, .mov, [.t 2], none⟩,
     ⟨some 33, .append 6 48, [.t 31, .t 32], none⟩,
     ⟨some 10, .mov, [.t 33], none⟩]
    [29, 30, 31, 32, 33] [])
  (.seq (.region false []
    [⟨some 34, .mov, [.t 10], none⟩,
     ⟨some 35, .mov, [.t 3], none⟩,
     ⟨some 36, .append 6 48, [.t 34, .t 35], none⟩,
     ⟨some 10, .mov, [.t 36], none⟩]
    [34, 35, 36] [])
  (.seq (.seq (.region false []
    [⟨some 11, .mov, [.c (.val (.int .i64 0))], none⟩]
    [] [])
  (.block 0 (.loop c_ref38_Apply_l0)))
  c_ref38_Apply_k3))))))
def r_ref38_Apply : List ResA := [.t 8, .t 9]
theorem t_ref38_Apply : transl Try.prog F_ref38_Apply = some (bare c_ref38_Apply, r_ref38_Apply, 100) := by kernel_rfl

/- saleroom/saleroomref38.Same -/
def c_ref38_Same_l0 : ACode :=
  (.seq (.seq (.region false []
    [⟨some 11, .mov, [.t 5], none⟩,
     ⟨some 12, .mov, [.t 0], none⟩,
     ⟨some 13, .len false, [.t 12], none⟩,
     ⟨some 14, .bin .lss T_int (.tmp 11) (.tmp 13), [.t 11, .t 13], none⟩]
    [11, 12, 13] [])
  (.cond (.t 14) .skip
  (.exit 0)))
  (.seq (.block 1 (.seq (.region true []
    [⟨some 17, .mov, [.t 0], none⟩,
     ⟨some 18, .mov, [.t 5], none⟩,
     ⟨some 19, .iaddrS 6, [.t 17, .t 18], none⟩,
     ⟨some 20, .load (some 6), [.t 19], none⟩,
     ⟨some 21, .mov, [.t 1], none⟩,
     ⟨some 22, .mov, [.t 5], none⟩,
     ⟨some 23, .iaddrS 6, [.t 21, .t 22], none⟩,
     ⟨some 24, .load (some 6), [.t 23], none⟩,
     ⟨some 25, .bin .neq T_api_Bundle (.tmp 20) (.tmp 24), [.t 20, .t 24], none⟩]
    [14, 17, 18, 19, 20, 21, 22, 23, 24] [])
  (.cond (.t 25) (.seq (.region false []
    [⟨some 4, .mov, [.c (.val (.bool false))], none⟩]
    [0, 1, 5, 25] [])
  .ret)
  .skip)))
  (.region false []
    [⟨some 15, .mov, [.t 5], none⟩,
     ⟨some 16, .bin .add T_int (.tmp 15) (.const (.int .i64 1)), [.t 15, .c (.val (.int .i64 1))], none⟩,
     ⟨some 5, .mov, [.t 16], none⟩]
    [25, 15, 16] [])))
def c_ref38_Same_k1 : ACode :=
  (.seq (.region false []
    [⟨some 4, .mov, [.c (.val (.bool true))], none⟩]
    [0, 1, 5, 14] [])
  .ret)
def c_ref38_Same : ACode :=
  (.seq (.region false []
    [⟨some 4, .mov, [.c (.val (.bool false))], none⟩]
    [4] [])
  (.seq (.seq (.region false []
    [⟨some 6, .mov, [.t 0], none⟩,
     ⟨some 7, .len false, [.t 6], none⟩,
     ⟨some 8, .mov, [.t 1], none⟩,
     ⟨some 9, .len false, [.t 8], none⟩,
     ⟨some 10, .bin .neq T_int (.tmp 7) (.tmp 9), [.t 7, .t 9], none⟩]
    [6, 7, 8, 9] [])
  (.cond (.t 10) (.seq (.region false []
    [⟨some 4, .mov, [.c (.val (.bool false))], none⟩]
    [0, 1, 10] [])
  .ret)
  .skip))
  (.seq (.seq (.region false []
    [⟨some 5, .mov, [.c (.val (.int .i64 0))], none⟩]
    [10] [])
  (.block 0 (.loop c_ref38_Same_l0)))
  c_ref38_Same_k1)))
def r_ref38_Same : List ResA := [.t 4]
theorem t_ref38_Same : transl Try.prog F_ref38_Same = some (bare c_ref38_Same, r_ref38_Same, 26) := by kernel_rfl

/- saleroom/saleroomref35.Moderate -/
def c_ref35_Moderate_l0 : ACode :=
  (.seq (.seq (.region false []
    [⟨some 11, .mov, [.t 4], none⟩,
     ⟨some 12, .bin .lss T_int (.tmp 11) (.const (.int .i64 6)), [.t 11, .c (.val (.int .i64 6))], none⟩]
    [11] [])
  (.cond (.t 12) .skip
  (.exit 2)))
  (.seq (.block 3 (.seq (.region false []
    [⟨some 15, .mov, [.t 0], none⟩,
     ⟨some 16, .mov, [.t 3], none⟩,
     ⟨some 17, .mov, [.t 4], none⟩,
     ⟨some 18, .iaddrS 6, [.t 15, .t 16], none⟩,
     ⟨some 19, .iaddrA 6 1, [.t 18, .t 17], none⟩,
     ⟨some 20, .load none, [.t 19], none⟩,
     ⟨some 21, .bin .lss T_int (.tmp 20) (.const (.int .i64 (-1099511627776))), [.t 20, .c (.val (.int .i64 (-1099511627776)))], none⟩,
     ⟨some 22, .mov, [.t 21], none⟩,
     ⟨some 23, .mov, [.t 0], some (22, false)⟩,
     ⟨some 24, .mov, [.t 3], some (22, false)⟩,
     ⟨some 25, .mov, [.t 4], some (22, false)⟩,
     ⟨some 26, .iaddrS 6, [.t 23, .t 24], some (22, false)⟩,
     ⟨some 27, .iaddrA 6 1, [.t 26, .t 25], some (22, false)⟩,
     ⟨some 28, .load none, [.t 27], some (22, false)⟩,
     ⟨some 29, .bin .gtr T_int (.tmp 28) (.const (.int .i64 1099511627776)), [.t 28, .c (.val (.int .i64 1099511627776))], some (22, false)⟩,
     ⟨some 30, .pick, [.t 22, .c (.val (.bool true)), .t 29], none⟩]
    [12, 15, 16, 17, 18, 19, 20, 21, 22, 23, 24, 25, 26, 27, 28, 29] [])
  (.cond (.t 30) (.seq (.region false []
    [⟨some 2, .mov, [.c (.val (.bool false))], none⟩]
    [0, 3, 4, 30] [])
  .ret)
  .skip)))
  (.region false []
    [⟨some 13, .mov, [.t 4], none⟩,
     ⟨some 14, .bin .add T_int (.tmp 13) (.const (.int .i64 1)), [.t 13, .c (.val (.int .i64 1))], none⟩,
     ⟨some 4, .mov, [.t 14], none⟩]
    [30, 13, 14] [])))
def c_ref35_Moderate_k1 : ACode :=
  (.region false []
    [⟨some 9, .mov, [.t 3], none⟩,
     ⟨some 10, .bin .add T_int (.tmp 9) (.const (.int .i64 1)), [.t 9, .c (.val (.int .i64 1))], none⟩,
     ⟨some 3, .mov, [.t 10], none⟩]
    [4, 12, 9, 10] [])
def c_ref35_Moderate_l2 : ACode :=
  (.seq (.seq (.region false []
    [⟨some 5, .mov, [.t 3], none⟩,
     ⟨some 6, .mov, [.t 0], none⟩,
     ⟨some 7, .len false, [.t 6], none⟩,
     ⟨some 8, .bin .lss T_int (.tmp 5) (.tmp 7), [.t 5, .t 7], none⟩]
    [5, 6, 7] [])
  (.cond (.t 8) .skip
  (.exit 0)))
  (.seq (.block 1 (.seq (.region false []
    [⟨some 4, .mov, [.c (.val (.int .i64 0))], none⟩]
    [8] [])
  (.block 2 (.loop c_ref35_Moderate_l0))))
  c_ref35_Moderate_k1))
def c_ref35_Moderate_k3 : ACode :=
  (.seq (.region false []
    [⟨some 31, .mov, [.t 0], none⟩,
     ⟨some 32, .len false, [.t 31], none⟩,
     ⟨some 33, .bin .leq T_int (.tmp 32) (.const (.int .i64 1000)), [.t 32, .c (.val (.int .i64 1000))], none⟩,
     ⟨some 2, .mov, [.t 33], none⟩]
    [0, 3, 8, 31, 32, 33] [])
  .ret)
def c_ref35_Moderate : ACode :=
  (.seq (.region false []
    [⟨some 2, .mov, [.c (.val (.bool false))], none⟩]
    [2] [])
  (.seq (.seq (.region false []
    [⟨some 3, .mov, [.c (.val (.int .i64 0))], none⟩]
    [] [])
  (.block 0 (.loop c_ref35_Moderate_l2)))
  c_ref35_Moderate_k3))
def r_ref35_Moderate : List ResA := [.t 2]
theorem t_ref35_Moderate : transl Try.prog F_ref35_Moderate = some (bare c_ref35_Moderate, r_ref35_Moderate, 34) := by kernel_rfl

/- saleroom/undersell.Undersold -/
def c_undersell_Undersold_l0 : ACode :=
  (.seq (.region false []
    [⟨some 15, .bin .lss T_int (.tmp 14) (.const (.int .i64 6)), [.t 14, .c (.val (.int .i64 6))], none⟩]
    [] [])
  (.seq (.cond (.t 15) .skip
  (.exit 0))
  (.seq (.block 1 (.seq (.region false []
    [⟨some 16, .mov, [.t 14], none⟩,
     ⟨some 9, .mov, [.t 16], none⟩]
    [15, 16] [])
  (.seq (.region true []
    [⟨some 17, .mov, [.t 9], none⟩,
     ⟨some 18, .iaddrA 6 1, [.t 8, .t 17], none⟩,
     ⟨some 19, .load none, [.t 18], none⟩,
     ⟨some 20, .mov, [.t 9], none⟩,
     ⟨some 21, .iaddrA 6 1, [.t 3, .t 20], none⟩,
     ⟨some 22, .load none, [.t 21], none⟩,
     ⟨some 23, .bin .lss T_int (.tmp 19) (.tmp 22), [.t 19, .t 22], none⟩,
     ⟨some 24, .mov, [.t 23], none⟩,
     ⟨some 25, .mov, [.t 9], some (24, true)⟩,
     ⟨some 26, .iaddrA 6 1, [.t 8, .t 25], some (24, true)⟩,
     ⟨some 27, .load none, [.t 26], some (24, true)⟩,
     ⟨some 28, .mov, [.t 9], some (24, true)⟩,
     ⟨some 29, .iaddrA 6 1, [.t 7, .t 28], some (24, true)⟩,
     ⟨some 30, .load none, [.t 29], some (24, true)⟩,
     ⟨some 31, .bin .lss T_int (.tmp 27) (.tmp 30), [.t 27, .t 30], some (24, true)⟩,
     ⟨some 32, .pick, [.t 24, .t 31, .c (.val (.bool false))], none⟩]
    [9, 17, 18, 19, 20, 21, 22, 23, 24, 25, 26, 27, 28, 29, 30, 31] [])
  (.cond (.t 32) (.seq (.region false []
    [⟨some 6, .mov, [.c (.val (.bool true))], none⟩]
    [3, 7, 8, 14, 32] [3, 7, 8])
  .ret)
  .skip))))
  (.region false []
    [⟨some 33, .bin .add T_int (.tmp 14) (.const (.int .i64 1)), [.t 14, .c (.val (.int .i64 1))], none⟩,
     ⟨some 14, .mov, [.t 33], none⟩]
    [32, 33] []))))
def c_undersell_Undersold_k1 : ACode :=
  (.seq (.region false []
    [⟨some 6, .mov, [.c (.val (.bool false))], none⟩]
    [3, 7, 8, 14, 15] [3, 7, 8])
  .ret)
def c_undersell_Undersold : ACode :=
  (.seq (.region false []
    [⟨some 3, .box, [.t 0], none⟩,
     ⟨some 6, .mov, [.c (.val (.bool false))], none⟩]
    [0, 6] [])
  (.seq (.region false []
    [⟨some 10, .mov, [.t 1], none⟩,
     ⟨some 11, .call F_tally_Sum, [.t 10], none⟩,
     ⟨some 12, .mov, [.t 2], none⟩,
     ⟨some 13, .call F_tally_Sum, [.t 12], none⟩,
     ⟨some 7, .alloc [.val (.int .i64 0), .val (.int .i64 0), .val (.int .i64 0), .val (.int .i64 0), .val (.int .i64 0), .val (.int .i64 0)], [], none⟩,
     ⟨some 8, .alloc [.val (.int .i64 0), .val (.int .i64 0), .val (.int .i64 0), .val (.int .i64 0), .val (.int .i64 0), .val (.int .i64 0)], [], none⟩,
     ⟨none, .store 6, [.t 7, .t 11], none⟩,
     ⟨none, .store 6, [.t 8, .t 13], none⟩]
    [1, 2, 10, 11, 12, 13] [])
  (.seq (.seq (.region false []
    [⟨some 14, .mov, [.c (.val (.int .i64 0))], none⟩]
    [] [])
  (.block 0 (.loop c_undersell_Undersold_l0)))
  c_undersell_Undersold_k1)))
def r_undersell_Undersold : List ResA := [.t 6]
theorem t_undersell_Undersold : transl Try.prog F_undersell_Undersold = some (bare c_undersell_Undersold, r_undersell_Undersold, 34) := by kernel_rfl

/- saleroom/saleroomref38.Undersold -/
def c_ref38_Undersold_l0 : ACode :=
  (.seq (.seq (.region false []
    [⟨some 14, .mov, [.t 9], none⟩,
     ⟨some 15, .bin .lss T_int (.tmp 14) (.const (.int .i64 6)), [.t 14, .c (.val (.int .i64 6))], none⟩]
    [14] [])
  (.cond (.t 15) .skip
  (.exit 0)))
  (.seq (.block 1 (.seq (.region true []
    [⟨some 18, .mov, [.t 9], none⟩,
     ⟨some 19, .iaddrA 6 1, [.t 8, .t 18], none⟩,
     ⟨some 20, .load none, [.t 19], none⟩,
     ⟨some 21, .mov, [.t 9], none⟩,
     ⟨some 22, .iaddrA 6 1, [.t 3, .t 21], none⟩,
     ⟨some 23, .load none, [.t 22], none⟩,
     ⟨some 24, .bin .lss T_int (.tmp 20) (.tmp 23), [.t 20, .t 23], none⟩,
     ⟨some 25, .mov, [.t 24], none⟩,
     ⟨some 26, .mov, [.t 9], some (25, true)⟩,
     ⟨some 27, .iaddrA 6 1, [.t 8, .t 26], some (25, true)⟩,
     ⟨some 28, .load none, [.t 27], some (25, true)⟩,
     ⟨some 29, .mov, [.t 9], some (25, true)⟩,
     ⟨some 30, .iaddrA 6 1, [.t 7, .t 29], some (25, true)⟩,
     ⟨some 31, .load none, [.t 30], some (25, true)⟩,
     ⟨some 32, .bin .lss T_int (.tmp 28) (.tmp 31), [.t 28, .t 31], some (25, true)⟩,
     ⟨some 33, .pick, [.t 25, .t 32, .c (.val (.bool false))], none⟩]
    [15, 18, 19, 20, 21, 22, 23, 24, 25, 26, 27, 28, 29, 30, 31, 32] [])
  (.cond (.t 33) (.seq (.region false []
    [⟨some 6, .mov, [.c (.val (.bool true))], none⟩]
    [3, 7, 8, 9, 33] [3, 7, 8])
  .ret)
  .skip)))
  (.region false []
    [⟨some 16, .mov, [.t 9], none⟩,
     ⟨some 17, .bin .add T_int (.tmp 16) (.const (.int .i64 1)), [.t 16, .c (.val (.int .i64 1))], none⟩,
     ⟨some 9, .mov, [.t 17], none⟩]
    [33, 16, 17] [])))
def c_ref38_Undersold_k1 : ACode :=
  (.seq (.region false []
    [⟨some 6, .mov, [.c (.val (.bool false))], none⟩]
    [3, 7, 8, 9, 15] [3, 7, 8])
  .ret)
def c_ref38_Undersold : ACode :=
  (.seq (.region false []
    [⟨some 3, .box, [.t 0], none⟩,
     ⟨some 6, .mov, [.c (.val (.bool false))], none⟩]
    [0, 6] [])
  (.seq (.region false []
    [⟨some 10, .mov, [.t 1], none⟩,
     ⟨some 11, .call F_ref35_Sum, [.t 10], none⟩,
     ⟨some 12, .mov, [.t 2], none⟩,
     ⟨some 13, .call F_ref35_Sum, [.t 12], none⟩,
     ⟨some 7, .alloc [.val (.int .i64 0), .val (.int .i64 0), .val (.int .i64 0), .val (.int .i64 0), .val (.int .i64 0), .val (.int .i64 0)], [], none⟩,
     ⟨some 8, .alloc [.val (.int .i64 0), .val (.int .i64 0), .val (.int .i64 0), .val (.int .i64 0), .val (.int .i64 0), .val (.int .i64 0)], [], none⟩,
     ⟨none, .store 6, [.t 7, .t 11], none⟩,
     ⟨none, .store 6, [.t 8, .t 13], none⟩]
    [1, 2, 10, 11, 12, 13] [])
  (.seq (.seq (.region false []
    [⟨some 9, .mov, [.c (.val (.int .i64 0))], none⟩]
    [] [])
  (.block 0 (.loop c_ref38_Undersold_l0)))
  c_ref38_Undersold_k1)))
def r_ref38_Undersold : List ResA := [.t 6]
theorem t_ref38_Undersold : transl Try.prog F_ref38_Undersold = some (bare c_ref38_Undersold, r_ref38_Undersold, 34) := by kernel_rfl

/- saleroom/undersell.check -/
def c_undersell_check_l0 : ACode :=
  (.seq (.region false []
    [⟨some 44, .bin .lss T_int (.tmp 43) (.tmp 42), [.t 43, .t 42], none⟩]
    [] [])
  (.seq (.cond (.t 44) .skip
  (.exit 3))
  (.seq (.block 4 (.seq (.region false []
    [⟨some 45, .iaddrS 6, [.t 41, .t 43], none⟩,
     ⟨some 46, .load (some 6), [.t 45], none⟩,
     ⟨some 12, .alloc [.val (.int .i64 0), .val (.int .i64 0), .val (.int .i64 0), .val (.int .i64 0), .val (.int .i64 0), .val (.int .i64 0)], [], none⟩,
     ⟨none, .store 6, [.t 12, .t 46], none⟩]
    [44, 45, 46] [])
  (.seq (.region false []
    [⟨some 47, .load (some 6), [.t 12], none⟩,
     ⟨some 48, .call F_bundle_Check, [.t 47], none⟩,
     ⟨some 49, .bin .neq T_api_Errno (.tmp 48) (.const (.int .i64 0)), [.t 48, .c (.val (.int .i64 0))], none⟩]
    [12, 47, 48] [12])
  (.cond (.t 49) (.seq (.region false []
    [⟨some 8, .mov, [.c (.val (.int .i64 4))], none⟩]
    [37, 38, 41, 42, 43, 49] [])
  .ret)
  .skip))))
  (.region false []
    [⟨some 50, .bin .add T_int (.tmp 43) (.const (.int .i64 1)), [.t 43, .c (.val (.int .i64 1))], none⟩,
     ⟨some 43, .mov, [.t 50], none⟩]
    [49, 50] []))))
def c_undersell_check_k1 : ACode :=
  (.region false []
    [⟨some 51, .bin .add T_int (.tmp 38) (.const (.int .i64 1)), [.t 38, .c (.val (.int .i64 1))], none⟩,
     ⟨some 38, .mov, [.t 51], none⟩]
    [41, 42, 43, 44, 51] [])
def c_undersell_check_l2 : ACode :=
  (.seq (.region false []
    [⟨some 39, .bin .lss T_int (.tmp 38) (.const (.int .i64 2)), [.t 38, .c (.val (.int .i64 2))], none⟩]
    [] [])
  (.seq (.cond (.t 39) .skip
  (.exit 1))
  (.seq (.block 2 (.seq (.region false []
    [⟨some 40, .idxA 2 1 none, [.t 37, .t 38], none⟩,
     ⟨some 10, .mov, [.t 40], none⟩]
    [39, 40] [])
  (.seq (.region false []
    [⟨some 41, .mov, [.t 10], none⟩,
     ⟨some 42, .len false, [.t 41], none⟩,
     ⟨some 43, .mov, [.c (.val (.int .i64 0))], none⟩]
    [10] [])
  (.block 3 (.loop c_undersell_check_l0)))))
  c_undersell_check_k1)))
def c_undersell_check_k3 : ACode :=
  (.seq (.region false []
    [⟨some 8, .mov, [.c (.val (.int .i64 0))], none⟩]
    [37, 38, 39] [])
  .ret)
def c_undersell_check : ACode :=
  (.seq (.region false []
    [⟨some 5, .box, [.t 1], none⟩,
     ⟨some 8, .mov, [.c (.val (.int .i64 0))], none⟩]
    [1, 8] [])
  (.seq (.block 0 (.seq (.region false []
    [⟨some 14, .mov, [.t 0], none⟩,
     ⟨some 15, .bin .lss T_int (.tmp 14) (.const (.int .i64 1)), [.t 14, .c (.val (.int .i64 1))], none⟩,
     ⟨some 16, .mov, [.t 15], none⟩,
     ⟨some 17, .mov, [.t 0], some (16, false)⟩,
     ⟨some 18, .bin .gtr T_int (.tmp 17) (.const (.int .i64 3)), [.t 17, .c (.val (.int .i64 3))], some (16, false)⟩,
     ⟨some 19, .pick, [.t 16, .c (.val (.bool true)), .t 18], none⟩,
     ⟨some 13, .mov, [.t 19], none⟩]
    [0, 14, 15, 16, 17, 18, 19] [])
  (.cond (.t 13) (.seq (.region false []
    [⟨some 8, .mov, [.c (.val (.int .i64 4))], none⟩]
    [2, 3, 5, 13] [5])
  .ret)
  (.seq (.region false []
    [⟨some 21, .mov, [.t 2], none⟩,
     ⟨some 22, .len false, [.t 21], none⟩,
     ⟨some 23, .mov, [.t 3], none⟩,
     ⟨some 24, .len false, [.t 23], none⟩,
     ⟨some 25, .bin .neq T_int (.tmp 22) (.tmp 24), [.t 22, .t 24], none⟩,
     ⟨some 26, .mov, [.t 25], none⟩,
     ⟨some 27, .mov, [.t 2], some (26, false)⟩,
     ⟨some 28, .len false, [.t 27], some (26, false)⟩,
     ⟨some 29, .bin .gtr T_int (.tmp 28) (.const (.int .i64 8)), [.t 28, .c (.val (.int .i64 8))], some (26, false)⟩,
     ⟨some 30, .pick, [.t 26, .c (.val (.bool true)), .t 29], none⟩,
     ⟨some 20, .mov, [.t 30], none⟩]
    [13, 21, 22, 23, 24, 25, 26, 27, 28, 29, 30] [])
  (.cond (.t 20) (.seq (.region false []
    [⟨some 8, .mov, [.c (.val (.int .i64 3))], none⟩]
    [2, 3, 5, 20] [5])
  .ret)
  (.seq (.region false []
    [⟨some 32, .load (some 6), [.t 5], none⟩,
     ⟨some 33, .call F_bundle_Check, [.t 32], none⟩,
     ⟨some 34, .bin .neq T_api_Errno (.tmp 33) (.const (.int .i64 0)), [.t 33, .c (.val (.int .i64 0))], none⟩,
     ⟨some 31, .mov, [.t 34], none⟩]
    [5, 20, 32, 33, 34] [5])
  (.cond (.t 31) (.seq (.region false []
    [⟨some 8, .mov, [.c (.val (.int .i64 4))], none⟩]
    [2, 3, 31] [])
  .ret)
  .skip)))))))
  (.seq (.seq (.region false []
    [⟨some 35, .mov, [.t 2], none⟩,
     ⟨some 36, .mov, [.t 3], none⟩,
     ⟨some 37, .build [.list 0 .full [], .list 0 .full []] [(0, 1), (1, 1)], [.t 35, .t 36], none⟩,
     ⟨some 38, .mov, [.c (.val (.int .i64 0))], none⟩]
    [2, 3, 31, 35, 36] [])
  (.block 1 (.loop c_undersell_check_l2)))
  c_undersell_check_k3)))
def r_undersell_check : List ResA := [.t 8]
theorem t_undersell_check : transl Try.prog F_undersell_check = some (bare c_undersell_check, r_undersell_check, 52) := by kernel_rfl

/- slices.Clone[[]saleroom/api.Bundle,saleroom/api.Bundle] -/
def c_slices_Cloneasl_api_Bundle_api_Bundle_ : ACode :=
  (.seq (.region false []
    [⟨some 2, .mov, [.c (.list 0 .full [])], none⟩]
    [2] [])
  (.seq (.seq (.region false []
    [⟨some 3, .mov, [.t 0], none⟩,
     ⟨some 4, .nilS false, [.t 3], none⟩]
    [3] [])
  (.cond (.t 4) (.seq (.region false []
    [⟨some 2, .mov, [.c (.list 0 .full [])], none⟩]
    [0, 4] [])
  .ret)
  .skip))
  (.seq (.region false []
    [⟨some 5, .mkslice 6 0 [.val (.int .i64 0), .val (.int .i64 0), .val (.int .i64 0), .val (.int .i64 0), .val (.int .i64 0), .val (.int .i64 0)] [], [], none⟩,
     ⟨some 6, .mov, [.t 0], none⟩,
     ⟨some 7, .appendU 6 48, [.t 5, .t 6], none⟩,
     ⟨some 2, .mov, [.t 7], none⟩]
    [0, 4, 5, 6, 7] [])
  .ret)))
def r_slices_Cloneasl_api_Bundle_api_Bundle_ : List ResA := [.t 2]
theorem t_slices_Cloneasl_api_Bundle_api_Bundle_ : transl Try.prog F_slices_Cloneasl_api_Bundle_api_Bundle_ = some (bare c_slices_Cloneasl_api_Bundle_api_Bundle_, r_slices_Cloneasl_api_Bundle_api_Bundle_, 8) := by kernel_rfl

/- saleroom/tally.Sum -/
def c_tally_Sum : ACode :=
  (.seq (.region false []
    [⟨some 2, .alloc [.val (.int .i64 0), .val (.int .i64 0), .val (.int .i64 0), .val (.int .i64 0), .val (.int .i64 0), .val (.int .i64 0)], [], none⟩]
    [] [])
  (.seq (.region false []
    [⟨some 3, .mov, [.t 0], none⟩,
     ⟨some 4, .call F_tally_total, [.t 3], none⟩,
     ⟨none, .store 6, [.t 2, .t 4], none⟩]
    [0, 3, 4] [])
  .ret))
def r_tally_Sum : List ResA := [.cell 2 (some 6)]
theorem t_tally_Sum : transl Try.prog F_tally_Sum = some (bare c_tally_Sum, r_tally_Sum, 5) := by kernel_rfl

/- saleroom/undersell.refused -/
def c_undersell_refused_l0 : ACode :=
  (.seq (.region false []
    [⟨some 11, .bin .lss T_int (.tmp 10) (.const (.int .i64 6)), [.t 10, .c (.val (.int .i64 6))], none⟩]
    [] [])
  (.seq (.cond (.t 11) .skip
  (.exit 0))
  (.seq (.block 1 (.seq (.region false []
    [⟨some 12, .mov, [.t 10], none⟩,
     ⟨some 9, .mov, [.t 12], none⟩]
    [11, 12] [])
  (.seq (.region true []
    [⟨some 13, .mov, [.t 9], none⟩,
     ⟨some 14, .iaddrA 6 1, [.t 7, .t 13], none⟩,
     ⟨some 15, .load none, [.t 14], none⟩,
     ⟨some 16, .mov, [.t 9], none⟩,
     ⟨some 17, .iaddrA 6 1, [.t 6, .t 16], none⟩,
     ⟨some 18, .load none, [.t 17], none⟩,
     ⟨some 19, .bin .lss T_int (.tmp 15) (.tmp 18), [.t 15, .t 18], none⟩,
     ⟨some 20, .mov, [.t 19], none⟩,
     ⟨some 21, .mov, [.t 9], some (20, true)⟩,
     ⟨some 22, .iaddrA 6 1, [.t 5, .t 21], some (20, true)⟩,
     ⟨some 23, .load none, [.t 22], some (20, true)⟩,
     ⟨some 24, .mov, [.t 9], some (20, true)⟩,
     ⟨some 25, .iaddrA 6 1, [.t 6, .t 24], some (20, true)⟩,
     ⟨some 26, .load none, [.t 25], some (20, true)⟩,
     ⟨some 27, .bin .sub T_int (.tmp 23) (.tmp 26), [.t 23, .t 26], some (20, true)⟩,
     ⟨some 28, .mov, [.t 9], some (20, true)⟩,
     ⟨some 29, .iaddrA 6 1, [.t 7, .t 28], some (20, true)⟩,
     ⟨some 30, .load none, [.t 29], some (20, true)⟩,
     ⟨some 31, .bin .add T_int (.tmp 27) (.tmp 30), [.t 27, .t 30], some (20, true)⟩,
     ⟨some 32, .mov, [.t 9], some (20, true)⟩,
     ⟨some 33, .iaddrA 6 1, [.t 4, .t 32], some (20, true)⟩,
     ⟨some 34, .load none, [.t 33], some (20, true)⟩,
     ⟨some 35, .bin .lss T_int (.tmp 31) (.tmp 34), [.t 31, .t 34], some (20, true)⟩,
     ⟨some 36, .pick, [.t 20, .t 35, .c (.val (.bool false))], none⟩]
    [9, 13, 14, 15, 16, 17, 18, 19, 20, 21, 22, 23, 24, 25, 26, 27, 28, 29, 30, 31, 32, 33, 34, 35] [])
  (.cond (.t 36) (.seq (.region false []
    [⟨some 8, .mov, [.c (.val (.bool true))], none⟩]
    [4, 5, 6, 7, 10, 36] [4, 5, 6, 7])
  .ret)
  .skip))))
  (.region false []
    [⟨some 37, .bin .add T_int (.tmp 10) (.const (.int .i64 1)), [.t 10, .c (.val (.int .i64 1))], none⟩,
     ⟨some 10, .mov, [.t 37], none⟩]
    [36, 37] []))))
def c_undersell_refused_k1 : ACode :=
  (.seq (.region false []
    [⟨some 8, .mov, [.c (.val (.bool false))], none⟩]
    [4, 5, 6, 7, 10, 11] [4, 5, 6, 7])
  .ret)
def c_undersell_refused : ACode :=
  (.seq (.region false []
    [⟨some 4, .box, [.t 0], none⟩,
     ⟨some 5, .box, [.t 1], none⟩,
     ⟨some 6, .box, [.t 2], none⟩,
     ⟨some 7, .box, [.t 3], none⟩,
     ⟨some 8, .mov, [.c (.val (.bool false))], none⟩]
    [0, 1, 2, 3, 8] [])
  (.seq (.seq (.region false []
    [⟨some 10, .mov, [.c (.val (.int .i64 0))], none⟩]
    [] [])
  (.block 0 (.loop c_undersell_refused_l0)))
  c_undersell_refused_k1))
def r_undersell_refused : List ResA := [.t 8]
theorem t_undersell_refused : transl Try.prog F_undersell_refused = some (bare c_undersell_refused, r_undersell_refused, 38) := by kernel_rfl

/- saleroom/undersell.partly -/
def c_undersell_partly_l0 : ACode :=
  (.seq (.region false []
    [⟨some 11, .bin .lss T_int (.tmp 10) (.const (.int .i64 6)), [.t 10, .c (.val (.int .i64 6))], none⟩]
    [] [])
  (.seq (.cond (.t 11) .skip
  (.exit 0))
  (.seq (.block 1 (.seq (.region false []
    [⟨some 12, .mov, [.t 10], none⟩,
     ⟨some 9, .mov, [.t 12], none⟩]
    [11, 12] [])
  (.seq (.region true []
    [⟨some 13, .mov, [.t 9], none⟩,
     ⟨some 14, .iaddrA 6 1, [.t 7, .t 13], none⟩,
     ⟨some 15, .load none, [.t 14], none⟩,
     ⟨some 16, .mov, [.t 9], none⟩,
     ⟨some 17, .iaddrA 6 1, [.t 6, .t 16], none⟩,
     ⟨some 18, .load none, [.t 17], none⟩,
     ⟨some 19, .bin .lss T_int (.tmp 15) (.tmp 18), [.t 15, .t 18], none⟩]
    [13, 14, 15, 16, 17, 18] [])
  (.cond (.t 19) (.region true []
    [⟨some 20, .mov, [.t 9], none⟩,
     ⟨some 21, .mov, [.t 9], none⟩,
     ⟨some 22, .iaddrA 6 1, [.t 6, .t 21], none⟩,
     ⟨some 23, .load none, [.t 22], none⟩,
     ⟨some 24, .mov, [.t 9], none⟩,
     ⟨some 25, .iaddrA 6 1, [.t 6, .t 24], none⟩,
     ⟨some 26, .load none, [.t 25], none⟩,
     ⟨some 27, .mov, [.t 9], none⟩,
     ⟨some 28, .iaddrA 6 1, [.t 7, .t 27], none⟩,
     ⟨some 29, .load none, [.t 28], none⟩,
     ⟨some 30, .bin .sub T_int (.tmp 26) (.tmp 29), [.t 26, .t 29], none⟩,
     ⟨some 31, .mov, [.t 9], none⟩,
     ⟨some 32, .iaddrA 6 1, [.t 5, .t 31], none⟩,
     ⟨some 33, .load none, [.t 32], none⟩,
     ⟨some 34, .mov, [.t 9], none⟩,
     ⟨some 35, .iaddrA 6 1, [.t 4, .t 34], none⟩,
     ⟨some 36, .load none, [.t 35], none⟩,
     ⟨some 37, .bin .sub T_int (.tmp 33) (.tmp 36), [.t 33, .t 36], none⟩,
     ⟨some 38, .mm .max #[T_int, T_int] T_int, [.t 37, .c (.val (.int .i64 0))], none⟩,
     ⟨some 39, .mm .min #[T_int, T_int] T_int, [.t 30, .t 38], none⟩,
     ⟨some 40, .bin .sub T_int (.tmp 23) (.tmp 39), [.t 23, .t 39], none⟩,
     ⟨some 41, .iaddrA 6 1, [.t 7, .t 20], none⟩,
     ⟨none, .store 1, [.t 41, .t 40], none⟩]
    [9, 19, 20, 21, 22, 23, 24, 25, 26, 27, 28, 29, 30, 31, 32, 33, 34, 35, 36, 37, 38, 39, 40, 41] [])
  .skip))))
  (.region false []
    [⟨some 42, .bin .add T_int (.tmp 10) (.const (.int .i64 1)), [.t 10, .c (.val (.int .i64 1))], none⟩,
     ⟨some 10, .mov, [.t 42], none⟩]
    [9, 19, 42] []))))
def c_undersell_partly_k1 : ACode :=
  (.seq (.region false []
    [⟨some 43, .load (some 6), [.t 7], none⟩,
     ⟨none, .store 6, [.t 8, .t 43], none⟩]
    [4, 5, 6, 7, 10, 11, 43] [4, 5, 6, 7])
  .ret)
def c_undersell_partly : ACode :=
  (.seq (.region false []
    [⟨some 4, .box, [.t 0], none⟩,
     ⟨some 5, .box, [.t 1], none⟩,
     ⟨some 6, .box, [.t 2], none⟩,
     ⟨some 7, .box, [.t 3], none⟩,
     ⟨some 8, .alloc [.val (.int .i64 0), .val (.int .i64 0), .val (.int .i64 0), .val (.int .i64 0), .val (.int .i64 0), .val (.int .i64 0)], [], none⟩]
    [0, 1, 2, 3] [])
  (.seq (.seq (.region false []
    [⟨some 10, .mov, [.c (.val (.int .i64 0))], none⟩]
    [] [])
  (.block 0 (.loop c_undersell_partly_l0)))
  c_undersell_partly_k1))
def r_undersell_partly : List ResA := [.cell 8 (some 6)]
theorem t_undersell_partly : transl Try.prog F_undersell_partly = some (bare c_undersell_partly, r_undersell_partly, 44) := by kernel_rfl

/- saleroom/saleroomref07.Check -/
def c_ref07_Check_l0 : ACode :=
  (.seq (.seq (.region false []
    [⟨some 4, .mov, [.t 3], none⟩,
     ⟨some 5, .bin .lss T_int (.tmp 4) (.const (.int .i64 6)), [.t 4, .c (.val (.int .i64 6))], none⟩]
    [4] [])
  (.cond (.t 5) .skip
  (.exit 0)))
  (.seq (.block 1 (.seq (.region false []
    [⟨some 8, .mov, [.t 3], none⟩,
     ⟨some 9, .iaddrA 6 1, [.t 1, .t 8], none⟩,
     ⟨some 10, .load none, [.t 9], none⟩,
     ⟨some 11, .bin .lss T_int (.tmp 10) (.const (.int .i64 0)), [.t 10, .c (.val (.int .i64 0))], none⟩,
     ⟨some 12, .mov, [.t 11], none⟩,
     ⟨some 13, .mov, [.t 3], some (12, false)⟩,
     ⟨some 14, .iaddrA 6 1, [.t 1, .t 13], some (12, false)⟩,
     ⟨some 15, .load none, [.t 14], some (12, false)⟩,
     ⟨some 16, .bin .gtr T_int (.tmp 15) (.const (.int .i64 4)), [.t 15, .c (.val (.int .i64 4))], some (12, false)⟩,
     ⟨some 17, .pick, [.t 12, .c (.val (.bool true)), .t 16], none⟩]
    [5, 8, 9, 10, 11, 12, 13, 14, 15, 16] [])
  (.cond (.t 17) (.seq (.region false []
    [⟨some 2, .mov, [.c (.val (.int .i64 4))], none⟩]
    [1, 3, 17] [1])
  .ret)
  .skip)))
  (.region false []
    [⟨some 6, .mov, [.t 3], none⟩,
     ⟨some 7, .bin .add T_int (.tmp 6) (.const (.int .i64 1)), [.t 6, .c (.val (.int .i64 1))], none⟩,
     ⟨some 3, .mov, [.t 7], none⟩]
    [17, 6, 7] [])))
def c_ref07_Check_k1 : ACode :=
  (.seq (.region false []
    [⟨some 2, .mov, [.c (.val (.int .i64 0))], none⟩]
    [1, 3, 5] [1])
  .ret)
def c_ref07_Check : ACode :=
  (.seq (.region false []
    [⟨some 1, .box, [.t 0], none⟩,
     ⟨some 2, .mov, [.c (.val (.int .i64 0))], none⟩]
    [0, 2] [])
  (.seq (.seq (.region false []
    [⟨some 3, .mov, [.c (.val (.int .i64 0))], none⟩]
    [] [])
  (.block 0 (.loop c_ref07_Check_l0)))
  c_ref07_Check_k1))
def r_ref07_Check : List ResA := [.t 2]
theorem t_ref07_Check : transl Try.prog F_ref07_Check = some (bare c_ref07_Check, r_ref07_Check, 18) := by kernel_rfl

/- saleroom/saleroomref38.refused -/
def c_ref38_refused_l0 : ACode :=
  (.seq (.seq (.region false []
    [⟨some 14, .mov, [.t 10], none⟩,
     ⟨some 15, .bin .lss T_int (.tmp 14) (.const (.int .i64 6)), [.t 14, .c (.val (.int .i64 6))], none⟩]
    [14] [])
  (.cond (.t 15) .skip
  (.exit 0)))
  (.seq (.block 1 (.seq (.region true []
    [⟨some 18, .mov, [.t 1], none⟩,
     ⟨some 19, .mov, [.t 2], none⟩,
     ⟨some 20, .mov, [.t 10], none⟩,
     ⟨some 21, .iaddrS 6, [.t 18, .t 19], none⟩,
     ⟨some 22, .iaddrA 6 1, [.t 21, .t 20], none⟩,
     ⟨some 23, .load none, [.t 22], none⟩,
     ⟨some 24, .mov, [.t 10], none⟩,
     ⟨some 25, .iaddrA 6 1, [.t 7, .t 24], none⟩,
     ⟨some 26, .load none, [.t 25], none⟩,
     ⟨some 27, .bin .sub T_int (.tmp 23) (.tmp 26), [.t 23, .t 26], none⟩,
     ⟨some 11, .mov, [.t 27], none⟩]
    [15, 18, 19, 20, 21, 22, 23, 24, 25, 26, 27] [])
  (.seq (.region true []
    [⟨some 28, .mov, [.t 11], none⟩,
     ⟨some 29, .bin .gtr T_int (.tmp 28) (.const (.int .i64 0)), [.t 28, .c (.val (.int .i64 0))], none⟩,
     ⟨some 30, .mov, [.t 29], none⟩,
     ⟨some 31, .mov, [.t 10], some (30, true)⟩,
     ⟨some 32, .iaddrA 6 1, [.t 9, .t 31], some (30, true)⟩,
     ⟨some 33, .load none, [.t 32], some (30, true)⟩,
     ⟨some 34, .mov, [.t 11], some (30, true)⟩,
     ⟨some 35, .bin .sub T_int (.tmp 33) (.tmp 34), [.t 33, .t 34], some (30, true)⟩,
     ⟨some 36, .mov, [.t 10], some (30, true)⟩,
     ⟨some 37, .iaddrA 6 1, [.t 4, .t 36], some (30, true)⟩,
     ⟨some 38, .load none, [.t 37], some (30, true)⟩,
     ⟨some 39, .bin .lss T_int (.tmp 35) (.tmp 38), [.t 35, .t 38], some (30, true)⟩,
     ⟨some 40, .pick, [.t 30, .t 39, .c (.val (.bool false))], none⟩]
    [11, 28, 29, 30, 31, 32, 33, 34, 35, 36, 37, 38, 39] [])
  (.cond (.t 40) (.seq (.region false []
    [⟨some 8, .mov, [.c (.val (.bool true))], none⟩]
    [1, 2, 4, 7, 9, 10, 40] [4, 7, 9])
  .ret)
  .skip))))
  (.region false []
    [⟨some 16, .mov, [.t 10], none⟩,
     ⟨some 17, .bin .add T_int (.tmp 16) (.const (.int .i64 1)), [.t 16, .c (.val (.int .i64 1))], none⟩,
     ⟨some 10, .mov, [.t 17], none⟩]
    [40, 16, 17] [])))
def c_ref38_refused_k1 : ACode :=
  (.seq (.region false []
    [⟨some 8, .mov, [.c (.val (.bool false))], none⟩]
    [1, 2, 4, 7, 9, 10, 15] [4, 7, 9])
  .ret)
def c_ref38_refused : ACode :=
  (.seq (.region false []
    [⟨some 4, .box, [.t 0], none⟩,
     ⟨some 7, .box, [.t 3], none⟩,
     ⟨some 8, .mov, [.c (.val (.bool false))], none⟩]
    [0, 3, 8] [])
  (.seq (.region false []
    [⟨some 12, .mov, [.t 1], none⟩,
     ⟨some 13, .call F_ref35_Sum, [.t 12], none⟩,
     ⟨some 9, .alloc [.val (.int .i64 0), .val (.int .i64 0), .val (.int .i64 0), .val (.int .i64 0), .val (.int .i64 0), .val (.int .i64 0)], [], none⟩,
     ⟨none, .store 6, [.t 9, .t 13], none⟩]
    [12, 13] [])
  (.seq (.seq (.region false []
    [⟨some 10, .mov, [.c (.val (.int .i64 0))], none⟩]
    [] [])
  (.block 0 (.loop c_ref38_refused_l0)))
  c_ref38_refused_k1)))
def r_ref38_refused : List ResA := [.t 8]
theorem t_ref38_refused : transl Try.prog F_ref38_refused = some (bare c_ref38_refused, r_ref38_refused, 41) := by kernel_rfl

/- saleroom/saleroomref38.partly -/
def c_ref38_partly_l0 : ACode :=
  (.seq (.seq (.region true []
    [⟨some 19, .mov, [.t 11], none⟩,
     ⟨some 20, .iaddrA 6 1, [.t 10, .t 19], none⟩,
     ⟨some 21, .load none, [.t 20], none⟩,
     ⟨some 22, .mov, [.t 1], none⟩,
     ⟨some 23, .mov, [.t 2], none⟩,
     ⟨some 24, .mov, [.t 11], none⟩,
     ⟨some 25, .iaddrS 6, [.t 22, .t 23], none⟩,
     ⟨some 26, .iaddrA 6 1, [.t 25, .t 24], none⟩,
     ⟨some 27, .load none, [.t 26], none⟩,
     ⟨some 28, .bin .lss T_int (.tmp 21) (.tmp 27), [.t 21, .t 27], none⟩,
     ⟨some 29, .mov, [.t 28], none⟩,
     ⟨some 30, .mov, [.t 11], some (29, true)⟩,
     ⟨some 31, .iaddrA 6 1, [.t 9, .t 30], some (29, true)⟩,
     ⟨some 32, .load none, [.t 31], some (29, true)⟩,
     ⟨some 33, .mov, [.t 1], some (29, true)⟩,
     ⟨some 34, .mov, [.t 2], some (29, true)⟩,
     ⟨some 35, .mov, [.t 11], some (29, true)⟩,
     ⟨some 36, .iaddrS 6, [.t 33, .t 34], some (29, true)⟩,
     ⟨some 37, .iaddrA 6 1, [.t 36, .t 35], some (29, true)⟩,
     ⟨some 38, .load none, [.t 37], some (29, true)⟩,
     ⟨some 39, .mov, [.t 11], some (29, true)⟩,
     ⟨some 40, .iaddrA 6 1, [.t 10, .t 39], some (29, true)⟩,
     ⟨some 41, .load none, [.t 40], some (29, true)⟩,
     ⟨some 42, .bin .sub T_int (.tmp 38) (.tmp 41), [.t 38, .t 41], some (29, true)⟩,
     ⟨some 43, .bin .sub T_int (.tmp 32) (.tmp 42), [.t 32, .t 42], some (29, true)⟩,
     ⟨some 44, .mov, [.t 11], some (29, true)⟩,
     ⟨some 45, .iaddrA 6 1, [.t 4, .t 44], some (29, true)⟩,
     ⟨some 46, .load none, [.t 45], some (29, true)⟩,
     ⟨some 47, .bin .lss T_int (.tmp 43) (.tmp 46), [.t 43, .t 46], some (29, true)⟩,
     ⟨some 48, .pick, [.t 29, .t 47, .c (.val (.bool false))], none⟩]
    [16, 19, 20, 21, 22, 23, 24, 25, 26, 27, 28, 29, 30, 31, 32, 33, 34, 35, 36, 37, 38, 39, 40, 41, 42, 43, 44, 45, 46, 47] [])
  (.cond (.t 48) .skip
  (.exit 2)))
  (.block 3 (.region false []
    [⟨some 49, .mov, [.t 11], none⟩,
     ⟨some 50, .iaddrA 6 1, [.t 10, .t 49], none⟩,
     ⟨some 51, .load none, [.t 50], none⟩,
     ⟨some 52, .bin .add T_int (.tmp 51) (.const (.int .i64 1)), [.t 51, .c (.val (.int .i64 1))], none⟩,
     ⟨some 53, .iaddrA 6 1, [.t 10, .t 49], none⟩,
     ⟨none, .store 1, [.t 53, .t 52], none⟩]
    [48, 49, 50, 51, 52, 53] [])))
def c_ref38_partly_k1 : ACode :=
  (.region false []
    [⟨some 17, .mov, [.t 11], none⟩,
     ⟨some 18, .bin .add T_int (.tmp 17) (.const (.int .i64 1)), [.t 17, .c (.val (.int .i64 1))], none⟩,
     ⟨some 11, .mov, [.t 18], none⟩]
    [48, 17, 18] [])
def c_ref38_partly_l2 : ACode :=
  (.seq (.seq (.region false []
    [⟨some 15, .mov, [.t 11], none⟩,
     ⟨some 16, .bin .lss T_int (.tmp 15) (.const (.int .i64 6)), [.t 15, .c (.val (.int .i64 6))], none⟩]
    [15] [])
  (.cond (.t 16) .skip
  (.exit 0)))
  (.seq (.block 1 (.block 2 (.loop c_ref38_partly_l0)))
  c_ref38_partly_k1))
def c_ref38_partly_k3 : ACode :=
  (.seq (.region false []
    [⟨some 54, .load (some 6), [.t 10], none⟩,
     ⟨none, .store 6, [.t 8, .t 54], none⟩]
    [1, 2, 4, 9, 10, 11, 16, 54] [4, 9, 10])
  .ret)
def c_ref38_partly : ACode :=
  (.seq (.region false []
    [⟨some 4, .box, [.t 0], none⟩,
     ⟨some 7, .box, [.t 3], none⟩,
     ⟨some 8, .alloc [.val (.int .i64 0), .val (.int .i64 0), .val (.int .i64 0), .val (.int .i64 0), .val (.int .i64 0), .val (.int .i64 0)], [], none⟩]
    [0, 3] [])
  (.seq (.region false []
    [⟨some 12, .mov, [.t 1], none⟩,
     ⟨some 13, .call F_ref35_Sum, [.t 12], none⟩,
     ⟨some 9, .alloc [.val (.int .i64 0), .val (.int .i64 0), .val (.int .i64 0), .val (.int .i64 0), .val (.int .i64 0), .val (.int .i64 0)], [], none⟩,
     ⟨none, .store 6, [.t 9, .t 13], none⟩]
    [12, 13] [])
  (.seq (.region false []
    [⟨some 14, .load (some 6), [.t 7], none⟩,
     ⟨some 10, .alloc [.val (.int .i64 0), .val (.int .i64 0), .val (.int .i64 0), .val (.int .i64 0), .val (.int .i64 0), .val (.int .i64 0)], [], none⟩,
     ⟨none, .store 6, [.t 10, .t 14], none⟩]
    [7, 14] [7])
  (.seq (.seq (.region false []
    [⟨some 11, .mov, [.c (.val (.int .i64 0))], none⟩]
    [] [])
  (.block 0 (.loop c_ref38_partly_l2)))
  c_ref38_partly_k3))))
def r_ref38_partly : List ResA := [.cell 8 (some 6)]
theorem t_ref38_partly : transl Try.prog F_ref38_partly = some (bare c_ref38_partly, r_ref38_partly, 55) := by kernel_rfl

/- saleroom/saleroomref35.Sum -/
def c_ref35_Sum_l0 : ACode :=
  (.seq (.seq (.region false []
    [⟨some 12, .mov, [.t 5], none⟩,
     ⟨some 13, .bin .lss T_int (.tmp 12) (.const (.int .i64 6)), [.t 12, .c (.val (.int .i64 6))], none⟩]
    [12] [])
  (.cond (.t 13) .skip
  (.exit 2)))
  (.seq (.block 3 (.region true []
    [⟨some 16, .mov, [.t 5], none⟩,
     ⟨some 17, .mov, [.t 5], none⟩,
     ⟨some 18, .iaddrA 6 1, [.t 3, .t 17], none⟩,
     ⟨some 19, .load none, [.t 18], none⟩,
     ⟨some 20, .mov, [.t 0], none⟩,
     ⟨some 21, .mov, [.t 4], none⟩,
     ⟨some 22, .mov, [.t 5], none⟩,
     ⟨some 23, .iaddrS 6, [.t 20, .t 21], none⟩,
     ⟨some 24, .iaddrA 6 1, [.t 23, .t 22], none⟩,
     ⟨some 25, .load none, [.t 24], none⟩,
     ⟨some 26, .bin .add T_int (.tmp 19) (.tmp 25), [.t 19, .t 25], none⟩,
     ⟨some 27, .iaddrA 6 1, [.t 3, .t 16], none⟩,
     ⟨none, .store 1, [.t 27, .t 26], none⟩]
    [13, 16, 17, 18, 19, 20, 21, 22, 23, 24, 25, 26, 27] []))
  (.region false []
    [⟨some 14, .mov, [.t 5], none⟩,
     ⟨some 15, .bin .add T_int (.tmp 14) (.const (.int .i64 1)), [.t 14, .c (.val (.int .i64 1))], none⟩,
     ⟨some 5, .mov, [.t 15], none⟩]
    [14, 15] [])))
def c_ref35_Sum_k1 : ACode :=
  (.region false []
    [⟨some 10, .mov, [.t 4], none⟩,
     ⟨some 11, .bin .add T_int (.tmp 10) (.const (.int .i64 1)), [.t 10, .c (.val (.int .i64 1))], none⟩,
     ⟨some 4, .mov, [.t 11], none⟩]
    [5, 13, 10, 11] [])
def c_ref35_Sum_l2 : ACode :=
  (.seq (.seq (.region false []
    [⟨some 6, .mov, [.t 4], none⟩,
     ⟨some 7, .mov, [.t 0], none⟩,
     ⟨some 8, .len false, [.t 7], none⟩,
     ⟨some 9, .bin .lss T_int (.tmp 6) (.tmp 8), [.t 6, .t 8], none⟩]
    [6, 7, 8] [])
  (.cond (.t 9) .skip
  (.exit 0)))
  (.seq (.block 1 (.seq (.region false []
    [⟨some 5, .mov, [.c (.val (.int .i64 0))], none⟩]
    [9] [])
  (.block 2 (.loop c_ref35_Sum_l0))))
  c_ref35_Sum_k1))
def c_ref35_Sum_k3 : ACode :=
  (.seq (.region false []
    [⟨some 28, .load (some 6), [.t 3], none⟩,
     ⟨none, .store 6, [.t 2, .t 28], none⟩]
    [0, 3, 4, 9, 28] [3])
  .ret)
def c_ref35_Sum : ACode :=
  (.seq (.region false []
    [⟨some 2, .alloc [.val (.int .i64 0), .val (.int .i64 0), .val (.int .i64 0), .val (.int .i64 0), .val (.int .i64 0), .val (.int .i64 0)], [], none⟩]
    [] [])
  (.seq (.region false []
    [⟨some 3, .alloc [.val (.int .i64 0), .val (.int .i64 0), .val (.int .i64 0), .val (.int .i64 0), .val (.int .i64 0), .val (.int .i64 0)], [], none⟩]
    [] [])
  (.seq (.seq (.region false []
    [⟨some 4, .mov, [.c (.val (.int .i64 0))], none⟩]
    [] [])
  (.block 0 (.loop c_ref35_Sum_l2)))
  c_ref35_Sum_k3)))
def r_ref35_Sum : List ResA := [.cell 2 (some 6)]
theorem t_ref35_Sum : transl Try.prog F_ref35_Sum = some (bare c_ref35_Sum, r_ref35_Sum, 29) := by kernel_rfl

/- saleroom/bundle.Check -/
def c_bundle_Check_l0 : ACode :=
  (.seq (.region false []
    [⟨some 7, .bin .lss T_int (.tmp 6) (.const (.int .i64 6)), [.t 6, .c (.val (.int .i64 6))], none⟩]
    [] [])
  (.seq (.cond (.t 7) .skip
  (.exit 0))
  (.seq (.block 1 (.seq (.region false []
    [⟨some 8, .idxA 6 1 none, [.t 5, .t 6], none⟩,
     ⟨some 4, .mov, [.t 8], none⟩]
    [7, 8] [])
  (.seq (.region false []
    [⟨some 9, .mov, [.t 4], none⟩,
     ⟨some 10, .bin .lss T_int (.tmp 9) (.const (.int .i64 0)), [.t 9, .c (.val (.int .i64 0))], none⟩,
     ⟨some 11, .mov, [.t 10], none⟩,
     ⟨some 12, .mov, [.t 4], some (11, false)⟩,
     ⟨some 13, .bin .gtr T_int (.tmp 12) (.const (.int .i64 4)), [.t 12, .c (.val (.int .i64 4))], some (11, false)⟩,
     ⟨some 14, .pick, [.t 11, .c (.val (.bool true)), .t 13], none⟩]
    [4, 9, 10, 11, 12, 13] [])
  (.cond (.t 14) (.seq (.region false []
    [⟨some 2, .mov, [.c (.val (.int .i64 4))], none⟩]
    [5, 6, 14] [])
  .ret)
  .skip))))
  (.region false []
    [⟨some 15, .bin .add T_int (.tmp 6) (.const (.int .i64 1)), [.t 6, .c (.val (.int .i64 1))], none⟩,
     ⟨some 6, .mov, [.t 15], none⟩]
    [14, 15] []))))
def c_bundle_Check_k1 : ACode :=
  (.seq (.region false []
    [⟨some 2, .mov, [.c (.val (.int .i64 0))], none⟩]
    [5, 6, 7] [])
  .ret)
def c_bundle_Check : ACode :=
  (.seq (.region false []
    [⟨some 1, .box, [.t 0], none⟩,
     ⟨some 2, .mov, [.c (.val (.int .i64 0))], none⟩]
    [0, 2] [])
  (.seq (.seq (.region false []
    [⟨some 5, .load (some 6), [.t 1], none⟩,
     ⟨some 6, .mov, [.c (.val (.int .i64 0))], none⟩]
    [1] [1])
  (.block 0 (.loop c_bundle_Check_l0)))
  c_bundle_Check_k1))
def r_bundle_Check : List ResA := [.t 2]
theorem t_bundle_Check : transl Try.prog F_bundle_Check = some (bare c_bundle_Check, r_bundle_Check, 16) := by kernel_rfl

/- saleroom/tally.total -/
def c_tally_total_l0 : ACode :=
  (.seq (.region false []
    [⟨some 14, .bin .lss T_int (.tmp 13) (.const (.int .i64 6)), [.t 13, .c (.val (.int .i64 6))], none⟩]
    [] [])
  (.seq (.cond (.t 14) .skip
  (.exit 2))
  (.seq (.block 3 (.seq (.region false []
    [⟨some 15, .mov, [.t 13], none⟩,
     ⟨some 6, .mov, [.t 15], none⟩]
    [14, 15] [])
  (.region true []
    [⟨some 16, .mov, [.t 6], none⟩,
     ⟨some 17, .iaddrA 6 1, [.t 3, .t 16], none⟩,
     ⟨some 18, .load none, [.t 17], none⟩,
     ⟨some 19, .mov, [.t 6], none⟩,
     ⟨some 20, .iaddrA 6 1, [.t 5, .t 19], none⟩,
     ⟨some 21, .load none, [.t 20], none⟩,
     ⟨some 22, .bin .add T_int (.tmp 18) (.tmp 21), [.t 18, .t 21], none⟩,
     ⟨some 23, .iaddrA 6 1, [.t 3, .t 16], none⟩,
     ⟨none, .store 1, [.t 23, .t 22], none⟩]
    [6, 16, 17, 18, 19, 20, 21, 22, 23] [])))
  (.region false []
    [⟨some 24, .bin .add T_int (.tmp 13) (.const (.int .i64 1)), [.t 13, .c (.val (.int .i64 1))], none⟩,
     ⟨some 13, .mov, [.t 24], none⟩]
    [24] []))))
def c_tally_total_k1 : ACode :=
  (.region false []
    [⟨some 25, .bin .add T_int (.tmp 9) (.const (.int .i64 1)), [.t 9, .c (.val (.int .i64 1))], none⟩,
     ⟨some 9, .mov, [.t 25], none⟩]
    [5, 13, 14, 25] [5])
def c_tally_total_l2 : ACode :=
  (.seq (.region false []
    [⟨some 10, .bin .lss T_int (.tmp 9) (.tmp 8), [.t 9, .t 8], none⟩]
    [] [])
  (.seq (.cond (.t 10) .skip
  (.exit 0))
  (.seq (.block 1 (.seq (.region false []
    [⟨some 11, .iaddrS 6, [.t 7, .t 9], none⟩,
     ⟨some 12, .load (some 6), [.t 11], none⟩,
     ⟨some 5, .alloc [.val (.int .i64 0), .val (.int .i64 0), .val (.int .i64 0), .val (.int .i64 0), .val (.int .i64 0), .val (.int .i64 0)], [], none⟩,
     ⟨none, .store 6, [.t 5, .t 12], none⟩]
    [10, 11, 12] [])
  (.seq (.region false []
    [⟨some 13, .mov, [.c (.val (.int .i64 0))], none⟩]
    [] [])
  (.block 2 (.loop c_tally_total_l0)))))
  c_tally_total_k1)))
def c_tally_total_k3 : ACode :=
  (.seq (.region false []
    [⟨some 26, .load (some 6), [.t 3], none⟩,
     ⟨none, .store 6, [.t 2, .t 26], none⟩]
    [3, 7, 8, 9, 10, 26] [3])
  .ret)
def c_tally_total : ACode :=
  (.seq (.region false []
    [⟨some 2, .alloc [.val (.int .i64 0), .val (.int .i64 0), .val (.int .i64 0), .val (.int .i64 0), .val (.int .i64 0), .val (.int .i64 0)], [], none⟩]
    [] [])
  (.seq (.region false []
    [⟨some 3, .alloc [.val (.int .i64 0), .val (.int .i64 0), .val (.int .i64 0), .val (.int .i64 0), .val (.int .i64 0), .val (.int .i64 0)], [], none⟩]
    [] [])
  (.seq (.seq (.region false []
    [⟨some 7, .mov, [.t 0], none⟩,
     ⟨some 8, .len false, [.t 7], none⟩,
     ⟨some 9, .mov, [.c (.val (.int .i64 0))], none⟩]
    [0] [])
  (.block 0 (.loop c_tally_total_l2)))
  c_tally_total_k3)))
def r_tally_total : List ResA := [.cell 2 (some 6)]
theorem t_tally_total : transl Try.prog F_tally_total = some (bare c_tally_total, r_tally_total, 27) := by kernel_rfl

def tabL : List (Nat × (ACode × List ResA × Nat)) := [(F_law38_UndersellApplies, (c_law38_UndersellApplies, r_law38_UndersellApplies, 49)), (F_law38_UndersellUndersold, (c_law38_UndersellUndersold, r_law38_UndersellUndersold, 41)), (F_law38_UndersellKeeps, (c_law38_UndersellKeeps, r_law38_UndersellKeeps, 44)), (F_law38_UndersellBetween, (c_law38_UndersellBetween, r_law38_UndersellBetween, 156)), (F_law38_UndersellWhole, (c_law38_UndersellWhole, r_law38_UndersellWhole, 59)), (F_law38_awake, (c_law38_awake, r_law38_awake, 97)), (F_undersell_Apply, (c_undersell_Apply, r_undersell_Apply, 61)), (F_ref38_Apply, (c_ref38_Apply, r_ref38_Apply, 100)), (F_ref38_Same, (c_ref38_Same, r_ref38_Same, 26)), (F_ref35_Moderate, (c_ref35_Moderate, r_ref35_Moderate, 34)), (F_undersell_Undersold, (c_undersell_Undersold, r_undersell_Undersold, 34)), (F_ref38_Undersold, (c_ref38_Undersold, r_ref38_Undersold, 34)), (F_undersell_check, (c_undersell_check, r_undersell_check, 52)), (F_slices_Cloneasl_api_Bundle_api_Bundle_, (c_slices_Cloneasl_api_Bundle_api_Bundle_, r_slices_Cloneasl_api_Bundle_api_Bundle_, 8)), (F_tally_Sum, (c_tally_Sum, r_tally_Sum, 5)), (F_undersell_refused, (c_undersell_refused, r_undersell_refused, 38)), (F_undersell_partly, (c_undersell_partly, r_undersell_partly, 44)), (F_ref07_Check, (c_ref07_Check, r_ref07_Check, 18)), (F_ref38_refused, (c_ref38_refused, r_ref38_refused, 41)), (F_ref38_partly, (c_ref38_partly, r_ref38_partly, 55)), (F_ref35_Sum, (c_ref35_Sum, r_ref35_Sum, 29)), (F_bundle_Check, (c_bundle_Check, r_bundle_Check, 16)), (F_tally_total, (c_tally_total, r_tally_total, 27))]
abbrev tab : FTab := lk tabL
theorem tab_ok : TabOk Try.prog tab := (.cons t_law38_UndersellApplies
  (.cons t_law38_UndersellUndersold
  (.cons t_law38_UndersellKeeps
  (.cons t_law38_UndersellBetween
  (.cons t_law38_UndersellWhole
  (.cons t_law38_awake
  (.cons t_undersell_Apply
  (.cons t_ref38_Apply
  (.cons t_ref38_Same
  (.cons t_ref35_Moderate
  (.cons t_undersell_Undersold
  (.cons t_ref38_Undersold
  (.cons t_undersell_check
  (.cons t_slices_Cloneasl_api_Bundle_api_Bundle_
  (.cons t_tally_Sum
  (.cons t_undersell_refused
  (.cons t_undersell_partly
  (.cons t_ref07_Check
  (.cons t_ref38_refused
  (.cons t_ref38_partly
  (.cons t_ref35_Sum
  (.cons t_bundle_Check
  (.cons t_tally_total
  .nil)))))))))))))))))))))))
end Go.Proofs.Ytagicjnmpoonpaa
