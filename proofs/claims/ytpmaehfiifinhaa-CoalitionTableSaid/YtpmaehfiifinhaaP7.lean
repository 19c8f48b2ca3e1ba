/- What the proof rests on, part 7: C Dig N0 PB Q0 Q1 Q2 Q3 Q4 Q5 Q6 Q7 IM PD QD BT QF. -/
import Derived.Test.YtpmaehfiifinhaaP6
import Derived.Test.YtpmaehfiifinhaaProg
set_option maxRecDepth 100000
set_option maxHeartbeats 4000000
namespace Go.Proofs.Ytpmaehfiifinhaa
open Go Go.Am
abbrev oq (d:Nat) (op:AOp) (xs:List Opd):AOper:=⟨some d,op,xs,none⟩
abbrev ox (op:AOp) (xs:List Opd):AOper:=⟨none,op,xs,none⟩
abbrev rgN (o:List AOper) (a b:List Nat):ACode:=.region false [] o a b
abbrev rgD (o:List AOper) (a b:List Nat):ACode:=.region true [] o a b
abbrev kc (n:Int):Operand:=.const (.int .i64 n)
abbrev F_gosem_cut_init:FuncId:=2
abbrev F_law26_CoalitionWorth:FuncId:=3
abbrev F_law26_CoalitionGrows:FuncId:=4
abbrev F_law26_CoalitionSplits:FuncId:=5
abbrev F_law26_CoalitionTable:FuncId:=6
abbrev F_law26_CoalitionWithout:FuncId:=7
abbrev F_law26_light:FuncId:=8
abbrev F_law26_lives:FuncId:=9
abbrev F_coalition_Worth:FuncId:=10
abbrev F_coalition_Best:FuncId:=11
abbrev F_ref26_Best:FuncId:=12
abbrev F_law26_same:FuncId:=13
abbrev F_ref20_Check:FuncId:=14
abbrev F_coalition_Table:FuncId:=15
abbrev F_ref26_Table:FuncId:=16
abbrev F_problem_Without:FuncId:=17
abbrev F_problem_Feasible:FuncId:=18
abbrev F_problem_Value:FuncId:=19
abbrev F_law26_example:FuncId:=20
abbrev F_coalition_fault:FuncId:=21
abbrev F_coalition_newSolver:FuncId:=22
abbrev F__p_coalition_solver__best:FuncId:=23
abbrev F__p_coalition_solver__start:FuncId:=24
abbrev F__p_coalition_solver__after:FuncId:=25
abbrev F_ref26_search:FuncId:=26
abbrev F_ref08_Valid:FuncId:=27
abbrev F_ref20_fits:FuncId:=28
abbrev F_problem_Check:FuncId:=29
abbrev F_ref26_Worth:FuncId:=30
abbrev F_slices_Cloneasl_int_int_:FuncId:=31
abbrev F_problem_picked:FuncId:=32
abbrev F__problem_view__fits:FuncId:=33
abbrev F__p_coalition_solver__outside:FuncId:=34
abbrev F_bundle_Within:FuncId:=35
abbrev F_bundle_Sub:FuncId:=36
abbrev F_ref20_Feasible:FuncId:=37
abbrev F_ref20_coef:FuncId:=38
abbrev F__problem_view__frame:FuncId:=39
abbrev F__problem_view__offer:FuncId:=40
abbrev F__problem_view__coef:FuncId:=41
abbrev F__problem_view__rows:FuncId:=42
abbrev F__problem_view__bound:FuncId:=43
abbrev F_bundle_Meet:FuncId:=44
abbrev F_ref20_Picked:FuncId:=45
abbrev F_bundle_Check:FuncId:=46
abbrev F_problem_simple:FuncId:=47
abbrev T_int64:TypeId:=2
abbrev T_int:TypeId:=3
abbrev T_uint8:TypeId:=5
abbrev T_api_Bundle:TypeId:=23
abbrev T_api_Errno:TypeId:=30
abbrev T_uint:TypeId:=39
abbrev T_mapacoalition_situation_int64:TypeId:=72
abbrev T_mapaproblem_key_bool:TypeId:=83
abbrev T_coalition_situation:TypeId:=57
abbrev T_problem_key:TypeId:=86
theorem kd_coalition_situation:kds Try.prog Op.maxDepth T_coalition_situation=some (List.replicate 13 (.i .i64)):=by kernel_rfl
theorem ag_coalition_situation:agT Try.prog T_coalition_situation=true:=by kernel_rfl
theorem kd_problem_key:kds Try.prog Op.maxDepth T_problem_key=some (List.replicate 7 (.i .i64)):=by kernel_rfl
@[simp] theorem un_api_Errno:Try.prog.underlying T_api_Errno=some (.int .i64):=by kernel_rfl
@[simp] theorem un_int64:Try.prog.underlying T_int64=some (.int .i64):=by kernel_rfl
@[simp] theorem un_int:Try.prog.underlying T_int=some (.int .i64):=by kernel_rfl
@[simp] theorem un_uint8:Try.prog.underlying T_uint8=some (.int .u8):=by kernel_rfl
@[simp] theorem un_uint:Try.prog.underlying T_uint=some (.int .u64):=by kernel_rfl
theorem um_mapacoalition_situation_int64:Try.prog.underlying T_mapacoalition_situation_int64=some (.map 57 2):=by kernel_rfl
def c_law26_CoalitionWorth:ACode:=(.seq (rgN [oq 2 .box [.t 0],oq 4 .mov [.c (bv false)]] [0,4] []) (.seq (.seq (rgN [oq 11 (.load (some 20)) [.t 2],oq 12 (.call F_law26_light) [.t 11,.c (iv 10)],oq 13 (.un .not) [.t 12]] [11,12] []) (.cond (.t 13) (.seq (rgN [oq 14 (.call F_law26_lives) [],oq 4 .mov [.t 14]] [1,2,13,14] [2]) .ret) .skip)) (.seq (rgN [oq 16 (.load (some 20)) [.t 2],oq 17 .mov [.t 1],oq 18 (.call F_coalition_Worth) [.t 16,.t 17],oq 15 .mov [.t 18],oq 19 (.extract 0) [.t 15],oq 20 (.extract 1) [.t 15],oq 5 .mov [.t 19],oq 6 .mov [.t 20]] [13,16,17,18,15,19,20] []) (.seq (rgN [oq 22 (.load (some 20)) [.t 2],oq 23 .mov [.t 1],oq 24 (.call F_coalition_Best) [.t 22,.t 23],oq 21 .mov [.t 24],oq 25 (.extract 0) [.t 21],oq 26 (.extract 1) [.t 21],⟨some 7,.alloc [.list 0 .full [],iv 0],[],none⟩,ox (.store 2) [.t 7,.t 25],oq 8 .mov [.t 26]] [22,23,24,21,25,26] []) (.seq (rgN [oq 28 (.load (some 20)) [.t 2],oq 29 .mov [.t 1],oq 30 (.call F_ref26_Best) [.t 28,.t 29],oq 27 .mov [.t 30],oq 31 (.extract 0) [.t 27],oq 32 (.extract 1) [.t 27],⟨some 9,.alloc [.list 0 .full [],iv 0],[],none⟩,ox (.store 2) [.t 9,.t 31],oq 10 .mov [.t 32]] [1,2,28,29,30,27,31,32] [2]) (.seq (rgN [oq 33 .mov [.t 6],oq 34 .mov [.t 10],oq 35 (.bin .eql T_api_Errno (.tmp 33) (.tmp 34)) [.t 33,.t 34],oq 36 .mov [.t 35],⟨some 37,.mov,[.t 8],some (36,true)⟩,⟨some 38,.mov,[.t 10],some (36,true)⟩,⟨some 39,.bin .eql T_api_Errno (.tmp 37) (.tmp 38),[.t 37,.t 38],some (36,true)⟩,oq 40 .pick [.t 36,.t 39,.c (bv false)],oq 41 .mov [.t 40],⟨some 42,.mov,[.t 5],some (41,true)⟩,⟨some 43,.faddr 1,[.t 9],some (41,true)⟩,⟨some 44,.load none,[.t 43],some (41,true)⟩,⟨some 45,.bin .eql T_int64 (.tmp 42) (.tmp 44),[.t 42,.t 44],some (41,true)⟩,oq 46 .pick [.t 41,.t 45,.c (bv false)],oq 47 .mov [.t 46],⟨some 48,.faddr 1,[.t 7],some (47,true)⟩,⟨some 49,.load none,[.t 48],some (47,true)⟩,⟨some 50,.faddr 1,[.t 9],some (47,true)⟩,⟨some 51,.load none,[.t 50],some (47,true)⟩,⟨some 52,.bin .eql T_int64 (.tmp 49) (.tmp 51),[.t 49,.t 51],some (47,true)⟩,oq 53 .pick [.t 47,.t 52,.c (bv false)],oq 54 .mov [.t 53],⟨some 55,.faddr 0,[.t 7],some (54,true)⟩,⟨some 56,.load none,[.t 55],some (54,true)⟩,⟨some 57,.faddr 0,[.t 9],some (54,true)⟩,⟨some 58,.load none,[.t 57],some (54,true)⟩,⟨some 59,.call F_law26_same,[.t 56,.t 58],some (54,true)⟩,oq 60 .pick [.t 54,.t 59,.c (bv false)],oq 61 .mov [.t 60],⟨some 62,.call F_law26_lives,[],some (61,true)⟩,oq 63 .pick [.t 61,.t 62,.c (bv false)],oq 4 .mov [.t 63]] [5,6,7,8,9,10,33,34,35,36,37,38,39,40,41,42,43,44,45,46,47,48,49,50,51,52,53,54,55,56,57,58,59,60,61,62,63] [7,9]) .ret))))))
def r_law26_CoalitionWorth:List ResA:=[.t 4]
theorem t_law26_CoalitionWorth:transl Try.prog F_law26_CoalitionWorth=some (bare c_law26_CoalitionWorth,r_law26_CoalitionWorth,64):=by kernel_rfl
def c_law26_CoalitionGrows_l0:ACode:=(.seq (.seq (rgN [oq 96 .mov [.t 19],oq 97 (.faddr 19) [.t 3],oq 98 (.load none) [.t 97],oq 99 (.len false) [.t 98],oq 100 (.bin .lss T_int (.tmp 96) (.tmp 99)) [.t 96,.t 99]] [96,97,98,99] []) (.cond (.t 100) .skip (.exit 0))) (.seq (.block 1 (.seq (rgN [oq 103 .mov [.t 8],oq 104 (.faddr 19) [.t 3],oq 105 (.load none) [.t 104],oq 106 .mov [.t 19],oq 107 (.iaddrS 8) [.t 105,.t 106],oq 108 (.faddr 0) [.t 107],oq 109 (.load none) [.t 108],oq 110 (.conv T_int T_uint) [.t 109],oq 111 (.bin .shr T_int (.tmp 103) (.tmp 110)) [.t 103,.t 110],oq 112 (.bin .and T_int (.tmp 111) (kc 1)) [.t 111,.c (iv 1)],oq 113 (.bin .eql T_int (.tmp 112) (kc 1)) [.t 112,.c (iv 1)]] [100,103,104,105,106,107,108,109,110,111,112] []) (.cond (.t 113) (.seq (rgN [oq 114 .mov [.t 18],oq 115 (.faddr 19) [.t 3],oq 116 (.load none) [.t 115],oq 117 .mov [.t 19],oq 118 (.iaddrS 8) [.t 116,.t 117],oq 119 (.faddr 7) [.t 118],oq 120 (.load none) [.t 119],oq 121 (.bin .add T_int64 (.tmp 114) (.tmp 120)) [.t 114,.t 120],oq 18 .mov [.t 121]] [113,114,115,116,117,118,119,120,121] []) (.seq (rgN [oq 122 (.faddr 19) [.t 3],oq 123 (.load none) [.t 122],oq 124 .mov [.t 19],oq 125 (.iaddrS 8) [.t 123,.t 124],oq 126 (.faddr 7) [.t 125],oq 127 (.load none) [.t 126],oq 128 .mov [.t 14],oq 129 (.bin .gtr T_int64 (.tmp 127) (.tmp 128)) [.t 127,.t 128]] [122,123,124,125,126,127,128] []) (.cond (.t 129) (.seq (rgN [oq 6 .mov [.c (bv false)]] [3,8,14,18,19,129] [3]) .ret) .skip))) .skip))) (rgN [oq 101 .mov [.t 19],oq 102 (.bin .add T_int (.tmp 101) (kc 1)) [.t 101,.c (iv 1)],oq 19 .mov [.t 102]] [129,113,101,102] [])))
def c_law26_CoalitionGrows_k1:ACode:=(.seq (rgN [oq 130 .mov [.t 14],oq 131 .mov [.t 18],oq 132 (.bin .leq T_int64 (.tmp 130) (.tmp 131)) [.t 130,.t 131],oq 133 .mov [.t 132],⟨some 134,.call F_law26_lives,[],some (133,true)⟩,oq 135 .pick [.t 133,.t 134,.c (bv false)],oq 6 .mov [.t 135]] [3,8,14,18,19,100,130,131,132,133,134,135] [3]) .ret)
def c_law26_CoalitionGrows:ACode:=(.seq (rgN [oq 3 .box [.t 0],oq 6 .mov [.c (bv false)]] [0,6] []) (.seq (.seq (rgN [oq 20 (.load (some 20)) [.t 3],oq 21 (.call F_law26_light) [.t 20,.c (iv 30)],oq 22 (.un .not) [.t 21],oq 23 .mov [.t 22],⟨some 24,.load (some 20),[.t 3],some (23,false)⟩,⟨some 25,.call F_ref20_Check,[.t 24],some (23,false)⟩,⟨some 26,.bin .neq T_api_Errno (.tmp 25) (kc 0),[.t 25,.c (iv 0)],some (23,false)⟩,oq 27 .pick [.t 23,.c (bv true),.t 26]] [20,21,22,23,24,25,26] []) (.cond (.t 27) (.seq (rgN [oq 28 (.call F_law26_lives) [],oq 6 .mov [.t 28]] [1,2,3,27,28] [3]) .ret) .skip)) (.seq (rgN [oq 29 (.faddr 18) [.t 3],oq 30 (.load none) [.t 29],oq 31 (.len false) [.t 30],oq 32 (.bin .shl T_int (kc 1) (.tmp 31)) [.c (iv 1),.t 31],oq 7 .mov [.t 32]] [27,29,30,31,32] []) (.seq (rgD [oq 33 .mov [.t 1],oq 34 (.conv T_uint8 T_int) [.t 33],oq 35 .mov [.t 7],oq 36 (.bin .rem T_int (.tmp 34) (.tmp 35)) [.t 34,.t 35],oq 37 .mov [.t 2],oq 38 (.conv T_uint8 T_int) [.t 37],oq 39 .mov [.t 7],oq 40 (.bin .rem T_int (.tmp 38) (.tmp 39)) [.t 38,.t 39],oq 8 .mov [.t 36],oq 9 .mov [.t 40]] [1,2,7,33,34,35,36,37,38,39,40] []) (.seq (rgN [oq 42 (.load (some 20)) [.t 3],oq 43 (.call F_coalition_Worth) [.t 42,.c (iv 0)],oq 41 .mov [.t 43],oq 44 (.extract 0) [.t 41],oq 45 (.extract 1) [.t 41],oq 10 .mov [.t 44],oq 11 .mov [.t 45]] [42,43,41,44,45] []) (.seq (rgN [oq 47 (.load (some 20)) [.t 3],oq 48 .mov [.t 8],oq 49 .mov [.t 9],oq 50 (.bin .and T_int (.tmp 48) (.tmp 49)) [.t 48,.t 49],oq 51 (.call F_coalition_Worth) [.t 47,.t 50],oq 46 .mov [.t 51],oq 52 (.extract 0) [.t 46],oq 53 (.extract 1) [.t 46],oq 12 .mov [.t 52],oq 13 .mov [.t 53]] [47,48,49,50,51,46,52,53] []) (.seq (rgN [oq 55 (.load (some 20)) [.t 3],oq 56 .mov [.t 8],oq 57 (.call F_coalition_Worth) [.t 55,.t 56],oq 54 .mov [.t 57],oq 58 (.extract 0) [.t 54],oq 59 (.extract 1) [.t 54],oq 14 .mov [.t 58],oq 15 .mov [.t 59]] [55,56,57,54,58,59] []) (.seq (rgN [oq 61 (.load (some 20)) [.t 3],oq 62 .mov [.t 8],oq 63 .mov [.t 9],oq 64 (.bin .or T_int (.tmp 62) (.tmp 63)) [.t 62,.t 63],oq 65 (.call F_coalition_Worth) [.t 61,.t 64],oq 60 .mov [.t 65],oq 66 (.extract 0) [.t 60],oq 67 (.extract 1) [.t 60],oq 16 .mov [.t 66],oq 17 .mov [.t 67]] [9,61,62,63,64,65,60,66,67] []) (.seq (.seq (rgN [oq 68 .mov [.t 11],oq 69 (.bin .neq T_api_Errno (.tmp 68) (kc 0)) [.t 68,.c (iv 0)],oq 70 .mov [.t 69],⟨some 71,.mov,[.t 13],some (70,false)⟩,⟨some 72,.bin .neq T_api_Errno (.tmp 71) (kc 0),[.t 71,.c (iv 0)],some (70,false)⟩,oq 73 .pick [.t 70,.c (bv true),.t 72],oq 74 .mov [.t 73],⟨some 75,.mov,[.t 15],some (74,false)⟩,⟨some 76,.bin .neq T_api_Errno (.tmp 75) (kc 0),[.t 75,.c (iv 0)],some (74,false)⟩,oq 77 .pick [.t 74,.c (bv true),.t 76],oq 78 .mov [.t 77],⟨some 79,.mov,[.t 17],some (78,false)⟩,⟨some 80,.bin .neq T_api_Errno (.tmp 79) (kc 0),[.t 79,.c (iv 0)],some (78,false)⟩,oq 81 .pick [.t 78,.c (bv true),.t 80],oq 82 .mov [.t 81],⟨some 83,.mov,[.t 10],some (82,false)⟩,⟨some 84,.bin .neq T_int64 (.tmp 83) (kc 0),[.t 83,.c (iv 0)],some (82,false)⟩,oq 85 .pick [.t 82,.c (bv true),.t 84],oq 86 .mov [.t 85],⟨some 87,.mov,[.t 12],some (86,false)⟩,⟨some 88,.mov,[.t 14],some (86,false)⟩,⟨some 89,.bin .gtr T_int64 (.tmp 87) (.tmp 88),[.t 87,.t 88],some (86,false)⟩,oq 90 .pick [.t 86,.c (bv true),.t 89],oq 91 .mov [.t 90],⟨some 92,.mov,[.t 14],some (91,false)⟩,⟨some 93,.mov,[.t 16],some (91,false)⟩,⟨some 94,.bin .gtr T_int64 (.tmp 92) (.tmp 93),[.t 92,.t 93],some (91,false)⟩,oq 95 .pick [.t 91,.c (bv true),.t 94]] [10,11,12,13,15,16,17,68,69,70,71,72,73,74,75,76,77,78,79,80,81,82,83,84,85,86,87,88,89,90,91,92,93,94] []) (.cond (.t 95) (.seq (rgN [oq 6 .mov [.c (bv false)]] [3,8,14,95] [3]) .ret) .skip)) (.seq (rgN [oq 18 .mov [.c (iv 0)]] [95] []) (.seq (.seq (rgN [oq 19 .mov [.c (iv 0)]] [] []) (.block 0 (.loop c_law26_CoalitionGrows_l0))) c_law26_CoalitionGrows_k1)))))))))))
def r_law26_CoalitionGrows:List ResA:=[.t 6]
theorem t_law26_CoalitionGrows:transl Try.prog F_law26_CoalitionGrows=some (bare c_law26_CoalitionGrows,r_law26_CoalitionGrows,136):=by kernel_rfl
def c_law26_CoalitionSplits_l0:ACode:=(.seq (.seq (rgN [oq 49 .mov [.t 11],oq 50 (.bin .lss T_int (.tmp 49) (kc 6)) [.t 49,.c (iv 6)]] [49] []) (.cond (.t 50) .skip (.exit 2))) (.seq (.block 3 (.seq (rgN [oq 53 .mov [.t 6],oq 54 (.faddr 0) [.t 10],oq 55 (.load none) [.t 54],oq 56 (.conv T_int T_uint) [.t 55],oq 57 (.bin .shr T_int (.tmp 53) (.tmp 56)) [.t 53,.t 56],oq 58 (.bin .and T_int (.tmp 57) (kc 1)) [.t 57,.c (iv 1)],oq 59 (.bin .eql T_int (.tmp 58) (kc 1)) [.t 58,.c (iv 1)]] [50,53,54,55,56,57,58] []) (.cond (.t 59) (rgD [oq 60 .mov [.t 11],oq 61 .mov [.t 11],oq 62 (.iaddrA 6 1) [.t 7,.t 61],oq 63 (.load none) [.t 62],oq 64 .mov [.t 11],oq 65 (.faddr 1) [.t 10],oq 66 (.iaddrA 6 1) [.t 65,.t 64],oq 67 (.load none) [.t 66],oq 68 (.bin .add T_int (.tmp 63) (.tmp 67)) [.t 63,.t 67],oq 69 (.iaddrA 6 1) [.t 7,.t 60],ox (.store 1) [.t 69,.t 68]] [59,60,61,62,63,64,65,66,67,68,69] []) (rgD [oq 70 .mov [.t 11],oq 71 .mov [.t 11],oq 72 (.iaddrA 6 1) [.t 8,.t 71],oq 73 (.load none) [.t 72],oq 74 .mov [.t 11],oq 75 (.faddr 1) [.t 10],oq 76 (.iaddrA 6 1) [.t 75,.t 74],oq 77 (.load none) [.t 76],oq 78 (.bin .add T_int (.tmp 73) (.tmp 77)) [.t 73,.t 77],oq 79 (.iaddrA 6 1) [.t 8,.t 70],ox (.store 1) [.t 79,.t 78]] [59,70,71,72,73,74,75,76,77,78,79] [])))) (rgN [oq 51 .mov [.t 11],oq 52 (.bin .add T_int (.tmp 51) (kc 1)) [.t 51,.c (iv 1)],oq 11 .mov [.t 52]] [51,52] [])))
def c_law26_CoalitionSplits_k1:ACode:=(rgN [oq 42 .mov [.t 9],oq 43 (.bin .add T_int (.tmp 42) (kc 1)) [.t 42,.c (iv 1)],oq 9 .mov [.t 43]] [10,11,50,42,43] [10])
def c_law26_CoalitionSplits_l2:ACode:=(.seq (.seq (rgN [oq 37 .mov [.t 9],oq 38 (.faddr 19) [.t 2],oq 39 (.load none) [.t 38],oq 40 (.len false) [.t 39],oq 41 (.bin .lss T_int (.tmp 37) (.tmp 40)) [.t 37,.t 40]] [37,38,39,40] []) (.cond (.t 41) .skip (.exit 0))) (.seq (.block 1 (.seq (rgN [oq 44 (.faddr 19) [.t 2],oq 45 (.load none) [.t 44],oq 46 .mov [.t 9],oq 47 (.iaddrS 8) [.t 45,.t 46],oq 48 (.load (some 8)) [.t 47],oq 10 (.alloc [iv 0,iv 0,iv 0,iv 0,iv 0,iv 0,iv 0,iv 0]) [],ox (.store 8) [.t 10,.t 48]] [41,44,45,46,47,48] []) (.seq (rgN [oq 11 .mov [.c (iv 0)]] [] []) (.block 2 (.loop c_law26_CoalitionSplits_l0))))) c_law26_CoalitionSplits_k1))
def c_law26_CoalitionSplits_l3:ACode:=(.seq (.seq (rgN [oq 80 .mov [.t 12],oq 81 (.bin .lss T_int (.tmp 80) (kc 6)) [.t 80,.c (iv 6)]] [80] []) (.cond (.t 81) .skip (.exit 4))) (.seq (.block 5 (.seq (rgN [oq 84 .mov [.t 12],oq 85 (.iaddrA 6 1) [.t 7,.t 84],oq 86 (.load none) [.t 85],oq 87 (.bin .gtr T_int (.tmp 86) (kc 0)) [.t 86,.c (iv 0)],oq 88 .mov [.t 87],⟨some 89,.mov,[.t 12],some (88,true)⟩,⟨some 90,.iaddrA 6 1,[.t 8,.t 89],some (88,true)⟩,⟨some 91,.load none,[.t 90],some (88,true)⟩,⟨some 92,.bin .gtr T_int (.tmp 91) (kc 0),[.t 91,.c (iv 0)],some (88,true)⟩,oq 93 .pick [.t 88,.t 92,.c (bv false)]] [81,84,85,86,87,88,89,90,91,92] []) (.cond (.t 93) (.seq (rgN [oq 94 (.call F_law26_lives) [],oq 4 .mov [.t 94]] [2,5,6,7,8,12,93,94] [2,7,8]) .ret) .skip))) (rgN [oq 82 .mov [.t 12],oq 83 (.bin .add T_int (.tmp 82) (kc 1)) [.t 82,.c (iv 1)],oq 12 .mov [.t 83]] [93,82,83] [])))
def c_law26_CoalitionSplits_k4:ACode:=(.seq (rgN [oq 96 (.load (some 20)) [.t 2],oq 97 .mov [.t 5],oq 98 (.call F_coalition_Worth) [.t 96,.t 97],oq 95 .mov [.t 98],oq 99 (.extract 0) [.t 95],oq 100 (.extract 1) [.t 95],oq 13 .mov [.t 99],oq 14 .mov [.t 100]] [7,8,12,81,96,97,98,95,99,100] [7,8]) (.seq (rgN [oq 102 (.load (some 20)) [.t 2],oq 103 .mov [.t 6],oq 104 (.call F_coalition_Worth) [.t 102,.t 103],oq 101 .mov [.t 104],oq 105 (.extract 0) [.t 101],oq 106 (.extract 1) [.t 101],oq 15 .mov [.t 105],oq 16 .mov [.t 106]] [102,103,104,101,105,106] []) (.seq (rgN [oq 108 (.load (some 20)) [.t 2],oq 109 .mov [.t 5],oq 110 .mov [.t 6],oq 111 (.bin .sub T_int (.tmp 109) (.tmp 110)) [.t 109,.t 110],oq 112 (.call F_coalition_Worth) [.t 108,.t 111],oq 107 .mov [.t 112],oq 113 (.extract 0) [.t 107],oq 114 (.extract 1) [.t 107],oq 17 .mov [.t 113],oq 18 .mov [.t 114]] [2,5,6,108,109,110,111,112,107,113,114] [2]) (.seq (rgN [oq 115 .mov [.t 14],oq 116 (.bin .eql T_api_Errno (.tmp 115) (kc 0)) [.t 115,.c (iv 0)],oq 117 .mov [.t 116],⟨some 118,.mov,[.t 16],some (117,true)⟩,⟨some 119,.bin .eql T_api_Errno (.tmp 118) (kc 0),[.t 118,.c (iv 0)],some (117,true)⟩,oq 120 .pick [.t 117,.t 119,.c (bv false)],oq 121 .mov [.t 120],⟨some 122,.mov,[.t 18],some (121,true)⟩,⟨some 123,.bin .eql T_api_Errno (.tmp 122) (kc 0),[.t 122,.c (iv 0)],some (121,true)⟩,oq 124 .pick [.t 121,.t 123,.c (bv false)],oq 125 .mov [.t 124],⟨some 126,.mov,[.t 13],some (125,true)⟩,⟨some 127,.mov,[.t 15],some (125,true)⟩,⟨some 128,.mov,[.t 17],some (125,true)⟩,⟨some 129,.bin .add T_int64 (.tmp 127) (.tmp 128),[.t 127,.t 128],some (125,true)⟩,⟨some 130,.bin .eql T_int64 (.tmp 126) (.tmp 129),[.t 126,.t 129],some (125,true)⟩,oq 131 .pick [.t 125,.t 130,.c (bv false)],oq 132 .mov [.t 131],⟨some 133,.call F_law26_lives,[],some (132,true)⟩,oq 134 .pick [.t 132,.t 133,.c (bv false)],oq 4 .mov [.t 134]] [13,14,15,16,17,18,115,116,117,118,119,120,121,122,123,124,125,126,127,128,129,130,131,132,133,134] []) .ret))))
def c_law26_CoalitionSplits_k5:ACode:=(.seq (.seq (rgN [oq 12 .mov [.c (iv 0)]] [9,41] []) (.block 4 (.loop c_law26_CoalitionSplits_l3))) c_law26_CoalitionSplits_k4)
def c_law26_CoalitionSplits:ACode:=(.seq (rgN [oq 2 .box [.t 0],oq 4 .mov [.c (bv false)]] [0,4] []) (.seq (.seq (rgN [oq 19 (.load (some 20)) [.t 2],oq 20 (.call F_law26_light) [.t 19,.c (iv 20)],oq 21 (.un .not) [.t 20],oq 22 .mov [.t 21],⟨some 23,.load (some 20),[.t 2],some (22,false)⟩,⟨some 24,.call F_ref20_Check,[.t 23],some (22,false)⟩,⟨some 25,.bin .neq T_api_Errno (.tmp 24) (kc 0),[.t 24,.c (iv 0)],some (22,false)⟩,oq 26 .pick [.t 22,.c (bv true),.t 25]] [19,20,21,22,23,24,25] []) (.cond (.t 26) (.seq (rgN [oq 27 (.call F_law26_lives) [],oq 4 .mov [.t 27]] [1,2,26,27] [2]) .ret) .skip)) (.seq (rgN [oq 28 (.faddr 18) [.t 2],oq 29 (.load none) [.t 28],oq 30 (.len false) [.t 29],oq 31 (.bin .shl T_int (kc 1) (.tmp 30)) [.c (iv 1),.t 30],oq 32 (.bin .sub T_int (.tmp 31) (kc 1)) [.t 31,.c (iv 1)],oq 5 .mov [.t 32]] [26,28,29,30,31,32] []) (.seq (rgN [oq 33 .mov [.t 1],oq 34 (.conv T_uint8 T_int) [.t 33],oq 35 .mov [.t 5],oq 36 (.bin .and T_int (.tmp 34) (.tmp 35)) [.t 34,.t 35],oq 6 .mov [.t 36]] [1,33,34,35,36] []) (.seq (rgN [oq 7 (.alloc [iv 0,iv 0,iv 0,iv 0,iv 0,iv 0]) [],oq 8 (.alloc [iv 0,iv 0,iv 0,iv 0,iv 0,iv 0]) []] [] []) (.seq (.seq (rgN [oq 9 .mov [.c (iv 0)]] [] []) (.block 0 (.loop c_law26_CoalitionSplits_l2))) c_law26_CoalitionSplits_k5))))))
def r_law26_CoalitionSplits:List ResA:=[.t 4]
theorem t_law26_CoalitionSplits:transl Try.prog F_law26_CoalitionSplits=some (bare c_law26_CoalitionSplits,r_law26_CoalitionSplits,135):=by kernel_rfl
def c_law26_CoalitionTable_l0:ACode:=(.seq (.seq (rgN [oq 32 .mov [.t 7],oq 33 .mov [.t 5],oq 34 (.len false) [.t 33],oq 35 (.bin .lss T_int (.tmp 32) (.tmp 34)) [.t 32,.t 34]] [32,33,34] []) (.cond (.t 35) .skip (.exit 0))) (.seq (.block 1 (.seq (rgD [oq 38 .mov [.t 3],oq 39 .mov [.t 7],oq 40 (.iaddrS 1) [.t 38,.t 39],oq 41 (.load none) [.t 40],oq 42 .mov [.t 5],oq 43 .mov [.t 7],oq 44 (.iaddrS 1) [.t 42,.t 43],oq 45 (.load none) [.t 44],oq 46 (.bin .neq T_int64 (.tmp 41) (.tmp 45)) [.t 41,.t 45]] [35,38,39,40,41,42,43,44,45] []) (.cond (.t 46) (.seq (rgN [oq 2 .mov [.c (bv false)]] [3,5,7,46] []) .ret) .skip))) (rgN [oq 36 .mov [.t 7],oq 37 (.bin .add T_int (.tmp 36) (kc 1)) [.t 36,.c (iv 1)],oq 7 .mov [.t 37]] [46,36,37] [])))
def c_law26_CoalitionTable_k1:ACode:=(.seq (rgN [oq 47 (.call F_law26_lives) [],oq 2 .mov [.t 47]] [3,5,7,35,47] []) .ret)
def c_law26_CoalitionTable:ACode:=(.seq (rgN [oq 1 .box [.t 0],oq 2 .mov [.c (bv false)]] [0,2] []) (.seq (.seq (rgN [oq 8 (.load (some 20)) [.t 1],oq 9 (.call F_law26_light) [.t 8,.c (iv 7)],oq 10 (.un .not) [.t 9]] [8,9] []) (.cond (.t 10) (.seq (rgN [oq 11 (.call F_law26_lives) [],oq 2 .mov [.t 11]] [1,10,11] [1]) .ret) .skip)) (.seq (rgN [oq 13 (.load (some 20)) [.t 1],oq 14 (.call F_coalition_Table) [.t 13],oq 12 .mov [.t 14],oq 15 (.extract 0) [.t 12],oq 16 (.extract 1) [.t 12],oq 3 .mov [.t 15],oq 4 .mov [.t 16]] [10,13,14,12,15,16] []) (.seq (rgN [oq 18 (.load (some 20)) [.t 1],oq 19 (.call F_ref26_Table) [.t 18],oq 17 .mov [.t 19],oq 20 (.extract 0) [.t 17],oq 21 (.extract 1) [.t 17],oq 5 .mov [.t 20],oq 6 .mov [.t 21]] [1,18,19,17,20,21] [1]) (.seq (.seq (rgN [oq 22 .mov [.t 4],oq 23 .mov [.t 6],oq 24 (.bin .neq T_api_Errno (.tmp 22) (.tmp 23)) [.t 22,.t 23],oq 25 .mov [.t 24],⟨some 26,.mov,[.t 3],some (25,false)⟩,⟨some 27,.len false,[.t 26],some (25,false)⟩,⟨some 28,.mov,[.t 5],some (25,false)⟩,⟨some 29,.len false,[.t 28],some (25,false)⟩,⟨some 30,.bin .neq T_int (.tmp 27) (.tmp 29),[.t 27,.t 29],some (25,false)⟩,oq 31 .pick [.t 25,.c (bv true),.t 30]] [4,6,22,23,24,25,26,27,28,29,30] []) (.cond (.t 31) (.seq (rgN [oq 2 .mov [.c (bv false)]] [3,5,31] []) .ret) .skip)) (.seq (.seq (rgN [oq 7 .mov [.c (iv 0)]] [31] []) (.block 0 (.loop c_law26_CoalitionTable_l0))) c_law26_CoalitionTable_k1))))))
def r_law26_CoalitionTable:List ResA:=[.t 2]
theorem t_law26_CoalitionTable:transl Try.prog F_law26_CoalitionTable=some (bare c_law26_CoalitionTable,r_law26_CoalitionTable,48):=by kernel_rfl
def c_law26_CoalitionWithout_l0:ACode:=(.seq (.seq (rgN [oq 90 .mov [.t 13],oq 91 (.faddr 0) [.t 11],oq 92 (.load none) [.t 91],oq 93 (.len false) [.t 92],oq 94 (.bin .lss T_int (.tmp 90) (.tmp 93)) [.t 90,.t 93]] [90,91,92,93] []) (.cond (.t 94) .skip (.exit 0))) (.seq (.block 1 (.seq (rgD [oq 97 .mov [.t 6],oq 98 (.faddr 19) [.t 2],oq 99 (.load none) [.t 98],oq 100 (.faddr 0) [.t 11],oq 101 (.load none) [.t 100],oq 102 .mov [.t 13],oq 103 (.iaddrS 1) [.t 101,.t 102],oq 104 (.load none) [.t 103],oq 105 (.iaddrS 8) [.t 99,.t 104],oq 106 (.faddr 0) [.t 105],oq 107 (.load none) [.t 106],oq 108 (.conv T_int T_uint) [.t 107],oq 109 (.bin .shr T_int (.tmp 97) (.tmp 108)) [.t 97,.t 108],oq 110 (.bin .and T_int (.tmp 109) (kc 1)) [.t 109,.c (iv 1)],oq 111 (.bin .eql T_int (.tmp 110) (kc 0)) [.t 110,.c (iv 0)]] [94,97,98,99,100,101,102,103,104,105,106,107,108,109,110] []) (.cond (.t 111) (.seq (rgN [oq 4 .mov [.c (bv false)]] [2,6,11,13,111] [2,11]) .ret) .skip))) (rgN [oq 95 .mov [.t 13],oq 96 (.bin .add T_int (.tmp 95) (kc 1)) [.t 95,.c (iv 1)],oq 13 .mov [.t 96]] [111,95,96] [])))
def c_law26_CoalitionWithout_k1:ACode:=(.seq (rgN [oq 112 (.call F_law26_lives) [],oq 4 .mov [.t 112]] [2,6,11,13,94,112] [2,11]) .ret)
def c_law26_CoalitionWithout:ACode:=(.seq (rgN [oq 2 .box [.t 0],oq 4 .mov [.c (bv false)]] [0,4] []) (.seq (.seq (rgN [oq 14 (.load (some 20)) [.t 2],oq 15 (.call F_law26_light) [.t 14,.c (iv 30)],oq 16 (.un .not) [.t 15],oq 17 .mov [.t 16],⟨some 18,.load (some 20),[.t 2],some (17,false)⟩,⟨some 19,.call F_ref20_Check,[.t 18],some (17,false)⟩,⟨some 20,.bin .neq T_api_Errno (.tmp 19) (kc 0),[.t 19,.c (iv 0)],some (17,false)⟩,oq 21 .pick [.t 17,.c (bv true),.t 20]] [14,15,16,17,18,19,20] []) (.cond (.t 21) (.seq (rgN [oq 22 (.call F_law26_lives) [],oq 4 .mov [.t 22]] [1,2,21,22] [2]) .ret) .skip)) (.seq (rgN [oq 23 (.faddr 18) [.t 2],oq 24 (.load none) [.t 23],oq 25 (.len false) [.t 24],oq 26 (.bin .shl T_int (kc 1) (.tmp 25)) [.c (iv 1),.t 25],oq 27 (.bin .sub T_int (.tmp 26) (kc 1)) [.t 26,.c (iv 1)],oq 5 .mov [.t 27]] [21,23,24,25,26,27] []) (.seq (rgN [oq 28 .mov [.t 1],oq 29 (.conv T_uint8 T_int) [.t 28],oq 30 .mov [.t 5],oq 31 (.bin .and T_int (.tmp 29) (.tmp 30)) [.t 29,.t 30],oq 6 .mov [.t 31]] [1,28,29,30,31] []) (.seq (rgN [oq 33 (.load (some 20)) [.t 2],oq 34 .mov [.t 6],oq 35 (.call F_coalition_Worth) [.t 33,.t 34],oq 32 .mov [.t 35],oq 36 (.extract 0) [.t 32],oq 37 (.extract 1) [.t 32],oq 7 .mov [.t 36],oq 8 .mov [.t 37]] [33,34,35,32,36,37] []) (.seq (rgN [oq 39 (.load (some 20)) [.t 2],oq 40 .mov [.t 5],oq 41 .mov [.t 6],oq 42 (.bin .sub T_int (.tmp 40) (.tmp 41)) [.t 40,.t 41],oq 43 (.call F_problem_Without) [.t 39,.t 42],oq 44 .mov [.t 5],oq 45 (.call F_coalition_Worth) [.t 43,.t 44],oq 38 .mov [.t 45],oq 46 (.extract 0) [.t 38],oq 47 (.extract 1) [.t 38],oq 9 .mov [.t 46],oq 10 .mov [.t 47]] [5,39,40,41,42,43,44,45,38,46,47] []) (.seq (rgN [oq 49 (.load (some 20)) [.t 2],oq 50 .mov [.t 6],oq 51 (.call F_coalition_Best) [.t 49,.t 50],oq 48 .mov [.t 51],oq 52 (.extract 0) [.t 48],oq 53 (.extract 1) [.t 48],⟨some 11,.alloc [.list 0 .full [],iv 0],[],none⟩,ox (.store 2) [.t 11,.t 52],oq 12 .mov [.t 53]] [49,50,51,48,52,53] []) (.seq (.seq (rgN [oq 54 .mov [.t 8],oq 55 (.bin .neq T_api_Errno (.tmp 54) (kc 0)) [.t 54,.c (iv 0)],oq 56 .mov [.t 55],⟨some 57,.mov,[.t 10],some (56,false)⟩,⟨some 58,.bin .neq T_api_Errno (.tmp 57) (kc 0),[.t 57,.c (iv 0)],some (56,false)⟩,oq 59 .pick [.t 56,.c (bv true),.t 58],oq 60 .mov [.t 59],⟨some 61,.mov,[.t 12],some (60,false)⟩,⟨some 62,.bin .neq T_api_Errno (.tmp 61) (kc 0),[.t 61,.c (iv 0)],some (60,false)⟩,oq 63 .pick [.t 60,.c (bv true),.t 62],oq 64 .mov [.t 63],⟨some 65,.mov,[.t 7],some (64,false)⟩,⟨some 66,.mov,[.t 9],some (64,false)⟩,⟨some 67,.bin .neq T_int64 (.tmp 65) (.tmp 66),[.t 65,.t 66],some (64,false)⟩,oq 68 .pick [.t 64,.c (bv true),.t 67],oq 69 .mov [.t 68],⟨some 70,.faddr 1,[.t 11],some (69,false)⟩,⟨some 71,.load none,[.t 70],some (69,false)⟩,⟨some 72,.mov,[.t 7],some (69,false)⟩,⟨some 73,.bin .neq T_int64 (.tmp 71) (.tmp 72),[.t 71,.t 72],some (69,false)⟩,oq 74 .pick [.t 69,.c (bv true),.t 73],oq 75 .mov [.t 74],⟨some 76,.load (some 20),[.t 2],some (75,false)⟩,⟨some 77,.faddr 0,[.t 11],some (75,false)⟩,⟨some 78,.load none,[.t 77],some (75,false)⟩,⟨some 79,.call F_problem_Feasible,[.t 76,.t 78],some (75,false)⟩,⟨some 80,.bin .neq T_api_Errno (.tmp 79) (kc 0),[.t 79,.c (iv 0)],some (75,false)⟩,oq 81 .pick [.t 75,.c (bv true),.t 80],oq 82 .mov [.t 81],⟨some 83,.load (some 20),[.t 2],some (82,false)⟩,⟨some 84,.faddr 0,[.t 11],some (82,false)⟩,⟨some 85,.load none,[.t 84],some (82,false)⟩,⟨some 86,.call F_problem_Value,[.t 83,.t 85],some (82,false)⟩,⟨some 87,.mov,[.t 7],some (82,false)⟩,⟨some 88,.bin .neq T_int64 (.tmp 86) (.tmp 87),[.t 86,.t 87],some (82,false)⟩,oq 89 .pick [.t 82,.c (bv true),.t 88]] [7,8,9,10,12,54,55,56,57,58,59,60,61,62,63,64,65,66,67,68,69,70,71,72,73,74,75,76,77,78,79,80,81,82,83,84,85,86,87,88] []) (.cond (.t 89) (.seq (rgN [oq 4 .mov [.c (bv false)]] [2,6,11,89] [2,11]) .ret) .skip)) (.seq (.seq (rgN [oq 13 .mov [.c (iv 0)]] [89] []) (.block 0 (.loop c_law26_CoalitionWithout_l0))) c_law26_CoalitionWithout_k1)))))))))
def r_law26_CoalitionWithout:List ResA:=[.t 4]
theorem t_law26_CoalitionWithout:transl Try.prog F_law26_CoalitionWithout=some (bare c_law26_CoalitionWithout,r_law26_CoalitionWithout,113):=by kernel_rfl
def c_law26_light:ACode:=(.seq (rgN [oq 2 .box [.t 0],oq 4 .mov [.c (bv false)]] [0,4] []) (.seq (rgN [oq 5 (.faddr 19) [.t 2],oq 6 (.load none) [.t 5],oq 7 (.len false) [.t 6],oq 8 .mov [.t 1],oq 9 (.bin .leq T_int (.tmp 7) (.tmp 8)) [.t 7,.t 8],oq 10 .mov [.t 9],⟨some 11,.faddr 18,[.t 2],some (10,true)⟩,⟨some 12,.load none,[.t 11],some (10,true)⟩,⟨some 13,.len false,[.t 12],some (10,true)⟩,⟨some 14,.bin .leq T_int (.tmp 13) (kc 5),[.t 13,.c (iv 5)],some (10,true)⟩,oq 15 .pick [.t 10,.t 14,.c (bv false)],oq 4 .mov [.t 15]] [1,2,5,6,7,8,9,10,11,12,13,14,15] [2]) .ret))
def r_law26_light:List ResA:=[.t 4]
theorem t_law26_light:transl Try.prog F_law26_light=some (bare c_law26_light,r_law26_light,16):=by kernel_rfl
def c_law26_lives:ACode:=(.seq (rgN [oq 0 .mov [.c (bv false)]] [0] []) (.seq (rgN [oq 10 (.call F_law26_example) [],oq 11 (.call F_coalition_Worth) [.t 10,.c (iv 7)],oq 9 .mov [.t 11],oq 12 (.extract 0) [.t 9],oq 13 (.extract 1) [.t 9],oq 1 .mov [.t 12],oq 2 .mov [.t 13]] [10,11,9,12,13] []) (.seq (rgN [oq 15 (.call F_law26_example) [],oq 16 (.call F_coalition_Worth) [.t 15,.c (iv 3)],oq 14 .mov [.t 16],oq 17 (.extract 0) [.t 14],oq 18 (.extract 1) [.t 14],oq 3 .mov [.t 17],oq 4 .mov [.t 18]] [15,16,14,17,18] []) (.seq (rgN [oq 20 (.call F_law26_example) [],oq 21 (.call F_coalition_Best) [.t 20,.c (iv 7)],oq 19 .mov [.t 21],oq 22 (.extract 0) [.t 19],oq 23 (.extract 1) [.t 19],⟨some 5,.alloc [.list 0 .full [],iv 0],[],none⟩,ox (.store 2) [.t 5,.t 22],oq 6 .mov [.t 23]] [20,21,19,22,23] []) (.seq (rgN [oq 25 (.call F_law26_example) [],oq 26 (.call F_coalition_Worth) [.t 25,.c (iv 8)],oq 24 .mov [.t 26],oq 27 (.extract 0) [.t 24],oq 28 (.extract 1) [.t 24],oq 7 .mov [.t 27],oq 8 .mov [.t 28]] [25,26,24,27,28,7] []) (.seq (rgN [oq 29 .mov [.t 2],oq 30 (.bin .eql T_api_Errno (.tmp 29) (kc 0)) [.t 29,.c (iv 0)],oq 31 .mov [.t 30],⟨some 32,.mov,[.t 1],some (31,true)⟩,⟨some 33,.bin .eql T_int64 (.tmp 32) (kc 12),[.t 32,.c (iv 12)],some (31,true)⟩,oq 34 .pick [.t 31,.t 33,.c (bv false)],oq 35 .mov [.t 34],⟨some 36,.mov,[.t 4],some (35,true)⟩,⟨some 37,.bin .eql T_api_Errno (.tmp 36) (kc 0),[.t 36,.c (iv 0)],some (35,true)⟩,oq 38 .pick [.t 35,.t 37,.c (bv false)],oq 39 .mov [.t 38],⟨some 40,.mov,[.t 3],some (39,true)⟩,⟨some 41,.bin .eql T_int64 (.tmp 40) (kc 10),[.t 40,.c (iv 10)],some (39,true)⟩,oq 42 .pick [.t 39,.t 41,.c (bv false)],oq 43 .mov [.t 42],⟨some 44,.mov,[.t 6],some (43,true)⟩,⟨some 45,.bin .eql T_api_Errno (.tmp 44) (kc 0),[.t 44,.c (iv 0)],some (43,true)⟩,oq 46 .pick [.t 43,.t 45,.c (bv false)],oq 47 .mov [.t 46],⟨some 48,.faddr 1,[.t 5],some (47,true)⟩,⟨some 49,.load none,[.t 48],some (47,true)⟩,⟨some 50,.bin .eql T_int64 (.tmp 49) (kc 12),[.t 49,.c (iv 12)],some (47,true)⟩,oq 51 .pick [.t 47,.t 50,.c (bv false)],oq 52 .mov [.t 51],⟨some 53,.faddr 0,[.t 5],some (52,true)⟩,⟨some 54,.load none,[.t 53],some (52,true)⟩,⟨some 55,.len false,[.t 54],some (52,true)⟩,⟨some 56,.bin .eql T_int (.tmp 55) (kc 2),[.t 55,.c (iv 2)],some (52,true)⟩,oq 57 .pick [.t 52,.t 56,.c (bv false)],oq 58 .mov [.t 57],⟨some 59,.faddr 0,[.t 5],some (58,true)⟩,⟨some 60,.load none,[.t 59],some (58,true)⟩,⟨some 61,.iaddrS 1,[.t 60,.c (iv 0)],some (58,true)⟩,⟨some 62,.load none,[.t 61],some (58,true)⟩,⟨some 63,.bin .eql T_int (.tmp 62) (kc 1),[.t 62,.c (iv 1)],some (58,true)⟩,oq 64 .pick [.t 58,.t 63,.c (bv false)],oq 65 .mov [.t 64],⟨some 66,.faddr 0,[.t 5],some (65,true)⟩,⟨some 67,.load none,[.t 66],some (65,true)⟩,⟨some 68,.iaddrS 1,[.t 67,.c (iv 1)],some (65,true)⟩,⟨some 69,.load none,[.t 68],some (65,true)⟩,⟨some 70,.bin .eql T_int (.tmp 69) (kc 2),[.t 69,.c (iv 2)],some (65,true)⟩,oq 71 .pick [.t 65,.t 70,.c (bv false)],oq 72 .mov [.t 71],⟨some 73,.mov,[.t 8],some (72,true)⟩,⟨some 74,.bin .eql T_api_Errno (.tmp 73) (kc 4),[.t 73,.c (iv 4)],some (72,true)⟩,oq 75 .pick [.t 72,.t 74,.c (bv false)],oq 0 .mov [.t 75]] [1,2,3,4,5,6,8,29,30,31,32,33,34,35,36,37,38,39,40,41,42,43,44,45,46,47,48,49,50,51,52,53,54,55,56,57,58,59,60,61,62,63,64,65,66,67,68,69,70,71,72,73,74,75] [5]) .ret))))))
def r_law26_lives:List ResA:=[.t 0]
theorem t_law26_lives:transl Try.prog F_law26_lives=some (bare c_law26_lives,r_law26_lives,76):=by kernel_rfl
def c_coalition_Worth:ACode:=(.seq (rgN [oq 2 .box [.t 0],oq 4 .mov [.c (iv 0)],oq 5 .mov [.c (iv 0)]] [0,4,5] []) (.seq (.seq (rgN [oq 8 (.load (some 20)) [.t 2],oq 9 .mov [.t 1],oq 10 (.call F_coalition_fault) [.t 8,.t 9],oq 6 .mov [.t 10]] [8,9,10] []) (.seq (rgN [oq 11 .mov [.t 6],oq 12 (.bin .neq T_api_Errno (.tmp 11) (kc 0)) [.t 11,.c (iv 0)]] [11] []) (.cond (.t 12) (.seq (rgN [oq 13 .mov [.t 6],oq 4 .mov [.c (iv 0)],oq 5 .mov [.t 13]] [1,2,6,12,13] [2]) .ret) .skip))) (.seq (rgN [oq 14 (.load (some 20)) [.t 2],oq 15 (.callI F_coalition_newSolver) [.t 14],oq 7 .mov [.t 15]] [2,6,12,14,15] [2]) (.seq (rgN [oq 16 .mov [.t 7],oq 17 .mov [.t 7],oq 18 .mov [.t 1],oq 19 (.callI F__p_coalition_solver__start) [.t 17,.t 18],oq 20 (.callI F__p_coalition_solver__best) [.t 16,.t 19],oq 4 .mov [.t 20],oq 5 .mov [.c (iv 0)]] [1,7,16,17,18,19,20] []) .ret))))
def r_coalition_Worth:List ResA:=[.t 4,.t 5]
theorem t_coalition_Worth:transl Try.prog F_coalition_Worth=some (bare c_coalition_Worth,r_coalition_Worth,21):=by kernel_rfl
def c_coalition_Best_l0:ACode:=(.seq (rgN [oq 37 (.bin .lss T_int (.tmp 36) (.tmp 35)) [.t 36,.t 35]] [] []) (.seq (.cond (.t 37) .skip (.exit 0)) (.seq (.block 1 (.seq (rgN [oq 38 .mov [.t 36],oq 39 (.iaddrS 8) [.t 34,.t 36],oq 40 (.load (some 8)) [.t 39],oq 12 (.alloc [iv 0,iv 0,iv 0,iv 0,iv 0,iv 0,iv 0,iv 0]) [],oq 11 .mov [.t 38],ox (.store 8) [.t 12,.t 40]] [37,38,39,40] []) (.seq (.seq (rgN [oq 41 (.faddr 0) [.t 8],oq 42 (.load none) [.t 41],oq 43 (.faddr 0) [.t 12],oq 44 (.load none) [.t 43],oq 45 (.bin .shr T_int (.tmp 42) (.tmp 44)) [.t 42,.t 44],oq 46 (.bin .and T_int (.tmp 45) (kc 1)) [.t 45,.c (iv 1)],oq 47 (.bin .eql T_int (.tmp 46) (kc 0)) [.t 46,.c (iv 0)]] [41,42,43,44,45,46] []) (.cond (.t 47) (.exit 1) .skip)) (.seq (rgN [oq 49 .mov [.t 7],oq 50 (.load (some 13)) [.t 8],oq 51 (.load (some 8)) [.t 12],oq 52 (.callI F__p_coalition_solver__after) [.t 49,.t 50,.t 51],oq 48 .mov [.t 52],oq 53 (.extract 0) [.t 48],oq 54 (.extract 1) [.t 48],oq 13 (.alloc [iv 0,iv 0,iv 0,iv 0,iv 0,iv 0,iv 0,iv 0,iv 0,iv 0,iv 0,iv 0,iv 0]) [],ox (.store 13) [.t 13,.t 53],oq 14 .mov [.t 54]] [47,49,50,51,52,48,53,54] []) (.seq (rgD [ox (.start [55,56,57,58,59,60,61,62,63]) [],oq 55 .mov [.t 14],oq 56 .mov [.t 55],⟨some 57,.faddr 7,[.t 12],some (56,true)⟩,⟨some 58,.load none,[.t 57],some (56,true)⟩,⟨some 59,.mov,[.t 7],some (56,true)⟩,⟨some 60,.load (some 13),[.t 13],some (56,true)⟩,⟨some 63,.mov,[.t 10],some (56,true)⟩,⟨some 61,.callM F__p_coalition_solver__best [55,56,57,58,59,60,61,62,63],[.t 59,.t 60],some (56,true)⟩,oq 57 (.chkG (.faddr 7) 56 true) [.t 12],oq 58 (.chkG (.load none) 56 true) [.t 57],oq 63 (.chkG (.mov) 56 true) [.t 10],⟨some 62,.bin .add T_int64 (.tmp 58) (.tmp 61),[.t 58,.t 61],some (56,true)⟩,⟨some 64,.bin .eql T_int64 (.tmp 62) (.tmp 63),[.t 62,.t 63],some (56,true)⟩,oq 65 .pick [.t 56,.t 64,.c (bv false)]] [14,55,56,57,58,59,60,63,61,62,64] []) (.cond (.t 65) (.seq (rgN [oq 66 (.faddr 0) [.t 9],oq 67 (.load none) [.t 66],oq 68 .mov [.t 11],oq 69 (.mkslice 1 1 [iv 0] [0]) [.t 68],oq 70 (.append 1 8) [.t 67,.t 69],oq 71 (.faddr 0) [.t 9],ox (.store 1) [.t 71,.t 70]] [11,65,66,67,68,69,70,71] []) (rgD [ox (.start [72,73,74,75,76]) [],oq 72 (.load (some 13)) [.t 13],oq 73 .mov [.t 10],oq 74 (.faddr 7) [.t 12],oq 75 (.load none) [.t 74],oq 76 (.bin .sub T_int64 (.tmp 73) (.tmp 75)) [.t 73,.t 75],ox (.store 13) [.t 8,.t 72],oq 73 (.chk (.mov)) [.t 10],oq 74 (.chk (.faddr 7)) [.t 12],oq 75 (.chk (.load none)) [.t 74],oq 76 (.chk (.bin .sub T_int64 (.tmp 73) (.tmp 75))) [.t 73,.t 75],oq 10 .mov [.t 76]] [12,13,72,73,74,75,76] [12,13])) .skip)))))) (rgN [oq 77 (.bin .add T_int (.tmp 36) (kc 1)) [.t 36,.c (iv 1)],oq 36 .mov [.t 77]] [12,11,13,65,47,77] [12,13]))))
def c_coalition_Best_k1:ACode:=(.seq (rgN [oq 78 (.load (some 2)) [.t 9],ox (.store 2) [.t 4,.t 78],oq 5 .mov [.c (iv 0)]] [7,8,9,10,34,35,36,37,78] [8,9]) .ret)
def c_coalition_Best:ACode:=(.seq (rgN [oq 2 .box [.t 0],⟨some 4,.alloc [.list 0 .full [],iv 0],[],none⟩,oq 5 .mov [.c (iv 0)]] [0,5] []) (.seq (.seq (rgN [oq 15 (.load (some 20)) [.t 2],oq 16 .mov [.t 1],oq 17 (.call F_coalition_fault) [.t 15,.t 16],oq 6 .mov [.t 17]] [15,16,17] []) (.seq (rgN [oq 18 .mov [.t 6],oq 19 (.bin .neq T_api_Errno (.tmp 18) (kc 0)) [.t 18,.c (iv 0)]] [18] []) (.cond (.t 19) (.seq (rgN [⟨some 20,.build [.list 0 .full [],iv 0] [],[],none⟩,oq 21 .mov [.t 6],ox (.store 2) [.t 4,.t 20],oq 5 .mov [.t 21]] [1,2,6,19,20,21] [2]) .ret) .skip))) (.seq (rgN [oq 22 (.load (some 20)) [.t 2],oq 23 (.callI F_coalition_newSolver) [.t 22],oq 7 .mov [.t 23]] [6,19,22,23] []) (.seq (rgN [oq 24 .mov [.t 7],oq 25 .mov [.t 1],oq 26 (.callI F__p_coalition_solver__start) [.t 24,.t 25],oq 8 (.alloc [iv 0,iv 0,iv 0,iv 0,iv 0,iv 0,iv 0,iv 0,iv 0,iv 0,iv 0,iv 0,iv 0]) [],ox (.store 13) [.t 8,.t 26]] [1,24,25,26] []) (.seq (rgN [oq 27 .mov [.t 7],oq 28 (.load (some 13)) [.t 8],oq 29 (.callI F__p_coalition_solver__best) [.t 27,.t 28],⟨some 30,.build [.list 0 .full [],iv 0] [(1,1)],[.t 29],none⟩,⟨some 9,.alloc [.list 0 .full [],iv 0],[],none⟩,ox (.store 2) [.t 9,.t 30]] [27,28,29,30] []) (.seq (rgN [oq 31 (.faddr 1) [.t 9],oq 32 (.load none) [.t 31],oq 10 .mov [.t 32]] [31,32] []) (.seq (.seq (rgN [oq 33 (.faddr 19) [.t 2],oq 34 (.load none) [.t 33],oq 35 (.len false) [.t 34],oq 36 .mov [.c (iv 0)]] [2,33] [2]) (.block 0 (.loop c_coalition_Best_l0))) c_coalition_Best_k1)))))))
def r_coalition_Best:List ResA:=[.cell 4 (some 2),.t 5]
theorem t_coalition_Best:transl Try.prog F_coalition_Best=some (bare c_coalition_Best,r_coalition_Best,79):=by kernel_rfl
def c_ref26_Best:ACode:=(.seq (rgN [oq 2 .box [.t 0],⟨some 4,.alloc [.list 0 .full [],iv 0],[],none⟩,oq 5 .mov [.c (iv 0)]] [0,5] []) (.seq (rgN [oq 8 (.load (some 20)) [.t 2],oq 9 (.call F_ref20_Check) [.t 8],oq 6 .mov [.t 9]] [8,9] []) (.seq (.seq (rgN [oq 10 .mov [.t 6],oq 11 (.bin .neq T_api_Errno (.tmp 10) (kc 0)) [.t 10,.c (iv 0)]] [10] []) (.cond (.t 11) (.seq (rgN [⟨some 12,.build [.list 0 .full [],iv 0] [],[],none⟩,oq 13 .mov [.t 6],ox (.store 2) [.t 4,.t 12],oq 5 .mov [.t 13]] [1,2,6,11,12,13] [2]) .ret) .skip)) (.seq (.seq (rgN [oq 14 .mov [.t 1],oq 15 (.bin .lss T_int (.tmp 14) (kc 0)) [.t 14,.c (iv 0)],oq 16 .mov [.t 15],⟨some 17,.mov,[.t 1],some (16,false)⟩,⟨some 18,.faddr 18,[.t 2],some (16,false)⟩,⟨some 19,.load none,[.t 18],some (16,false)⟩,⟨some 20,.len false,[.t 19],some (16,false)⟩,⟨some 21,.bin .shl T_int (kc 1) (.tmp 20),[.c (iv 1),.t 20],some (16,false)⟩,⟨some 22,.bin .geq T_int (.tmp 17) (.tmp 21),[.t 17,.t 21],some (16,false)⟩,oq 23 .pick [.t 16,.c (bv true),.t 22]] [6,11,14,15,16,17,18,19,20,21,22] []) (.cond (.t 23) (.seq (rgN [⟨some 24,.build [.list 0 .full [],iv 0] [],[],none⟩,ox (.store 2) [.t 4,.t 24],oq 5 .mov [.c (iv 4)]] [1,2,23,24] [2]) .ret) .skip)) (.seq (rgN [oq 25 (.load (some 20)) [.t 2],oq 26 .mov [.t 1],⟨some 27,.build [.list 0 .full [],iv 0] [],[],none⟩,oq 28 (.call F_ref26_search) [.t 25,.t 26,.c (iv 0),.c (.list 0 .full []),.c (iv 0),.t 27],⟨some 7,.alloc [.list 0 .full [],iv 0],[],none⟩,ox (.store 2) [.t 7,.t 28]] [1,2,23,25,26,27,28] [2]) (.seq (rgN [oq 29 (.faddr 0) [.t 7],oq 30 (.load none) [.t 29],oq 31 (.faddr 1) [.t 7],oq 32 (.load none) [.t 31],⟨some 33,.build [.list 0 .full [],iv 0] [(0,1),(1,1)],[.t 30,.t 32],none⟩,ox (.store 2) [.t 4,.t 33],oq 5 .mov [.c (iv 0)]] [7,29,30,31,32,33] [7]) .ret))))))
def r_ref26_Best:List ResA:=[.cell 4 (some 2),.t 5]
theorem t_ref26_Best:transl Try.prog F_ref26_Best=some (bare c_ref26_Best,r_ref26_Best,34):=by kernel_rfl
def c_law26_same_l0:ACode:=(.seq (.seq (rgN [oq 11 .mov [.t 5],oq 12 .mov [.t 0],oq 13 (.len false) [.t 12],oq 14 (.bin .lss T_int (.tmp 11) (.tmp 13)) [.t 11,.t 13]] [11,12,13] []) (.cond (.t 14) .skip (.exit 0))) (.seq (.block 1 (.seq (rgD [oq 17 .mov [.t 0],oq 18 .mov [.t 5],oq 19 (.iaddrS 1) [.t 17,.t 18],oq 20 (.load none) [.t 19],oq 21 .mov [.t 1],oq 22 .mov [.t 5],oq 23 (.iaddrS 1) [.t 21,.t 22],oq 24 (.load none) [.t 23],oq 25 (.bin .neq T_int (.tmp 20) (.tmp 24)) [.t 20,.t 24]] [14,17,18,19,20,21,22,23,24] []) (.cond (.t 25) (.seq (rgN [oq 4 .mov [.c (bv false)]] [0,1,5,25] []) .ret) .skip))) (rgN [oq 15 .mov [.t 5],oq 16 (.bin .add T_int (.tmp 15) (kc 1)) [.t 15,.c (iv 1)],oq 5 .mov [.t 16]] [25,15,16] [])))
def c_law26_same_k1:ACode:=(.seq (rgN [oq 4 .mov [.c (bv true)]] [0,1,5,14] []) .ret)
def c_law26_same:ACode:=(.seq (rgN [oq 4 .mov [.c (bv false)]] [4] []) (.seq (.seq (rgN [oq 6 .mov [.t 0],oq 7 (.len false) [.t 6],oq 8 .mov [.t 1],oq 9 (.len false) [.t 8],oq 10 (.bin .neq T_int (.tmp 7) (.tmp 9)) [.t 7,.t 9]] [6,7,8,9] []) (.cond (.t 10) (.seq (rgN [oq 4 .mov [.c (bv false)]] [0,1,10] []) .ret) .skip)) (.seq (.seq (rgN [oq 5 .mov [.c (iv 0)]] [10] []) (.block 0 (.loop c_law26_same_l0))) c_law26_same_k1)))
def r_law26_same:List ResA:=[.t 4]
theorem t_law26_same:transl Try.prog F_law26_same=some (bare c_law26_same,r_law26_same,26):=by kernel_rfl
def c_ref20_Check_l0:ACode:=(.seq (.seq (rgN [oq 12 .mov [.t 3],oq 13 (.bin .lss T_int (.tmp 12) (kc 6)) [.t 12,.c (iv 6)]] [12] []) (.cond (.t 13) .skip (.exit 0))) (.seq (.block 1 (.seq (rgD [oq 16 .mov [.t 3],oq 17 (.faddr 12) [.t 1],oq 18 (.iaddrA 6 1) [.t 17,.t 16],oq 19 (.load none) [.t 18],oq 20 (.bin .lss T_int (.tmp 19) (kc 0)) [.t 19,.c (iv 0)],oq 21 .mov [.t 20],⟨some 22,.mov,[.t 3],some (21,false)⟩,⟨some 23,.faddr 12,[.t 1],some (21,false)⟩,⟨some 24,.iaddrA 6 1,[.t 23,.t 22],some (21,false)⟩,⟨some 25,.load none,[.t 24],some (21,false)⟩,⟨some 26,.bin .gtr T_int (.tmp 25) (kc 4),[.t 25,.c (iv 4)],some (21,false)⟩,oq 27 .pick [.t 21,.c (bv true),.t 26],oq 28 .mov [.t 27],⟨some 29,.mov,[.t 3],some (28,false)⟩,⟨some 30,.faddr 6,[.t 1],some (28,false)⟩,⟨some 31,.iaddrA 6 1,[.t 30,.t 29],some (28,false)⟩,⟨some 32,.load none,[.t 31],some (28,false)⟩,⟨some 33,.bin .lss T_int (.tmp 32) (kc 0),[.t 32,.c (iv 0)],some (28,false)⟩,oq 34 .pick [.t 28,.c (bv true),.t 33],oq 35 .mov [.t 34],⟨some 36,.mov,[.t 3],some (35,false)⟩,⟨some 37,.faddr 6,[.t 1],some (35,false)⟩,⟨some 38,.iaddrA 6 1,[.t 37,.t 36],some (35,false)⟩,⟨some 39,.load none,[.t 38],some (35,false)⟩,⟨some 40,.mov,[.t 3],some (35,false)⟩,⟨some 41,.faddr 0,[.t 1],some (35,false)⟩,⟨some 42,.iaddrA 6 1,[.t 41,.t 40],some (35,false)⟩,⟨some 43,.load none,[.t 42],some (35,false)⟩,⟨some 44,.bin .gtr T_int (.tmp 39) (.tmp 43),[.t 39,.t 43],some (35,false)⟩,oq 45 .pick [.t 35,.c (bv true),.t 44],oq 46 .mov [.t 45],⟨some 47,.mov,[.t 3],some (46,false)⟩,⟨some 48,.faddr 12,[.t 1],some (46,false)⟩,⟨some 49,.iaddrA 6 1,[.t 48,.t 47],some (46,false)⟩,⟨some 50,.load none,[.t 49],some (46,false)⟩,⟨some 51,.bin .eql T_int (.tmp 50) (kc 0),[.t 50,.c (iv 0)],some (46,false)⟩,⟨some 52,.mov,[.t 51],some (46,false)⟩,⟨some 53,.mov,[.t 3],some (52,true)⟩,⟨some 54,.faddr 6,[.t 1],some (52,true)⟩,⟨some 55,.iaddrA 6 1,[.t 54,.t 53],some (52,true)⟩,⟨some 56,.load none,[.t 55],some (52,true)⟩,⟨some 57,.mov,[.t 3],some (52,true)⟩,⟨some 58,.faddr 0,[.t 1],some (52,true)⟩,⟨some 59,.iaddrA 6 1,[.t 58,.t 57],some (52,true)⟩,⟨some 60,.load none,[.t 59],some (52,true)⟩,⟨some 61,.bin .neq T_int (.tmp 56) (.tmp 60),[.t 56,.t 60],some (52,true)⟩,⟨some 62,.pick,[.t 52,.t 61,.c (bv false)],some (46,false)⟩,oq 63 .pick [.t 46,.c (bv true),.t 62]] [13,16,17,18,19,20,21,22,23,24,25,26,27,28,29,30,31,32,33,34,35,36,37,38,39,40,41,42,43,44,45,46,47,48,49,50,51,52,53,54,55,56,57,58,59,60,61,62] []) (.cond (.t 63) (.seq (rgN [oq 2 .mov [.c (iv 4)]] [1,3,63] [1]) .ret) .skip))) (rgN [oq 14 .mov [.t 3],oq 15 (.bin .add T_int (.tmp 14) (kc 1)) [.t 14,.c (iv 1)],oq 3 .mov [.t 15]] [63,14,15] [])))
def c_ref20_Check_l1:ACode:=(.seq (.seq (rgN [oq 74 .mov [.t 4],oq 75 (.faddr 18) [.t 1],oq 76 (.load none) [.t 75],oq 77 (.len false) [.t 76],oq 78 (.bin .lss T_int (.tmp 74) (.tmp 77)) [.t 74,.t 77]] [74,75,76,77] []) (.cond (.t 78) .skip (.exit 2))) (.seq (.block 3 (.seq (rgN [oq 81 (.faddr 18) [.t 1],oq 82 (.load none) [.t 81],oq 83 .mov [.t 4],oq 84 (.iaddrS 1) [.t 82,.t 83],oq 85 (.load none) [.t 84],oq 86 (.bin .lss T_int (.tmp 85) (kc 0)) [.t 85,.c (iv 0)],oq 87 .mov [.t 86],⟨some 88,.faddr 18,[.t 1],some (87,false)⟩,⟨some 89,.load none,[.t 88],some (87,false)⟩,⟨some 90,.mov,[.t 4],some (87,false)⟩,⟨some 91,.iaddrS 1,[.t 89,.t 90],some (87,false)⟩,⟨some 92,.load none,[.t 91],some (87,false)⟩,⟨some 93,.bin .gtr T_int (.tmp 92) (kc 4),[.t 92,.c (iv 4)],some (87,false)⟩,oq 94 .pick [.t 87,.c (bv true),.t 93]] [78,81,82,83,84,85,86,87,88,89,90,91,92,93] []) (.cond (.t 94) (.seq (rgN [oq 2 .mov [.c (iv 4)]] [1,4,94] [1]) .ret) .skip))) (rgN [oq 79 .mov [.t 4],oq 80 (.bin .add T_int (.tmp 79) (kc 1)) [.t 79,.c (iv 1)],oq 4 .mov [.t 80]] [94,79,80] [])))
def c_ref20_Check_l2:ACode:=(.seq (.seq (rgN [oq 143 .mov [.t 7],oq 144 .mov [.t 5],oq 145 (.bin .lss T_int (.tmp 143) (.tmp 144)) [.t 143,.t 144]] [143,144] []) (.cond (.t 145) .skip (.exit 6))) (.seq (.block 7 (.seq (rgD [oq 148 (.faddr 19) [.t 1],oq 149 (.load none) [.t 148],oq 150 .mov [.t 7],oq 151 (.iaddrS 8) [.t 149,.t 150],oq 152 (.faddr 0) [.t 151],oq 153 (.load none) [.t 152],oq 154 (.faddr 0) [.t 6],oq 155 (.load none) [.t 154],oq 156 (.bin .eql T_int (.tmp 153) (.tmp 155)) [.t 153,.t 155],oq 157 .mov [.t 156],⟨some 158,.faddr 19,[.t 1],some (157,true)⟩,⟨some 159,.load none,[.t 158],some (157,true)⟩,⟨some 160,.mov,[.t 7],some (157,true)⟩,⟨some 161,.iaddrS 8,[.t 159,.t 160],some (157,true)⟩,⟨some 162,.faddr 1,[.t 161],some (157,true)⟩,⟨some 163,.load (some 6),[.t 162],some (157,true)⟩,⟨some 164,.faddr 1,[.t 6],some (157,true)⟩,⟨some 165,.load (some 6),[.t 164],some (157,true)⟩,⟨some 166,.bin .eql T_api_Bundle (.tmp 163) (.tmp 165),[.t 163,.t 165],some (157,true)⟩,oq 167 .pick [.t 157,.t 166,.c (bv false)]] [145,148,149,150,151,152,153,154,155,156,157,158,159,160,161,162,163,164,165,166] []) (.cond (.t 167) (.seq (rgN [oq 2 .mov [.c (iv 7)]] [1,5,6,7,167] [1,6]) .ret) .skip))) (rgN [oq 146 .mov [.t 7],oq 147 (.bin .add T_int (.tmp 146) (kc 1)) [.t 146,.c (iv 1)],oq 7 .mov [.t 147]] [167,146,147] [])))
def c_ref20_Check_k3:ACode:=(rgN [oq 100 .mov [.t 5],oq 101 (.bin .add T_int (.tmp 100) (kc 1)) [.t 100,.c (iv 1)],oq 5 .mov [.t 101]] [6,7,145,100,101] [6])
def c_ref20_Check_l4:ACode:=(.seq (.seq (rgN [oq 95 .mov [.t 5],oq 96 (.faddr 19) [.t 1],oq 97 (.load none) [.t 96],oq 98 (.len false) [.t 97],oq 99 (.bin .lss T_int (.tmp 95) (.tmp 98)) [.t 95,.t 98]] [95,96,97,98] []) (.cond (.t 99) .skip (.exit 4))) (.seq (.block 5 (.seq (rgN [oq 102 (.faddr 19) [.t 1],oq 103 (.load none) [.t 102],oq 104 .mov [.t 5],oq 105 (.iaddrS 8) [.t 103,.t 104],oq 106 (.load (some 8)) [.t 105],oq 6 (.alloc [iv 0,iv 0,iv 0,iv 0,iv 0,iv 0,iv 0,iv 0]) [],ox (.store 8) [.t 6,.t 106]] [99,102,103,104,105,106] []) (.seq (.seq (rgN [oq 107 (.faddr 0) [.t 6],oq 108 (.load none) [.t 107],oq 109 (.bin .lss T_int (.tmp 108) (kc 0)) [.t 108,.c (iv 0)],oq 110 .mov [.t 109],⟨some 111,.faddr 0,[.t 6],some (110,false)⟩,⟨some 112,.load none,[.t 111],some (110,false)⟩,⟨some 113,.faddr 18,[.t 1],some (110,false)⟩,⟨some 114,.load none,[.t 113],some (110,false)⟩,⟨some 115,.len false,[.t 114],some (110,false)⟩,⟨some 116,.bin .geq T_int (.tmp 112) (.tmp 115),[.t 112,.t 115],some (110,false)⟩,oq 117 .pick [.t 110,.c (bv true),.t 116]] [107,108,109,110,111,112,113,114,115,116] []) (.cond (.t 117) (.seq (rgN [oq 2 .mov [.c (iv 6)]] [1,5,6,117] [1,6]) .ret) .skip)) (.seq (.seq (rgN [oq 118 (.faddr 7) [.t 6],oq 119 (.load none) [.t 118],oq 120 (.bin .lss T_int64 (.tmp 119) (kc 1)) [.t 119,.c (iv 1)],oq 121 .mov [.t 120],⟨some 122,.faddr 7,[.t 6],some (121,false)⟩,⟨some 123,.load none,[.t 122],some (121,false)⟩,⟨some 124,.bin .gtr T_int64 (.tmp 123) (kc 1000000),[.t 123,.c (iv 1000000)],some (121,false)⟩,oq 125 .pick [.t 121,.c (bv true),.t 124],oq 126 .mov [.t 125],⟨some 127,.faddr 1,[.t 6],some (126,false)⟩,⟨some 128,.load (some 6),[.t 127],some (126,false)⟩,⟨some 129,.call F_ref08_Valid,[.t 128],some (126,false)⟩,⟨some 130,.un .not,[.t 129],some (126,false)⟩,oq 131 .pick [.t 126,.c (bv true),.t 130],oq 132 .mov [.t 131],⟨some 133,.faddr 1,[.t 6],some (132,false)⟩,⟨some 134,.load (some 6),[.t 133],some (132,false)⟩,⟨some 135,.build [iv 0,iv 0,iv 0,iv 0,iv 0,iv 0] [],[],some (132,false)⟩,⟨some 136,.bin .eql T_api_Bundle (.tmp 134) (.tmp 135),[.t 134,.t 135],some (132,false)⟩,oq 137 .pick [.t 132,.c (bv true),.t 136]] [117,118,119,120,121,122,123,124,125,126,127,128,129,130,131,132,133,134,135,136] []) (.cond (.t 137) (.seq (rgN [oq 2 .mov [.c (iv 4)]] [1,5,6,137] [1,6]) .ret) .skip)) (.seq (.seq (rgN [oq 138 (.load (some 20)) [.t 1],oq 139 (.load (some 8)) [.t 6],oq 140 (.mkslice 8 1 [iv 0,iv 0,iv 0,iv 0,iv 0,iv 0,iv 0,iv 0] [0]) [.t 139],oq 141 (.call F_ref20_fits) [.t 138,.t 140],oq 142 (.un .not) [.t 141]] [137,138,139,140,141] []) (.cond (.t 142) (.seq (rgN [oq 2 .mov [.c (iv 14)]] [1,5,6,142] [1,6]) .ret) .skip)) (.seq (rgN [oq 7 .mov [.c (iv 0)]] [142] []) (.block 6 (.loop c_ref20_Check_l2)))))))) c_ref20_Check_k3))
def c_ref20_Check_k5:ACode:=(.seq (rgN [oq 2 .mov [.c (iv 0)]] [1,5,99] [1]) .ret)
def c_ref20_Check_k6:ACode:=(.seq (.seq (rgN [oq 5 .mov [.c (iv 0)]] [4,78] []) (.block 4 (.loop c_ref20_Check_l4))) c_ref20_Check_k5)
def c_ref20_Check_k7:ACode:=(.seq (.seq (rgN [oq 64 (.faddr 18) [.t 1],oq 65 (.load none) [.t 64],oq 66 (.len false) [.t 65],oq 67 (.bin .gtr T_int (.tmp 66) (kc 8)) [.t 66,.c (iv 8)],oq 68 .mov [.t 67],⟨some 69,.faddr 19,[.t 1],some (68,false)⟩,⟨some 70,.load none,[.t 69],some (68,false)⟩,⟨some 71,.len false,[.t 70],some (68,false)⟩,⟨some 72,.bin .gtr T_int (.tmp 71) (kc 160),[.t 71,.c (iv 160)],some (68,false)⟩,oq 73 .pick [.t 68,.c (bv true),.t 72]] [3,13,64,65,66,67,68,69,70,71,72] []) (.cond (.t 73) (.seq (rgN [oq 2 .mov [.c (iv 3)]] [1,73] [1]) .ret) .skip)) (.seq (.seq (rgN [oq 4 .mov [.c (iv 0)]] [73] []) (.block 2 (.loop c_ref20_Check_l1))) c_ref20_Check_k6))
def c_ref20_Check:ACode:=(.seq (rgN [oq 1 .box [.t 0],oq 2 .mov [.c (iv 0)]] [0,2] []) (.seq (.seq (rgN [oq 8 (.faddr 0) [.t 1],oq 9 (.load (some 6)) [.t 8],oq 10 (.call F_ref08_Valid) [.t 9],oq 11 (.un .not) [.t 10]] [8,9,10] []) (.cond (.t 11) (.seq (rgN [oq 2 .mov [.c (iv 4)]] [1,11] [1]) .ret) .skip)) (.seq (.seq (rgN [oq 3 .mov [.c (iv 0)]] [11] []) (.block 0 (.loop c_ref20_Check_l0))) c_ref20_Check_k7)))
def r_ref20_Check:List ResA:=[.t 2]
theorem t_ref20_Check:transl Try.prog F_ref20_Check=some (bare c_ref20_Check,r_ref20_Check,168):=by kernel_rfl
def c_coalition_Table_l0:ACode:=(.seq (rgN [oq 20 (.bin .lss T_int (.tmp 19) (.tmp 18)) [.t 19,.t 18]] [] []) (.seq (.cond (.t 20) .skip (.exit 0)) (.seq (.block 1 (.seq (rgN [oq 21 .mov [.t 19],oq 7 .mov [.t 21]] [20,21] []) (rgN [oq 22 .mov [.t 6],oq 23 .mov [.t 5],oq 24 .mov [.t 5],oq 25 .mov [.t 7],oq 26 (.callI F__p_coalition_solver__start) [.t 24,.t 25],oq 27 (.callI F__p_coalition_solver__best) [.t 23,.t 26],oq 28 (.mkslice 1 1 [iv 0] [0]) [.t 27],oq 29 (.append 1 8) [.t 22,.t 28],oq 6 .mov [.t 29]] [7,22,23,24,25,26,27,28,29] []))) (rgN [oq 30 (.bin .add T_int (.tmp 19) (kc 1)) [.t 19,.c (iv 1)],oq 19 .mov [.t 30]] [30] []))))
def c_coalition_Table_k1:ACode:=(.seq (rgN [oq 31 .mov [.t 6],oq 2 .mov [.t 31],oq 3 .mov [.c (iv 0)]] [5,6,18,19,20,31] []) .ret)
def c_coalition_Table:ACode:=(.seq (rgN [oq 1 .box [.t 0],oq 2 .mov [.c (.list 0 .full [])],oq 3 .mov [.c (iv 0)]] [0,2,3] []) (.seq (.seq (rgN [oq 8 (.load (some 20)) [.t 1],oq 9 (.call F_problem_Check) [.t 8],oq 4 .mov [.t 9]] [8,9] []) (.seq (rgN [oq 10 .mov [.t 4],oq 11 (.bin .neq T_api_Errno (.tmp 10) (kc 0)) [.t 10,.c (iv 0)]] [10] []) (.cond (.t 11) (.seq (rgN [oq 12 .mov [.t 4],oq 2 .mov [.c (.list 0 .full [])],oq 3 .mov [.t 12]] [1,4,11,12] [1]) .ret) .skip))) (.seq (rgN [oq 13 (.load (some 20)) [.t 1],oq 14 (.callI F_coalition_newSolver) [.t 13],oq 5 .mov [.t 14]] [4,11,13,14] []) (.seq (rgN [oq 6 .mov [.c (.list 0 .full [])]] [] []) (.seq (.seq (rgN [oq 15 (.faddr 18) [.t 1],oq 16 (.load none) [.t 15],oq 17 (.len false) [.t 16],oq 18 (.bin .shl T_int (kc 1) (.tmp 17)) [.c (iv 1),.t 17],oq 19 .mov [.c (iv 0)]] [1,15,16,17] [1]) (.block 0 (.loop c_coalition_Table_l0))) c_coalition_Table_k1)))))
def r_coalition_Table:List ResA:=[.t 2,.t 3]
theorem t_coalition_Table:transl Try.prog F_coalition_Table=some (bare c_coalition_Table,r_coalition_Table,32):=by kernel_rfl
def c_ref26_Table_l0:ACode:=(.seq (.seq (rgN [oq 14 .mov [.t 6],oq 15 (.faddr 18) [.t 1],oq 16 (.load none) [.t 15],oq 17 (.len false) [.t 16],oq 18 (.bin .shl T_int (kc 1) (.tmp 17)) [.c (iv 1),.t 17],oq 19 (.bin .lss T_int (.tmp 14) (.tmp 18)) [.t 14,.t 18]] [14,15,16,17,18] []) (.cond (.t 19) .skip (.exit 0))) (.seq (.block 1 (.seq (rgN [oq 23 (.load (some 20)) [.t 1],oq 24 .mov [.t 6],oq 25 (.call F_ref26_Worth) [.t 23,.t 24],oq 22 .mov [.t 25],oq 26 (.extract 0) [.t 22],oq 27 (.extract 1) [.t 22],oq 7 .mov [.t 26],oq 8 .mov [.t 27]] [19,23,24,25,22,26,27,8] []) (rgN [oq 28 .mov [.t 5],oq 29 .mov [.t 7],oq 30 (.mkslice 1 1 [iv 0] [0]) [.t 29],oq 31 (.append 1 8) [.t 28,.t 30],oq 5 .mov [.t 31]] [7,28,29,30,31] []))) (rgN [oq 20 .mov [.t 6],oq 21 (.bin .add T_int (.tmp 20) (kc 1)) [.t 20,.c (iv 1)],oq 6 .mov [.t 21]] [20,21] [])))
def c_ref26_Table_k1:ACode:=(.seq (rgN [oq 32 .mov [.t 5],oq 2 .mov [.t 32],oq 3 .mov [.c (iv 0)]] [1,5,6,19,32] [1]) .ret)
def c_ref26_Table:ACode:=(.seq (rgN [oq 1 .box [.t 0],oq 2 .mov [.c (.list 0 .full [])],oq 3 .mov [.c (iv 0)]] [0,2,3] []) (.seq (rgN [oq 9 (.load (some 20)) [.t 1],oq 10 (.call F_ref20_Check) [.t 9],oq 4 .mov [.t 10]] [9,10] []) (.seq (.seq (rgN [oq 11 .mov [.t 4],oq 12 (.bin .neq T_api_Errno (.tmp 11) (kc 0)) [.t 11,.c (iv 0)]] [11] []) (.cond (.t 12) (.seq (rgN [oq 13 .mov [.t 4],oq 2 .mov [.c (.list 0 .full [])],oq 3 .mov [.t 13]] [1,4,12,13] [1]) .ret) .skip)) (.seq (rgN [oq 5 .mov [.c (.list 0 .full [])]] [4,12] []) (.seq (.seq (rgN [oq 6 .mov [.c (iv 0)]] [] []) (.block 0 (.loop c_ref26_Table_l0))) c_ref26_Table_k1)))))
def r_ref26_Table:List ResA:=[.t 2,.t 3]
theorem t_ref26_Table:transl Try.prog F_ref26_Table=some (bare c_ref26_Table,r_ref26_Table,33):=by kernel_rfl
def c_problem_Without_l0:ACode:=(.seq (rgN [oq 22 (.bin .lss T_int (.tmp 21) (.tmp 20)) [.t 21,.t 20]] [] []) (.seq (.cond (.t 22) .skip (.exit 0)) (.seq (.block 1 (.seq (rgN [oq 23 (.iaddrS 8) [.t 19,.t 21],oq 24 (.load (some 8)) [.t 23],oq 7 (.alloc [iv 0,iv 0,iv 0,iv 0,iv 0,iv 0,iv 0,iv 0]) [],ox (.store 8) [.t 7,.t 24]] [22,23,24] []) (.seq (rgN [oq 25 .mov [.t 1],oq 26 (.faddr 0) [.t 7],oq 27 (.load none) [.t 26],oq 28 (.bin .shr T_int (.tmp 25) (.tmp 27)) [.t 25,.t 27],oq 29 (.bin .and T_int (.tmp 28) (kc 1)) [.t 28,.c (iv 1)],oq 30 (.bin .eql T_int (.tmp 29) (kc 0)) [.t 29,.c (iv 0)]] [25,26,27,28,29] []) (.cond (.t 30) (rgN [oq 31 (.faddr 19) [.t 5],oq 32 (.load none) [.t 31],oq 33 (.load (some 8)) [.t 7],oq 34 (.mkslice 8 1 [iv 0,iv 0,iv 0,iv 0,iv 0,iv 0,iv 0,iv 0] [0]) [.t 33],oq 35 (.append 8 64) [.t 32,.t 34],oq 36 (.faddr 19) [.t 5],ox (.store 1) [.t 36,.t 35]] [7,30,31,32,33,34,35,36] [7]) .skip)))) (rgN [oq 37 (.bin .add T_int (.tmp 21) (kc 1)) [.t 21,.c (iv 1)],oq 21 .mov [.t 37]] [7,30,37] [7]))))
def c_problem_Without_k1:ACode:=(.seq (rgN [oq 38 (.load (some 20)) [.t 5],ox (.store 20) [.t 4,.t 38]] [1,5,19,20,21,22,38] [5]) .ret)
def c_problem_Without:ACode:=(.seq (rgN [oq 2 .box [.t 0],⟨some 4,.alloc [iv 0,iv 0,iv 0,iv 0,iv 0,iv 0,iv 0,iv 0,iv 0,iv 0,iv 0,iv 0,iv 0,iv 0,iv 0,iv 0,iv 0,iv 0,.list 0 .full [],.list 0 .full []],[],none⟩] [0] []) (.seq (.seq (rgN [oq 8 (.load (some 20)) [.t 2],oq 9 (.call F_problem_Check) [.t 8],oq 10 (.bin .neq T_api_Errno (.tmp 9) (kc 0)) [.t 9,.c (iv 0)]] [8,9] []) (.cond (.t 10) (.seq (rgN [⟨some 11,.build [iv 0,iv 0,iv 0,iv 0,iv 0,iv 0,iv 0,iv 0,iv 0,iv 0,iv 0,iv 0,iv 0,iv 0,iv 0,iv 0,iv 0,iv 0,.list 0 .full [],.list 0 .full []] [],[],none⟩,ox (.store 20) [.t 4,.t 11]] [1,2,10,11] [2]) .ret) .skip)) (.seq (rgN [oq 12 (.load (some 20)) [.t 2],⟨some 5,.alloc [iv 0,iv 0,iv 0,iv 0,iv 0,iv 0,iv 0,iv 0,iv 0,iv 0,iv 0,iv 0,iv 0,iv 0,iv 0,iv 0,iv 0,iv 0,.list 0 .full [],.list 0 .full []],[],none⟩,ox (.store 20) [.t 5,.t 12]] [10,12] []) (.seq (rgN [oq 13 (.faddr 18) [.t 2],oq 14 (.load none) [.t 13],oq 15 (.call F_slices_Cloneasl_int_int_) [.t 14],oq 16 (.faddr 18) [.t 5],ox (.store 1) [.t 16,.t 15],oq 17 (.faddr 19) [.t 5],ox (.store 1) [.t 17,.c (.list 0 .full [])]] [13,14,15,16,17] []) (.seq (.seq (rgN [oq 18 (.faddr 19) [.t 2],oq 19 (.load none) [.t 18],oq 20 (.len false) [.t 19],oq 21 .mov [.c (iv 0)]] [2,18] [2]) (.block 0 (.loop c_problem_Without_l0))) c_problem_Without_k1)))))
def r_problem_Without:List ResA:=[.cell 4 (some 20)]
theorem t_problem_Without:transl Try.prog F_problem_Without=some (bare c_problem_Without,r_problem_Without,39):=by kernel_rfl
def c_problem_Feasible:ACode:=(.seq (rgN [oq 2 .box [.t 0],oq 4 .mov [.c (iv 0)]] [0,4] []) (.seq (.seq (rgN [oq 8 (.load (some 20)) [.t 2],oq 9 (.call F_problem_Check) [.t 8],oq 5 .mov [.t 9]] [8,9] []) (.seq (rgN [oq 10 .mov [.t 5],oq 11 (.bin .neq T_api_Errno (.tmp 10) (kc 0)) [.t 10,.c (iv 0)]] [10] []) (.cond (.t 11) (.seq (rgN [oq 12 .mov [.t 5],oq 4 .mov [.t 12]] [1,2,5,11,12] [2]) .ret) .skip))) (.seq (rgN [oq 14 (.load (some 20)) [.t 2],oq 15 .mov [.t 1],oq 16 (.call F_problem_picked) [.t 14,.t 15],oq 13 .mov [.t 16],oq 17 (.extract 0) [.t 13],oq 18 (.extract 1) [.t 13],oq 6 .mov [.t 17],oq 7 .mov [.t 18]] [1,5,11,14,15,16,13,17,18] []) (.seq (.block 0 (.seq (rgN [oq 20 .mov [.t 7],oq 21 (.un .not) [.t 20],oq 19 .mov [.t 21]] [7,20,21] []) (.cond (.t 19) (.seq (rgN [oq 4 .mov [.c (iv 4)]] [2,6,19] [2]) .ret) (.seq (rgN [oq 23 (.load (some 20)) [.t 2],⟨some 24,.build [iv 0,iv 0,iv 0,iv 0,iv 0,iv 0,iv 0,iv 0,iv 0,iv 0,iv 0,iv 0,iv 0,iv 0,iv 0,iv 0,iv 0,iv 0,.list 0 .full [],.list 0 .full []] [(0,20)],[.t 23],none⟩,oq 25 .mov [.t 6],oq 26 (.call F__problem_view__fits) [.t 24,.t 25],oq 27 (.un .not) [.t 26],oq 22 .mov [.t 27]] [2,6,19,23,24,25,26,27] [2]) (.cond (.t 22) (.seq (rgN [oq 4 .mov [.c (iv 14)]] [22] []) .ret) .skip))))) (.seq (rgN [oq 4 .mov [.c (iv 0)]] [22] []) .ret)))))
def r_problem_Feasible:List ResA:=[.t 4]
theorem t_problem_Feasible:transl Try.prog F_problem_Feasible=some (bare c_problem_Feasible,r_problem_Feasible,28):=by kernel_rfl
def c_problem_Value_l0:ACode:=(.seq (rgN [oq 26 (.bin .lss T_int (.tmp 25) (.tmp 24)) [.t 25,.t 24]] [] []) (.seq (.cond (.t 26) .skip (.exit 0)) (.seq (.block 1 (.seq (rgN [oq 27 (.iaddrS 8) [.t 23,.t 25],oq 28 (.load (some 8)) [.t 27],oq 9 (.alloc [iv 0,iv 0,iv 0,iv 0,iv 0,iv 0,iv 0,iv 0]) [],ox (.store 8) [.t 9,.t 28]] [26,27,28] []) (rgN [oq 29 .mov [.t 7],oq 30 (.faddr 7) [.t 9],oq 31 (.load none) [.t 30],oq 32 (.bin .add T_int64 (.tmp 29) (.tmp 31)) [.t 29,.t 31],oq 7 .mov [.t 32]] [9,29,30,31,32] [9]))) (rgN [oq 33 (.bin .add T_int (.tmp 25) (kc 1)) [.t 25,.c (iv 1)],oq 25 .mov [.t 33]] [33] []))))
def c_problem_Value_k1:ACode:=(.seq (rgN [oq 34 .mov [.t 7],oq 4 .mov [.t 34]] [7,23,24,25,26,34] []) .ret)
def c_problem_Value:ACode:=(.seq (rgN [oq 2 .box [.t 0],oq 4 .mov [.c (iv 0)]] [0,4] []) (.seq (rgN [oq 11 (.load (some 20)) [.t 2],oq 12 .mov [.t 1],oq 13 (.call F_problem_picked) [.t 11,.t 12],oq 10 .mov [.t 13],oq 14 (.extract 0) [.t 10],oq 15 (.extract 1) [.t 10],oq 5 .mov [.t 14],oq 6 .mov [.t 15]] [1,11,12,13,10,14,15] []) (.seq (.seq (rgN [oq 16 .mov [.t 6],oq 17 (.un .not) [.t 16],oq 18 .mov [.t 17],⟨some 19,.load (some 20),[.t 2],some (18,false)⟩,⟨some 20,.call F_problem_Check,[.t 19],some (18,false)⟩,⟨some 21,.bin .neq T_api_Errno (.tmp 20) (kc 0),[.t 20,.c (iv 0)],some (18,false)⟩,oq 22 .pick [.t 18,.c (bv true),.t 21]] [2,6,16,17,18,19,20,21] [2]) (.cond (.t 22) (.seq (rgN [oq 4 .mov [.c (iv 0)]] [5,22] []) .ret) .skip)) (.seq (rgN [oq 7 .mov [.c (iv 0)]] [22] []) (.seq (.seq (rgN [oq 23 .mov [.t 5],oq 24 (.len false) [.t 23],oq 25 .mov [.c (iv 0)]] [5] []) (.block 0 (.loop c_problem_Value_l0))) c_problem_Value_k1)))))
def r_problem_Value:List ResA:=[.t 4]
theorem t_problem_Value:transl Try.prog F_problem_Value=some (bare c_problem_Value,r_problem_Value,35):=by kernel_rfl
def c_law26_example:ACode:=(.seq (rgN [⟨some 0,.alloc [iv 0,iv 0,iv 0,iv 0,iv 0,iv 0,iv 0,iv 0,iv 0,iv 0,iv 0,iv 0,iv 0,iv 0,iv 0,iv 0,iv 0,iv 0,.list 0 .full [],.list 0 .full []],[],none⟩] [] []) (.seq (rgN [oq 1 (.build [iv 0,iv 0,iv 0,iv 0,iv 0,iv 0] [(0,1),(1,1)]) [.c (iv 1),.c (iv 1)],oq 2 (.build [iv 0,iv 0,iv 0,iv 0,iv 0,iv 0] [(0,1),(1,1)]) [.c (iv 1),.c (iv 1)],oq 3 (.mkslice 1 3 [iv 0] [0,1,2]) [.c (iv 0),.c (iv 0),.c (iv 0)],oq 4 (.build [iv 0,iv 0,iv 0,iv 0,iv 0,iv 0] [(0,1),(1,1)]) [.c (iv 1),.c (iv 1)],oq 5 (.build [iv 0,iv 0,iv 0,iv 0,iv 0,iv 0,iv 0,iv 0] [(0,1),(1,6),(7,1)]) [.c (iv 0),.t 4,.c (iv 10)],oq 6 (.build [iv 0,iv 0,iv 0,iv 0,iv 0,iv 0] [(0,1)]) [.c (iv 1)],oq 7 (.build [iv 0,iv 0,iv 0,iv 0,iv 0,iv 0,iv 0,iv 0] [(0,1),(1,6),(7,1)]) [.c (iv 1),.t 6,.c (iv 6)],oq 8 (.build [iv 0,iv 0,iv 0,iv 0,iv 0,iv 0] [(0,1),(1,1)]) [.c (iv 0),.c (iv 1)],oq 9 (.build [iv 0,iv 0,iv 0,iv 0,iv 0,iv 0,iv 0,iv 0] [(0,1),(1,6),(7,1)]) [.c (iv 2),.t 8,.c (iv 6)],oq 10 (.mkslice 8 3 [iv 0,iv 0,iv 0,iv 0,iv 0,iv 0,iv 0,iv 0] [0,1,2]) [.t 5,.t 7,.t 9],⟨some 11,.build [iv 0,iv 0,iv 0,iv 0,iv 0,iv 0,iv 0,iv 0,iv 0,iv 0,iv 0,iv 0,iv 0,iv 0,iv 0,iv 0,iv 0,iv 0,.list 0 .full [],.list 0 .full []] [(0,6),(6,6),(18,1),(19,1)],[.t 1,.t 2,.t 3,.t 10],none⟩,ox (.store 20) [.t 0,.t 11]] [1,2,3,4,5,6,7,8,9,10,11] []) .ret))
def r_law26_example:List ResA:=[.cell 0 (some 20)]
theorem t_law26_example:transl Try.prog F_law26_example=some (bare c_law26_example,r_law26_example,12):=by kernel_rfl
def c_coalition_fault:ACode:=(.seq (rgN [oq 2 .box [.t 0],oq 4 .mov [.c (iv 0)]] [0,4] []) (.seq (.seq (rgN [oq 6 (.load (some 20)) [.t 2],oq 7 (.call F_problem_Check) [.t 6],oq 5 .mov [.t 7]] [6,7] []) (.seq (rgN [oq 8 .mov [.t 5],oq 9 (.bin .neq T_api_Errno (.tmp 8) (kc 0)) [.t 8,.c (iv 0)]] [8] []) (.cond (.t 9) (.seq (rgN [oq 10 .mov [.t 5],oq 4 .mov [.t 10]] [1,2,5,9,10] [2]) .ret) .skip))) (.seq (.seq (rgN [oq 11 .mov [.t 1],oq 12 (.bin .lss T_int (.tmp 11) (kc 0)) [.t 11,.c (iv 0)],oq 13 .mov [.t 12],⟨some 14,.mov,[.t 1],some (13,false)⟩,⟨some 15,.faddr 18,[.t 2],some (13,false)⟩,⟨some 16,.load none,[.t 15],some (13,false)⟩,⟨some 17,.len false,[.t 16],some (13,false)⟩,⟨some 18,.bin .shl T_int (kc 1) (.tmp 17),[.c (iv 1),.t 17],some (13,false)⟩,⟨some 19,.bin .geq T_int (.tmp 14) (.tmp 18),[.t 14,.t 18],some (13,false)⟩,oq 20 .pick [.t 13,.c (bv true),.t 19]] [1,2,5,9,11,12,13,14,15,16,17,18,19] [2]) (.cond (.t 20) (.seq (rgN [oq 4 .mov [.c (iv 4)]] [20] []) .ret) .skip)) (.seq (rgN [oq 4 .mov [.c (iv 0)]] [20] []) .ret))))
def r_coalition_fault:List ResA:=[.t 4]
theorem t_coalition_fault:transl Try.prog F_coalition_fault=some (bare c_coalition_fault,r_coalition_fault,21):=by kernel_rfl
def c_coalition_newSolver_l0:ACode:=(.seq (rgN [oq 14 (.bin .lss T_int (.tmp 13) (.tmp 12)) [.t 13,.t 12]] [] []) (.seq (.cond (.t 14) .skip (.exit 0)) (.seq (.block 1 (.seq (rgN [oq 15 (.iaddrS 8) [.t 11,.t 13],oq 16 (.load (some 8)) [.t 15],oq 5 (.alloc [iv 0,iv 0,iv 0,iv 0,iv 0,iv 0,iv 0,iv 0]) [],ox (.store 8) [.t 5,.t 16]] [14,15,16] []) (rgD [ox (.start [17,18,19,20,21,22,23,24,25,26,27,28,29,30,31]) [],oq 17 .mov [.t 3],oq 18 (.faddr 0) [.t 5],oq 19 (.load none) [.t 18],oq 20 .mov [.t 3],oq 21 (.faddr 0) [.t 5],oq 22 (.load none) [.t 21],oq 23 .nilChk [.t 20],oq 24 (.faddr 20) [.t 23],oq 25 (.iaddrA 8 1) [.t 24,.t 22],oq 26 (.load none) [.t 25],oq 27 (.load (some 8)) [.t 5],oq 28 (.mkslice 8 1 [iv 0,iv 0,iv 0,iv 0,iv 0,iv 0,iv 0,iv 0] [0]) [.t 27],oq 30 .nilChk [.t 17],oq 31 (.faddr 20) [.t 30],oq 29 (.append 8 64) [.t 26,.t 28],oq 17 (.chk (.mov)) [.t 3],oq 18 (.chk (.faddr 0)) [.t 5],oq 19 (.chk (.load none)) [.t 18],oq 30 (.chk (.nilChk)) [.t 17],oq 31 (.chk (.faddr 20)) [.t 30],oq 32 (.iaddrA 8 1) [.t 31,.t 19],ox (.store 1) [.t 32,.t 29]] [5,17,18,19,20,21,22,23,24,25,26,27,28,30,31,29,32] [5]))) (rgN [oq 33 (.bin .add T_int (.tmp 13) (kc 1)) [.t 13,.c (iv 1)],oq 13 .mov [.t 33]] [33] []))))
def c_coalition_newSolver_k1:ACode:=(.seq (rgN [oq 34 .mov [.t 3],oq 2 .mov [.t 34]] [3,11,12,13,14,34] []) .ret)
def c_coalition_newSolver:ACode:=(.seq (rgN [oq 1 .box [.t 0],oq 2 .mov [.c (.val (.pointer none))]] [0,2] []) (.seq (rgN [oq 6 (.load (some 20)) [.t 1],oq 7 .mkmap [],⟨some 8,.build [iv 0,iv 0,iv 0,iv 0,iv 0,iv 0,iv 0,iv 0,iv 0,iv 0,iv 0,iv 0,iv 0,iv 0,iv 0,iv 0,iv 0,iv 0,.list 0 .full [],.list 0 .full [],.list 0 .full [],.list 0 .full [],.list 0 .full [],.list 0 .full [],.list 0 .full [],.list 0 .full [],.list 0 .full [],.list 0 .full [],.val (.map none)] [(0,20),(28,1)],[.t 6,.t 7],none⟩,oq 9 .box [.t 8],oq 3 .mov [.t 9]] [6,7,8,9] []) (.seq (.seq (rgN [oq 10 (.faddr 19) [.t 1],oq 11 (.load none) [.t 10],oq 12 (.len false) [.t 11],oq 13 .mov [.c (iv 0)]] [1,10] [1]) (.block 0 (.loop c_coalition_newSolver_l0))) c_coalition_newSolver_k1)))
def r_coalition_newSolver:List ResA:=[.t 2]
theorem t_coalition_newSolver:transl Try.prog F_coalition_newSolver=some (bare c_coalition_newSolver,r_coalition_newSolver,35):=by kernel_rfl
def c__p_coalition_solver__best_l0:ACode:=(.seq (.seq (rgN [oq 28 (.faddr 0) [.t 3],oq 29 (.load none) [.t 28],oq 30 .mov [.t 7],oq 31 (.bin .shr T_int (.tmp 29) (.tmp 30)) [.t 29,.t 30],oq 32 (.bin .and T_int (.tmp 31) (kc 1)) [.t 31,.c (iv 1)],oq 33 (.bin .eql T_int (.tmp 32) (kc 0)) [.t 32,.c (iv 0)]] [28,29,30,31,32] []) (.cond (.t 33) .skip (.exit 0))) (.block 1 (rgN [oq 34 .mov [.t 7],oq 35 (.bin .add T_int (.tmp 34) (kc 1)) [.t 34,.c (iv 1)],oq 7 .mov [.t 35]] [33,34,35] [])))
def c__p_coalition_solver__best_l1:ACode:=(.seq (rgN [oq 54 (.bin .lss T_int (.tmp 53) (.tmp 52)) [.t 53,.t 52]] [] []) (.seq (.cond (.t 54) .skip (.exit 2)) (.seq (.block 3 (.seq (rgN [oq 55 (.iaddrS 8) [.t 51,.t 53],oq 56 (.load (some 8)) [.t 55],oq 11 (.alloc [iv 0,iv 0,iv 0,iv 0,iv 0,iv 0,iv 0,iv 0]) [],ox (.store 8) [.t 11,.t 56]] [54,55,56] []) (.seq (rgN [oq 58 .mov [.t 0],oq 59 (.load (some 13)) [.t 3],oq 60 (.load (some 8)) [.t 11],oq 61 (.callI F__p_coalition_solver__after) [.t 58,.t 59,.t 60],oq 57 .mov [.t 61],oq 62 (.extract 0) [.t 57],oq 63 (.extract 1) [.t 57],oq 12 (.alloc [iv 0,iv 0,iv 0,iv 0,iv 0,iv 0,iv 0,iv 0,iv 0,iv 0,iv 0,iv 0,iv 0]) [],ox (.store 13) [.t 12,.t 62],oq 13 .mov [.t 63]] [58,59,60,61,57,62,63] []) (.seq (rgN [oq 64 .mov [.t 13]] [13] []) (.cond (.t 64) (rgD [ox (.start [65,66,67,68,69,70,71]) [],oq 65 .mov [.t 9],oq 66 (.faddr 7) [.t 11],oq 67 (.load none) [.t 66],oq 68 .mov [.t 0],oq 69 (.load (some 13)) [.t 12],oq 70 (.callM F__p_coalition_solver__best [65,66,67,68,69,70,71]) [.t 68,.t 69],oq 65 (.chk (.mov)) [.t 9],oq 66 (.chk (.faddr 7)) [.t 11],oq 67 (.chk (.load none)) [.t 66],oq 71 (.bin .add T_int64 (.tmp 67) (.tmp 70)) [.t 67,.t 70],⟨some 72,.mm .max #[T_int64,T_int64] T_int64,[.t 65,.t 71],none⟩,oq 9 .mov [.t 72]] [11,12,64,65,66,67,68,69,70,71,72] [11,12]) .skip))))) (rgN [oq 73 (.bin .add T_int (.tmp 53) (kc 1)) [.t 53,.c (iv 1)],oq 53 .mov [.t 73]] [11,12,64,73] [11,12]))))
def c__p_coalition_solver__best_k2:ACode:=(.seq (rgD [oq 74 .mov [.t 0],oq 75 .nilChk [.t 74],oq 76 (.faddr 28) [.t 75],oq 77 (.load none) [.t 76],oq 78 (.load (some 13)) [.t 3],oq 79 .mov [.t 9],ox (.mapset T_mapacoalition_situation_int64) [.t 77,.t 78,.t 79]] [0,3,51,52,53,54,74,75,76,77,78,79] [3]) (.seq (rgN [oq 80 .mov [.t 9],oq 4 .mov [.t 80]] [9,80] []) .ret))
def c__p_coalition_solver__best_k3:ACode:=(.seq (rgN [oq 36 (.load (some 13)) [.t 3],oq 8 (.alloc [iv 0,iv 0,iv 0,iv 0,iv 0,iv 0,iv 0,iv 0,iv 0,iv 0,iv 0,iv 0,iv 0]) [],ox (.store 13) [.t 8,.t 36]] [33,36] []) (.seq (rgD [oq 37 (.faddr 0) [.t 8],oq 38 (.load none) [.t 37],oq 39 .mov [.t 7],oq 40 (.bin .shl T_int (kc 1) (.tmp 39)) [.c (iv 1),.t 39],oq 41 (.bin .andNot T_int (.tmp 38) (.tmp 40)) [.t 38,.t 40],oq 42 (.faddr 0) [.t 8],ox (.store 1) [.t 42,.t 41]] [37,38,39,40,41,42] []) (.seq (rgN [oq 43 .mov [.t 0],oq 44 (.load (some 13)) [.t 8],oq 45 (.callI F__p_coalition_solver__best) [.t 43,.t 44],oq 9 .mov [.t 45]] [8,43,44,45] [8]) (.seq (.seq (rgN [oq 46 .mov [.t 0],oq 47 .mov [.t 7],oq 48 .nilChk [.t 46],oq 49 (.faddr 20) [.t 48],oq 50 (.iaddrA 8 1) [.t 49,.t 47],oq 51 (.load none) [.t 50],oq 52 (.len false) [.t 51],oq 53 .mov [.c (iv 0)]] [7,46,47,48,49,50] []) (.block 2 (.loop c__p_coalition_solver__best_l1))) c__p_coalition_solver__best_k2))))
def c__p_coalition_solver__best:ACode:=(.seq (rgN [oq 3 .box [.t 1],oq 4 .mov [.c (iv 0)]] [1,4] []) (.seq (.seq (rgN [oq 14 (.faddr 0) [.t 3],oq 15 (.load none) [.t 14],oq 16 (.bin .eql T_int (.tmp 15) (kc 0)) [.t 15,.c (iv 0)]] [14,15] []) (.cond (.t 16) (.seq (rgN [oq 4 .mov [.c (iv 0)]] [0,3,16] [3]) .ret) .skip)) (.seq (.seq (rgD [oq 18 .mov [.t 0],oq 19 .nilChk [.t 18],oq 20 (.faddr 28) [.t 19],oq 21 (.load none) [.t 20],oq 22 (.load (some 13)) [.t 3],oq 23 (.lookup T_mapacoalition_situation_int64 true) [.t 21,.t 22],oq 17 .mov [.t 23],oq 24 (.extract 0) [.t 17],oq 25 (.extract 1) [.t 17],oq 5 .mov [.t 24],oq 6 .mov [.t 25]] [16,18,19,20,21,22,23,17,24,25] []) (.seq (rgN [oq 26 .mov [.t 6]] [6] []) (.cond (.t 26) (.seq (rgN [oq 27 .mov [.t 5],oq 4 .mov [.t 27]] [0,3,5,26,27] [3]) .ret) .skip))) (.seq (rgN [oq 7 .mov [.c (iv 0)]] [5,26] []) (.seq (.block 0 (.loop c__p_coalition_solver__best_l0)) c__p_coalition_solver__best_k3)))))
def r__p_coalition_solver__best:List ResA:=[.t 4]
theorem t__p_coalition_solver__best:transl Try.prog F__p_coalition_solver__best=some (bare c__p_coalition_solver__best,r__p_coalition_solver__best,81):=by kernel_rfl
def c__p_coalition_solver__start:ACode:=(.seq (rgN [oq 4 (.alloc [iv 0,iv 0,iv 0,iv 0,iv 0,iv 0,iv 0,iv 0,iv 0,iv 0,iv 0,iv 0,iv 0]) []] [] []) (.seq (rgD [oq 5 .mov [.t 1],oq 6 .mov [.t 0],oq 7 .nilChk [.t 6],oq 8 (.faddr 0) [.t 7],oq 9 (.faddr 0) [.t 8],oq 10 (.load (some 6)) [.t 9],oq 11 .mov [.t 0],oq 12 .nilChk [.t 11],oq 13 (.faddr 0) [.t 12],oq 14 (.faddr 6) [.t 13],oq 15 (.load (some 6)) [.t 14],oq 16 (.build [iv 0,iv 0,iv 0,iv 0,iv 0,iv 0,iv 0,iv 0,iv 0,iv 0,iv 0,iv 0,iv 0] [(0,1),(1,6),(7,6)]) [.t 5,.t 10,.t 15],ox (.store 13) [.t 4,.t 16]] [0,1,5,6,7,8,9,10,11,12,13,14,15,16] []) .ret))
def r__p_coalition_solver__start:List ResA:=[.cell 4 (some 13)]
theorem t__p_coalition_solver__start:transl Try.prog F__p_coalition_solver__start=some (bare c__p_coalition_solver__start,r__p_coalition_solver__start,17):=by kernel_rfl
def c__p_coalition_solver__after:ACode:=(.seq (rgN [oq 4 .box [.t 1],oq 5 .box [.t 2],oq 6 (.alloc [iv 0,iv 0,iv 0,iv 0,iv 0,iv 0,iv 0,iv 0,iv 0,iv 0,iv 0,iv 0,iv 0]) [],oq 7 .mov [.c (bv false)]] [1,2,7] []) (.seq (rgN [oq 9 .mov [.t 0],oq 10 (.load (some 8)) [.t 5],oq 11 (.callI F__p_coalition_solver__outside) [.t 9,.t 10],oq 8 (.alloc [iv 0,iv 0,iv 0,iv 0,iv 0,iv 0]) [],ox (.store 6) [.t 8,.t 11]] [0,9,10,11] []) (.seq (.seq (rgN [oq 12 (.faddr 1) [.t 5],oq 13 (.load (some 6)) [.t 12],oq 14 (.faddr 1) [.t 4],oq 15 (.load (some 6)) [.t 14],oq 16 (.call F_bundle_Within) [.t 13,.t 15],oq 17 (.un .not) [.t 16],oq 18 .mov [.t 17],⟨some 19,.load (some 6),[.t 8],some (18,false)⟩,⟨some 20,.faddr 7,[.t 4],some (18,false)⟩,⟨some 21,.load (some 6),[.t 20],some (18,false)⟩,⟨some 22,.call F_bundle_Within,[.t 19,.t 21],some (18,false)⟩,⟨some 23,.un .not,[.t 22],some (18,false)⟩,oq 24 .pick [.t 18,.c (bv true),.t 23]] [12,13,14,15,16,17,18,19,20,21,22,23] []) (.cond (.t 24) (.seq (rgN [oq 25 (.build [iv 0,iv 0,iv 0,iv 0,iv 0,iv 0,iv 0,iv 0,iv 0,iv 0,iv 0,iv 0,iv 0] []) [],ox (.store 13) [.t 6,.t 25],oq 7 .mov [.c (bv false)]] [4,5,8,24,25] [4,5,8]) .ret) .skip)) (.seq (rgD [oq 26 (.faddr 0) [.t 4],oq 27 (.load none) [.t 26],oq 28 (.faddr 0) [.t 5],oq 29 (.load none) [.t 28],oq 30 (.bin .shl T_int (kc 1) (.tmp 29)) [.c (iv 1),.t 29],oq 31 (.bin .andNot T_int (.tmp 27) (.tmp 30)) [.t 27,.t 30],oq 32 (.faddr 1) [.t 4],oq 33 (.load (some 6)) [.t 32],oq 34 (.faddr 1) [.t 5],oq 35 (.load (some 6)) [.t 34],oq 36 (.call F_bundle_Sub) [.t 33,.t 35],oq 37 (.faddr 7) [.t 4],oq 38 (.load (some 6)) [.t 37],oq 39 (.load (some 6)) [.t 8],oq 40 (.call F_bundle_Sub) [.t 38,.t 39],oq 41 (.build [iv 0,iv 0,iv 0,iv 0,iv 0,iv 0,iv 0,iv 0,iv 0,iv 0,iv 0,iv 0,iv 0] [(0,1),(1,6),(7,6)]) [.t 31,.t 36,.t 40],ox (.store 13) [.t 6,.t 41],oq 7 .mov [.c (bv true)]] [4,5,8,24,26,27,28,29,30,31,32,33,34,35,36,37,38,39,40,41] [4,5,8]) .ret))))
def r__p_coalition_solver__after:List ResA:=[.cell 6 (some 13),.t 7]
theorem t__p_coalition_solver__after:transl Try.prog F__p_coalition_solver__after=some (bare c__p_coalition_solver__after,r__p_coalition_solver__after,42):=by kernel_rfl
def c_ref26_search:ACode:=(.seq (rgN [oq 6 .box [.t 0],oq 11 .box [.t 5],⟨some 12,.alloc [.list 0 .full [],iv 0],[],none⟩] [0,5] []) (.seq (.seq (rgN [oq 15 .mov [.t 2],oq 16 (.faddr 19) [.t 6],oq 17 (.load none) [.t 16],oq 18 (.len false) [.t 17],oq 19 (.bin .eql T_int (.tmp 15) (.tmp 18)) [.t 15,.t 18]] [15,16,17,18] []) (.cond (.t 19) (.seq (.seq (rgN [oq 20 .mov [.t 4],oq 21 (.faddr 1) [.t 11],oq 22 (.load none) [.t 21],oq 23 (.bin .gtr T_int64 (.tmp 20) (.tmp 22)) [.t 20,.t 22]] [1,2,6,19,20,21,22] [6]) (.cond (.t 23) (.seq (rgN [oq 24 (.mkslice 1 0 [iv 0] []) [],oq 25 .mov [.t 3],oq 26 (.append 1 8) [.t 24,.t 25],oq 27 .mov [.t 4],⟨some 28,.build [.list 0 .full [],iv 0] [(0,1),(1,1)],[.t 26,.t 27],none⟩,ox (.store 2) [.t 12,.t 28]] [3,4,11,23,24,25,26,27,28] [11]) .ret) .skip)) (.seq (rgN [oq 29 (.load (some 2)) [.t 11],ox (.store 2) [.t 12,.t 29]] [3,4,11,23,29] [11]) .ret)) .skip)) (.seq (rgN [oq 30 (.faddr 19) [.t 6],oq 31 (.load none) [.t 30],oq 32 .mov [.t 2],oq 33 (.iaddrS 8) [.t 31,.t 32],oq 34 (.load (some 8)) [.t 33],oq 13 (.alloc [iv 0,iv 0,iv 0,iv 0,iv 0,iv 0,iv 0,iv 0]) [],ox (.store 8) [.t 13,.t 34]] [19,30,31,32,33,34] []) (.seq (.seq (rgN [oq 35 .mov [.t 1],oq 36 (.faddr 0) [.t 13],oq 37 (.load none) [.t 36],oq 38 (.conv T_int T_uint) [.t 37],oq 39 (.bin .shr T_int (.tmp 35) (.tmp 38)) [.t 35,.t 38],oq 40 (.bin .and T_int (.tmp 39) (kc 1)) [.t 39,.c (iv 1)],oq 41 (.bin .eql T_int (.tmp 40) (kc 1)) [.t 40,.c (iv 1)]] [35,36,37,38,39,40] []) (.cond (.t 41) (.seq (rgN [oq 42 (.mkslice 1 0 [iv 0] []) [],oq 43 .mov [.t 3],oq 44 (.append 1 8) [.t 42,.t 43],oq 45 .mov [.t 2],oq 46 (.mkslice 1 1 [iv 0] [0]) [.t 45],oq 47 (.append 1 8) [.t 44,.t 46],oq 14 .mov [.t 47]] [41,42,43,44,45,46,47] []) (.seq (rgN [oq 48 (.load (some 20)) [.t 6],oq 49 .mov [.t 14],oq 50 (.call F_ref20_Feasible) [.t 48,.t 49],oq 51 (.bin .eql T_api_Errno (.tmp 50) (kc 0)) [.t 50,.c (iv 0)]] [48,49,50] []) (.cond (.t 51) (rgN [oq 52 (.load (some 20)) [.t 6],oq 53 .mov [.t 1],oq 54 .mov [.t 2],oq 55 (.bin .add T_int (.tmp 54) (kc 1)) [.t 54,.c (iv 1)],oq 56 .mov [.t 14],oq 57 .mov [.t 4],oq 58 (.faddr 7) [.t 13],oq 59 (.load none) [.t 58],oq 60 (.bin .add T_int64 (.tmp 57) (.tmp 59)) [.t 57,.t 59],oq 61 (.load (some 2)) [.t 11],oq 62 (.call F_ref26_search) [.t 52,.t 53,.t 55,.t 56,.t 60,.t 61],ox (.store 2) [.t 11,.t 62]] [13,14,51,52,53,54,55,56,57,58,59,60,61,62] [13]) .skip))) .skip)) (.seq (rgN [oq 63 (.load (some 20)) [.t 6],oq 64 .mov [.t 1],oq 65 .mov [.t 2],oq 66 (.bin .add T_int (.tmp 65) (kc 1)) [.t 65,.c (iv 1)],oq 67 .mov [.t 3],oq 68 .mov [.t 4],oq 69 (.load (some 2)) [.t 11],oq 70 (.call F_ref26_search) [.t 63,.t 64,.t 66,.t 67,.t 68,.t 69],ox (.store 2) [.t 12,.t 70]] [1,2,3,4,6,11,13,14,51,41,63,64,65,66,67,68,69,70] [6,11,13]) .ret)))))
def r_ref26_search:List ResA:=[.cell 12 (some 2)]
theorem t_ref26_search:transl Try.prog F_ref26_search=some (bare c_ref26_search,r_ref26_search,71):=by kernel_rfl
def c_ref08_Valid_l0:ACode:=(.seq (.seq (rgN [oq 4 .mov [.t 3],oq 5 (.bin .lss T_int (.tmp 4) (kc 6)) [.t 4,.c (iv 6)]] [4] []) (.cond (.t 5) .skip (.exit 0))) (.seq (.block 1 (.seq (rgN [oq 8 .mov [.t 3],oq 9 (.iaddrA 6 1) [.t 1,.t 8],oq 10 (.load none) [.t 9],oq 11 (.bin .lss T_int (.tmp 10) (kc 0)) [.t 10,.c (iv 0)],oq 12 .mov [.t 11],⟨some 13,.mov,[.t 3],some (12,false)⟩,⟨some 14,.iaddrA 6 1,[.t 1,.t 13],some (12,false)⟩,⟨some 15,.load none,[.t 14],some (12,false)⟩,⟨some 16,.bin .gtr T_int (.tmp 15) (kc 4),[.t 15,.c (iv 4)],some (12,false)⟩,oq 17 .pick [.t 12,.c (bv true),.t 16]] [5,8,9,10,11,12,13,14,15,16] []) (.cond (.t 17) (.seq (rgN [oq 2 .mov [.c (bv false)]] [1,3,17] [1]) .ret) .skip))) (rgN [oq 6 .mov [.t 3],oq 7 (.bin .add T_int (.tmp 6) (kc 1)) [.t 6,.c (iv 1)],oq 3 .mov [.t 7]] [17,6,7] [])))
def c_ref08_Valid_k1:ACode:=(.seq (rgN [oq 2 .mov [.c (bv true)]] [1,3,5] [1]) .ret)
def c_ref08_Valid:ACode:=(.seq (rgN [oq 1 .box [.t 0],oq 2 .mov [.c (bv false)]] [0,2] []) (.seq (.seq (rgN [oq 3 .mov [.c (iv 0)]] [] []) (.block 0 (.loop c_ref08_Valid_l0))) c_ref08_Valid_k1))
def r_ref08_Valid:List ResA:=[.t 2]
theorem t_ref08_Valid:transl Try.prog F_ref08_Valid=some (bare c_ref08_Valid,r_ref08_Valid,18):=by kernel_rfl
def c_ref20_fits_l0:ACode:=(.seq (.seq (rgN [oq 20 .mov [.t 7],oq 21 .mov [.t 1],oq 22 (.len false) [.t 21],oq 23 (.bin .lss T_int (.tmp 20) (.tmp 22)) [.t 20,.t 22]] [20,21,22] []) (.cond (.t 23) .skip (.exit 2))) (.seq (.block 3 (.seq (rgD [oq 27 (.load (some 20)) [.t 2],oq 28 .mov [.t 5],oq 29 .mov [.t 1],oq 30 .mov [.t 7],oq 31 (.iaddrS 8) [.t 29,.t 30],oq 32 (.load (some 8)) [.t 31],oq 33 (.call F_ref20_coef) [.t 27,.t 28,.t 32],oq 26 .mov [.t 33],oq 34 (.extract 0) [.t 26],oq 35 (.extract 1) [.t 26],oq 8 .mov [.t 34],oq 9 .mov [.t 35]] [23,27,28,29,30,31,32,33,26,34,35,9] []) (rgN [oq 36 .mov [.t 6],oq 37 .mov [.t 8],oq 38 (.bin .add T_int (.tmp 36) (.tmp 37)) [.t 36,.t 37],oq 6 .mov [.t 38]] [8,36,37,38] []))) (rgN [oq 24 .mov [.t 7],oq 25 (.bin .add T_int (.tmp 24) (kc 1)) [.t 24,.c (iv 1)],oq 7 .mov [.t 25]] [24,25] [])))
def c_ref20_fits_k1:ACode:=(.seq (rgN [oq 40 (.load (some 20)) [.t 2],oq 41 .mov [.t 5],oq 42 (.build [iv 0,iv 0,iv 0,iv 0,iv 0,iv 0,iv 0,iv 0] []) [],oq 43 (.call F_ref20_coef) [.t 40,.t 41,.t 42],oq 39 .mov [.t 43],oq 44 (.extract 0) [.t 39],oq 45 (.extract 1) [.t 39],oq 10 .mov [.t 44],oq 11 .mov [.t 45]] [7,23,40,41,42,43,39,44,45,10] []) (.seq (rgN [oq 46 .mov [.t 6],oq 47 .mov [.t 11],oq 48 (.bin .gtr T_int (.tmp 46) (.tmp 47)) [.t 46,.t 47]] [6,11,46,47] []) (.cond (.t 48) (.seq (rgN [oq 4 .mov [.c (bv false)]] [1,2,5,48] [2]) .ret) .skip)))
def c_ref20_fits_k2:ACode:=(rgN [oq 18 .mov [.t 5],oq 19 (.bin .add T_int (.tmp 18) (kc 1)) [.t 18,.c (iv 1)],oq 5 .mov [.t 19]] [48,18,19] [])
def c_ref20_fits_l3:ACode:=(.seq (.seq (rgN [oq 12 .mov [.t 5],oq 13 (.faddr 18) [.t 2],oq 14 (.load none) [.t 13],oq 15 (.len false) [.t 14],oq 16 (.bin .add T_int (.tmp 15) (kc 12)) [.t 15,.c (iv 12)],oq 17 (.bin .lss T_int (.tmp 12) (.tmp 16)) [.t 12,.t 16]] [12,13,14,15,16] []) (.cond (.t 17) .skip (.exit 0))) (.seq (.block 1 (.seq (rgN [oq 6 .mov [.c (iv 0)]] [17] []) (.seq (.seq (rgN [oq 7 .mov [.c (iv 0)]] [] []) (.block 2 (.loop c_ref20_fits_l0))) c_ref20_fits_k1))) c_ref20_fits_k2))
def c_ref20_fits_k4:ACode:=(.seq (rgN [oq 4 .mov [.c (bv true)]] [1,2,5,17] [2]) .ret)
def c_ref20_fits:ACode:=(.seq (rgN [oq 2 .box [.t 0],oq 4 .mov [.c (bv false)]] [0,4] []) (.seq (.seq (rgN [oq 5 .mov [.c (iv 0)]] [] []) (.block 0 (.loop c_ref20_fits_l3))) c_ref20_fits_k4))
def r_ref20_fits:List ResA:=[.t 4]
theorem t_ref20_fits:transl Try.prog F_ref20_fits=some (bare c_ref20_fits,r_ref20_fits,49):=by kernel_rfl
def c_problem_Check_l0:ACode:=(.seq (rgN [oq 22 (.bin .lss T_int (.tmp 21) (.tmp 20)) [.t 21,.t 20]] [] []) (.seq (.cond (.t 22) .skip (.exit 0)) (.seq (.block 1 (.seq (rgN [oq 23 (.iaddrS 8) [.t 19,.t 21],oq 24 (.load (some 8)) [.t 23],oq 7 (.alloc [iv 0,iv 0,iv 0,iv 0,iv 0,iv 0,iv 0,iv 0]) [],ox (.store 8) [.t 7,.t 24]] [22,23,24] []) (.seq (.seq (rgN [oq 25 (.load (some 20)) [.t 3],oq 26 (.load (some 8)) [.t 7],oq 27 (.call F__problem_view__offer) [.t 25,.t 26],oq 8 .mov [.t 27]] [25,26,27] []) (.seq (rgN [oq 28 .mov [.t 8],oq 29 (.bin .neq T_api_Errno (.tmp 28) (kc 0)) [.t 28,.c (iv 0)]] [28] []) (.cond (.t 29) (.seq (rgN [oq 30 .mov [.t 8],oq 2 .mov [.t 30]] [3,5,19,20,21,7,8,29,30] [3,7]) .ret) .skip))) (.seq (rgN [oq 31 (.faddr 0) [.t 7],oq 32 (.load none) [.t 31],oq 33 (.faddr 1) [.t 7],oq 34 (.load (some 6)) [.t 33],oq 35 (.build [iv 0,iv 0,iv 0,iv 0,iv 0,iv 0,iv 0] [(0,1),(1,6)]) [.t 32,.t 34],oq 9 (.alloc [iv 0,iv 0,iv 0,iv 0,iv 0,iv 0,iv 0]) [],ox (.store 7) [.t 9,.t 35]] [7,8,29,31,32,33,34,35] [7]) (.seq (.seq (rgN [oq 36 .mov [.t 5],oq 37 (.load (some 7)) [.t 9],oq 38 (.lookup T_mapaproblem_key_bool false) [.t 36,.t 37]] [36,37] []) (.cond (.t 38) (.seq (rgN [oq 2 .mov [.c (iv 7)]] [3,5,19,20,21,9,38] [3,9]) .ret) .skip)) (rgN [oq 39 .mov [.t 5],oq 40 (.load (some 7)) [.t 9],ox (.mapset T_mapaproblem_key_bool) [.t 39,.t 40,.c (bv true)]] [9,38,39,40] [9])))))) (rgN [oq 41 (.bin .add T_int (.tmp 21) (kc 1)) [.t 21,.c (iv 1)],oq 21 .mov [.t 41]] [41] []))))
def c_problem_Check_k1:ACode:=(.seq (rgN [oq 2 .mov [.c (iv 0)]] [3,5,19,20,21,22] [3]) .ret)
def c_problem_Check:ACode:=(.seq (rgN [oq 1 .box [.t 0],oq 2 .mov [.c (iv 0)]] [0,2] []) (.seq (rgN [oq 10 (.load (some 20)) [.t 1],⟨some 11,.build [iv 0,iv 0,iv 0,iv 0,iv 0,iv 0,iv 0,iv 0,iv 0,iv 0,iv 0,iv 0,iv 0,iv 0,iv 0,iv 0,iv 0,iv 0,.list 0 .full [],.list 0 .full []] [(0,20)],[.t 10],none⟩,⟨some 3,.alloc [iv 0,iv 0,iv 0,iv 0,iv 0,iv 0,iv 0,iv 0,iv 0,iv 0,iv 0,iv 0,iv 0,iv 0,iv 0,iv 0,iv 0,iv 0,.list 0 .full [],.list 0 .full []],[],none⟩,ox (.store 20) [.t 3,.t 11]] [10,11] []) (.seq (.seq (rgN [oq 12 (.load (some 20)) [.t 3],oq 13 (.call F__problem_view__frame) [.t 12],oq 4 .mov [.t 13]] [12,13] []) (.seq (rgN [oq 14 .mov [.t 4],oq 15 (.bin .neq T_api_Errno (.tmp 14) (kc 0)) [.t 14,.c (iv 0)]] [14] []) (.cond (.t 15) (.seq (rgN [oq 16 .mov [.t 4],oq 2 .mov [.t 16]] [1,3,4,15,16] [1,3]) .ret) .skip))) (.seq (rgN [oq 17 .mkmap [],oq 5 .mov [.t 17]] [4,15,17] []) (.seq (.seq (rgN [oq 18 (.faddr 19) [.t 1],oq 19 (.load none) [.t 18],oq 20 (.len false) [.t 19],oq 21 .mov [.c (iv 0)]] [1,18] [1]) (.block 0 (.loop c_problem_Check_l0))) c_problem_Check_k1)))))
def r_problem_Check:List ResA:=[.t 2]
theorem t_problem_Check:transl Try.prog F_problem_Check=some (bare c_problem_Check,r_problem_Check,42):=by kernel_rfl
def c_ref26_Worth:ACode:=(.seq (rgN [oq 2 .box [.t 0],oq 4 .mov [.c (iv 0)],oq 5 .mov [.c (iv 0)]] [0,4,5] []) (.seq (rgN [oq 9 (.load (some 20)) [.t 2],oq 10 .mov [.t 1],oq 11 (.call F_ref26_Best) [.t 9,.t 10],oq 8 .mov [.t 11],oq 12 (.extract 0) [.t 8],oq 13 (.extract 1) [.t 8],⟨some 6,.alloc [.list 0 .full [],iv 0],[],none⟩,ox (.store 2) [.t 6,.t 12],oq 7 .mov [.t 13]] [1,2,9,10,11,8,12,13] [2]) (.seq (rgN [oq 14 (.faddr 1) [.t 6],oq 15 (.load none) [.t 14],oq 16 .mov [.t 7],oq 4 .mov [.t 15],oq 5 .mov [.t 16]] [6,7,14,15,16] [6]) .ret)))
def r_ref26_Worth:List ResA:=[.t 4,.t 5]
theorem t_ref26_Worth:transl Try.prog F_ref26_Worth=some (bare c_ref26_Worth,r_ref26_Worth,17):=by kernel_rfl
def c_slices_Cloneasl_int_int_:ACode:=(.seq (rgN [oq 2 .mov [.c (.list 0 .full [])]] [2] []) (.seq (.seq (rgN [oq 3 .mov [.t 0],oq 4 (.nilS false) [.t 3]] [3] []) (.cond (.t 4) (.seq (rgN [oq 2 .mov [.c (.list 0 .full [])]] [0,4] []) .ret) .skip)) (.seq (rgN [oq 5 (.mkslice 1 0 [iv 0] []) [],oq 6 .mov [.t 0],oq 7 (.append 1 8) [.t 5,.t 6],oq 2 .mov [.t 7]] [0,4,5,6,7] []) .ret)))
def r_slices_Cloneasl_int_int_:List ResA:=[.t 2]
theorem t_slices_Cloneasl_int_int_:transl Try.prog F_slices_Cloneasl_int_int_=some (bare c_slices_Cloneasl_int_int_,r_slices_Cloneasl_int_int_,8):=by kernel_rfl
def c_problem_picked_l0:ACode:=(.seq (rgN [oq 13 (.bin .lss T_int (.tmp 12) (.tmp 11)) [.t 12,.t 11]] [] []) (.seq (.cond (.t 13) .skip (.exit 0)) (.seq (.block 1 (.seq (rgN [oq 14 (.iaddrS 1) [.t 10,.t 12],oq 15 (.load none) [.t 14],oq 9 .mov [.t 15]] [13,14,15] []) (.seq (.seq (rgN [oq 16 .mov [.t 9],oq 17 .mov [.t 7],oq 18 (.bin .leq T_int (.tmp 16) (.tmp 17)) [.t 16,.t 17],oq 19 .mov [.t 18],⟨some 20,.mov,[.t 9],some (19,false)⟩,⟨some 21,.faddr 19,[.t 2],some (19,false)⟩,⟨some 22,.load none,[.t 21],some (19,false)⟩,⟨some 23,.len false,[.t 22],some (19,false)⟩,⟨some 24,.bin .geq T_int (.tmp 20) (.tmp 23),[.t 20,.t 23],some (19,false)⟩,oq 25 .pick [.t 19,.c (bv true),.t 24]] [7,16,17,18,19,20,21,22,23,24] []) (.cond (.t 25) (.seq (rgN [oq 4 .mov [.c (.list 0 .full [])],oq 5 .mov [.c (bv false)]] [2,6,10,11,12,9,25] [2]) .ret) .skip)) (.seq (rgN [oq 26 .mov [.t 9],oq 7 .mov [.t 26]] [25,26] []) (rgN [oq 27 .mov [.t 6],oq 28 (.faddr 19) [.t 2],oq 29 (.load none) [.t 28],oq 30 .mov [.t 9],oq 31 (.iaddrS 8) [.t 29,.t 30],oq 32 (.load (some 8)) [.t 31],oq 33 (.mkslice 8 1 [iv 0,iv 0,iv 0,iv 0,iv 0,iv 0,iv 0,iv 0] [0]) [.t 32],oq 34 (.append 8 64) [.t 27,.t 33],oq 6 .mov [.t 34]] [9,27,28,29,30,31,32,33,34] []))))) (rgN [oq 35 (.bin .add T_int (.tmp 12) (kc 1)) [.t 12,.c (iv 1)],oq 12 .mov [.t 35]] [35] []))))
def c_problem_picked_k1:ACode:=(.seq (rgN [oq 36 .mov [.t 6],oq 4 .mov [.t 36],oq 5 .mov [.c (bv true)]] [2,6,7,10,11,12,13,36] [2]) .ret)
def c_problem_picked:ACode:=(.seq (rgN [oq 2 .box [.t 0],oq 4 .mov [.c (.list 0 .full [])],oq 5 .mov [.c (bv false)]] [0,4,5] []) (.seq (rgN [oq 6 .mov [.c (.list 0 .full [])]] [] []) (.seq (rgN [oq 7 .mov [.c (iv (-1))]] [] []) (.seq (.seq (rgN [oq 10 .mov [.t 1],oq 11 (.len false) [.t 10],oq 12 .mov [.c (iv 0)]] [1] []) (.block 0 (.loop c_problem_picked_l0))) c_problem_picked_k1))))
def r_problem_picked:List ResA:=[.t 4,.t 5]
theorem t_problem_picked:transl Try.prog F_problem_picked=some (bare c_problem_picked,r_problem_picked,37):=by kernel_rfl
def c__problem_view__fits_l0:ACode:=(.seq (rgN [oq 18 (.bin .lss T_int (.tmp 17) (.tmp 16)) [.t 17,.t 16]] [] []) (.seq (.cond (.t 18) .skip (.exit 2)) (.seq (.block 3 (.seq (rgN [oq 19 (.iaddrS 8) [.t 15,.t 17],oq 20 (.load (some 8)) [.t 19],oq 9 (.alloc [iv 0,iv 0,iv 0,iv 0,iv 0,iv 0,iv 0,iv 0]) [],ox (.store 8) [.t 9,.t 20]] [18,19,20] []) (rgN [oq 21 .mov [.t 7],oq 22 .mov [.t 5],oq 23 (.load (some 20)) [.t 2],oq 24 .mov [.t 6],oq 25 (.load (some 8)) [.t 9],oq 26 .callv [.t 22,.t 23,.t 24,.t 25],oq 27 (.bin .add T_int (.tmp 21) (.tmp 26)) [.t 21,.t 26],oq 7 .mov [.t 27]] [9,21,22,23,24,25,26,27] [9]))) (rgN [oq 28 (.bin .add T_int (.tmp 17) (kc 1)) [.t 17,.c (iv 1)],oq 17 .mov [.t 28]] [28] []))))
def c__problem_view__fits_k1:ACode:=(.seq (rgN [oq 29 .mov [.t 7],oq 30 (.load (some 20)) [.t 2],oq 31 .mov [.t 6],oq 32 (.call F__problem_view__bound) [.t 30,.t 31],oq 33 (.bin .gtr T_int (.tmp 29) (.tmp 32)) [.t 29,.t 32]] [6,7,15,16,17,18,29,30,31,32] []) (.cond (.t 33) (.seq (rgN [oq 4 .mov [.c (bv false)]] [1,2,5,11,12,33] [2]) .ret) .skip))
def c__problem_view__fits_k2:ACode:=(rgN [oq 34 (.bin .add T_int (.tmp 12) (kc 1)) [.t 12,.c (iv 1)],oq 12 .mov [.t 34]] [33,34] [])
def c__problem_view__fits_l3:ACode:=(.seq (rgN [oq 13 (.bin .lss T_int (.tmp 12) (.tmp 11)) [.t 12,.t 11]] [] []) (.seq (.cond (.t 13) .skip (.exit 0)) (.seq (.block 1 (.seq (rgN [oq 14 .mov [.t 12],oq 6 .mov [.t 14]] [13,14] []) (.seq (rgN [oq 7 .mov [.c (iv 0)]] [] []) (.seq (.seq (rgN [oq 15 .mov [.t 1],oq 16 (.len false) [.t 15],oq 17 .mov [.c (iv 0)]] [] []) (.block 2 (.loop c__problem_view__fits_l0))) c__problem_view__fits_k1)))) c__problem_view__fits_k2)))
def c__problem_view__fits_k4:ACode:=(.seq (rgN [oq 4 .mov [.c (bv true)]] [1,2,5,11,12,13] [2]) .ret)
def c__problem_view__fits:ACode:=(.seq (rgN [oq 2 .box [.t 0],oq 4 .mov [.c (bv false)]] [0,4] []) (.seq (rgN [oq 5 .mov [.c (.fn (.func 41) [])]] [] []) (.seq (.seq (rgN [oq 10 (.load (some 20)) [.t 2],oq 11 (.call F__problem_view__rows) [.t 10],oq 12 .mov [.c (iv 0)]] [10] []) (.block 0 (.loop c__problem_view__fits_l3))) c__problem_view__fits_k4)))
def r__problem_view__fits:List ResA:=[.t 4]
theorem t__problem_view__fits:transl Try.prog F__problem_view__fits=some (bare c__problem_view__fits,r__problem_view__fits,35):=by kernel_rfl
def c__p_coalition_solver__outside_l0:ACode:=(.seq (rgN [oq 10 (.bin .lss T_int (.tmp 9) (kc 6)) [.t 9,.c (iv 6)]] [] []) (.seq (.cond (.t 10) .skip (.exit 0)) (.seq (.block 1 (.seq (rgN [oq 11 .mov [.t 9],oq 6 .mov [.t 11]] [10,11] []) (.seq (rgD [oq 12 .mov [.t 0],oq 13 .mov [.t 6],oq 14 .nilChk [.t 12],oq 15 (.faddr 0) [.t 14],oq 16 (.faddr 12) [.t 15],oq 17 (.iaddrA 6 1) [.t 16,.t 13],oq 18 (.load none) [.t 17],oq 19 (.bin .eql T_int (.tmp 18) (kc 0)) [.t 18,.c (iv 0)],oq 20 .mov [.t 19],⟨some 21,.mov,[.t 0],some (20,false)⟩,⟨some 22,.mov,[.t 6],some (20,false)⟩,⟨some 23,.nilChk,[.t 21],some (20,false)⟩,⟨some 24,.faddr 0,[.t 23],some (20,false)⟩,⟨some 25,.faddr 12,[.t 24],some (20,false)⟩,⟨some 26,.iaddrA 6 1,[.t 25,.t 22],some (20,false)⟩,⟨some 27,.load none,[.t 26],some (20,false)⟩,⟨some 28,.mov,[.t 0],some (20,false)⟩,⟨some 29,.nilChk,[.t 28],some (20,false)⟩,⟨some 30,.faddr 0,[.t 29],some (20,false)⟩,⟨some 31,.faddr 18,[.t 30],some (20,false)⟩,⟨some 32,.load none,[.t 31],some (20,false)⟩,⟨some 33,.faddr 0,[.t 3],some (20,false)⟩,⟨some 34,.load none,[.t 33],some (20,false)⟩,⟨some 35,.iaddrS 1,[.t 32,.t 34],some (20,false)⟩,⟨some 36,.load none,[.t 35],some (20,false)⟩,⟨some 37,.bin .eql T_int (.tmp 27) (.tmp 36),[.t 27,.t 36],some (20,false)⟩,oq 38 .pick [.t 20,.c (bv true),.t 37]] [12,13,14,15,16,17,18,19,20,21,22,23,24,25,26,27,28,29,30,31,32,33,34,35,36,37] []) (.cond (.t 38) (rgN [oq 39 .mov [.t 6],oq 40 (.iaddrA 6 1) [.t 5,.t 39],ox (.store 1) [.t 40,.c (iv 0)]] [6,38,39,40] []) .skip)))) (rgN [oq 41 (.bin .add T_int (.tmp 9) (kc 1)) [.t 9,.c (iv 1)],oq 9 .mov [.t 41]] [6,38,41] []))))
def c__p_coalition_solver__outside_k1:ACode:=(.seq (rgN [oq 42 (.load (some 6)) [.t 5],ox (.store 6) [.t 4,.t 42]] [0,3,5,9,10,42] [3,5]) .ret)
def c__p_coalition_solver__outside:ACode:=(.seq (rgN [oq 3 .box [.t 1],oq 4 (.alloc [iv 0,iv 0,iv 0,iv 0,iv 0,iv 0]) []] [1] []) (.seq (rgN [oq 7 (.faddr 1) [.t 3],oq 8 (.load (some 6)) [.t 7],oq 5 (.alloc [iv 0,iv 0,iv 0,iv 0,iv 0,iv 0]) [],ox (.store 6) [.t 5,.t 8]] [7,8] []) (.seq (.seq (rgN [oq 9 .mov [.c (iv 0)]] [] []) (.block 0 (.loop c__p_coalition_solver__outside_l0))) c__p_coalition_solver__outside_k1)))
def r__p_coalition_solver__outside:List ResA:=[.cell 4 (some 6)]
theorem t__p_coalition_solver__outside:transl Try.prog F__p_coalition_solver__outside=some (bare c__p_coalition_solver__outside,r__p_coalition_solver__outside,43):=by kernel_rfl
def c_bundle_Within:ACode:=(.seq (rgN [oq 2 .box [.t 0],oq 3 .box [.t 1],oq 4 .mov [.c (bv false)]] [0,1,4] []) (.seq (rgD [oq 5 (.load (some 6)) [.t 2],oq 6 (.load (some 6)) [.t 3],oq 7 (.call F_bundle_Meet) [.t 5,.t 6],oq 8 (.load (some 6)) [.t 2],oq 9 (.bin .eql T_api_Bundle (.tmp 7) (.tmp 8)) [.t 7,.t 8],oq 4 .mov [.t 9]] [2,3,5,6,7,8,9] [2,3]) .ret))
def r_bundle_Within:List ResA:=[.t 4]
theorem t_bundle_Within:transl Try.prog F_bundle_Within=some (bare c_bundle_Within,r_bundle_Within,10):=by kernel_rfl
def c_bundle_Sub_l0:ACode:=(.seq (rgN [oq 7 (.bin .lss T_int (.tmp 6) (kc 6)) [.t 6,.c (iv 6)]] [] []) (.seq (.cond (.t 7) .skip (.exit 0)) (.seq (.block 1 (.seq (rgN [oq 8 .mov [.t 6],oq 5 .mov [.t 8]] [7,8] []) (rgD [oq 9 .mov [.t 5],oq 10 (.iaddrA 6 1) [.t 2,.t 9],oq 11 (.load none) [.t 10],oq 12 .mov [.t 5],oq 13 (.iaddrA 6 1) [.t 3,.t 12],oq 14 (.load none) [.t 13],oq 15 (.bin .sub T_int (.tmp 11) (.tmp 14)) [.t 11,.t 14],oq 16 (.iaddrA 6 1) [.t 2,.t 9],ox (.store 1) [.t 16,.t 15]] [5,9,10,11,12,13,14,15,16] []))) (rgN [oq 17 (.bin .add T_int (.tmp 6) (kc 1)) [.t 6,.c (iv 1)],oq 6 .mov [.t 17]] [17] []))))
def c_bundle_Sub_k1:ACode:=(.seq (rgN [oq 18 (.load (some 6)) [.t 2],ox (.store 6) [.t 4,.t 18]] [2,3,6,7,18] [2,3]) .ret)
def c_bundle_Sub:ACode:=(.seq (rgN [oq 2 .box [.t 0],oq 3 .box [.t 1],oq 4 (.alloc [iv 0,iv 0,iv 0,iv 0,iv 0,iv 0]) []] [0,1] []) (.seq (.seq (rgN [oq 6 .mov [.c (iv 0)]] [] []) (.block 0 (.loop c_bundle_Sub_l0))) c_bundle_Sub_k1))
def r_bundle_Sub:List ResA:=[.cell 4 (some 6)]
theorem t_bundle_Sub:transl Try.prog F_bundle_Sub=some (bare c_bundle_Sub,r_bundle_Sub,19):=by kernel_rfl
def c_ref20_Feasible:ACode:=(.seq (rgN [oq 2 .box [.t 0],oq 4 .mov [.c (iv 0)]] [0,4] []) (.seq (rgN [oq 8 (.load (some 20)) [.t 2],oq 9 (.call F_ref20_Check) [.t 8],oq 5 .mov [.t 9]] [8,9] []) (.seq (.seq (rgN [oq 10 .mov [.t 5],oq 11 (.bin .neq T_api_Errno (.tmp 10) (kc 0)) [.t 10,.c (iv 0)]] [10] []) (.cond (.t 11) (.seq (rgN [oq 12 .mov [.t 5],oq 4 .mov [.t 12]] [1,2,5,11,12] [2]) .ret) .skip)) (.seq (rgN [oq 14 (.load (some 20)) [.t 2],oq 15 .mov [.t 1],oq 16 (.call F_ref20_Picked) [.t 14,.t 15],oq 13 .mov [.t 16],oq 17 (.extract 0) [.t 13],oq 18 (.extract 1) [.t 13],oq 6 .mov [.t 17],oq 7 .mov [.t 18]] [1,5,11,14,15,16,13,17,18] []) (.seq (.seq (rgN [oq 19 .mov [.t 7],oq 20 (.un .not) [.t 19]] [7,19] []) (.cond (.t 20) (.seq (rgN [oq 4 .mov [.c (iv 4)]] [2,6,20] [2]) .ret) .skip)) (.seq (.seq (rgN [oq 21 (.load (some 20)) [.t 2],oq 22 .mov [.t 6],oq 23 (.call F_ref20_fits) [.t 21,.t 22],oq 24 (.un .not) [.t 23]] [2,6,20,21,22,23] [2]) (.cond (.t 24) (.seq (rgN [oq 4 .mov [.c (iv 14)]] [24] []) .ret) .skip)) (.seq (rgN [oq 4 .mov [.c (iv 0)]] [24] []) .ret)))))))
def r_ref20_Feasible:List ResA:=[.t 4]
theorem t_ref20_Feasible:transl Try.prog F_ref20_Feasible=some (bare c_ref20_Feasible,r_ref20_Feasible,25):=by kernel_rfl
def c_ref20_coef:ACode:=(.seq (rgN [oq 3 .box [.t 0],oq 5 .box [.t 2],oq 6 .mov [.c (iv 0)],oq 7 .mov [.c (iv 0)]] [0,2,6,7] []) (.seq (rgN [oq 10 (.faddr 18) [.t 3],oq 11 (.load none) [.t 10],oq 12 (.len false) [.t 11],oq 8 .mov [.t 12]] [10,11,12] []) (.seq (.block 0 (.seq (rgN [oq 14 .mov [.t 1],oq 15 .mov [.t 8],oq 16 (.bin .lss T_int (.tmp 14) (.tmp 15)) [.t 14,.t 15],oq 13 .mov [.t 16]] [14,15,16] []) (.cond (.t 13) (.seq (.seq (rgN [oq 17 (.faddr 0) [.t 5],oq 18 (.load none) [.t 17],oq 19 .mov [.t 1],oq 20 (.bin .eql T_int (.tmp 18) (.tmp 19)) [.t 18,.t 19]] [1,3,5,8,13,17,18,19] [3,5]) (.cond (.t 20) (.seq (rgN [oq 6 .mov [.c (iv 1)],oq 7 .mov [.c (iv 1)]] [20] []) .ret) .skip)) (.seq (rgN [oq 6 .mov [.c (iv 0)],oq 7 .mov [.c (iv 1)]] [20] []) .ret)) (.seq (rgN [oq 22 .mov [.t 1],oq 23 .mov [.t 8],oq 24 (.bin .add T_int (.tmp 23) (kc 6)) [.t 23,.c (iv 6)],oq 25 (.bin .lss T_int (.tmp 22) (.tmp 24)) [.t 22,.t 24],oq 21 .mov [.t 25]] [13,22,23,24,25] []) (.cond (.t 21) (.seq (rgD [oq 26 .mov [.t 1],oq 27 .mov [.t 8],oq 28 (.bin .sub T_int (.tmp 26) (.tmp 27)) [.t 26,.t 27],oq 29 (.faddr 1) [.t 5],oq 30 (.iaddrA 6 1) [.t 29,.t 28],oq 31 (.load none) [.t 30],oq 32 .mov [.t 1],oq 33 .mov [.t 8],oq 34 (.bin .sub T_int (.tmp 32) (.tmp 33)) [.t 32,.t 33],oq 35 (.faddr 0) [.t 3],oq 36 (.iaddrA 6 1) [.t 35,.t 34],oq 37 (.load none) [.t 36],oq 6 .mov [.t 31],oq 7 .mov [.t 37]] [1,3,5,8,21,26,27,28,29,30,31,32,33,34,35,36,37] [3,5]) .ret) .skip))))) (.seq (rgN [oq 38 .mov [.t 1],oq 39 .mov [.t 8],oq 40 (.bin .sub T_int (.tmp 38) (.tmp 39)) [.t 38,.t 39],oq 41 (.bin .sub T_int (.tmp 40) (kc 6)) [.t 40,.c (iv 6)],oq 9 .mov [.t 41]] [1,8,21,38,39,40,41] []) (.seq (.seq (rgD [oq 42 .mov [.t 9],oq 43 (.faddr 12) [.t 3],oq 44 (.iaddrA 6 1) [.t 43,.t 42],oq 45 (.load none) [.t 44],oq 46 (.bin .neq T_int (.tmp 45) (kc 0)) [.t 45,.c (iv 0)],oq 47 .mov [.t 46],⟨some 48,.faddr 0,[.t 5],some (47,true)⟩,⟨some 49,.load none,[.t 48],some (47,true)⟩,⟨some 50,.faddr 18,[.t 3],some (47,true)⟩,⟨some 51,.load none,[.t 50],some (47,true)⟩,⟨some 52,.len false,[.t 51],some (47,true)⟩,⟨some 53,.bin .lss T_int (.tmp 49) (.tmp 52),[.t 49,.t 52],some (47,true)⟩,oq 54 .pick [.t 47,.t 53,.c (bv false)],oq 55 .mov [.t 54],⟨some 56,.mov,[.t 9],some (55,true)⟩,⟨some 57,.faddr 12,[.t 3],some (55,true)⟩,⟨some 58,.iaddrA 6 1,[.t 57,.t 56],some (55,true)⟩,⟨some 59,.load none,[.t 58],some (55,true)⟩,⟨some 60,.faddr 18,[.t 3],some (55,true)⟩,⟨some 61,.load none,[.t 60],some (55,true)⟩,⟨some 62,.faddr 0,[.t 5],some (55,true)⟩,⟨some 63,.load none,[.t 62],some (55,true)⟩,⟨some 64,.iaddrS 1,[.t 61,.t 63],some (55,true)⟩,⟨some 65,.load none,[.t 64],some (55,true)⟩,⟨some 66,.bin .neq T_int (.tmp 59) (.tmp 65),[.t 59,.t 65],some (55,true)⟩,oq 67 .pick [.t 55,.t 66,.c (bv false)]] [42,43,44,45,46,47,48,49,50,51,52,53,54,55,56,57,58,59,60,61,62,63,64,65,66] []) (.cond (.t 67) (.seq (rgD [oq 68 .mov [.t 9],oq 69 (.faddr 1) [.t 5],oq 70 (.iaddrA 6 1) [.t 69,.t 68],oq 71 (.load none) [.t 70],oq 72 .mov [.t 9],oq 73 (.faddr 6) [.t 3],oq 74 (.iaddrA 6 1) [.t 73,.t 72],oq 75 (.load none) [.t 74],oq 6 .mov [.t 71],oq 7 .mov [.t 75]] [3,5,9,67,68,69,70,71,72,73,74,75] [3,5]) .ret) .skip)) (.seq (rgD [oq 76 .mov [.t 9],oq 77 (.faddr 6) [.t 3],oq 78 (.iaddrA 6 1) [.t 77,.t 76],oq 79 (.load none) [.t 78],oq 6 .mov [.c (iv 0)],oq 7 .mov [.t 79]] [3,5,9,67,76,77,78,79] [3,5]) .ret))))))
def r_ref20_coef:List ResA:=[.t 6,.t 7]
theorem t_ref20_coef:transl Try.prog F_ref20_coef=some (bare c_ref20_coef,r_ref20_coef,80):=by kernel_rfl
def c__problem_view__frame_l0:ACode:=(.seq (rgN [oq 17 (.bin .lss T_int (.tmp 16) (kc 6)) [.t 16,.c (iv 6)]] [] []) (.seq (.cond (.t 17) .skip (.exit 0)) (.seq (.block 1 (.seq (rgN [oq 18 .mov [.t 16],oq 4 .mov [.t 18]] [17,18] []) (.seq (rgD [oq 19 .mov [.t 4],oq 20 (.faddr 0) [.t 1],oq 21 (.faddr 6) [.t 20],oq 22 (.iaddrA 6 1) [.t 21,.t 19],oq 23 (.load none) [.t 22],oq 24 .mov [.t 4],oq 25 (.faddr 0) [.t 1],oq 26 (.faddr 12) [.t 25],oq 27 (.iaddrA 6 1) [.t 26,.t 24],oq 28 (.load none) [.t 27],oq 5 .mov [.t 23],oq 6 .mov [.t 28]] [19,20,21,22,23,24,25,26,27,28] []) (.seq (rgN [oq 29 .mov [.t 6],oq 30 (.bin .lss T_int (.tmp 29) (kc 0)) [.t 29,.c (iv 0)],oq 31 .mov [.t 30],⟨some 32,.mov,[.t 6],some (31,false)⟩,⟨some 33,.bin .gtr T_int (.tmp 32) (kc 4),[.t 32,.c (iv 4)],some (31,false)⟩,oq 34 .pick [.t 31,.c (bv true),.t 33],oq 35 .mov [.t 34],⟨some 36,.mov,[.t 5],some (35,false)⟩,⟨some 37,.bin .lss T_int (.tmp 36) (kc 0),[.t 36,.c (iv 0)],some (35,false)⟩,oq 38 .pick [.t 35,.c (bv true),.t 37],oq 39 .mov [.t 38],⟨some 40,.mov,[.t 5],some (39,false)⟩,⟨some 41,.mov,[.t 4],some (39,false)⟩,⟨some 42,.faddr 0,[.t 1],some (39,false)⟩,⟨some 43,.faddr 0,[.t 42],some (39,false)⟩,⟨some 44,.iaddrA 6 1,[.t 43,.t 41],some (39,false)⟩,⟨some 45,.load none,[.t 44],some (39,false)⟩,⟨some 46,.bin .gtr T_int (.tmp 40) (.tmp 45),[.t 40,.t 45],some (39,false)⟩,oq 47 .pick [.t 39,.c (bv true),.t 46],oq 48 .mov [.t 47],⟨some 49,.mov,[.t 6],some (48,false)⟩,⟨some 50,.bin .eql T_int (.tmp 49) (kc 0),[.t 49,.c (iv 0)],some (48,false)⟩,⟨some 51,.mov,[.t 50],some (48,false)⟩,⟨some 52,.mov,[.t 5],some (51,true)⟩,⟨some 53,.mov,[.t 4],some (51,true)⟩,⟨some 54,.faddr 0,[.t 1],some (51,true)⟩,⟨some 55,.faddr 0,[.t 54],some (51,true)⟩,⟨some 56,.iaddrA 6 1,[.t 55,.t 53],some (51,true)⟩,⟨some 57,.load none,[.t 56],some (51,true)⟩,⟨some 58,.bin .neq T_int (.tmp 52) (.tmp 57),[.t 52,.t 57],some (51,true)⟩,⟨some 59,.pick,[.t 51,.t 58,.c (bv false)],some (48,false)⟩,oq 60 .pick [.t 48,.c (bv true),.t 59]] [4,5,6,29,30,31,32,33,34,35,36,37,38,39,40,41,42,43,44,45,46,47,48,49,50,51,52,53,54,55,56,57,58,59] []) (.cond (.t 60) (.seq (rgN [oq 2 .mov [.c (iv 4)]] [1,16,60] [1]) .ret) .skip))))) (rgN [oq 61 (.bin .add T_int (.tmp 16) (kc 1)) [.t 16,.c (iv 1)],oq 16 .mov [.t 61]] [60,61] []))))
def c__problem_view__frame_l1:ACode:=(.seq (rgN [oq 79 (.bin .lss T_int (.tmp 78) (.tmp 77)) [.t 78,.t 77]] [] []) (.seq (.cond (.t 79) .skip (.exit 2)) (.seq (.block 3 (.seq (rgN [oq 80 (.iaddrS 1) [.t 76,.t 78],oq 81 (.load none) [.t 80],oq 8 .mov [.t 81]] [79,80,81] []) (.seq (rgN [oq 82 .mov [.t 8],oq 83 (.bin .lss T_int (.tmp 82) (kc 0)) [.t 82,.c (iv 0)],oq 84 .mov [.t 83],⟨some 85,.mov,[.t 8],some (84,false)⟩,⟨some 86,.bin .gtr T_int (.tmp 85) (kc 4),[.t 85,.c (iv 4)],some (84,false)⟩,oq 87 .pick [.t 84,.c (bv true),.t 86]] [8,82,83,84,85,86] []) (.cond (.t 87) (.seq (rgN [oq 2 .mov [.c (iv 4)]] [76,77,78,87] []) .ret) .skip)))) (rgN [oq 88 (.bin .add T_int (.tmp 78) (kc 1)) [.t 78,.c (iv 1)],oq 78 .mov [.t 88]] [87,88] []))))
def c__problem_view__frame_k2:ACode:=(.seq (rgN [oq 2 .mov [.c (iv 0)]] [76,77,78,79] []) .ret)
def c__problem_view__frame_k3:ACode:=(.seq (.seq (rgN [oq 62 (.faddr 0) [.t 1],oq 63 (.faddr 18) [.t 62],oq 64 (.load none) [.t 63],oq 65 (.len false) [.t 64],oq 66 (.bin .gtr T_int (.tmp 65) (kc 8)) [.t 65,.c (iv 8)],oq 67 .mov [.t 66],⟨some 68,.faddr 0,[.t 1],some (67,false)⟩,⟨some 69,.faddr 19,[.t 68],some (67,false)⟩,⟨some 70,.load none,[.t 69],some (67,false)⟩,⟨some 71,.len false,[.t 70],some (67,false)⟩,⟨some 72,.bin .gtr T_int (.tmp 71) (kc 160),[.t 71,.c (iv 160)],some (67,false)⟩,oq 73 .pick [.t 67,.c (bv true),.t 72]] [16,17,62,63,64,65,66,67,68,69,70,71,72] []) (.cond (.t 73) (.seq (rgN [oq 2 .mov [.c (iv 3)]] [1,73] [1]) .ret) .skip)) (.seq (.seq (rgN [oq 74 (.faddr 0) [.t 1],oq 75 (.faddr 18) [.t 74],oq 76 (.load none) [.t 75],oq 77 (.len false) [.t 76],oq 78 .mov [.c (iv 0)]] [1,73,74,75] [1]) (.block 2 (.loop c__problem_view__frame_l1))) c__problem_view__frame_k2))
def c__problem_view__frame:ACode:=(.seq (rgN [oq 1 .box [.t 0],oq 2 .mov [.c (iv 0)]] [0,2] []) (.seq (.seq (rgN [oq 9 (.faddr 0) [.t 1],oq 10 (.faddr 0) [.t 9],oq 11 (.load (some 6)) [.t 10],oq 12 (.call F_bundle_Check) [.t 11],oq 3 .mov [.t 12]] [9,10,11,12] []) (.seq (rgN [oq 13 .mov [.t 3],oq 14 (.bin .neq T_api_Errno (.tmp 13) (kc 0)) [.t 13,.c (iv 0)]] [13] []) (.cond (.t 14) (.seq (rgN [oq 15 .mov [.t 3],oq 2 .mov [.t 15]] [1,3,14,15] [1]) .ret) .skip))) (.seq (.seq (rgN [oq 16 .mov [.c (iv 0)]] [3,14] []) (.block 0 (.loop c__problem_view__frame_l0))) c__problem_view__frame_k3)))
def r__problem_view__frame:List ResA:=[.t 2]
theorem t__problem_view__frame:transl Try.prog F__problem_view__frame=some (bare c__problem_view__frame,r__problem_view__frame,89):=by kernel_rfl
def c__problem_view__offer:ACode:=(.seq (rgN [oq 2 .box [.t 0],oq 3 .box [.t 1],oq 4 .mov [.c (iv 0)]] [0,1,4] []) (.seq (.seq (rgN [oq 6 (.faddr 0) [.t 2],oq 7 (.faddr 18) [.t 6],oq 8 (.load none) [.t 7],oq 9 (.len false) [.t 8],oq 10 (.load (some 8)) [.t 3],oq 11 (.call F_problem_simple) [.t 9,.t 10],oq 5 .mov [.t 11]] [6,7,8,9,10,11] []) (.seq (rgN [oq 12 .mov [.t 5],oq 13 (.bin .neq T_api_Errno (.tmp 12) (kc 0)) [.t 12,.c (iv 0)]] [12] []) (.cond (.t 13) (.seq (rgN [oq 14 .mov [.t 5],oq 4 .mov [.t 14]] [2,3,5,13,14] [2,3]) .ret) .skip))) (.seq (.block 0 (.seq (rgN [oq 16 (.faddr 1) [.t 3],oq 17 (.load (some 6)) [.t 16],oq 18 (.build [iv 0,iv 0,iv 0,iv 0,iv 0,iv 0] []) [],oq 19 (.bin .eql T_api_Bundle (.tmp 17) (.tmp 18)) [.t 17,.t 18],oq 15 .mov [.t 19]] [5,13,16,17,18,19] []) (.cond (.t 15) (.seq (rgN [oq 4 .mov [.c (iv 4)]] [2,3,15] [2,3]) .ret) (.seq (rgN [oq 21 (.load (some 20)) [.t 2],oq 22 (.load (some 8)) [.t 3],oq 23 (.mkslice 8 1 [iv 0,iv 0,iv 0,iv 0,iv 0,iv 0,iv 0,iv 0] [0]) [.t 22],oq 24 (.call F__problem_view__fits) [.t 21,.t 23],oq 25 (.un .not) [.t 24],oq 20 .mov [.t 25]] [2,3,15,21,22,23,24,25] [2,3]) (.cond (.t 20) (.seq (rgN [oq 4 .mov [.c (iv 14)]] [20] []) .ret) .skip))))) (.seq (rgN [oq 4 .mov [.c (iv 0)]] [20] []) .ret))))
def r__problem_view__offer:List ResA:=[.t 4]
theorem t__problem_view__offer:transl Try.prog F__problem_view__offer=some (bare c__problem_view__offer,r__problem_view__offer,26):=by kernel_rfl
def c__problem_view__coef:ACode:=(.seq (rgN [oq 3 .box [.t 0],oq 5 .box [.t 2],oq 6 .mov [.c (iv 0)]] [0,2,6] []) (.seq (rgN [oq 8 .mov [.t 1],oq 9 (.faddr 0) [.t 3],oq 10 (.faddr 18) [.t 9],oq 11 (.load none) [.t 10],oq 12 (.len false) [.t 11],oq 13 (.bin .sub T_int (.tmp 8) (.tmp 12)) [.t 8,.t 12],oq 7 .mov [.t 13]] [8,9,10,11,12,13] []) (.block 0 (.seq (rgN [oq 42 .mov [.t 7],oq 43 (.bin .lss T_int (.tmp 42) (kc 0)) [.t 42,.c (iv 0)],oq 44 .mov [.t 43],⟨some 45,.faddr 0,[.t 5],some (44,true)⟩,⟨some 46,.load none,[.t 45],some (44,true)⟩,⟨some 47,.mov,[.t 1],some (44,true)⟩,⟨some 48,.bin .eql T_int (.tmp 46) (.tmp 47),[.t 46,.t 47],some (44,true)⟩,oq 49 .pick [.t 44,.t 48,.c (bv false)],oq 41 .mov [.t 49]] [1,42,43,44,45,46,47,48,49] []) (.cond (.t 41) (.seq (rgN [oq 6 .mov [.c (iv 1)]] [3,5,7,41] [3,5]) .ret) (.seq (rgN [oq 51 .mov [.t 7],oq 52 (.bin .lss T_int (.tmp 51) (kc 0)) [.t 51,.c (iv 0)],oq 50 .mov [.t 52]] [41,51,52] []) (.cond (.t 50) (.seq (rgN [oq 6 .mov [.c (iv 0)]] [3,5,7,50] [3,5]) .ret) (.seq (rgN [oq 54 .mov [.t 7],oq 55 (.bin .lss T_int (.tmp 54) (kc 6)) [.t 54,.c (iv 6)],oq 53 .mov [.t 55]] [50,54,55] []) (.cond (.t 53) (.seq (rgN [oq 56 .mov [.t 7],oq 57 (.faddr 1) [.t 5],oq 58 (.iaddrA 6 1) [.t 57,.t 56],oq 59 (.load none) [.t 58],oq 6 .mov [.t 59]] [3,5,7,53,56,57,58,59] [3,5]) .ret) (.seq (rgN [oq 14 .mov [.t 7],oq 15 (.bin .sub T_int (.tmp 14) (kc 6)) [.t 14,.c (iv 6)],oq 7 .mov [.t 15]] [53,14,15] []) (.seq (.seq (rgD [oq 16 .mov [.t 7],oq 17 (.faddr 0) [.t 3],oq 18 (.faddr 12) [.t 17],oq 19 (.iaddrA 6 1) [.t 18,.t 16],oq 20 (.load none) [.t 19],oq 21 (.bin .eql T_int (.tmp 20) (kc 0)) [.t 20,.c (iv 0)],oq 22 .mov [.t 21],⟨some 23,.mov,[.t 7],some (22,false)⟩,⟨some 24,.faddr 0,[.t 3],some (22,false)⟩,⟨some 25,.faddr 12,[.t 24],some (22,false)⟩,⟨some 26,.iaddrA 6 1,[.t 25,.t 23],some (22,false)⟩,⟨some 27,.load none,[.t 26],some (22,false)⟩,⟨some 28,.faddr 0,[.t 3],some (22,false)⟩,⟨some 29,.faddr 18,[.t 28],some (22,false)⟩,⟨some 30,.load none,[.t 29],some (22,false)⟩,⟨some 31,.faddr 0,[.t 5],some (22,false)⟩,⟨some 32,.load none,[.t 31],some (22,false)⟩,⟨some 33,.iaddrS 1,[.t 30,.t 32],some (22,false)⟩,⟨some 34,.load none,[.t 33],some (22,false)⟩,⟨some 35,.bin .eql T_int (.tmp 27) (.tmp 34),[.t 27,.t 34],some (22,false)⟩,oq 36 .pick [.t 22,.c (bv true),.t 35]] [3,16,17,18,19,20,21,22,23,24,25,26,27,28,29,30,31,32,33,34,35] [3]) (.cond (.t 36) (.seq (rgN [oq 6 .mov [.c (iv 0)]] [5,7,36] [5]) .ret) .skip)) (.seq (rgN [oq 37 .mov [.t 7],oq 38 (.faddr 1) [.t 5],oq 39 (.iaddrA 6 1) [.t 38,.t 37],oq 40 (.load none) [.t 39],oq 6 .mov [.t 40]] [5,7,36,37,38,39,40] [5]) .ret))))))))))))
def r__problem_view__coef:List ResA:=[.t 6]
theorem t__problem_view__coef:transl Try.prog F__problem_view__coef=some (bare c__problem_view__coef,r__problem_view__coef,60):=by kernel_rfl
def c__problem_view__rows:ACode:=(.seq (rgN [oq 1 .box [.t 0],oq 2 .mov [.c (iv 0)]] [0,2] []) (.seq (rgN [oq 3 (.faddr 0) [.t 1],oq 4 (.faddr 18) [.t 3],oq 5 (.load none) [.t 4],oq 6 (.len false) [.t 5],oq 7 (.bin .add T_int (.tmp 6) (kc 12)) [.t 6,.c (iv 12)],oq 2 .mov [.t 7]] [1,3,4,5,6,7] [1]) .ret))
def r__problem_view__rows:List ResA:=[.t 2]
theorem t__problem_view__rows:transl Try.prog F__problem_view__rows=some (bare c__problem_view__rows,r__problem_view__rows,8):=by kernel_rfl
def c__problem_view__bound:ACode:=(.seq (rgN [oq 2 .box [.t 0],oq 4 .mov [.c (iv 0)]] [0,4] []) (.seq (rgN [oq 6 .mov [.t 1],oq 7 (.faddr 0) [.t 2],oq 8 (.faddr 18) [.t 7],oq 9 (.load none) [.t 8],oq 10 (.len false) [.t 9],oq 11 (.bin .sub T_int (.tmp 6) (.tmp 10)) [.t 6,.t 10],oq 5 .mov [.t 11]] [1,6,7,8,9,10,11] []) (.block 0 (.seq (rgN [oq 19 .mov [.t 5],oq 20 (.bin .lss T_int (.tmp 19) (kc 0)) [.t 19,.c (iv 0)],oq 18 .mov [.t 20]] [19,20] []) (.cond (.t 18) (.seq (rgN [oq 4 .mov [.c (iv 1)]] [2,5,18] [2]) .ret) (.seq (rgN [oq 22 .mov [.t 5],oq 23 (.bin .lss T_int (.tmp 22) (kc 6)) [.t 22,.c (iv 6)],oq 21 .mov [.t 23]] [18,22,23] []) (.cond (.t 21) (.seq (rgN [oq 24 .mov [.t 5],oq 25 (.faddr 0) [.t 2],oq 26 (.faddr 0) [.t 25],oq 27 (.iaddrA 6 1) [.t 26,.t 24],oq 28 (.load none) [.t 27],oq 4 .mov [.t 28]] [2,5,21,24,25,26,27,28] [2]) .ret) (.seq (rgN [oq 12 .mov [.t 5],oq 13 (.bin .sub T_int (.tmp 12) (kc 6)) [.t 12,.c (iv 6)],oq 14 (.faddr 0) [.t 2],oq 15 (.faddr 6) [.t 14],oq 16 (.iaddrA 6 1) [.t 15,.t 13],oq 17 (.load none) [.t 16],oq 4 .mov [.t 17]] [2,5,21,12,13,14,15,16,17] [2]) .ret))))))))
def r__problem_view__bound:List ResA:=[.t 4]
theorem t__problem_view__bound:transl Try.prog F__problem_view__bound=some (bare c__problem_view__bound,r__problem_view__bound,29):=by kernel_rfl
def c_bundle_Meet_l0:ACode:=(.seq (rgN [oq 7 (.bin .lss T_int (.tmp 6) (kc 6)) [.t 6,.c (iv 6)]] [] []) (.seq (.cond (.t 7) .skip (.exit 0)) (.seq (.block 1 (.seq (rgN [oq 8 .mov [.t 6],oq 5 .mov [.t 8]] [7,8] []) (rgD [oq 9 .mov [.t 5],oq 10 .mov [.t 5],oq 11 (.iaddrA 6 1) [.t 2,.t 10],oq 12 (.load none) [.t 11],oq 13 .mov [.t 5],oq 14 (.iaddrA 6 1) [.t 3,.t 13],oq 15 (.load none) [.t 14],⟨some 16,.mm .min #[T_int,T_int] T_int,[.t 12,.t 15],none⟩,oq 17 (.iaddrA 6 1) [.t 2,.t 9],ox (.store 1) [.t 17,.t 16]] [5,9,10,11,12,13,14,15,16,17] []))) (rgN [oq 18 (.bin .add T_int (.tmp 6) (kc 1)) [.t 6,.c (iv 1)],oq 6 .mov [.t 18]] [18] []))))
def c_bundle_Meet_k1:ACode:=(.seq (rgN [oq 19 (.load (some 6)) [.t 2],ox (.store 6) [.t 4,.t 19]] [2,3,6,7,19] [2,3]) .ret)
def c_bundle_Meet:ACode:=(.seq (rgN [oq 2 .box [.t 0],oq 3 .box [.t 1],oq 4 (.alloc [iv 0,iv 0,iv 0,iv 0,iv 0,iv 0]) []] [0,1] []) (.seq (.seq (rgN [oq 6 .mov [.c (iv 0)]] [] []) (.block 0 (.loop c_bundle_Meet_l0))) c_bundle_Meet_k1))
def r_bundle_Meet:List ResA:=[.cell 4 (some 6)]
theorem t_bundle_Meet:transl Try.prog F_bundle_Meet=some (bare c_bundle_Meet,r_bundle_Meet,20):=by kernel_rfl
def c_ref20_Picked_l0:ACode:=(.seq (.seq (rgN [oq 8 .mov [.t 7],oq 9 .mov [.t 1],oq 10 (.len false) [.t 9],oq 11 (.bin .lss T_int (.tmp 8) (.tmp 10)) [.t 8,.t 10]] [8,9,10] []) (.cond (.t 11) .skip (.exit 0))) (.seq (.block 1 (.seq (.seq (rgD [oq 14 .mov [.t 1],oq 15 .mov [.t 7],oq 16 (.iaddrS 1) [.t 14,.t 15],oq 17 (.load none) [.t 16],oq 18 (.bin .lss T_int (.tmp 17) (kc 0)) [.t 17,.c (iv 0)],oq 19 .mov [.t 18],⟨some 20,.mov,[.t 1],some (19,false)⟩,⟨some 21,.mov,[.t 7],some (19,false)⟩,⟨some 22,.iaddrS 1,[.t 20,.t 21],some (19,false)⟩,⟨some 23,.load none,[.t 22],some (19,false)⟩,⟨some 24,.faddr 19,[.t 2],some (19,false)⟩,⟨some 25,.load none,[.t 24],some (19,false)⟩,⟨some 26,.len false,[.t 25],some (19,false)⟩,⟨some 27,.bin .geq T_int (.tmp 23) (.tmp 26),[.t 23,.t 26],some (19,false)⟩,oq 28 .pick [.t 19,.c (bv true),.t 27],oq 29 .mov [.t 28],⟨some 30,.mov,[.t 7],some (29,false)⟩,⟨some 31,.bin .gtr T_int (.tmp 30) (kc 0),[.t 30,.c (iv 0)],some (29,false)⟩,⟨some 32,.mov,[.t 31],some (29,false)⟩,⟨some 33,.mov,[.t 1],some (32,true)⟩,⟨some 34,.mov,[.t 7],some (32,true)⟩,⟨some 35,.iaddrS 1,[.t 33,.t 34],some (32,true)⟩,⟨some 36,.load none,[.t 35],some (32,true)⟩,⟨some 37,.mov,[.t 1],some (32,true)⟩,⟨some 38,.mov,[.t 7],some (32,true)⟩,⟨some 39,.bin .sub T_int (.tmp 38) (kc 1),[.t 38,.c (iv 1)],some (32,true)⟩,⟨some 40,.iaddrS 1,[.t 37,.t 39],some (32,true)⟩,⟨some 41,.load none,[.t 40],some (32,true)⟩,⟨some 42,.bin .leq T_int (.tmp 36) (.tmp 41),[.t 36,.t 41],some (32,true)⟩,⟨some 43,.pick,[.t 32,.t 42,.c (bv false)],some (29,false)⟩,oq 44 .pick [.t 29,.c (bv true),.t 43]] [11,14,15,16,17,18,19,20,21,22,23,24,25,26,27,28,29,30,31,32,33,34,35,36,37,38,39,40,41,42,43] []) (.cond (.t 44) (.seq (rgN [oq 4 .mov [.c (.list 0 .full [])],oq 5 .mov [.c (bv false)]] [1,2,6,7,44] [2]) .ret) .skip)) (rgD [oq 45 .mov [.t 6],oq 46 (.faddr 19) [.t 2],oq 47 (.load none) [.t 46],oq 48 .mov [.t 1],oq 49 .mov [.t 7],oq 50 (.iaddrS 1) [.t 48,.t 49],oq 51 (.load none) [.t 50],oq 52 (.iaddrS 8) [.t 47,.t 51],oq 53 (.load (some 8)) [.t 52],oq 54 (.mkslice 8 1 [iv 0,iv 0,iv 0,iv 0,iv 0,iv 0,iv 0,iv 0] [0]) [.t 53],oq 55 (.append 8 64) [.t 45,.t 54],oq 6 .mov [.t 55]] [44,45,46,47,48,49,50,51,52,53,54,55] []))) (rgN [oq 12 .mov [.t 7],oq 13 (.bin .add T_int (.tmp 12) (kc 1)) [.t 12,.c (iv 1)],oq 7 .mov [.t 13]] [12,13] [])))
def c_ref20_Picked_k1:ACode:=(.seq (rgN [oq 56 .mov [.t 6],oq 4 .mov [.t 56],oq 5 .mov [.c (bv true)]] [1,2,6,7,11,56] [2]) .ret)
def c_ref20_Picked:ACode:=(.seq (rgN [oq 2 .box [.t 0],oq 4 .mov [.c (.list 0 .full [])],oq 5 .mov [.c (bv false)]] [0,4,5] []) (.seq (rgN [oq 6 .mov [.c (.list 0 .full [])]] [] []) (.seq (.seq (rgN [oq 7 .mov [.c (iv 0)]] [] []) (.block 0 (.loop c_ref20_Picked_l0))) c_ref20_Picked_k1)))
def r_ref20_Picked:List ResA:=[.t 4,.t 5]
theorem t_ref20_Picked:transl Try.prog F_ref20_Picked=some (bare c_ref20_Picked,r_ref20_Picked,57):=by kernel_rfl
def c_bundle_Check_l0:ACode:=(.seq (rgN [oq 7 (.bin .lss T_int (.tmp 6) (kc 6)) [.t 6,.c (iv 6)]] [] []) (.seq (.cond (.t 7) .skip (.exit 0)) (.seq (.block 1 (.seq (rgN [oq 8 (.idxA 6 1 none) [.t 5,.t 6],oq 4 .mov [.t 8]] [7,8] []) (.seq (rgN [oq 9 .mov [.t 4],oq 10 (.bin .lss T_int (.tmp 9) (kc 0)) [.t 9,.c (iv 0)],oq 11 .mov [.t 10],⟨some 12,.mov,[.t 4],some (11,false)⟩,⟨some 13,.bin .gtr T_int (.tmp 12) (kc 4),[.t 12,.c (iv 4)],some (11,false)⟩,oq 14 .pick [.t 11,.c (bv true),.t 13]] [4,9,10,11,12,13] []) (.cond (.t 14) (.seq (rgN [oq 2 .mov [.c (iv 4)]] [5,6,14] []) .ret) .skip)))) (rgN [oq 15 (.bin .add T_int (.tmp 6) (kc 1)) [.t 6,.c (iv 1)],oq 6 .mov [.t 15]] [14,15] []))))
def c_bundle_Check_k1:ACode:=(.seq (rgN [oq 2 .mov [.c (iv 0)]] [5,6,7] []) .ret)
def c_bundle_Check:ACode:=(.seq (rgN [oq 1 .box [.t 0],oq 2 .mov [.c (iv 0)]] [0,2] []) (.seq (.seq (rgN [oq 5 (.load (some 6)) [.t 1],oq 6 .mov [.c (iv 0)]] [1] [1]) (.block 0 (.loop c_bundle_Check_l0))) c_bundle_Check_k1))
def r_bundle_Check:List ResA:=[.t 2]
theorem t_bundle_Check:transl Try.prog F_bundle_Check=some (bare c_bundle_Check,r_bundle_Check,16):=by kernel_rfl
def c_problem_simple:ACode:=(.seq (rgN [oq 3 .box [.t 1],oq 4 .mov [.c (iv 0)]] [1,4] []) (.seq (.block 0 (.seq (rgN [oq 6 (.faddr 0) [.t 3],oq 7 (.load none) [.t 6],oq 8 (.bin .lss T_int (.tmp 7) (kc 0)) [.t 7,.c (iv 0)],oq 9 .mov [.t 8],⟨some 10,.faddr 0,[.t 3],some (9,false)⟩,⟨some 11,.load none,[.t 10],some (9,false)⟩,⟨some 12,.mov,[.t 0],some (9,false)⟩,⟨some 13,.bin .geq T_int (.tmp 11) (.tmp 12),[.t 11,.t 12],some (9,false)⟩,oq 14 .pick [.t 9,.c (bv true),.t 13],oq 5 .mov [.t 14]] [0,6,7,8,9,10,11,12,13,14] []) (.cond (.t 5) (.seq (rgN [oq 4 .mov [.c (iv 6)]] [3,5] [3]) .ret) (.seq (rgN [oq 16 (.faddr 7) [.t 3],oq 17 (.load none) [.t 16],oq 18 (.bin .lss T_int64 (.tmp 17) (kc 1)) [.t 17,.c (iv 1)],oq 19 .mov [.t 18],⟨some 20,.faddr 7,[.t 3],some (19,false)⟩,⟨some 21,.load none,[.t 20],some (19,false)⟩,⟨some 22,.bin .gtr T_int64 (.tmp 21) (kc 1000000),[.t 21,.c (iv 1000000)],some (19,false)⟩,oq 23 .pick [.t 19,.c (bv true),.t 22],oq 15 .mov [.t 23]] [5,16,17,18,19,20,21,22,23] []) (.cond (.t 15) (.seq (rgN [oq 4 .mov [.c (iv 4)]] [3,15] [3]) .ret) .skip))))) (.seq (rgN [oq 24 (.faddr 1) [.t 3],oq 25 (.load (some 6)) [.t 24],oq 26 (.call F_bundle_Check) [.t 25],oq 4 .mov [.t 26]] [3,15,24,25,26] [3]) .ret)))
def r_problem_simple:List ResA:=[.t 4]
theorem t_problem_simple:transl Try.prog F_problem_simple=some (bare c_problem_simple,r_problem_simple,27):=by kernel_rfl
def tabL:List (Nat × (ACode × List ResA × Nat)):=[(F_law26_CoalitionWorth,(c_law26_CoalitionWorth,r_law26_CoalitionWorth,64)),(F_law26_CoalitionGrows,(c_law26_CoalitionGrows,r_law26_CoalitionGrows,136)),(F_law26_CoalitionSplits,(c_law26_CoalitionSplits,r_law26_CoalitionSplits,135)),(F_law26_CoalitionTable,(c_law26_CoalitionTable,r_law26_CoalitionTable,48)),(F_law26_CoalitionWithout,(c_law26_CoalitionWithout,r_law26_CoalitionWithout,113)),(F_law26_light,(c_law26_light,r_law26_light,16)),(F_law26_lives,(c_law26_lives,r_law26_lives,76)),(F_coalition_Worth,(c_coalition_Worth,r_coalition_Worth,21)),(F_coalition_Best,(c_coalition_Best,r_coalition_Best,79)),(F_ref26_Best,(c_ref26_Best,r_ref26_Best,34)),(F_law26_same,(c_law26_same,r_law26_same,26)),(F_ref20_Check,(c_ref20_Check,r_ref20_Check,168)),(F_coalition_Table,(c_coalition_Table,r_coalition_Table,32)),(F_ref26_Table,(c_ref26_Table,r_ref26_Table,33)),(F_problem_Without,(c_problem_Without,r_problem_Without,39)),(F_problem_Feasible,(c_problem_Feasible,r_problem_Feasible,28)),(F_problem_Value,(c_problem_Value,r_problem_Value,35)),(F_law26_example,(c_law26_example,r_law26_example,12)),(F_coalition_fault,(c_coalition_fault,r_coalition_fault,21)),(F_coalition_newSolver,(c_coalition_newSolver,r_coalition_newSolver,35)),(F__p_coalition_solver__best,(c__p_coalition_solver__best,r__p_coalition_solver__best,81)),(F__p_coalition_solver__start,(c__p_coalition_solver__start,r__p_coalition_solver__start,17)),(F__p_coalition_solver__after,(c__p_coalition_solver__after,r__p_coalition_solver__after,42)),(F_ref26_search,(c_ref26_search,r_ref26_search,71)),(F_ref08_Valid,(c_ref08_Valid,r_ref08_Valid,18)),(F_ref20_fits,(c_ref20_fits,r_ref20_fits,49)),(F_problem_Check,(c_problem_Check,r_problem_Check,42)),(F_ref26_Worth,(c_ref26_Worth,r_ref26_Worth,17)),(F_slices_Cloneasl_int_int_,(c_slices_Cloneasl_int_int_,r_slices_Cloneasl_int_int_,8)),(F_problem_picked,(c_problem_picked,r_problem_picked,37)),(F__problem_view__fits,(c__problem_view__fits,r__problem_view__fits,35)),(F__p_coalition_solver__outside,(c__p_coalition_solver__outside,r__p_coalition_solver__outside,43)),(F_bundle_Within,(c_bundle_Within,r_bundle_Within,10)),(F_bundle_Sub,(c_bundle_Sub,r_bundle_Sub,19)),(F_ref20_Feasible,(c_ref20_Feasible,r_ref20_Feasible,25)),(F_ref20_coef,(c_ref20_coef,r_ref20_coef,80)),(F__problem_view__frame,(c__problem_view__frame,r__problem_view__frame,89)),(F__problem_view__offer,(c__problem_view__offer,r__problem_view__offer,26)),(F__problem_view__coef,(c__problem_view__coef,r__problem_view__coef,60)),(F__problem_view__rows,(c__problem_view__rows,r__problem_view__rows,8)),(F__problem_view__bound,(c__problem_view__bound,r__problem_view__bound,29)),(F_bundle_Meet,(c_bundle_Meet,r_bundle_Meet,20)),(F_ref20_Picked,(c_ref20_Picked,r_ref20_Picked,57)),(F_bundle_Check,(c_bundle_Check,r_bundle_Check,16)),(F_problem_simple,(c_problem_simple,r_problem_simple,27))]
abbrev tab:FTab:=lk tabL
theorem tab_ok:TabOk Try.prog tab:=(.cons t_law26_CoalitionWorth (.cons t_law26_CoalitionGrows (.cons t_law26_CoalitionSplits (.cons t_law26_CoalitionTable (.cons t_law26_CoalitionWithout (.cons t_law26_light (.cons t_law26_lives (.cons t_coalition_Worth (.cons t_coalition_Best (.cons t_ref26_Best (.cons t_law26_same (.cons t_ref20_Check (.cons t_coalition_Table (.cons t_ref26_Table (.cons t_problem_Without (.cons t_problem_Feasible (.cons t_problem_Value (.cons t_law26_example (.cons t_coalition_fault (.cons t_coalition_newSolver (.cons t__p_coalition_solver__best (.cons t__p_coalition_solver__start (.cons t__p_coalition_solver__after (.cons t_ref26_search (.cons t_ref08_Valid (.cons t_ref20_fits (.cons t_problem_Check (.cons t_ref26_Worth (.cons t_slices_Cloneasl_int_int_ (.cons t_problem_picked (.cons t__problem_view__fits (.cons t__p_coalition_solver__outside (.cons t_bundle_Within (.cons t_bundle_Sub (.cons t_ref20_Feasible (.cons t_ref20_coef (.cons t__problem_view__frame (.cons t__problem_view__offer (.cons t__problem_view__coef (.cons t__problem_view__rows (.cons t__problem_view__bound (.cons t_bundle_Meet (.cons t_ref20_Picked (.cons t_bundle_Check (.cons t_problem_simple .nil)))))))))))))))))))))))))))))))))))))))))))))
end Go.Proofs.Ytpmaehfiifinhaa

namespace Go.Dig
def B:Nat:=4294967296
def val:List Nat→Nat
 | []=>0
 | d::l=>d+B*val l
def ok (l:List Nat):Prop:=∀ d∈l,d<B
end Go.Dig

namespace Go.Proofs.Ytpmaehfiifinhaa
open Go Go.Am Go.Dig
theorem wrap_succ {k:Nat} (h:k<4611686018427387904):IntKind.i64.wrap ((k:Int)+1)=((k+1:Nat):Int):=by
 rw[wrap64]<;>omega
theorem imp_full {sz:Nat} {rows:List (List AV)}:AV.imp (.list sz .full rows) (.list sz .plain rows):=fun I w v h=>by
 cases h with
 | listNil _ _ a cap hm ho=>exact .listNil _ _ a cap (by simp) (by simp)
 | list _ _ _ b o cap g hcap hm ho hrow hcell hc=>exact .list _ _ _ b o cap g hcap (by simp) (by simp) hrow hcell hc
end Go.Proofs.Ytpmaehfiifinhaa

namespace Go.Pb
structure Of where
 b:Int
 w:Nat→Int
 v:Int
structure Pb where
 sup:Nat→Int
 opn:Nat→Int
 cls:Nat→Int
 cl:List Int
 of:List Of
def preS {α:Type} (f:α→Int) (l:List α) (k:Nat):Int:=((l.take k).map f).sum
section
variable {α:Type} {f g:α→Int} {l:List α} {k:Nat} {o:α}
theorem preS_zero:preS f l 0=0:=rfl
theorem take_succ' (h:l[k]?=some o):l.take (k+1)=l.take k++[o]:=by rw[List.take_add_one,h]; rfl
theorem preS_succ (h:l[k]?=some o):preS f l (k+1)=preS f l k+f o:=by
 unfold preS
 rw[take_succ' h,List.map_append,List.sum_append]
 simp
theorem preS_all:preS f l l.length=(l.map f).sum:=by simp[preS]
theorem preS_bound {a b:Int} (h:∀ o∈l,a≤f o∧f o≤b):∀ k,k≤l.length→a*k≤preS f l k∧preS f l k≤b*k
 | 0,_=>by simp[preS]
 | k+1,hk=>by
  have hk':k<l.length:=by omega
  have hg:l[k]?=some l[k]:=by simp[hk']
  obtain ⟨h1,h2⟩:=preS_bound h k (by omega)
  obtain ⟨h3,h4⟩:=h l[k] (List.getElem_mem hk')
  rw[preS_succ hg,Int.natCast_add,Int.mul_add,Int.mul_add]
  omega
end
def okB (w:Nat→Int):Prop:=∀ j,j<6→0≤w j∧w j≤4
instance (w:Nat→Int):Decidable (okB w):=by unfold okB; exact inferInstance
def zeroB (w:Nat→Int):Prop:=∀ j,j<6→w j=0
instance (w:Nat→Int):Decidable (zeroB w):=by unfold zeroB; exact inferInstance
def eqB (w u:Nat→Int):Prop:=∀ j,j<6→w j=u j
instance (w u:Nat→Int):Decidable (eqB w u):=by unfold eqB; exact inferInstance
def leB (w u:Nat→Int):Prop:=∀ j,j<6→w j≤u j
instance (w u:Nat→Int):Decidable (leB w u):=by unfold leB; exact inferInstance
def Pb.clOf (P:Pb) (b:Int):Int:=P.cl.getD b.toNat 0
def Pb.rows (P:Pb):Nat:=P.cl.length+12
def Pb.coef (P:Pb) (r:Nat) (o:Of):Int :=
 if r<P.cl.length then (if o.b=r then 1 else 0)
 else if r<P.cl.length+6 then o.w (r-P.cl.length)
 else if P.cls (r-P.cl.length-6)=0∨P.cls (r-P.cl.length-6)=P.clOf o.b then 0 else o.w (r-P.cl.length-6)
def Pb.bnd (P:Pb) (r:Nat):Int :=
 if r<P.cl.length then 1 else if r<P.cl.length+6 then P.sup (r-P.cl.length) else P.opn (r-P.cl.length-6)
def Pb.fits (P:Pb) (l:List Of):Prop:=∀ r,r<P.rows→(l.map (P.coef r)).sum≤P.bnd r
instance (P:Pb) (l:List Of):Decidable (P.fits l):=by unfold Pb.fits; exact inferInstance
def Pb.okC (P:Pb) (j:Nat):Prop:=0≤P.cls j∧P.cls j≤4∧0≤P.opn j∧P.opn j≤P.sup j∧(P.cls j=0→P.opn j=P.sup j)
instance (P:Pb) (j:Nat):Decidable (P.okC j):=by unfold Pb.okC; exact inferInstance
def Pb.okCs (P:Pb):Prop:=∀ j,j<6→P.okC j
instance (P:Pb):Decidable P.okCs:=Nat.decidableBallLT 6 fun j _=>P.okC j
def okCl (c:Int):Prop:=0≤c∧c≤4
instance (c:Int):Decidable (okCl c):=by unfold okCl; exact inferInstance
def Pb.frameE (P:Pb):Int :=
 if ¬ okB P.sup then 4 else if ¬ P.okCs then 4 else if 8<P.cl.length∨160<P.of.length then 3 else if ∀ c∈P.cl,okCl c then 0 else 4
def fldE (n:Nat) (o:Of):Int:=if o.b<0∨(n:Int)≤o.b then 6 else if o.v<1∨1000000<o.v then 4 else if okB o.w then 0 else 4
def Pb.offE (P:Pb) (o:Of):Int:=if fldE P.cl.length o≠0 then fldE P.cl.length o else if zeroB o.w then 4 else if P.fits [o] then 0 else 14
def sameO (o o':Of):Prop:=o.b=o'.b∧eqB o.w o'.w
instance (o o':Of):Decidable (sameO o o'):=by unfold sameO; exact inferInstance
def Pb.offI (P:Pb) (i:Nat) (o:Of):Int:=if P.offE o≠0 then P.offE o else if ∃ o'∈P.of.take i,sameO o' o then 7 else 0
def Pb.chkL (P:Pb):Nat→Int
 | 0=>0
 | i+1=>if P.chkL i=0 then (match P.of[i]? with | some o=>P.offI i o | none=>0) else P.chkL i
def Pb.chk (P:Pb):Int:=if P.frameE=0 then P.chkL P.of.length else P.frameE
section
variable {P:Pb}
theorem chkL_stay {i:Nat} (h:P.chkL i≠0):∀ d,P.chkL (i+d)=P.chkL i
 | 0=>rfl
 | d+1=>by
  have:=chkL_stay h d
  rw[← Nat.add_assoc,Pb.chkL,this,if_neg h]
theorem chkL_first {i k:Nat} {o:Of} (h0:P.chkL i=0) (hi:P.of[i]?=some o) (he:P.offI i o≠0) (hk:i<k):P.chkL k=P.offI i o:=by
 have h1:P.chkL (i+1)=P.offI i o:=by rw[Pb.chkL,if_pos h0,hi]
 have h2:=chkL_stay (P:=P) (i:=i+1) (by rw[h1]; exact he) (k-(i+1))
 rw[show i+1+(k-(i+1))=k by omega] at h2
 rw[h2,h1]
theorem chkL_next {i:Nat} {o:Of} (h0:P.chkL i=0) (hi:P.of[i]?=some o) (he:P.offI i o=0):P.chkL (i+1)=0:=by rw[Pb.chkL,if_pos h0,hi]; exact he
theorem chkL_zero {k:Nat} (h:P.chkL k=0):∀ i o,i<k→P.of[i]?=some o→P.offI i o=0:=by
 induction k with
 | zero=>intro i o hi; omega
 | succ k ih =>
  have hk:P.chkL k=0:=by
   rw[Pb.chkL] at h
   split at h
   ·rename_i h0; exact h0
   ·exact h
  intro i o hi ho
  by_cases e:i=k
  ·subst e
   rw[Pb.chkL,if_pos hk,ho] at h
   exact h
  ·exact ih hk i o (by omega) ho
structure Pb.Good (P:Pb):Prop where
 sup:okB P.sup
 set:P.okCs
 n:P.cl.length≤8
 k:P.of.length≤160
 cl:∀ c∈P.cl,okCl c
 off:∀ o∈P.of,P.offE o=0
 new:∀ (i l:Nat) o o',l<i→P.of[i]?=some o→P.of[l]?=some o'→¬ sameO o' o
theorem chk_good (h:P.chk=0):P.Good:=by
 unfold Pb.chk at h
 split at h
 ·rename_i hf
  unfold Pb.frameE at hf
  split at hf
  ·cases hf
  ·rename_i h1
   split at hf
   ·cases hf
   ·rename_i h2
    split at hf
    ·cases hf
    ·rename_i h3
     split at hf
     ·rename_i h4
      have hz:=chkL_zero h
      refine ⟨Decidable.not_not.1 h1,Decidable.not_not.1 h2,by omega,by omega,h4,fun o ho=>?_,fun i l o o' hl hi hlo hs=>?_⟩
      ·obtain ⟨i,hi,rfl⟩:=List.getElem_of_mem ho
       have:=hz i P.of[i] hi (by simp[hi])
       unfold Pb.offI at this
       split at this
       ·exact this
       ·rename_i h5; exact Decidable.not_not.1 h5
      ·have hi':i<P.of.length:=(List.getElem?_eq_some_iff.1 hi).1
       have:=hz i o hi' hi
       unfold Pb.offI at this
       split at this
       ·rename_i h5; exact h5 this
       ·rw[if_pos ⟨o',List.mem_of_getElem? (i:=l) (by rw[List.getElem?_take,if_pos hl]; exact hlo),hs⟩] at this
        cases this
     ·cases hf
 ·rename_i hf; exact absurd h hf
theorem off_sim {o:Of} (h:P.offE o=0):fldE P.cl.length o=0∧¬ zeroB o.w∧P.fits [o]:=by
 unfold Pb.offE at h
 split at h
 ·rename_i h1; exact absurd h h1
 ·rename_i h1
  split at h
  ·cases h
  ·rename_i h2
   split at h
   ·rename_i h3; exact ⟨Decidable.not_not.1 h1,h2,h3⟩
   ·cases h
theorem sim_ok {n:Nat} {o:Of} (h:fldE n o=0):(0≤o.b∧o.b<n)∧(1≤o.v∧o.v≤1000000)∧okB o.w:=by
 unfold fldE at h
 split at h
 ·cases h
 ·rename_i h1
  split at h
  ·cases h
  ·rename_i h2
   split at h
   ·rename_i h3; exact ⟨by omega,by omega,h3⟩
   ·cases h
theorem coef_ok {r:Nat} {o:Of} (hw:okB o.w) (hr:r<P.rows):0≤P.coef r o∧P.coef r o≤4:=by
 unfold Pb.rows at hr
 unfold Pb.coef
 split
 ·split<;>omega
 ·split
  ·exact hw _ (by omega)
  ·split
   ·omega
   ·exact hw _ (by omega)
end
end Go.Pb

namespace Go.Proofs.Ytpmaehfiifinhaa
open Go Go.Am Go.Pb
def bI (w:Nat→Int):List Int:=[w 0,w 1,w 2,w 3,w 4,w 5]
@[irreducible] def bC (w:Nat→Int):List AV:=(bI w).map iv
theorem bC_eq (w:Nat→Int):bC w=[iv (w 0),iv (w 1),iv (w 2),iv (w 3),iv (w 4),iv (w 5)]:=by unfold bC; rfl
section
variable {w u:Nat→Int} {k l a b M:Nat} {e:Entry}
@[simp] theorem bC_len:(bC w).length=6:=by rw[bC_eq]; rfl
@[simp] theorem bC_rf:(bC w).all rf=true:=by rw[bC_eq]; rfl
theorem bC_mem {x:AV} (h:x∈bC w):∃ n,x=iv n:=by
 unfold bC at h
 obtain ⟨n,_,rfl⟩:=List.mem_map.1 h
 exact ⟨n,rfl⟩
@[simp] theorem bC_mem_rf:(∀ x,x∈bC w→rf x=true)=True:=eq_true fun x h=>by obtain ⟨n,rfl⟩:=bC_mem h; rfl
@[simp] theorem bC_strip:(bC w).map strip=bC w:=by rw[bC_eq]; rfl
@[simp] theorem bC_dg:(bC w).map (dg l)=bC w:=by rw[bC_eq]; simp
@[simp] theorem bC_ref:anyRef k (bC w)=false:=by rw[bC_eq]; simp
theorem bC_get (h:k<6):(bC w)[k]?=some (iv (w k)):=by
 rw[bC_eq]
 match k,h with
 | 0,_=>rfl
 | 1,_=>rfl
 | 2,_=>rfl
 | 3,_=>rfl
 | 4,_=>rfl
 | 5,_=>rfl
 | n+6,h=>omega
@[simp] theorem bC_getE {h:k<(bC w).length}:(bC w)[k]=iv (w k):=by
 have h2:k<6:=by simpa using h
 have:=bC_get (w:=w) h2
 rw[List.getElem?_eq_getElem h] at this
 exact Option.some.inj this
@[simp] theorem goLoad_bC:goLoad (bC w) 0 (some 6)=some (.agg (bC w)):=by rw[goLoad_all bC_len bC_rf,bC_strip]
theorem goLoad_bk (h:k<6):goLoad (bC w) k none=some (iv (w k)):=by
 simp[goLoad,bC_get h]
theorem partA_bk (h:k<6):partA (bC w) k none=some (iv (w k)):=by
 simp[partA,bC_get h]
@[simp] theorem isInts_bC:isInts 6 (bC w)=true:=by unfold bC; rw[isInts_map]; rfl
@[simp] theorem intsA_bC:intsA (bC w)=bI w:=by unfold bC; exact intsA_map _
theorem bI_eq:(bI w=bI u)↔eqB w u:=by
 unfold bI eqB
 constructor
 ·intro h j hj
  simp only[List.cons.injEq,and_true] at h
  obtain ⟨h0,h1,h2,h3,h4,h5⟩:=h
  match j,hj with
  | 0,_=>exact h0
  | 1,_=>exact h1
  | 2,_=>exact h2
  | 3,_=>exact h3
  | 4,_=>exact h4
  | 5,_=>exact h5
  | n+6,h=>omega
 ·intro h
  rw[h 0 (by omega),h 1 (by omega),h 2 (by omega),h 3 (by omega),h 4 (by omega),h 5 (by omega)]
theorem bC_congr (h:eqB w u):bC w=bC u:=by unfold bC; rw[bI_eq.2 h]
theorem bC_set {x:Int} (h:k<6):splice (bC w) k [iv x]=bC (fun j=>if j=k then x else w j):=by
 rw[bC_eq,bC_eq]
 match k,h with
 | 0,_=>rfl
 | 1,_=>rfl
 | 2,_=>rfl
 | 3,_=>rfl
 | 4,_=>rfl
 | 5,_=>rfl
 | n+6,h=>omega
end
@[irreducible] def oC (o:Of):List AV:=iv o.b::(bC o.w++[iv o.v])
theorem oC_eq (o:Of):oC o=[iv o.b,iv (o.w 0),iv (o.w 1),iv (o.w 2),iv (o.w 3),iv (o.w 4),iv (o.w 5),iv o.v]:=by unfold oC; rw[bC_eq]; rfl
section
variable {o:Of} {k l:Nat}
@[simp] theorem oC_len:(oC o).length=8:=by rw[oC_eq]; rfl
@[simp] theorem oC_rf:(oC o).all rf=true:=by rw[oC_eq]; rfl
@[simp] theorem oC_mem_rf:(∀ x,x∈oC o→rf x=true)=True:=eq_true fun x h=>List.all_eq_true.1 oC_rf x h
@[simp] theorem oC_strip:(oC o).map strip=oC o:=by rw[oC_eq]; rfl
@[simp] theorem oC_dg:(oC o).map (dg l)=oC o:=by rw[oC_eq]; simp
@[simp] theorem oC_ref:anyRef k (oC o)=false:=by rw[oC_eq]; simp
@[simp] theorem oC_0:(oC o)[0]?=some (iv o.b):=by rw[oC_eq]; rfl
@[simp] theorem oC_7:(oC o)[7]?=some (iv o.v):=by rw[oC_eq]; rfl
@[simp] theorem oC_0E {h:0<(oC o).length}:(oC o)[0]=iv o.b:=by have:=oC_0 (o:=o); rw[List.getElem?_eq_getElem h] at this; exact Option.some.inj this
@[simp] theorem oC_7E {h:7<(oC o).length}:(oC o)[7]=iv o.v:=by have:=oC_7 (o:=o); rw[List.getElem?_eq_getElem h] at this; exact Option.some.inj this
theorem oC_get (h:k<6):(oC o)[1+k]?=some (iv (o.w k)):=by
 rw[oC_eq]
 match k,h with
 | 0,_=>rfl
 | 1,_=>rfl
 | 2,_=>rfl
 | 3,_=>rfl
 | 4,_=>rfl
 | 5,_=>rfl
 | n+6,h=>omega
@[simp] theorem goLoad_oC:goLoad (oC o) 0 (some 8)=some (.agg (oC o)):=by rw[goLoad_all oC_len oC_rf,oC_strip]
@[simp] theorem goLoad_oC0:goLoad (oC o) 0 none=some (iv o.b):=by simp[goLoad]
@[simp] theorem goLoad_oC7:goLoad (oC o) 7 none=some (iv o.v):=by simp[goLoad]
@[simp] theorem goLoad_oCw:goLoad (oC o) 1 (some 6)=some (.agg (bC o.w)):=by rw[oC_eq,bC_eq]; rfl
theorem goLoad_oCk (h:k<6):goLoad (oC o) (1+k) none=some (iv (o.w k)):=by simp[goLoad,oC_get h]
end
def clR (l:List Int):List (List AV):=l.map fun c=>[iv c]
abbrev clA (l:List Int):AV:=.list 1 .plain (clR l)
def ofR (l:List Of):List (List AV):=l.map oC
abbrev ofA (l:List Of):AV:=.list 8 .plain (ofR l)
section
variable {l:List Int} {L:List Of} {k:Nat} {c:Int} {o:Of}
@[simp] theorem clR_len:(clR l).length=l.length:=by simp[clR]
@[simp] theorem clR_rf:rowsRf (clR l)=true:=by simp[clR,rowsRf]
@[simp] theorem clR_st:rowsSt (clR l)=clR l:=by simp[clR,rowsSt]
@[simp] theorem ofR_len:(ofR L).length=L.length:=by simp[ofR]
@[simp] theorem ofR_rf:rowsRf (ofR L)=true:=by simp[ofR,rowsRf]
@[simp] theorem ofR_st:rowsSt (ofR L)=ofR L:=by simp[ofR,rowsSt]
end
@[irreducible] def pbX (P:Pb) (c o:AV):List AV:=bC P.sup++bC P.opn++bC P.cls++[c,o]
theorem pbX_eq (P:Pb) (c o:AV):pbX P c o=[iv (P.sup 0),iv (P.sup 1),iv (P.sup 2),iv (P.sup 3),iv (P.sup 4),iv (P.sup 5),iv (P.opn 0),iv (P.opn 1),iv (P.opn 2),iv (P.opn 3),iv (P.opn 4),iv (P.opn 5),
  iv (P.cls 0),iv (P.cls 1),iv (P.cls 2),iv (P.cls 3),iv (P.cls 4),iv (P.cls 5),c,o]:=by unfold pbX; rw[bC_eq,bC_eq,bC_eq]; rfl
abbrev pbC (P:Pb):List AV:=pbX P (clA P.cl) (ofA P.of)
section
variable {P:Pb} {c o:AV} {k l:Nat}
@[simp] theorem pbX_len:(pbX P c o).length=20:=by rw[pbX_eq]; rfl
theorem pbX_rf (hc:rf c=true) (ho:rf o=true):(pbX P c o).all rf=true:=by rw[pbX_eq]; simp[hc,ho]
@[simp] theorem pbC_rf:(pbC P).all rf=true:=pbX_rf rfl rfl
@[simp] theorem pbC_mem_rf:(∀ x,x∈pbC P→rf x=true)=True:=eq_true fun x h=>List.all_eq_true.1 pbC_rf x h
@[simp] theorem pbX_strip:(pbX P c o).map strip=pbX P (strip c) (strip o):=by rw[pbX_eq,pbX_eq]; rfl
@[simp] theorem pbX_dg:(pbX P c o).map (dg l)=pbX P (dg l c) (dg l o):=by rw[pbX_eq,pbX_eq]; simp
@[simp] theorem pbX_ref:anyRef k (pbX P c o)=(refsTo k c||refsTo k o):=by rw[pbX_eq]; simp[anyRef]
@[simp] theorem goLoad_pbC:goLoad (pbC P) 0 (some 20)=some (.agg (pbC P)):=by rw[goLoad_all pbX_len pbC_rf,pbX_strip]; rfl
@[simp] theorem goLoad_sup:goLoad (pbX P c o) 0 (some 6)=some (.agg (bC P.sup)):=by rw[pbX_eq,bC_eq]; rfl
@[simp] theorem goLoad_opn:goLoad (pbX P c o) 6 (some 6)=some (.agg (bC P.opn)):=by rw[pbX_eq,bC_eq]; rfl
@[simp] theorem goLoad_cls:goLoad (pbX P c o) 12 (some 6)=some (.agg (bC P.cls)):=by rw[pbX_eq,bC_eq]; rfl
@[simp] theorem pbX_18:(pbX P c o)[18]?=some c:=by rw[pbX_eq]; rfl
@[simp] theorem pbX_19:(pbX P c o)[19]?=some o:=by rw[pbX_eq]; rfl
@[simp] theorem goLoad_18:goLoad (pbX P c o) 18 none=some c:=by rw[pbX_eq]; rfl
@[simp] theorem goLoad_19:goLoad (pbX P c o) 19 none=some o:=by rw[pbX_eq]; rfl
@[simp] theorem pbX_18E {h:18<(pbX P c o).length}:(pbX P c o)[18]=c:=by have:=pbX_18 (P:=P) (c:=c) (o:=o); rw[List.getElem?_eq_getElem h] at this; exact Option.some.inj this
@[simp] theorem pbX_19E {h:19<(pbX P c o).length}:(pbX P c o)[19]=o:=by have:=pbX_19 (P:=P) (c:=c) (o:=o); rw[List.getElem?_eq_getElem h] at this; exact Option.some.inj this
theorem goLoad_supk (h:k<6):goLoad (pbX P c o) k none=some (iv (P.sup k)):=by
 rw[pbX_eq]
 match k,h with
 | 0,_=>rfl
 | 1,_=>rfl
 | 2,_=>rfl
 | 3,_=>rfl
 | 4,_=>rfl
 | 5,_=>rfl
 | n+6,h=>omega
theorem goLoad_opnk (h:k<6):goLoad (pbX P c o) (6+k) none=some (iv (P.opn k)):=by
 rw[pbX_eq]
 match k,h with
 | 0,_=>rfl
 | 1,_=>rfl
 | 2,_=>rfl
 | 3,_=>rfl
 | 4,_=>rfl
 | 5,_=>rfl
 | n+6,h=>omega
theorem goLoad_clsk (h:k<6):goLoad (pbX P c o) (12+k) none=some (iv (P.cls k)):=by
 rw[pbX_eq]
 match k,h with
 | 0,_=>rfl
 | 1,_=>rfl
 | 2,_=>rfl
 | 3,_=>rfl
 | 4,_=>rfl
 | 5,_=>rfl
 | n+6,h=>omega
theorem pbX_supk (h:k<6):(pbX P c o)[k]?=some (iv (P.sup k)):=by have:=goLoad_supk (P:=P) (c:=c) (o:=o) h; simpa [goLoad] using this
theorem pbX_opnk (h:k<6):(pbX P c o)[6+k]?=some (iv (P.opn k)):=by have:=goLoad_opnk (P:=P) (c:=c) (o:=o) h; simpa [goLoad] using this
theorem pbX_clsk (h:k<6):(pbX P c o)[12+k]?=some (iv (P.cls k)):=by have:=goLoad_clsk (P:=P) (c:=c) (o:=o) h; simpa [goLoad] using this
theorem pbX_splice {r:List AV} (h:r.length=20):splice r 0 (pbX P c o)=pbX P c o:=by
 unfold splice
 rw[List.take_zero,List.nil_append,Nat.zero_add,pbX_len,List.drop_of_length_le (by omega),List.append_nil]
@[simp] theorem pbX_set18 {x:AV}:splice (pbX P c o) 18 [x]=pbX P x o:=by rw[pbX_eq,pbX_eq]; rfl
@[simp] theorem pbX_set19 {x:AV}:splice (pbX P c o) 19 [x]=pbX P c x:=by rw[pbX_eq,pbX_eq]; rfl
end
end Go.Proofs.Ytpmaehfiifinhaa

namespace Go.Proofs.Ytpmaehfiifinhaa
open Go Go.Am Go.Pb
def stBc (w:Nat→Int) (k:Nat):St:={env:=[(5,.agg (bC w)),(6,iv k)],sto:=[]}
theorem bcheck_s {w:Nat→Int}:SoundCall Try.prog F_bundle_Check [.agg (bC w)] (iv (if okB w then 0 else 4)):=by
 refine sound' t_bundle_Check (by simp) ?_
 simp[c_bundle_Check]
 refine awp_forW (stBc w) (fun i=>∀ j,j<i→0≤w j∧w j≤4) 6 (by simp[stBc]) (fun j hj=>by omega) (fun i hi hI=>?_) (fun hI=>?_)
 ·have e:(i:Int)<6:=by omega
  have w1:=wrap_succ (k:=i) (by omega)
  by_cases c1:w i<0
  ·rw[if_neg fun h=>by have:=h i hi; omega]
   simp[c_bundle_Check_l0,stBc,e,partA_bk hi,c1,r_bundle_Check]
  ·by_cases c2:4<w i
   ·rw[if_neg fun h=>by have:=h i hi; omega]
    simp[c_bundle_Check_l0,stBc,e,partA_bk hi,c1,c2,r_bundle_Check]
   ·simp[c_bundle_Check_l0,stBc,e,partA_bk hi,c1,c2,w1]
    exact fun j hj=>by
     by_cases e:j=i
     ·subst e; omega
     ·exact hI j (by omega)
 ·rw[if_pos (show okB w from hI)]
  simp[c_bundle_Check_l0,stBc,c_bundle_Check_k1,r_bundle_Check]
def meetK (w u:Nat→Int) (k j:Nat):Int:=if j<k then min (w j) (u j) else w j
def stMt (w u:Nat→Int) (k:Nat):St:={env:=[(2,.ptr 2 0),(3,.ptr 3 0),(4,.ptr 4 0),(6,iv k)],sto:=[(2,.var (bC (meetK w u k))),(3,.var (bC u)),(4,.var [iv 0,iv 0,iv 0,iv 0,iv 0,iv 0])]}
theorem meet_s {w u:Nat→Int}:SoundCall Try.prog F_bundle_Meet [.agg (bC w),.agg (bC u)] (.agg (bC fun j=>min (w j) (u j))):=by
 refine sound' t_bundle_Meet (by simp) ?_
 have h0:bC w=bC (meetK w u 0):=bC_congr fun j _=>by unfold meetK; rw[if_neg (Nat.not_lt_zero j)]
 have h6:bC (fun j=>min (w j) (u j))=bC (meetK w u 6):=bC_congr fun j hj=>by unfold meetK; rw[if_pos hj]
 rw[h6]
 simp[c_bundle_Meet]
 rw[h0]
 refine awp_forW (stMt w u) (fun _=>True) 6 (by simp[stMt]) trivial (fun i hi _=>?_) (fun _=>?_)
 ·have e:(i:Int)<6:=by omega
  have w1:=wrap_succ (k:=i) (by omega)
  have e1:meetK w u i i=w i:=by unfold meetK; rw[if_neg (Nat.lt_irrefl i)]
  have hs:∀ x,splice (bC (meetK w u i)) i [iv x]=bC (fun j=>if j=i then x else meetK w u i j):=fun x=>bC_set hi
  have h1:bC (fun j=>if j=i then min (w i) (u i) else meetK w u i j)=bC (meetK w u (i+1)):=bC_congr fun j _=>by
   unfold meetK
   by_cases e:j=i
   ·subst e; rw[if_pos rfl,if_pos (Nat.lt_succ_self j)]
   ·rw[if_neg e]
    by_cases h:j<i
    ·rw[if_pos h,if_pos (by omega)]
    ·rw[if_neg h,if_neg (by omega)]
  have h2:splice (bC (meetK w u i)) i [iv (min (w i) (u i))]=bC (meetK w u (i+1)):=by rw[hs,h1]
  simp[c_bundle_Meet_l0,stMt,e,goLoad_bk hi,e1,w1,h2]
  omega
 ·simp[c_bundle_Meet_l0,stMt,c_bundle_Meet_k1,r_bundle_Meet]
theorem within_s {w u:Nat→Int}:SoundCall Try.prog F_bundle_Within [.agg (bC w),.agg (bC u)] (bv (decide (leB w u))):=by
 have hd:decide (bI (fun j=>min (w j) (u j))=bI w)=decide (leB w u):=by
  rw[decide_eq_decide,bI_eq]
  unfold eqB leB
  exact ⟨fun h j hj=>by have:=h j hj; dsimp only at this; omega,fun h j hj=>by have:=h j hj; dsimp only; omega⟩
 have hk:kds Try.prog Op.maxDepth T_api_Bundle=some (List.replicate 6 (.i .i64)):=by kernel_rfl
 have hg:Try.prog.eqGuardType Try.prog.depth T_api_Bundle=false:=by kernel_rfl
 have hA:agT Try.prog T_api_Bundle=true:=by kernel_rfl
 refine sound' t_bundle_Within (by simp) ?_
 simp[c_bundle_Within]
 refine eCall_i (meet_s (w:=w) (u:=u)) (by simp) (by simp) ?_
 simp
 rw[eBin_eql_ints hk hg hA isInts_bC isInts_bC]
 simp[hd,r_bundle_Within]
end Go.Proofs.Ytpmaehfiifinhaa

namespace Go.Proofs.Ytpmaehfiifinhaa
open Go Go.Am Go.Pb
section
variable {P:Pb} {r n:Nat} {o:Of}
theorem clOf_get (h:0≤o.b∧o.b<P.cl.length):∃ b:Nat,o.b=b∧b<P.cl.length∧P.cl[b]?=some (P.clOf o.b):=by
 refine ⟨o.b.toNat,by omega,by omega,?_⟩
 unfold Pb.clOf
 have h2:o.b.toNat<P.cl.length:=by omega
 rw[List.getD_eq_getElem?_getD,List.getElem?_eq_getElem h2]
 rfl
@[simp] theorem clR_getE {l:List Int} {b:Nat} {h:b<(clR l).length}:(clR l)[b]=[iv (l[b]'(by simpa using h))]:=by simp[clR]
theorem coef_s (hn:P.cl.length≤1000) (hb:0≤o.b∧o.b<P.cl.length) (hr:r<P.rows):SoundCall Try.prog F__problem_view__coef [.agg (pbC P),iv r,.agg (oC o)] (iv (P.coef r o)):=by
 unfold Pb.rows at hr
 obtain ⟨n,hn'⟩:∃ n,P.cl.length=n:=⟨_,rfl⟩
 have w1:IntKind.i64.wrap ((r:Int)-n)=(r:Int)-n:=by rw[wrap64]<;>omega
 refine sound' t__problem_view__coef (by simp) ?_
 unfold Pb.coef
 rw[hn'] at hr hb hn ⊢
 by_cases h1:r<n
 ·rw[if_pos h1]
  have c1:((r:Int)-n)<0:=by omega
  by_cases h2:o.b=r
  ·rw[if_pos h2]
   simp[c__problem_view__coef,hn',w1,c1,h2,r__problem_view__coef]
  ·rw[if_neg h2]
   simp[c__problem_view__coef,hn',w1,c1,h2,r__problem_view__coef]
 ·rw[if_neg h1]
  have c1:¬ ((r:Int)-n)<0:=by omega
  obtain ⟨k,hk⟩:∃ k,r=n+k:=⟨r-n,by omega⟩
  have e1:(r:Int)-n=k:=by omega
  have e2:r-n=k:=by omega
  rw[e1] at w1 c1
  by_cases h2:k<6
  ·rw[if_pos (by omega),e2]
   have c2:(k:Int)<6:=by omega
   simp[c__problem_view__coef,hn',e1,w1,c1,c2,oC_get h2,r__problem_view__coef]
  ·obtain ⟨j,hj0⟩:∃ j,k=6+j:=⟨k-6,by omega⟩
   rw[if_neg (by omega),e2,show k-6=j by omega]
   have c2:¬ (k:Int)<6:=by omega
   have hj:j<6:=by omega
   have hj':(j:Int)<6:=by omega
   have e3:(k:Int)-6=j:=by omega
   have w2:IntKind.i64.wrap (j:Int)=j:=by rw[wrap64]<;>omega
   obtain ⟨b,hb1,hb2,hb3⟩:=clOf_get (P:=P) (o:=o) (by rw[hn']; exact hb)
   have hbn:(b:Int)<n:=by omega
   have hbn':b<n:=by omega
   have hc:P.cl[b]?=some (P.clOf (b:Int)):=by rw[← hb1]; exact hb3
   have hE:P.cl[b]=P.clOf (b:Int):=by rw[List.getElem?_eq_getElem hb2] at hc; exact Option.some.inj hc
   rw[hb1]
   by_cases h3:P.cls j=0
   ·rw[if_pos (.inl h3)]
    simp[c__problem_view__coef,hn',e1,w1,c1,c2,e3,w2,hj',pbX_clsk hj,h3,r__problem_view__coef]
   ·by_cases h4:P.cls j=P.clOf (b:Int)
    ·rw[if_pos (.inr h4)]
     rw[h4] at h3
     simp[c__problem_view__coef,hn',e1,w1,c1,c2,e3,w2,hj',pbX_clsk hj,h3,hb1,hbn,hbn',hE,h4,r__problem_view__coef]
    ·rw[if_neg (by intro h; exact h.elim h3 h4)]
     simp[c__problem_view__coef,hn',e1,w1,c1,c2,e3,w2,hj',pbX_clsk hj,h3,hb1,hbn,hbn',hE,h4,goLoad_oCk hj,r__problem_view__coef]
end
end Go.Proofs.Ytpmaehfiifinhaa

namespace Go.Proofs.Ytpmaehfiifinhaa
open Go Go.Am Go.Pb
section
variable {P:Pb} {r n:Nat} {o:Of} {L:List Of}
theorem rows_s (hn:P.cl.length≤1000):SoundCall Try.prog F__problem_view__rows [.agg (pbC P)] (iv P.rows):=by
 refine sound' t__problem_view__rows (by simp) ?_
 have w1:IntKind.i64.wrap ((P.cl.length:Int)+12)=(P.cl.length:Int)+12:=by rw[wrap64]<;>omega
 have e:((P.rows:Nat):Int)=(P.cl.length:Int)+12:=by unfold Pb.rows; omega
 rw[e]
 simp[c__problem_view__rows,w1,r__problem_view__rows]
theorem bound_s (hn:P.cl.length≤1000) (hr:r<P.rows):SoundCall Try.prog F__problem_view__bound [.agg (pbC P),iv r] (iv (P.bnd r)):=by
 unfold Pb.rows at hr
 obtain ⟨n,hn'⟩:∃ n,P.cl.length=n:=⟨_,rfl⟩
 have w1:IntKind.i64.wrap ((r:Int)-n)=(r:Int)-n:=by rw[wrap64]<;>omega
 refine sound' t__problem_view__bound (by simp) ?_
 unfold Pb.bnd
 rw[hn'] at hr hn ⊢
 by_cases h1:r<n
 ·rw[if_pos h1]
  have c1:((r:Int)-n)<0:=by omega
  simp[c__problem_view__bound,hn',w1,c1,r__problem_view__bound]
 ·rw[if_neg h1]
  have c1:¬ ((r:Int)-n)<0:=by omega
  obtain ⟨k,hk⟩:∃ k,r=n+k:=⟨r-n,by omega⟩
  have e1:(r:Int)-n=k:=by omega
  have e2:r-n=k:=by omega
  rw[e1] at w1 c1
  by_cases h2:k<6
  ·rw[if_pos (by omega),e2]
   have c2:(k:Int)<6:=by omega
   simp[c__problem_view__bound,hn',e1,w1,c1,c2,pbX_supk h2,r__problem_view__bound]
  ·obtain ⟨j,hj0⟩:∃ j,k=6+j:=⟨k-6,by omega⟩
   rw[if_neg (by omega),e2,show k-6=j by omega]
   have c2:¬ (k:Int)<6:=by omega
   have hj:j<6:=by omega
   have hj':(j:Int)<6:=by omega
   have e3:(k:Int)-6=j:=by omega
   have w2:IntKind.i64.wrap (j:Int)=j:=by rw[wrap64]<;>omega
   simp[c__problem_view__bound,hn',e1,w1,c1,c2,e3,w2,hj',pbX_opnk hj,r__problem_view__bound]
end
end Go.Proofs.Ytpmaehfiifinhaa

namespace Go.Proofs.Ytpmaehfiifinhaa
open Go Go.Am Go.Pb
def stFt (P:Pb) (L:List Of) (r:Nat):St:={env:=[(1,ofA L),(2,.ptr 2 0),(5,.fn (.func F__problem_view__coef) []),(11,iv P.rows),(12,iv r)],sto:=[(2,.var (pbC P))]}
def stFi (P:Pb) (L:List Of) (r k:Nat):St :=
 {env:=[(1,ofA L),(2,.ptr 2 0),(5,.fn (.func F__problem_view__coef) []),(6,iv r),(7,iv (preS (P.coef r) L k)),(11,iv P.rows),(12,iv r),(15,ofA L),(16,iv L.length),(17,iv k)],sto:=[(2,.var (pbC P))]}
@[simp] theorem ofR_getE {l:List Of} {b:Nat} {h:b<(ofR l).length}:(ofR l)[b]=oC (l[b]'(by simpa using h)):=by simp[ofR]
section
variable {P:Pb} {r n:Nat} {o:Of} {L:List Of}
theorem fits_s (hn:P.cl.length≤1000) (hL:L.length≤1000) (hb:∀ o∈L,0≤o.b∧o.b<P.cl.length) (hw:∀ o∈L,okB o.w):SoundCall Try.prog F__problem_view__fits [.agg (pbC P),ofA L] (bv (decide (P.fits L))):=by
 have hok:okFn Try.prog F__problem_view__coef=true:=by kernel_rfl
 have hR:P.rows≤1012:=by unfold Pb.rows; omega
 refine sound' t__problem_view__fits (by simp) ?_
 simp[c__problem_view__fits]
 refine eCall_i (rows_s hn) (by simp) (by simp) ?_
 simp
 refine awp_forW (stFt P L) (fun r=>∀ q,q<r→(L.map (P.coef q)).sum≤P.bnd q) P.rows (by simp[stFt]) (fun q hq=>by omega) (fun r hr hI=>?_) (fun hI=>?_)
 ·have e:(r:Int)<P.rows:=by omega
  have w1:=wrap_succ (k:=r) (by omega)
  simp[c__problem_view__fits_l3,stFt,e]
  refine awp_forW (stFi P L r) (fun _=>True) L.length (by simp[stFi,preS_zero]) trivial (fun k hk _=>?_) (fun _=>?_)
  ·have e':(k:Int)<L.length:=by omega
   have hg:L[k]?=some L[k]:=by simp[hk]
   have hm:L[k]∈L:=List.getElem_mem hk
   have w2:=wrap_succ (k:=k) (by omega)
   obtain ⟨p1,p2⟩:=preS_bound (f:=P.coef r) (fun o ho=>coef_ok (P:=P) (hw o ho) hr) k (by omega)
   obtain ⟨p3,p4⟩:=coef_ok (P:=P) (hw _ hm) hr
   have w3:IntKind.i64.wrap (preS (P.coef r) L k+P.coef r L[k])=preS (P.coef r) L k+P.coef r L[k]:=by rw[wrap64]<;>omega
   have hs:=preS_succ (f:=P.coef r) hg
   simp[c__problem_view__fits_l0,stFi,e',hk,hok]
   refine eCall_i (coef_s hn (hb _ hm) hr) (by simp) (by simp) ?_
   simp[w2,w3,hs,stFi]
  ·have hall:preS (P.coef r) L L.length=(L.map (P.coef r)).sum:=preS_all
   simp[c__problem_view__fits_l0,stFi,c__problem_view__fits_k1]
   refine eCall_i (bound_s hn hr) (by simp) (by simp) ?_
   by_cases hc:P.bnd r<(L.map (P.coef r)).sum
   ·have hf:¬ P.fits L:=fun h=>by have:=h r hr; omega
    simp[hall,hc,hf,r__problem_view__fits]
   ·simp[hall,hc,c__problem_view__fits_k2,w1,stFt]
    exact fun q hq=>by
     by_cases eq:q=r
     ·subst eq; omega
     ·exact hI q (by omega)
 ·have hf:P.fits L:=hI
  simp[c__problem_view__fits_l3,stFt,hf,c__problem_view__fits_k4,r__problem_view__fits]
end
end Go.Proofs.Ytpmaehfiifinhaa

namespace Go.Proofs.Ytpmaehfiifinhaa
open Go Go.Am Go.Pb
section
variable {P:Pb} {r n:Nat} {o:Of} {L:List Of}
theorem simple_s:SoundCall Try.prog F_problem_simple [iv n,.agg (oC o)] (iv (fldE n o)):=by
 refine sound' t_problem_simple (by simp) ?_
 unfold fldE
 by_cases c1:o.b<0
 ·rw[if_pos (.inl c1)]
  simp[c_problem_simple,c1,r_problem_simple]
 ·by_cases c2:(n:Int)≤o.b
  ·rw[if_pos (.inr c2)]
   simp[c_problem_simple,c1,c2,r_problem_simple]
  ·rw[if_neg (by omega)]
   by_cases c3:o.v<1
   ·rw[if_pos (.inl c3)]
    simp[c_problem_simple,c1,c2,c3,r_problem_simple]
   ·by_cases c4:1000000<o.v
    ·rw[if_pos (.inr c4)]
     simp[c_problem_simple,c1,c2,c3,c4,r_problem_simple]
    ·rw[if_neg (by omega)]
     simp[c_problem_simple,c1,c2,c3,c4]
     refine eCall_i (bcheck_s (w:=o.w)) (by simp) (by simp) ?_
     simp[r_problem_simple]
theorem imp_q2 {f:FuncId} {x y y' r:AV} (h:SoundCall Try.prog f [x,y'] r) (hy:AV.imp y y'):SoundCall Try.prog f [x,y] r:=fun I vs w h1 h2 h3 =>
 h I vs w h1 h2 fun i a hi=>by
  match i,hi with
  | 0,hi=>exact h3 0 a hi
  | 1,hi=>simp at hi; subst hi; exact hy _ _ _ (h3 1 y rfl)
  | i+2,hi=>simp at hi
theorem bC_zero:[iv 0,iv 0,iv 0,iv 0,iv 0,iv 0]=bC (fun _=>0):=by rw[bC_eq]
theorem offer_s (hn:P.cl.length≤1000):SoundCall Try.prog F__problem_view__offer [.agg (pbC P),.agg (oC o)] (iv (P.offE o)):=by
 have hk:kds Try.prog Op.maxDepth T_api_Bundle=some (List.replicate 6 (.i .i64)):=by kernel_rfl
 have hg:Try.prog.eqGuardType Try.prog.depth T_api_Bundle=false:=by kernel_rfl
 have hA:agT Try.prog T_api_Bundle=true:=by kernel_rfl
 have hz:decide (bI o.w=bI (fun _=>0))=decide (zeroB o.w):=by
  rw[decide_eq_decide,bI_eq]
  exact Iff.rfl
 refine sound' t__problem_view__offer (by simp) ?_
 simp[c__problem_view__offer]
 refine eCall_i (simple_s (n:=P.cl.length) (o:=o)) (by simp) (by simp) ?_
 unfold Pb.offE
 by_cases c1:fldE P.cl.length o=0
 ·obtain ⟨hb,_,hw⟩:=sim_ok c1
  rw[if_neg (fun h=>h c1)]
  simp[c1,bC_zero]
  rw[eBin_eql_ints hk hg hA isInts_bC isInts_bC]
  by_cases c2:zeroB o.w
  ·rw[if_pos c2]
   simp[hz,c2,r__problem_view__offer]
  ·rw[if_neg c2]
   simp[hz,c2]
   have hf:=fits_s (P:=P) (L:=[o]) hn (by simp) (fun x hx=>by rw[List.mem_singleton.1 hx]; exact hb) (fun x hx=>by rw[List.mem_singleton.1 hx]; exact hw)
   refine eCall_i (imp_q2 hf (imp_full (rows:=[oC o]))) (by simp) (by simp) ?_
   by_cases c3:P.fits [o]
   ·simp[c3,r__problem_view__offer]
   ·simp[c3,r__problem_view__offer]
 ·rw[if_pos c1]
  simp[c1,r__problem_view__offer]
end
end Go.Proofs.Ytpmaehfiifinhaa

namespace Go.Proofs.Ytpmaehfiifinhaa
open Go Go.Am Go.Pb
section
variable {P:Pb} {r n:Nat} {o:Of} {L:List Of}
def stFr0 (P:Pb) (k:Nat):St:={env:=[(1,.ptr 1 0),(16,iv k)],sto:=[(1,.var (pbC P))]}
def stFr1 (P:Pb) (k:Nat):St:={env:=[(76,clA P.cl),(77,iv P.cl.length),(78,iv k)],sto:=[]}
theorem frC (P:Pb) (h:∀ i,(hi:i<P.cl.length)→okCl P.cl[i]):∀ c∈P.cl,okCl c:=fun c hc=>by
 obtain ⟨i,hi,rfl⟩:=List.getElem_of_mem hc
 exact h i hi
theorem frame_s:SoundCall Try.prog F__problem_view__frame [.agg (pbC P)] (iv P.frameE):=by
 refine sound' t__problem_view__frame (by simp) ?_
 simp[c__problem_view__frame]
 refine eCall_i (bcheck_s (w:=P.sup)) (by simp) (by simp) ?_
 unfold Pb.frameE
 by_cases c1:okB P.sup
 ·rw[if_neg (fun h=>h c1)]
  simp[c1]
  refine awp_forW (stFr0 P) (fun r=>∀ q,q<r→P.okC q) 6 (by simp[stFr0]) (fun q hq=>by omega) (fun k hk hI=>?_) (fun hI=>?_)
  ·have e:(k:Int)<6:=by omega
   have w1:=wrap_succ (k:=k) (by omega)
   by_cases d:P.okC k
   ·have d':=d
    unfold Pb.okC at d'
    obtain ⟨d1,d2,d3,d4,d5⟩:=d'
    have b1:¬ P.cls k<0:=by omega
    have b2:¬ 4<P.cls k:=by omega
    have b3:¬ P.opn k<0:=by omega
    have b4:¬ P.sup k<P.opn k:=by omega
    have hx:∀ q,q<k+1→P.okC q:=fun q hq=>by
     by_cases eq:q=k
     ·subst eq; exact d
     ·exact hI q (by omega)
    by_cases b5:P.cls k=0
    ·have b6:=d5 b5
     rw[b5] at b1 b2
     rw[b6] at b3 b4
     simp[c__problem_view__frame_l0,stFr0,e,goLoad_opnk hk,goLoad_clsk hk,goLoad_supk hk,b3,b5,b6,w1]
     exact hx
    ·simp[c__problem_view__frame_l0,stFr0,e,goLoad_opnk hk,goLoad_clsk hk,goLoad_supk hk,b1,b2,b3,b4,b5,w1]
     exact hx
   ·rw[if_neg (show ¬ P.okCs from fun h=>d (h k hk))]
    by_cases b1:P.cls k<0
    ·simp[c__problem_view__frame_l0,stFr0,e,goLoad_opnk hk,goLoad_clsk hk,b1,r__problem_view__frame]
    ·by_cases b2:4<P.cls k
     ·simp[c__problem_view__frame_l0,stFr0,e,goLoad_opnk hk,goLoad_clsk hk,b1,b2,r__problem_view__frame]
     ·by_cases b3:P.opn k<0
      ·simp[c__problem_view__frame_l0,stFr0,e,goLoad_opnk hk,goLoad_clsk hk,b1,b2,b3,r__problem_view__frame]
      ·by_cases b4:P.sup k<P.opn k
       ·simp[c__problem_view__frame_l0,stFr0,e,goLoad_opnk hk,goLoad_clsk hk,goLoad_supk hk,b1,b2,b3,b4,r__problem_view__frame]
       ·have b5:P.cls k=0∧¬ P.opn k=P.sup k:=by
         unfold Pb.okC at d
         by_cases b5:P.cls k=0
         ·exact ⟨b5,fun h=>d ⟨by omega,by omega,by omega,by omega,fun _=>h⟩⟩
         ·exact absurd (⟨by omega,by omega,by omega,by omega,fun h=>absurd h b5⟩) d
        simp[c__problem_view__frame_l0,stFr0,e,goLoad_opnk hk,goLoad_clsk hk,goLoad_supk hk,b3,b4,b5,r__problem_view__frame]
  ·have hs:P.okCs:=hI
   rw[if_pos hs]
   by_cases f1:8<P.cl.length
   ·have f1':(8:Int)<P.cl.length:=by omega
    rw[if_pos (.inl f1)]
    simp[c__problem_view__frame_l0,stFr0,c__problem_view__frame_k3,f1',r__problem_view__frame]
   ·have f1':¬ (8:Int)<P.cl.length:=by omega
    by_cases f2:160<P.of.length
    ·have f2':(160:Int)<P.of.length:=by omega
     rw[if_pos (.inr f2)]
     simp[c__problem_view__frame_l0,stFr0,c__problem_view__frame_k3,f1',f2',r__problem_view__frame]
    ·have f2':¬ (160:Int)<P.of.length:=by omega
     rw[if_neg (by omega)]
     simp[c__problem_view__frame_l0,stFr0,c__problem_view__frame_k3,f1',f2']
     refine awp_forW (stFr1 P) (fun r=>∀ q,q<r→(hq:q<P.cl.length)→okCl P.cl[q]) P.cl.length (by simp[stFr1]) (fun q hq=>by omega) (fun k hk hI=>?_) (fun hI=>?_)
     ·have e:(k:Int)<P.cl.length:=by omega
      have w1:=wrap_succ (k:=k) (by omega)
      by_cases d:okCl P.cl[k]
      ·have d':=d
       unfold okCl at d'
       have b1:¬ P.cl[k]<0:=by omega
       have b2:¬ 4<P.cl[k]:=by omega
       simp[c__problem_view__frame_l1,stFr1,e,hk,b1,b2,w1]
       exact fun q hq hl=>by
        by_cases eq:q=k
        ·subst eq; exact d
        ·exact hI q (by omega) hl
      ·rw[if_neg (fun h=>d (h _ (List.getElem_mem hk)))]
       unfold okCl at d
       by_cases b1:P.cl[k]<0
       ·simp[c__problem_view__frame_l1,stFr1,e,hk,b1,r__problem_view__frame]
       ·have b2:4<P.cl[k]:=by omega
        simp[c__problem_view__frame_l1,stFr1,e,hk,b1,b2,r__problem_view__frame]
     ·have hc:=frC P fun i hi=>hI i hi hi
      rw[if_pos hc]
      simp[c__problem_view__frame_l1,stFr1,c__problem_view__frame_k2,r__problem_view__frame]
 ·rw[if_pos c1]
  simp[c1,r__problem_view__frame]
end
end Go.Proofs.Ytpmaehfiifinhaa

namespace Go.Proofs.Ytpmaehfiifinhaa
open Go Go.Am Go.Pb
theorem key7 {k:List Int} (h:k.length=7):∃ a b c d e f g,k=[a,b,c,d,e,f,g]:=by
 match k,h with
 | [a,b,c,d,e,f,g],_=>exact ⟨a,b,c,d,e,f,g,rfl⟩
theorem keyChk (b:Bool) (a0 a1 a2 a3 a4 a5 a6:Int):semPure Try.prog (Instr.checkKey b 10000 T_problem_key (keyV [a0,a1,a2,a3,a4,a5,a6]))=some ():=by kernel_rfl
theorem keyT_ok {t:TypeId}:KeyT Try.prog t T_problem_key 7 where
 kd:=kd_problem_key
 ag:=by kernel_rfl
 chk:=fun b k h=>by
  obtain ⟨a0,a1,a2,a3,a4,a5,a6,rfl⟩:=key7 h
  exact keyChk b a0 a1 a2 a3 a4 a5 a6
def keyO (o:Of):List Int:=o.b::bI o.w
theorem keyO_len {o:Of}:(keyO o).length=7:=rfl
theorem keyO_eq {o u:Of}:keyO o=keyO u↔sameO o u:=by
 unfold keyO sameO
 rw[List.cons.injEq,bI_eq]
def seenE (L:List Of):Ents:=L.map fun o=>(keyO o,.bool true)
theorem seenE_keys {L:List Of}:keysN 7 (seenE L):=fun x hx=>by
 obtain ⟨o,_,rfl⟩:=List.mem_map.1 hx
 exact keyO_len
theorem seenE_find {o:Of}:∀ {L:List Of},findL (keyO o) (seenE L)=if ∃ u∈L,sameO u o then some (.bool true) else none
 | []=>by simp[seenE,findL]
 | u::L=>by
  have ih:=seenE_find (o:=o) (L:=L)
  unfold seenE at ih ⊢
  rw[List.map_cons,findL,ih]
  by_cases h:keyO o=keyO u
  ·rw[if_pos h,if_pos ⟨u,by simp,keyO_eq.1 h.symm⟩]
  ·rw[if_neg h]
   by_cases h2:∃ u∈L,sameO u o
   ·obtain ⟨x,h3,h4⟩:=h2
    rw[if_pos ⟨x,h3,h4⟩,if_pos ⟨x,by simp[h3],h4⟩]
   ·rw[if_neg h2,if_neg]
    rintro ⟨x,h3,h4⟩
    rcases List.mem_cons.1 h3 with rfl | h3
    ·exact h (keyO_eq.2 h4).symm
    ·exact h2 ⟨x,h3,h4⟩
@[irreducible] def kC (o:Of):List AV:=(keyO o).map iv
theorem kC_eq (o:Of):kC o=[iv o.b,iv (o.w 0),iv (o.w 1),iv (o.w 2),iv (o.w 3),iv (o.w 4),iv (o.w 5)]:=by unfold kC; rfl
section
variable {o:Of} {k l:Nat}
@[simp] theorem kC_len:(kC o).length=7:=by rw[kC_eq]; rfl
@[simp] theorem kC_rf:(kC o).all rf=true:=by rw[kC_eq]; rfl
@[simp] theorem kC_mem_rf:(∀ x,x∈kC o→rf x=true)=True:=eq_true fun x h=>List.all_eq_true.1 kC_rf x h
@[simp] theorem kC_strip:(kC o).map strip=kC o:=by rw[kC_eq]; rfl
@[simp] theorem kC_dg:(kC o).map (dg l)=kC o:=by rw[kC_eq]; simp
@[simp] theorem kC_ref:anyRef k (kC o)=false:=by rw[kC_eq]; simp
@[simp] theorem goLoad_kC:goLoad (kC o) 0 (some 7)=some (.agg (kC o)):=by rw[goLoad_all kC_len kC_rf,kC_strip]
@[simp] theorem kC_build:splice [AV.val (Value.int IntKind.i64 o.b),AV.val (Value.int IntKind.i64 0),AV.val (Value.int IntKind.i64 0),AV.val (Value.int IntKind.i64 0),AV.val (Value.int IntKind.i64 0),AV.val (Value.int IntKind.i64 0),AV.val (Value.int IntKind.i64 0)] 1 (bC o.w)=kC o:=by
 rw[kC_eq,bC_eq]; rfl
end
noncomputable def boolT:TypeId:=match Try.prog.underlying T_mapaproblem_key_bool with
 | some (.map _ e)=>e
 | _=>0
theorem ckM:Try.prog.underlying T_mapaproblem_key_bool=some (.map T_problem_key boolT):=by kernel_rfl
theorem ckZ:semPure Try.prog (zeroValue boolT)=some (.bool false):=by kernel_rfl
theorem look_k {σ:Nat→Option Entry} {K:AV→Option Entry→Prop} {L:List Of} {o:Of} {c:Nat} (hs:σ 17=some (.map (mapA (seenE L)) c)) :
  eLookup Try.prog T_mapaproblem_key_bool false σ [.mp 17,.agg (kC o)] K=K (bv (decide (∃ u∈L,sameO u o))) none:=by
 have e:kC o=(keyO o).map iv:=by unfold kC; rfl
 rw[e,eLookup_ints keyT_ok ckM ckZ hs keyO_len seenE_keys,seenE_find]
 by_cases h:∃ u∈L,sameO u o
 ·rw[if_pos h,decide_eq_true h]; rfl
 ·rw[if_neg h,decide_eq_false h]; rfl
theorem set_k {s:St} {KS:St→Prop} {L:List Of} {o:Of} (hs:lk s.sto 17=some (.map (mapA (seenE L)) (seenE L).length)) (hn:¬ ∃ u∈L,sameO u o) :
  eMapset Try.prog T_mapaproblem_key_bool s none KS [.mp 17,.agg (kC o),.val (.bool true)]=KS {s with sto:=pt s.sto 17 (.map (mapA (seenE (L++[o]))) (seenE (L++[o])).length)}:=by
 have e:kC o=(keyO o).map iv:=by unfold kC; rfl
 have e2:setL (keyO o) (.bool true) (seenE L)=seenE (L++[o]):=by
  rw[setL_none (by rw[seenE_find,if_neg hn])]
  simp[seenE]
 rw[e,eMapset_ints keyT_ok ckM hs keyO_len seenE_keys rfl,e2]
 simp
section
variable {P:Pb} {r n:Nat} {o:Of} {L:List Of}
def stCk (P:Pb) (k:Nat):St:={env:=[(3,.ptr 3 0),(5,.mp 17),(19,ofA P.of),(20,iv P.of.length),(21,iv k)],sto:=[(3,.var (pbC P)),(17,.map (mapA (seenE (P.of.take k))) (seenE (P.of.take k)).length)]}
theorem check_s (hn:P.cl.length≤1000) (hk:P.of.length≤1000000):SoundCall Try.prog F_problem_Check [.agg (pbC P)] (iv P.chk):=by
 refine sound' t_problem_Check (by simp) ?_
 simp[c_problem_Check]
 refine eCall_i (frame_s (P:=P)) (by simp) (by simp) ?_
 unfold Pb.chk
 by_cases c1:P.frameE=0
 ·rw[if_pos c1]
  simp[c1]
  refine awp_forW (stCk P) (fun k=>P.chkL k=0) P.of.length (by simp[stCk,seenE,mapA,entL]) rfl (fun k hk' hI=>?_) (fun hI=>?_)
  ·have e:(k:Int)<P.of.length:=by omega
   have hg:P.of[k]?=some P.of[k]:=by simp[hk']
   have w1:=wrap_succ (k:=k) (by omega)
   obtain ⟨o,ho⟩:∃ o,P.of[k]=o:=⟨_,rfl⟩
   rw[ho] at hg
   simp[c_problem_Check_l0,stCk,e,hk',ho]
   refine eCall_i (offer_s (P:=P) (o:=o) hn) (by simp) (by simp) ?_
   by_cases d:P.offE o=0
   ·simp[d]
    rw[look_k (L:=P.of.take k) (c:=(seenE (P.of.take k)).length) (by simp)]
    by_cases d2:∃ u∈P.of.take k,sameO u o
    ·have hi:P.offI k o=7:=by unfold Pb.offI; rw[if_neg (fun h=>h d),if_pos d2]
     rw[chkL_first hI hg (by rw[hi]; decide) hk',hi]
     rw[decide_eq_true d2]
     simp[r_problem_Check]
    ·have hi:P.offI k o=0:=by unfold Pb.offI; rw[if_neg (fun h=>h d),if_neg d2]
     have hx:=chkL_next hI hg hi
     rw[decide_eq_false d2]
     simp
     rw[set_k (L:=P.of.take k) (by simp) d2,← take_succ' hg]
     simp[w1,hx,stCk]
   ·have hi:P.offI k o=P.offE o:=by unfold Pb.offI; rw[if_pos d]
    rw[chkL_first hI hg (by rw[hi]; exact d) hk',hi]
    simp[d,r_problem_Check]
  ·rw[hI]
   simp[c_problem_Check_l0,stCk,c_problem_Check_k1,r_problem_Check]
 ·rw[if_neg c1]
  simp[c1,r_problem_Check]
end
end Go.Proofs.Ytpmaehfiifinhaa

namespace Go.Proofs.Ytpmaehfiifinhaa
open Go Go.Am
abbrev nilL:AV:=.list 0 .full []
theorem imp_plain {sz:Nat} {m:Am.Mode} {rows:List (List AV)} (h:stm m=m):AV.imp (.list sz m rows) (.list sz .plain rows):=by
 cases m with
 | plain=>exact AV.imp.refl
 | full=>exact imp_full
 | own l=>cases h
def imps (xs ys:List AV):Prop:=xs.length=ys.length∧∀ (i:Nat) x y,xs[i]?=some x→ys[i]?=some y→AV.imp x y
theorem imps_nil:imps [] []:=⟨rfl,fun i x y h=>by simp at h⟩
theorem imps_cons {x y:AV} {xs ys:List AV} (h:AV.imp x y) (hs:imps xs ys):imps (x::xs) (y::ys) :=
 ⟨by simp[hs.1],fun i a b ha hb=>by
  cases i with
  | zero=>simp only[List.getElem?_cons_zero,Option.some.injEq] at ha hb; subst ha hb; exact h
  | succ i=>simp only[List.getElem?_cons_succ] at ha hb; exact hs.2 i a b ha hb⟩
theorem imps_refl {xs:List AV}:imps xs xs:=⟨rfl,fun i x y h h'=>by rw[h] at h'; cases h'; exact AV.imp.refl⟩
theorem getE_of {α:Type} {l:List α} {i:Nat} (h:i<l.length):l[i]?=some l[i]:=by simp[h]
theorem imp_agg {xs ys:List AV} (h:imps xs ys):AV.imp (.agg xs) (.agg ys):=fun I w v hv=>by
 cases hv with
 | agg _ vs hs h1 hc =>
  refine .agg _ vs (by rw[hs,h.1]) h1 fun i c hi=>?_
  have:i<xs.length:=by rw[h.1]; exact (List.getElem?_eq_some_iff.1 hi).1
  exact h.2 i _ c (getE_of this) hi _ _ _ (hc i _ (getE_of this))
theorem imp_tup {xs ys:List AV} (h:imps xs ys):AV.imp (.tuple xs) (.tuple ys):=fun I w v hv=>by
 cases hv with
 | tuple _ vs hs hc =>
  refine .tuple _ vs (by rw[hs,h.1]) fun i c hi=>?_
  have:i<xs.length:=by rw[h.1]; exact (List.getElem?_eq_some_iff.1 hi).1
  exact h.2 i _ c (getE_of this) hi _ _ _ (hc i _ (getE_of this))
def impr (xs ys:List (List AV)):Prop:=xs.length=ys.length∧∀ (i:Nat) x y,xs[i]?=some x→ys[i]?=some y→imps x y
theorem imp_rows {sz:Nat} {m:Am.Mode} {xs ys:List (List AV)} (hm:stm m=m) (h:impr xs ys):AV.imp (.list sz m xs) (.list sz .plain ys):=fun I w v hv=>by
 have hv:=imp_plain hm I w v hv
 cases hv with
 | listNil _ _ a cap _ _ =>
  have:ys=[]:=List.eq_nil_of_length_eq_zero (by rw[← h.1]; rfl)
  subst this
  exact .listNil _ _ _ _ (fun h=>by cases h) (fun _ h=>by cases h)
 | list _ _ _ b o cap g hcap hm' ho hrow hcell hc =>
  have get:∀ (i:Nat) r,ys[i]?=some r→∃ r0,xs[i]?=some r0∧imps r0 r:=fun i r hi=>by
   have:i<xs.length:=by rw[h.1]; exact (List.getElem?_eq_some_iff.1 hi).1
   exact ⟨xs[i],getE_of this,h.2 i _ r (getE_of this) hi⟩
  rw[h.1]
  refine .list _ _ _ b o cap g (by rw[← h.1]; exact hcap) (fun h=>by cases h) (fun _ h=>by cases h) (fun i r hi=>?_) (fun i r j c hi hj=>?_) fun i r j c hi hj=>?_
  ·obtain ⟨r0,h1,h2⟩:=get i r hi
   rw[← h2.1]; exact hrow i r0 h1
  ·obtain ⟨r0,h1,h2⟩:=get i r hi
   have hj0:j<r0.length:=by rw[h2.1]; exact (List.getElem?_eq_some_iff.1 hj).1
   exact hcell i r0 j _ h1 (getE_of hj0)
  ·obtain ⟨r0,h1,h2⟩:=get i r hi
   have hj0:j<r0.length:=by rw[h2.1]; exact (List.getElem?_eq_some_iff.1 hj).1
   exact h2.2 j _ c (getE_of hj0) hj _ _ _ (hc i r0 j _ h1 (getE_of hj0))
noncomputable def apc (tok sz:Nat) (rows:List (List AV)):AV:=if rows.length=0 then nilL else .list sz (.own tok) rows
noncomputable def plc (sz:Nat) (rows:List (List AV)):AV:=if rows.length=0 then nilL else .list sz .plain rows
section
variable {tok sz l k:Nat} {rows:List (List AV)}
theorem apc_nil (h:rows.length=0):apc tok sz rows=nilL:=if_pos h
theorem apc_some (h:¬ rows.length=0):apc tok sz rows=.list sz (.own tok) rows:=if_neg h
@[simp] theorem apc_rf:rf (apc tok sz rows)=true:=by unfold apc; split<;>rfl
@[simp] theorem apc_strip:strip (apc tok sz rows)=plc sz rows:=by unfold apc plc; split<;>rfl
@[simp] theorem cells_apc:cellsOf (apc tok sz rows)=some [apc tok sz rows]:=by unfold apc; split<;>rfl
@[simp] theorem snap_apc {σ:Nat→Option Entry}:snap σ (apc tok sz rows)=some (plc sz rows):=by unfold apc plc; split<;>rfl
@[simp] theorem apc_refs:refsTo k (apc tok sz rows)=false:=by unfold apc; split<;>rfl
theorem apc_dg (h:¬ tok=l):dg l (apc tok sz rows)=apc tok sz rows:=by
 unfold apc
 split
 ·simp
 ·simp only[dg]; rw[if_neg h]
@[simp] theorem cells_plc:cellsOf (plc sz rows)=some [plc sz rows]:=by unfold plc; split<;>rfl
@[simp] theorem plc_rf:rf (plc sz rows)=true:=by unfold plc; split<;>rfl
@[simp] theorem plc_strip:strip (plc sz rows)=plc sz rows:=by unfold plc; split<;>rfl
@[simp] theorem plc_dg:dg l (plc sz rows)=plc sz rows:=by unfold plc; split<;>simp
@[simp] theorem plc_refs:refsTo k (plc sz rows)=false:=by unfold plc; split<;>rfl
theorem plc_imp {rows':List (List AV)} (h:impr rows rows'):AV.imp (plc sz rows) (.list sz .plain rows'):=by
 unfold plc
 split
 ·rename_i h0
  have:rows'=[]:=List.eq_nil_of_length_eq_zero (by rw[← h.1]; exact h0)
  subst this
  exact AV.imp_nil rfl
 ·exact imp_rows rfl h
end
@[simp] theorem eLen1_apc {tok sz:Nat} {rows:List (List AV)} {K:AV→Option Entry→Prop}:eLen1 false K (apc tok sz rows)=K (.val (.int .i64 rows.length)) none:=by
 unfold apc; split
 ·rename_i h; rw[h]; simp[eLen1]
 ·simp[eLen1]
theorem eIaddrS_apc {tok sz i:Nat} {rows:List (List AV)} {K:AV→Option Entry→Prop} (h:i<rows.length):eIaddrS sz [apc tok sz rows,iv i] K=K (.ro rows[i]) none:=by
 have h0:¬ rows.length=0:=by omega
 rw[apc_some h0]
 have h1:(i:Int)<rows.length:=by omega
 simp[eIaddrS,h1,h]
theorem impr_refl {rows:List (List AV)}:impr rows rows:=⟨rfl,fun i x y h h'=>by rw[h] at h'; cases h'; exact imps_refl⟩
theorem sound_imp {f:FuncId} {args:List AV} {r r':AV} (h:SoundCall Try.prog f args r) (hr:AV.imp r r'):SoundCall Try.prog f args r':=fun I vs w h1 h2 h3 =>
 Calls.mono (h I vs w h1 h2 h3) fun _ _ ⟨v,e,hb,hv⟩=>⟨v,e,hb,hr _ _ _ hv⟩
theorem imp_args {f:FuncId} {xs ys:List AV} {r:AV} (h:SoundCall Try.prog f ys r) (hi:imps xs ys):SoundCall Try.prog f xs r:=fun I vs w h1 h2 h3 =>
 h I vs w h1 (by rw[h2,hi.1]) fun i y hy=>by
  have hx:i<xs.length:=by rw[hi.1]; exact (List.getElem?_eq_some_iff.1 hy).1
  exact hi.2 i _ y (getE_of hx) hy _ _ _ (h3 i _ (getE_of hx))
theorem imps2 {a a' b b':AV} (h:AV.imp a a') (h2:AV.imp b b'):imps [a,b] [a',b']:=imps_cons h (imps_cons h2 imps_nil)
end Go.Proofs.Ytpmaehfiifinhaa

namespace Go.Pb
def Pb.at (P:Pb) (i:Int):Of:=P.of.getD i.toNat ⟨0,fun _=>0,0⟩
def Pb.pick (P:Pb) (ch:List Int):List Of:=ch.map P.at
def prv (ch:List Int):Nat→Int
 | 0=>-1
 | k+1=>ch.getD k 0
def okI (n:Nat) (ch:List Int) (k:Nat):Prop:=prv ch k<ch.getD k 0∧ch.getD k 0<n
instance (n:Nat) (ch:List Int) (k:Nat):Decidable (okI n ch k):=inferInstanceAs (Decidable (prv ch k<ch.getD k 0∧ch.getD k 0<n))
def okP (n:Nat) (ch:List Int):Prop:=∀ k,k<ch.length→okI n ch k
instance (n:Nat) (ch:List Int):Decidable (okP n ch):=Nat.decidableBallLT ch.length fun k _=>okI n ch k
def Pb.feaE (P:Pb) (ch:List Int):Int:=if P.chk≠0 then P.chk else if ¬ okP P.of.length ch then 4 else if P.fits (P.pick ch) then 0 else 14
def Pb.valE (P:Pb) (ch:List Int):Int:=if okP P.of.length ch∧P.chk=0 then ((P.pick ch).map fun o=>o.v).sum else 0
section
variable {P:Pb} {n k:Nat} {ch:List Int}
theorem prv_ge (h:∀ q,q<k→okI n ch q):(k:Int)-1≤prv ch k:=by
 induction k with
 | zero=>simp[prv]
 | succ k ih =>
  have h1:=ih fun q hq=>h q (by omega)
  have h2:=(h k (by omega)).1
  simp only[prv]
  omega
theorem okP_len (h:okP n ch):ch.length≤n:=by
 cases e:ch.length with
 | zero=>omega
 | succ k =>
  have h1:=prv_ge (k:=k) (n:=n) (ch:=ch) fun q hq=>h q (by omega)
  have h2:=h k (by omega)
  unfold okI at h2
  omega
theorem okI_nat (h:∀ q,q<k→okI n ch q) (hk:okI n ch k):∃ b:Nat,ch.getD k 0=b∧b<n:=by
 have h1:=prv_ge h
 have h2:=hk
 unfold okI at h2
 exact ⟨(ch.getD k 0).toNat,by omega,by omega⟩
theorem pick_mem (h:okP P.of.length ch):∀ o∈P.pick ch,o∈P.of:=fun o ho=>by
 obtain ⟨i,hi,rfl⟩:=List.mem_map.1 ho
 obtain ⟨k,hk,rfl⟩:=List.getElem_of_mem hi
 obtain ⟨b,hb,hbn⟩:=okI_nat (fun q hq=>h q (by omega)) (h k hk)
 have e:ch.getD k 0=ch[k]:=by rw[List.getD_eq_getElem?_getD,List.getElem?_eq_getElem hk]; rfl
 unfold Pb.at
 rw[← e,hb,Int.toNat_natCast,List.getD_eq_getElem?_getD,List.getElem?_eq_getElem hbn]
 exact List.getElem_mem hbn
theorem pick_len:(P.pick ch).length=ch.length:=by simp[Pb.pick]
end
def ints (l:List Nat):List Int:=l.map fun i:Nat=>(i:Int)
theorem okP_ints {n:Nat} {l:List Nat} (h1:l.Pairwise (·<·)) (h2:∀ j∈l,j<n):okP n (ints l):=fun k hk=>by
 have hk':k<l.length:=by simpa [ints] using hk
 have e:∀ k,(hk:k<l.length)→(ints l).getD k 0=(l[k]:Int):=fun k hk=>by simp[ints,hk]
 refine ⟨?_,by rw[e k hk']; have:=h2 _ (List.getElem_mem hk'); omega⟩
 cases k with
 | zero=>rw[e 0 hk']; simp only[prv]; omega
 | succ k =>
  simp only[prv]
  rw[e _ hk',e k (by omega)]
  have:=List.pairwise_iff_getElem.1 h1 k (k+1) (by omega) hk' (by omega)
  omega
end Go.Pb

namespace Go.Proofs.Ytpmaehfiifinhaa
open Go Go.Am Go.Pb
@[simp] theorem clR_nil:clR []=[]:=rfl
@[simp] theorem ofR_nil:ofR []=[]:=rfl
@[simp] theorem apc_nil0 {tok sz:Nat}:apc tok sz []=nilL:=apc_nil rfl
section
variable {P:Pb} {r n:Nat} {o:Of} {L:List Of} {ch:List Int}
theorem getD_lt {l:List Int} {k:Nat} (h:k<l.length):l.getD k 0=l[k]:=by rw[List.getD_eq_getElem?_getD,List.getElem?_eq_getElem h]; rfl
theorem at_lt {b:Nat} (h:b<P.of.length):P.at (b:Int)=P.of[b]:=by unfold Pb.at; rw[Int.toNat_natCast,List.getD_eq_getElem?_getD,List.getElem?_eq_getElem h]; rfl
theorem pick_take {k:Nat} (h:k<ch.length):P.pick (ch.take (k+1))=P.pick (ch.take k)++[P.at ch[k]]:=by
 unfold Pb.pick
 rw[take_succ' (o:=ch[k]) (by simp[h]),List.map_append]
 rfl
theorem ofR_app {L M:List Of}:ofR (L++M)=ofR L++ofR M:=by simp[ofR]
noncomputable def stPk (P:Pb) (ch:List Int) (k:Nat):St:={env:=[(2,.ptr 2 0),(6,apc 34 8 (ofR (P.pick (ch.take k)))),(7,iv (prv ch k)),(10,clA ch),(11,iv ch.length),(12,iv k)],sto:=[(2,.var (pbC P))]}
theorem apc_add {tok sz by_:Nat} {s:St} {KS:St→Prop} {rows:List (List AV)} {m:Am.Mode} {x:List AV} (h0:0<sz) (h1:s.base+tok=tok) (h2:(rows.length+1)*by_≤140737488355328) (h3:rows.length+1≤9223372036854775807) (h4:lk s.sto tok=none)
  (hK:KS ((s.dg tok).put (some tok) (apc tok sz (rows++[x])))):eAppend sz by_ s (some tok) KS [apc tok sz rows,.list sz m [x]]:=by
 have e:∀ r:List (List AV),apc tok sz r=appV sz tok r:=fun r=>by
  unfold apc appV
  by_cases h:r=[]
  ·subst h; simp
  ·simp[h]
 rw[e,eAppend_appV h0 h1]
 exact ⟨h2,h3,h4,by rw[← e]; exact hK⟩
theorem picked_s (hk:P.of.length≤1000000) (hl:ch.length<4611686018427387904):SoundCall Try.prog F_problem_picked [.agg (pbC P),clA ch] (.tuple [if okP P.of.length ch then ofA (P.pick ch) else nilL,bv (decide (okP P.of.length ch))]):=by
 refine soundW' t_problem_picked (by simp) ?_
 simp[c_problem_picked]
 have h0:apc 34 8 (ofR (P.pick (ch.take 0)))=.list 0 .full []:=by rw[List.take_zero]; exact apc_nil rfl
 refine awp_forW (stPk P ch) (fun k=>∀ q,q<k→okI P.of.length ch q) ch.length (by simp[stPk,prv,Pb.pick,ofR,apc]) (fun q hq=>by omega) (fun k hk' hI=>?_) (fun hI=>?_)
 ·have e:(k:Int)<ch.length:=by omega
  have w1:=wrap_succ (k:=k) (by omega)
  have hp:=prv_ge hI
  have hg:=getD_lt hk'
  by_cases d:okI P.of.length ch k
  ·have d':=d
   unfold okI at d'
   rw[hg] at d'
   obtain ⟨b,hb,hbn⟩:=okI_nat hI d
   rw[hg] at hb
   have hlen:=okP_len (n:=P.of.length) (ch:=ch.take (k+1)) (fun q hq=>by
    have hq:q<k+1:=by simp at hq; omega
    have e1:∀ j,j<k+1→(ch.take (k+1)).getD j 0=ch.getD j 0:=fun j hj=>by
     rw[List.getD_eq_getElem?_getD,List.getD_eq_getElem?_getD,List.getElem?_take,if_pos hj]
    have:=if hqk:q=k then hqk▸d else hI q (by omega)
    unfold okI at this ⊢
    rw[e1 q hq]
    cases q with
    | zero=>exact this
    | succ q=>simp only[prv] at this ⊢; rw[e1 q (by omega)]; exact this)
   have hkn:k+1≤P.of.length:=by simpa [List.length_take,Nat.min_eq_left (show k+1≤ch.length by omega)] using hlen
   rw[hb] at d'
   have b1:¬ (b:Int)≤prv ch k:=by omega
   have b2:(b:Int)<P.of.length:=by omega
   have b3:¬ (P.of.length:Int)≤b:=by omega
   have hat:P.of[b]=P.at ch[k]:=by rw[hb,at_lt hbn]
   have hpr:prv ch (k+1)=b:=by simp only[prv]; rw[hg,hb]
   simp[c_problem_picked_l0,stPk,e,hk',hb,b1,b2,b3,hbn]
   refine apc_add (by decide) rfl ?_ ?_ (by simp) ?_
   ·simp only[ofR_len,pick_len,List.length_take]; omega
   ·simp only[ofR_len,pick_len,List.length_take]; omega
   ·have hro:ofR (P.pick (ch.take k))++[oC P.of[b]]=ofR (P.pick (ch.take (k+1))):=by rw[pick_take hk',ofR_app,hat]; rfl
    rw[hro]
    simp[w1,hpr,stPk]
    exact fun q hq=>by
     by_cases eq:q=k
     ·subst eq; exact d
     ·exact hI q (by omega)
  ·have hf:¬ okP P.of.length ch:=fun h=>d (h k hk')
   unfold okI at d
   rw[hg] at d
   by_cases b1:ch[k]≤prv ch k
   ·simp[c_problem_picked_l0,stPk,e,hk',b1,hf,r_problem_picked]
    exact AV.imp.refl
   ·have b2:(P.of.length:Int)≤ch[k]:=by omega
    simp[c_problem_picked_l0,stPk,e,hk',b1,b2,hf,r_problem_picked]
    exact AV.imp.refl
 ·have hf:okP P.of.length ch:=hI
  simp[c_problem_picked_l0,stPk,hf,c_problem_picked_k1,r_problem_picked]
  exact AV.imp_tuple2 (plc_imp impr_refl)
theorem feasible_s (hn:P.cl.length≤1000) (hk:P.of.length≤1000000) (hl:ch.length<4611686018427387904):SoundCall Try.prog F_problem_Feasible [.agg (pbC P),clA ch] (iv (P.feaE ch)):=by
 refine sound' t_problem_Feasible (by simp) ?_
 simp[c_problem_Feasible]
 refine eCall_i (check_s hn hk) (by simp) (by simp) ?_
 unfold Pb.feaE
 by_cases c1:P.chk=0
 ·rw[if_neg (fun h:P.chk≠0=>h c1)]
  simp[c1]
  refine eCall_i (picked_s hk hl) (by simp) (by simp) ?_
  by_cases c2:okP P.of.length ch
  ·have hG:=chk_good c1
   have hm:=pick_mem c2
   simp[c2]
   have hP:∀ o∈P.pick ch,P.offE o=0:=fun o ho=>hG.off o (hm o ho)
   refine eCall_i (fits_s (P:=P) (L:=P.pick ch) hn (by rw[pick_len]; have:=okP_len c2; have:=hG.k; omega) (fun o ho=>(sim_ok (off_sim (hP o ho)).1).1) (fun o ho=>(sim_ok (off_sim (hP o ho)).1).2.2)) (by simp) (by simp) ?_
   by_cases c3:P.fits (P.pick ch)
   ·simp[c3,r_problem_Feasible]
   ·simp[c3,r_problem_Feasible]
  ·simp[c2,r_problem_Feasible]
 ·rw[if_pos c1]
  simp[c1,r_problem_Feasible]
def stVa (L:List Of) (k:Nat):St:={env:=[(7,iv (preS (fun o=>o.v) L k)),(23,ofA L),(24,iv L.length),(25,iv k)],sto:=[]}
theorem value_s (hn:P.cl.length≤1000) (hk:P.of.length≤1000000) (hl:ch.length<4611686018427387904):SoundCall Try.prog F_problem_Value [.agg (pbC P),clA ch] (iv (P.valE ch)):=by
 refine sound' t_problem_Value (by simp) ?_
 simp[c_problem_Value]
 refine eCall_i (picked_s hk hl) (by simp) (by simp) ?_
 unfold Pb.valE
 by_cases c2:okP P.of.length ch
 ·simp[c2]
  refine eCall_i (check_s hn hk) (by simp) (by simp) ?_
  by_cases c1:P.chk=0
  ·have hG:=chk_good c1
   have hm:=pick_mem c2
   have hP:∀ o∈P.pick ch,0≤o.v∧o.v≤1000000:=fun o ho=>by have:=(sim_ok (off_sim (hG.off o (hm o ho))).1).2.1; omega
   have hl2:(P.pick ch).length≤160:=by rw[pick_len]; have:=okP_len c2; have:=hG.k; omega
   simp[c1]
   generalize P.pick ch=L at *
   refine awp_forW (stVa L) (fun _=>True) L.length (by simp[stVa,preS_zero]) trivial (fun k hk' _=>?_) (fun _=>?_)
   ·have e:(k:Int)<L.length:=by omega
    have hg:L[k]?=some L[k]:=by simp[hk']
    have w1:=wrap_succ (k:=k) (by omega)
    obtain ⟨p1,p2⟩:=preS_bound (f:=fun o:Of=>o.v) hP k (by omega)
    have p3:=hP _ (List.getElem_mem hk')
    have w3:IntKind.i64.wrap (preS (fun o=>o.v) L k+L[k].v)=preS (fun o=>o.v) L k+L[k].v:=by rw[wrap64]<;>omega
    have hs:=preS_succ (f:=fun o:Of=>o.v) hg
    simp[c_problem_Value_l0,stVa,e,hk',w1,w3,hs]
   ·have hall:preS (fun o=>o.v) L L.length=(L.map fun o=>o.v).sum:=preS_all
    simp[c_problem_Value_l0,stVa,c_problem_Value_k1,hall,r_problem_Value]
  ·simp[c1,r_problem_Value]
 ·simp[c2,r_problem_Value]
end
end Go.Proofs.Ytpmaehfiifinhaa

namespace Go.Proofs.Ytpmaehfiifinhaa
open Go Go.Am
def mb (m:Int) (b:Nat):Bool:=(BitVec.ofInt 64 m).getLsbD b
theorem mb_one (m:Int) (b:Nat) (h1:-9223372036854775808≤m) (h2:m<9223372036854775808) (hb:b<64):bitI .and .i64 (m.fdiv (2^b)) 1=if mb m b then 1 else 0:=by
 have hx:(BitVec.ofInt 64 m).toInt=m:=by
  rw[BitVec.toInt_ofInt,Int.bmod_eq_of_le]<;>omega
 have hs:BitVec.ofInt 64 (m.fdiv (2^b))=(BitVec.ofInt 64 m).sshiftRight b:=by
  apply BitVec.eq_of_toInt_eq
  rw[BitVec.toInt_sshiftRight,hx,← hx]
  conv=>rhs; rw[← BitVec.toInt_sshiftRight,← BitVec.ofInt_toInt (x:=(BitVec.ofInt 64 m).sshiftRight b),BitVec.toInt_sshiftRight]
  rw[Int.shiftRight_eq_div_pow,Int.fdiv_eq_ediv_of_nonneg _ (Int.le_of_lt (Int.pow_pos (by decide)))]
  rfl
 have hbits:IntKind.i64.bits=64:=rfl
 simp only[bitI]
 rw[hbits,hs]
 have hg:(BitVec.ofInt 64 m).getLsbD b=((BitVec.ofInt 64 m).sshiftRight b).getLsbD 0:=by
  rw[BitVec.getLsbD_sshiftRight]
  simp[hb]
 unfold mb
 rw[hg]
 generalize (BitVec.ofInt 64 m).sshiftRight b=y
 have e1:(y &&& BitVec.ofInt 64 1).toNat=y.toNat%2:=by
  rw[BitVec.toNat_and]
  have:(BitVec.ofInt 64 1).toNat=1:=by decide
  rw[this,Nat.and_one_is_mod]
 rw[e1]
 have e2:y.getLsbD 0=decide (y.toNat%2=1):=by
  rw[BitVec.getLsbD,Nat.testBit_zero]
 rw[e2]
 by_cases h:y.toNat%2=1
 ·rw[h]; simp; rw[wrap64]<;>omega
 ·have:y.toNat%2=0:=by omega
  rw[this]; simp; rw[wrap64]<;>omega
theorem mb_nat (n i:Nat) (hi:i<64):mb (n:Int) i=n.testBit i:=by
 unfold mb
 rw[BitVec.ofInt_natCast,BitVec.getLsbD_ofNat]
 simp[hi]
end Go.Proofs.Ytpmaehfiifinhaa

namespace Go.Proofs.Ytpmaehfiifinhaa
open Go Go.Am Go.Pb
def pbZ:Pb:=⟨fun _=>0,fun _=>0,fun _=>0,[],[]⟩
def keepL (m:Int) (L:List Of):List Of:=L.filter fun o=>!mb m o.b.toNat
def woP (P:Pb) (m:Int):Pb:={P with of:=keepL m P.of}
def woE (P:Pb) (m:Int):Pb:=if P.chk=0 then woP P m else pbZ
section
variable {P:Pb} {r n:Nat} {o:Of} {L:List Of}
theorem pbZ_eq:[iv 0,iv 0,iv 0,iv 0,iv 0,iv 0,iv 0,iv 0,iv 0,iv 0,iv 0,iv 0,iv 0,iv 0,iv 0,iv 0,iv 0,iv 0,nilL,nilL]=pbX pbZ nilL nilL:=by rw[pbX_eq]; rfl
theorem pbX_imp {c c' o o':AV} (h1:AV.imp c c') (h2:AV.imp o o'):AV.imp (.agg (pbX P c o)) (.agg (pbX P c' o')):=by
 rw[pbX_eq,pbX_eq]
 refine imp_agg ?_
 repeat' first | exact imps_cons h1 (imps_cons h2 imps_nil) | refine imps_cons AV.imp.refl ?_
theorem pbZ_impX:AV.imp (.agg (pbX pbZ nilL nilL)) (.agg (pbC pbZ)):=pbX_imp (AV.imp_nil rfl) (AV.imp_nil rfl)
theorem clone_s {l:List Int} (hl:l.length≤1000000):SoundCall Try.prog F_slices_Cloneasl_int_int_ [clA l] (clA l):=by
 refine soundW' t_slices_Cloneasl_int_int_ (by simp) ?_
 by_cases h0:l=[]
 ·subst h0
  simp[c_slices_Cloneasl_int_int_,r_slices_Cloneasl_int_int_]
  exact ⟨AV.imp_nil rfl,AV.imp.refl⟩
 ·have h1:clR l≠[]:=fun h=>h0 (by have:=congrArg List.length h; simpa using this)
  simp[c_slices_Cloneasl_int_int_,h1,r_slices_Cloneasl_int_int_]
  exact ⟨by omega,by omega,AV.imp.refl⟩
theorem keepL_take {m:Int} {k:Nat} (h:L[k]?=some o):keepL m (L.take (k+1))=if mb m o.b.toNat then keepL m (L.take k) else keepL m (L.take k)++[o]:=by
 unfold keepL
 rw[take_succ' h,List.filter_append]
 cases hb:mb m o.b.toNat<;>simp[hb]
theorem keepL_len {m:Int}:(keepL m L).length≤L.length:=List.length_filter_le _ _
noncomputable def stWo (P:Pb) (m:Int) (k:Nat):St:={env:=[(1,iv m),(4,.ptr 4 0),(5,.ptr 5 0),(19,ofA P.of),(20,iv P.of.length),(21,iv k)],sto:=[(4,.var (pbX pbZ nilL nilL)),(5,.var (pbX P (clA P.cl) (apc 35 8 (ofR (keepL m (P.of.take k))))))]}
@[simp] theorem pbX_splice0 {c o c' o':AV} {Q:Pb}:splice (pbX Q c' o') 0 (pbX P c o)=pbX P c o:=pbX_splice pbX_len
theorem goLoad_pbX {c o:AV} (hc:rf c=true) (ho:rf o=true):goLoad (pbX P c o) 0 (some 20)=some (.agg (pbX P (strip c) (strip o))):=by rw[goLoad_all pbX_len (pbX_rf hc ho),pbX_strip]
@[simp] theorem pbX_st18 {c o x:AV}:(pbX P c o).set 18 x=pbX P x o:=by rw[pbX_eq,pbX_eq]; rfl
@[simp] theorem pbX_st19 {c o x:AV}:(pbX P c o).set 19 x=pbX P c x:=by rw[pbX_eq,pbX_eq]; rfl
@[simp] theorem goLoad_pbN:goLoad (pbX P nilL nilL) 0 (some 20)=some (.agg (pbX P nilL nilL)):=goLoad_pbX rfl rfl
@[simp] theorem goLoad_pbA {l:List Int} {tok:Nat} {rows:List (List AV)}:goLoad (pbX P (clA l) (apc tok 8 rows)) 0 (some 20)=some (.agg (pbX P (clA l) (plc 8 rows))):=by rw[goLoad_pbX rfl (by simp),apc_strip]; rfl
@[simp] theorem goLoad_pbB {l:List Int} {rows:List (List AV)}:goLoad (pbX P (clA l) (plc 8 rows)) 0 (some 20)=some (.agg (pbX P (clA l) (plc 8 rows))):=by rw[goLoad_pbX rfl (by simp),plc_strip]; rfl
theorem wo_out {X:List Of} {m:Int} (h:X=keepL m P.of):AV.imp (.agg (pbX P (clA P.cl) (plc 8 (ofR X)))) (.agg (pbC (woP P m))):=by
 have e:pbC (woP P m)=pbX P (clA P.cl) (ofA (keepL m P.of)):=by unfold woP; simp only[pbX_eq]
 rw[e,← h]
 exact pbX_imp AV.imp.refl (plc_imp impr_refl)
theorem without_s {m:Int} (h1:-9223372036854775808≤m) (h2:m<9223372036854775808) (hn:P.cl.length≤1000) (hk:P.of.length≤1000000):SoundCall Try.prog F_problem_Without [.agg (pbC P),iv m] (.agg (pbC (woE P m))):=by
 refine soundW' t_problem_Without (by simp) ?_
 simp[c_problem_Without,pbZ_eq]
 refine eCall_i (check_s hn hk) (by simp) (by simp) ?_
 unfold woE
 by_cases c1:P.chk=0
 ·have hG:=chk_good c1
  rw[if_pos c1]
  simp[c1]
  refine eCall_i (clone_s (l:=P.cl) (by omega)) (by simp) (by simp) ?_
  simp
  refine awp_forW (stWo P m) (fun _=>True) P.of.length (by simp[stWo,keepL]) trivial (fun k hk' _=>?_) (fun _=>?_)
  ·have e:(k:Int)<P.of.length:=by omega
   have w1:=wrap_succ (k:=k) (by omega)
   have hm:P.of[k]∈P.of:=List.getElem_mem hk'
   obtain ⟨hb,_,_⟩:=sim_ok (off_sim (hG.off _ hm)).1
   have hgk:P.of[k]?=some P.of[k]:=by simp[hk']
   have ht:=keepL_take (m:=m) hgk
   obtain ⟨o,ho⟩:∃ o,P.of[k]=o:=⟨_,rfl⟩
   rw[ho] at hb ht
   have hn8:=hG.n
   have b1:¬ o.b<0:=by omega
   have b2:min o.b.toNat 64=o.b.toNat:=by omega
   have h64:IntKind.i64.bits=64:=rfl
   have hbit:=mb_one m o.b.toNat h1 h2 (by omega)
   have hlen:=keepL_len (m:=m) (L:=P.of.take k)
   rw[List.length_take] at hlen
   cases hv:mb m o.b.toNat
   ·rw[hv] at hbit ht
    simp at hbit
    simp at ht
    simp[c_problem_Without_l0,stWo,e,hk',ho,eBin_shr b1,h64,b2,hbit]
    refine apc_add (by decide) rfl ?_ ?_ (by simp) ?_
    ·simp only[ofR_len]; omega
    ·simp only[ofR_len]; omega
    ·have hro:ofR (keepL m (P.of.take k))++[oC o]=ofR (keepL m (P.of.take (k+1))):=by rw[ht,ofR_app]; rfl
     rw[hro]
     simp[-cellsOf,w1,stWo]
   ·rw[hv] at hbit ht
    simp at hbit
    simp at ht
    simp[c_problem_Without_l0,stWo,e,hk',ho,eBin_shr b1,h64,b2,hbit,w1,ht]
  ·simp[c_problem_Without_l0,stWo,c_problem_Without_k1,r_problem_Without]
   exact wo_out rfl
 ·rw[if_neg c1]
  simp[c1,r_problem_Without]
  exact pbZ_impX
end
end Go.Proofs.Ytpmaehfiifinhaa
