/- What the proof rests on, part 8: C Dig N1 N2 N3 Dig2 N4 N5 Dig3 Dig4 N6 N7 N8 N9. -/
import Derived.Test.YtbgnkodhpbkdoaaP7
import Derived.Test.YtbgnkodhpbkdoaaProg
set_option maxRecDepth 100000
set_option maxHeartbeats 4000000
namespace Go.Proofs.Ytbgnkodhpbkdoaa
open Go Go.Am
def c_q_Add_l0:ACode:=(.seq (.seq (rgN [oq 9 .mov [.t 7],oq 10 .mov [.t 0],oq 11 (.len false) [.t 10],oq 12 .mov [.t 1],oq 13 (.len false) [.t 12],⟨some 14,.mm .max #[T_int,T_int] T_int,[.t 11,.t 13],none⟩,oq 15 (.bin .leq T_int (.tmp 9) (.tmp 14)) [.t 9,.t 14]] [9,10,11,12,13,14] []) (.cond (.t 15) .skip (.exit 0))) (.seq (.block 1 (.seq (rgN [oq 18 .mov [.t 0],oq 19 .mov [.t 7],oq 20 (.call F_q_digit) [.t 18,.t 19],oq 21 .mov [.t 1],oq 22 .mov [.t 7],oq 23 (.call F_q_digit) [.t 21,.t 22],oq 24 (.bin .add T_uint64 (.tmp 20) (.tmp 23)) [.t 20,.t 23],oq 25 .mov [.t 6],oq 26 (.bin .add T_uint64 (.tmp 24) (.tmp 25)) [.t 24,.t 25],oq 8 .mov [.t 26]] [6,15,18,19,20,21,22,23,24,25,26] []) (.seq (rgN [oq 27 .mov [.t 5],oq 28 .mov [.t 8],oq 29 (.bin .rem T_uint64 (.tmp 28) (.const (.int .u64 4294967296))) [.t 28,.c (.val (.int .u64 4294967296))],oq 30 (.conv T_uint64 T_uint32) [.t 29],oq 31 (.mkslice 1 1 [.val (.int .u32 0)] [0]) [.t 30],oq 32 (.append 1 4) [.t 27,.t 31],oq 5 .mov [.t 32]] [27,28,29,30,31,32] []) (rgN [oq 33 .mov [.t 8],oq 34 (.bin .quo T_uint64 (.tmp 33) (.const (.int .u64 4294967296))) [.t 33,.c (.val (.int .u64 4294967296))],oq 6 .mov [.t 34]] [8,33,34] [])))) (rgN [oq 16 .mov [.t 7],oq 17 (.bin .add T_int (.tmp 16) (kc 1)) [.t 16,.c (iv 1)],oq 7 .mov [.t 17]] [16,17] [])))
def c_q_Add_k1:ACode:=(.seq (rgN [oq 35 .mov [.t 5],oq 36 (.call F_q_trim) [.t 35],oq 4 .mov [.t 36]] [0,1,5,6,7,15,35,36] []) .ret)
def c_q_Add:ACode:=(.seq (rgN [oq 4 .mov [.c (.list 0 .full [])]] [4] []) (.seq (rgN [oq 5 .mov [.c (.list 0 .full [])]] [] []) (.seq (rgN [oq 6 .mov [.c (.val (.int .u64 0))]] [] []) (.seq (.seq (rgN [oq 7 .mov [.c (iv 0)]] [] []) (.block 0 (.loop c_q_Add_l0))) c_q_Add_k1))))
def r_q_Add:List ResA:=[.t 4]
theorem t_q_Add:transl Try.prog F_q_Add=some (bare c_q_Add,r_q_Add,37):=by kernel_rfl
def c_q_Sub_l0:ACode:=(.seq (.seq (rgN [oq 14 .mov [.t 8],oq 15 .mov [.t 0],oq 16 (.len false) [.t 15],oq 17 (.bin .lss T_int (.tmp 14) (.tmp 16)) [.t 14,.t 16]] [14,15,16] []) (.cond (.t 17) .skip (.exit 0))) (.seq (.block 1 (.seq (rgN [oq 20 .mov [.t 0],oq 21 .mov [.t 8],oq 22 (.call F_q_digit) [.t 20,.t 21],oq 23 (.bin .add T_uint64 (.const (.int .u64 4294967296)) (.tmp 22)) [.c (.val (.int .u64 4294967296)),.t 22],oq 24 .mov [.t 1],oq 25 .mov [.t 8],oq 26 (.call F_q_digit) [.t 24,.t 25],oq 27 (.bin .sub T_uint64 (.tmp 23) (.tmp 26)) [.t 23,.t 26],oq 28 .mov [.t 7],oq 29 (.bin .sub T_uint64 (.tmp 27) (.tmp 28)) [.t 27,.t 28],oq 9 .mov [.t 29]] [7,17,20,21,22,23,24,25,26,27,28,29] []) (.seq (rgN [oq 30 .mov [.t 6],oq 31 .mov [.t 9],oq 32 (.bin .rem T_uint64 (.tmp 31) (.const (.int .u64 4294967296))) [.t 31,.c (.val (.int .u64 4294967296))],oq 33 (.conv T_uint64 T_uint32) [.t 32],oq 34 (.mkslice 1 1 [.val (.int .u32 0)] [0]) [.t 33],oq 35 (.append 1 4) [.t 30,.t 34],oq 6 .mov [.t 35]] [30,31,32,33,34,35] []) (rgN [oq 36 .mov [.t 9],oq 37 (.bin .quo T_uint64 (.tmp 36) (.const (.int .u64 4294967296))) [.t 36,.c (.val (.int .u64 4294967296))],oq 38 (.bin .sub T_uint64 (.const (.int .u64 1)) (.tmp 37)) [.c (.val (.int .u64 1)),.t 37],oq 7 .mov [.t 38]] [9,36,37,38] [])))) (rgN [oq 18 .mov [.t 8],oq 19 (.bin .add T_int (.tmp 18) (kc 1)) [.t 18,.c (iv 1)],oq 8 .mov [.t 19]] [18,19] [])))
def c_q_Sub_k1:ACode:=(.seq (rgN [oq 39 .mov [.t 6],oq 40 (.call F_q_trim) [.t 39],oq 4 .mov [.t 40],oq 5 .mov [.c (bv true)]] [0,1,6,7,8,17,39,40] []) .ret)
def c_q_Sub:ACode:=(.seq (rgN [oq 4 .mov [.c (.list 0 .full [])],oq 5 .mov [.c (bv false)]] [4,5] []) (.seq (.seq (rgN [oq 10 .mov [.t 0],oq 11 .mov [.t 1],oq 12 (.call F_q_Cmp) [.t 10,.t 11],oq 13 (.bin .lss T_int (.tmp 12) (kc 0)) [.t 12,.c (iv 0)]] [10,11,12] []) (.cond (.t 13) (.seq (rgN [oq 4 .mov [.c (.list 0 .full [])],oq 5 .mov [.c (bv false)]] [0,1,13] []) .ret) .skip)) (.seq (rgN [oq 6 .mov [.c (.list 0 .full [])]] [13] []) (.seq (rgN [oq 7 .mov [.c (.val (.int .u64 0))]] [] []) (.seq (.seq (rgN [oq 8 .mov [.c (iv 0)]] [] []) (.block 0 (.loop c_q_Sub_l0))) c_q_Sub_k1)))))
def r_q_Sub:List ResA:=[.t 4,.t 5]
theorem t_q_Sub:transl Try.prog F_q_Sub=some (bare c_q_Sub,r_q_Sub,41):=by kernel_rfl
def c_f_Sign:ACode:=(.seq (rgN [oq 1 .box [.t 0],oq 2 .mov [.c (iv 0)]] [0,2] []) (.seq (.block 0 (.seq (rgN [oq 4 (.faddr 1) [.t 1],oq 5 (.load none) [.t 4],oq 6 (.len false) [.t 5],oq 7 (.bin .eql T_int (.tmp 6) (kc 0)) [.t 6,.c (iv 0)],oq 3 .mov [.t 7]] [4,5,6,7] []) (.cond (.t 3) (.seq (rgN [oq 2 .mov [.c (iv 0)]] [1,3] [1]) .ret) (.seq (rgN [oq 9 (.faddr 0) [.t 1],oq 10 (.load none) [.t 9],oq 8 .mov [.t 10]] [1,3,9,10] [1]) (.cond (.t 8) (.seq (rgN [oq 2 .mov [.c (iv (-1))]] [8] []) .ret) .skip))))) (.seq (rgN [oq 2 .mov [.c (iv 1)]] [8] []) .ret)))
def r_f_Sign:List ResA:=[.t 2]
theorem t_f_Sign:transl Try.prog F_f_Sign=some (bare c_f_Sign,r_f_Sign,11):=by kernel_rfl
def c_n_Valid:ACode:=(.seq (rgN [oq 2 .mov [.c (bv false)]] [2] []) (.seq (rgN [oq 3 .mov [.t 0],oq 4 (.call F_n_trim) [.t 3],oq 5 (.len false) [.t 4],oq 6 .mov [.t 0],oq 7 (.len false) [.t 6],oq 8 (.bin .eql T_int (.tmp 5) (.tmp 7)) [.t 5,.t 7],oq 2 .mov [.t 8]] [0,3,4,5,6,7,8] []) .ret))
def r_n_Valid:List ResA:=[.t 2]
theorem t_n_Valid:transl Try.prog F_n_Valid=some (bare c_n_Valid,r_n_Valid,9):=by kernel_rfl
def c_f_kindOf:ACode:=(.seq (rgN [oq 1 .box [.t 0],oq 2 (.alloc [bv false,bv false]) []] [0] []) (.seq (rgN [oq 3 (.faddr 0) [.t 1],oq 4 (.load none) [.t 3],oq 5 (.faddr 1) [.t 1],oq 6 (.load none) [.t 5],oq 7 (.len false) [.t 6],oq 8 (.bin .eql T_int (.tmp 7) (kc 0)) [.t 7,.c (iv 0)],oq 9 (.build [bv false,bv false] [(0,1),(1,1)]) [.t 4,.t 8],ox (.store 2) [.t 2,.t 9]] [1,3,4,5,6,7,8,9] [1]) .ret))
def r_f_kindOf:List ResA:=[.cell 2 (some 2)]
theorem t_f_kindOf:transl Try.prog F_f_kindOf=some (bare c_f_kindOf,r_f_kindOf,10):=by kernel_rfl
def c_n_Cmp_l0:ACode:=(.seq (rgN [oq 24 (.bin .lss T_int (.tmp 23) (.tmp 22)) [.t 23,.t 22]] [] []) (.seq (.cond (.t 24) .skip (.exit 0)) (.seq (.block 1 (.seq (rgN [oq 25 .mov [.t 23],oq 5 .mov [.t 25]] [24,25] []) (.seq (rgN [oq 26 .mov [.t 0],oq 27 (.len false) [.t 26],oq 28 (.bin .sub T_int (.tmp 27) (kc 1)) [.t 27,.c (iv 1)],oq 29 .mov [.t 5],oq 30 (.bin .sub T_int (.tmp 28) (.tmp 29)) [.t 28,.t 29],oq 6 .mov [.t 30]] [5,26,27,28,29,30] []) (.seq (.seq (rgD [oq 31 .mov [.t 0],oq 32 .mov [.t 6],oq 33 (.iaddrS 1) [.t 31,.t 32],oq 34 (.load none) [.t 33],oq 35 .mov [.t 1],oq 36 .mov [.t 6],oq 37 (.iaddrS 1) [.t 35,.t 36],oq 38 (.load none) [.t 37],oq 39 (.bin .lss T_uint32 (.tmp 34) (.tmp 38)) [.t 34,.t 38]] [31,32,33,34,35,36,37,38] []) (.cond (.t 39) (.seq (rgN [oq 4 .mov [.c (iv (-1))]] [0,1,22,23,6,39] []) .ret) .skip)) (.seq (rgD [oq 40 .mov [.t 0],oq 41 .mov [.t 6],oq 42 (.iaddrS 1) [.t 40,.t 41],oq 43 (.load none) [.t 42],oq 44 .mov [.t 1],oq 45 .mov [.t 6],oq 46 (.iaddrS 1) [.t 44,.t 45],oq 47 (.load none) [.t 46],oq 48 (.bin .gtr T_uint32 (.tmp 43) (.tmp 47)) [.t 43,.t 47]] [6,39,40,41,42,43,44,45,46,47] []) (.cond (.t 48) (.seq (rgN [oq 4 .mov [.c (iv 1)]] [0,1,22,23,48] []) .ret) .skip)))))) (rgN [oq 49 (.bin .add T_int (.tmp 23) (kc 1)) [.t 23,.c (iv 1)],oq 23 .mov [.t 49]] [48,49] []))))
def c_n_Cmp_k1:ACode:=(.seq (rgN [oq 4 .mov [.c (iv 0)]] [0,1,22,23,24] []) .ret)
def c_n_Cmp:ACode:=(.seq (rgN [oq 4 .mov [.c (iv 0)]] [4] []) (.seq (rgN [oq 7 .mov [.t 0],oq 8 (.call F_n_trim) [.t 7],oq 9 .mov [.t 1],oq 10 (.call F_n_trim) [.t 9],oq 0 .mov [.t 8],oq 1 .mov [.t 10]] [7,8,9,10] []) (.seq (.seq (rgN [oq 11 .mov [.t 0],oq 12 (.len false) [.t 11],oq 13 .mov [.t 1],oq 14 (.len false) [.t 13],oq 15 (.bin .neq T_int (.tmp 12) (.tmp 14)) [.t 12,.t 14]] [11,12,13,14] []) (.cond (.t 15) (.seq (.seq (rgN [oq 16 .mov [.t 0],oq 17 (.len false) [.t 16],oq 18 .mov [.t 1],oq 19 (.len false) [.t 18],oq 20 (.bin .lss T_int (.tmp 17) (.tmp 19)) [.t 17,.t 19]] [0,1,15,16,17,18,19] []) (.cond (.t 20) (.seq (rgN [oq 4 .mov [.c (iv (-1))]] [20] []) .ret) .skip)) (.seq (rgN [oq 4 .mov [.c (iv 1)]] [20] []) .ret)) .skip)) (.seq (.seq (rgN [oq 21 .mov [.t 0],oq 22 (.len false) [.t 21],oq 23 .mov [.c (iv 0)]] [15,21] []) (.block 0 (.loop c_n_Cmp_l0))) c_n_Cmp_k1))))
def r_n_Cmp:List ResA:=[.t 4]
theorem t_n_Cmp:transl Try.prog F_n_Cmp=some (bare c_n_Cmp,r_n_Cmp,50):=by kernel_rfl
def c_n_GCD_l0:ACode:=(.seq (.seq (rgN [oq 12 .mov [.t 1],oq 13 (.len false) [.t 12],oq 14 (.bin .gtr T_int (.tmp 13) (kc 0)) [.t 13,.c (iv 0)]] [12,13] []) (.cond (.t 14) .skip (.exit 0))) (.block 1 (.seq (rgN [oq 16 .mov [.t 0],oq 17 .mov [.t 1],oq 18 (.call F_n_DivMod) [.t 16,.t 17],oq 15 .mov [.t 18],oq 19 (.extract 0) [.t 15],oq 20 (.extract 1) [.t 15],oq 21 (.extract 2) [.t 15],oq 5 .mov [.t 19],oq 6 .mov [.t 20],oq 7 .mov [.t 21]] [14,16,17,18,15,19,20,21,5] []) (.seq (.seq (rgN [oq 22 .mov [.t 7],oq 23 (.bin .neq T_api_Errno (.tmp 22) (kc 0)) [.t 22,.c (iv 0)]] [7,22] []) (.cond (.t 23) (.exit 0) .skip)) (rgN [oq 24 .mov [.t 1],oq 25 .mov [.t 6],oq 0 .mov [.t 24],oq 1 .mov [.t 25]] [6,23,24,25] [])))))
def c_n_GCD_k1:ACode:=(.seq (rgN [oq 26 .mov [.t 0],oq 4 .mov [.t 26]] [0,1,6,23,14,26] []) .ret)
def c_n_GCD:ACode:=(.seq (rgN [oq 4 .mov [.c (.list 0 .full [])]] [4] []) (.seq (rgN [oq 8 .mov [.t 0],oq 9 (.call F_n_Add) [.t 8,.c (.list 0 .full [])],oq 10 .mov [.t 1],oq 11 (.call F_n_Add) [.t 10,.c (.list 0 .full [])],oq 0 .mov [.t 9],oq 1 .mov [.t 11]] [8,9,10,11] []) (.seq (.block 0 (.loop c_n_GCD_l0)) c_n_GCD_k1)))
def r_n_GCD:List ResA:=[.t 4]
theorem t_n_GCD:transl Try.prog F_n_GCD=some (bare c_n_GCD,r_n_GCD,27):=by kernel_rfl
def c_n_FromUint:ACode:=(.seq (rgN [oq 2 .mov [.c (.list 0 .full [])]] [2] []) (.seq (rgN [oq 3 .mov [.t 0],oq 4 (.conv T_uint64 T_uint32) [.t 3],oq 5 .mov [.t 0],oq 6 (.bin .shr T_uint64 (.tmp 5) (.const (.int .u64 32))) [.t 5,.c (.val (.int .u64 32))],oq 7 (.conv T_uint64 T_uint32) [.t 6],oq 8 (.mkslice 1 2 [.val (.int .u32 0)] [0,1]) [.t 4,.t 7],oq 9 (.call F_n_trim) [.t 8],oq 2 .mov [.t 9]] [0,3,4,5,6,7,8,9] []) .ret))
def r_n_FromUint:List ResA:=[.t 2]
theorem t_n_FromUint:transl Try.prog F_n_FromUint=some (bare c_n_FromUint,r_n_FromUint,10):=by kernel_rfl
def c_f_made:ACode:=(.seq (rgN [⟨some 6,.alloc [bv false,.list 0 .full [],.list 0 .full []],[],none⟩] [] []) (.seq (rgN [oq 10 .mov [.t 0],oq 11 .mov [.t 1],oq 12 .mov [.t 2],oq 13 (.call F_f_Make) [.t 10,.t 11,.t 12],oq 9 .mov [.t 13],oq 14 (.extract 0) [.t 9],oq 15 (.extract 1) [.t 9],⟨some 7,.alloc [bv false,.list 0 .full [],.list 0 .full []],[],none⟩,ox (.store 3) [.t 7,.t 14],oq 8 .mov [.t 15]] [0,1,2,10,11,12,13,9,14,15,8] []) (.seq (rgN [oq 16 (.load (some 3)) [.t 7],ox (.store 3) [.t 6,.t 16]] [7,16] [7]) .ret)))
def r_f_made:List ResA:=[.cell 6 (some 3)]
theorem t_f_made:transl Try.prog F_f_made=some (bare c_f_made,r_f_made,17):=by kernel_rfl
def c_f_size:ACode:=(.seq (rgN [oq 2 .mov [.c (.list 0 .full [])]] [2] []) (.seq (.seq (rgN [oq 3 .mov [.t 0],oq 4 (.bin .lss T_int64 (.tmp 3) (kc 0)) [.t 3,.c (iv 0)]] [3] []) (.cond (.t 4) (.seq (rgN [oq 5 .mov [.t 0],oq 6 (.bin .add T_int64 (.tmp 5) (kc 1)) [.t 5,.c (iv 1)],oq 7 (.un .neg) [.t 6],oq 8 (.conv T_int64 T_uint64) [.t 7],oq 9 (.bin .add T_uint64 (.tmp 8) (.const (.int .u64 1))) [.t 8,.c (.val (.int .u64 1))],oq 10 (.call F_n_FromUint) [.t 9],oq 2 .mov [.t 10]] [0,4,5,6,7,8,9,10] []) .ret) .skip)) (.seq (rgN [oq 11 .mov [.t 0],oq 12 (.conv T_int64 T_uint64) [.t 11],oq 13 (.call F_n_FromUint) [.t 12],oq 2 .mov [.t 13]] [0,4,11,12,13] []) .ret)))
def r_f_size:List ResA:=[.t 2]
theorem t_f_size:transl Try.prog F_f_size=some (bare c_f_size,r_f_size,14):=by kernel_rfl
def c_f_cross:ACode:=(.seq (rgN [oq 2 .box [.t 0],oq 3 .box [.t 1],oq 4 .mov [.c (.list 0 .full [])],oq 5 .mov [.c (.list 0 .full [])]] [0,1,4,5] []) (.seq (rgD [oq 6 (.faddr 1) [.t 2],oq 7 (.load none) [.t 6],oq 8 (.faddr 2) [.t 3],oq 9 (.load none) [.t 8],oq 10 (.call F_n_Mul) [.t 7,.t 9],oq 11 (.faddr 1) [.t 3],oq 12 (.load none) [.t 11],oq 13 (.faddr 2) [.t 2],oq 14 (.load none) [.t 13],oq 15 (.call F_n_Mul) [.t 12,.t 14],oq 4 .mov [.t 10],oq 5 .mov [.t 15]] [2,3,6,7,8,9,10,11,12,13,14,15] [2,3]) .ret))
def r_f_cross:List ResA:=[.t 4,.t 5]
theorem t_f_cross:transl Try.prog F_f_cross=some (bare c_f_cross,r_f_cross,16):=by kernel_rfl
def c_n_Mul_l0:ACode:=(.seq (rgN [oq 24 (.bin .lss T_int (.tmp 23) (.tmp 22)) [.t 23,.t 22]] [] []) (.seq (.cond (.t 24) .skip (.exit 2)) (.seq (.block 3 (.seq (rgN [oq 25 .mov [.t 23],oq 8 .mov [.t 25]] [24,25] []) (.seq (rgD [oq 26 .mov [.t 0],oq 27 .mov [.t 6],oq 28 (.iaddrS 1) [.t 26,.t 27],oq 29 (.load none) [.t 28],oq 30 (.conv T_uint32 T_uint64) [.t 29],oq 31 .mov [.t 1],oq 32 .mov [.t 8],oq 33 (.iaddrS 1) [.t 31,.t 32],oq 34 (.load none) [.t 33],oq 35 (.conv T_uint32 T_uint64) [.t 34],oq 36 (.bin .mul T_uint64 (.tmp 30) (.tmp 35)) [.t 30,.t 35],oq 37 .mov [.t 5],oq 38 .mov [.t 6],oq 39 .mov [.t 8],oq 40 (.bin .add T_int (.tmp 38) (.tmp 39)) [.t 38,.t 39],oq 41 (.iaddrS 1) [.t 37,.t 40],oq 42 (.load none) [.t 41],oq 43 (.conv T_uint32 T_uint64) [.t 42],oq 44 (.bin .add T_uint64 (.tmp 36) (.tmp 43)) [.t 36,.t 43],oq 45 .mov [.t 7],oq 46 (.bin .add T_uint64 (.tmp 44) (.tmp 45)) [.t 44,.t 45],oq 9 .mov [.t 46]] [7,26,27,28,29,30,31,32,33,34,35,36,37,38,39,40,41,42,43,44,45,46] []) (rgN [oq 47 .mov [.t 5],oq 48 .mov [.t 6],oq 49 .mov [.t 8],oq 50 (.bin .add T_int (.tmp 48) (.tmp 49)) [.t 48,.t 49],oq 51 .mov [.t 9],oq 52 (.conv T_uint64 T_uint32) [.t 51],oq 53 .mov [.t 9],oq 54 (.bin .shr T_uint64 (.tmp 53) (.const (.int .u64 32))) [.t 53,.c (.val (.int .u64 32))],oq 55 (.iaddrS 1) [.t 47,.t 50],ox (.store 1) [.t 55,.t 52],oq 7 .mov [.t 54]] [8,9,47,48,49,50,51,52,53,54,55] [])))) (rgN [oq 56 (.bin .add T_int (.tmp 23) (kc 1)) [.t 23,.c (iv 1)],oq 23 .mov [.t 56]] [56] []))))
def c_n_Mul_k1:ACode:=(rgN [oq 57 .mov [.t 5],oq 58 .mov [.t 6],oq 59 .mov [.t 1],oq 60 (.len false) [.t 59],oq 61 (.bin .add T_int (.tmp 58) (.tmp 60)) [.t 58,.t 60],oq 62 .mov [.t 7],oq 63 (.conv T_uint64 T_uint32) [.t 62],oq 64 (.iaddrS 1) [.t 57,.t 61],ox (.store 1) [.t 64,.t 63]] [6,7,22,23,24,57,58,59,60,61,62,63,64] [])
def c_n_Mul_k2:ACode:=(rgN [oq 65 (.bin .add T_int (.tmp 18) (kc 1)) [.t 18,.c (iv 1)],oq 18 .mov [.t 65]] [65] [])
def c_n_Mul_l3:ACode:=(.seq (rgN [oq 19 (.bin .lss T_int (.tmp 18) (.tmp 17)) [.t 18,.t 17]] [] []) (.seq (.cond (.t 19) .skip (.exit 0)) (.seq (.block 1 (.seq (rgN [oq 20 .mov [.t 18],oq 6 .mov [.t 20]] [19,20] []) (.seq (rgN [oq 7 .mov [.c (.val (.int .u64 0))]] [] []) (.seq (.seq (rgN [oq 21 .mov [.t 1],oq 22 (.len false) [.t 21],oq 23 .mov [.c (iv 0)]] [21] []) (.block 2 (.loop c_n_Mul_l0))) c_n_Mul_k1)))) c_n_Mul_k2)))
def c_n_Mul_k4:ACode:=(.seq (.region false [15] [oq 66 .mov [.t 5],oq 67 (.call F_n_trim) [.t 66],oq 4 .mov [.t 67]] [0,1,5,17,18,19,66,67] []) .ret)
def c_n_Mul:ACode:=(.seq (rgN [oq 4 .mov [.c (.list 0 .full [])]] [4] []) (.seq (rgN [oq 10 .mov [.t 0],oq 11 (.len false) [.t 10],oq 12 .mov [.t 1],oq 13 (.len false) [.t 12],oq 14 (.bin .add T_int (.tmp 11) (.tmp 13)) [.t 11,.t 13],oq 15 (.mk 1 4 [.val (.int .u32 0)]) [.t 14,.t 14],oq 5 .mov [.t 15]] [10,11,12,13,14,15] []) (.seq (.seq (rgN [oq 16 .mov [.t 0],oq 17 (.len false) [.t 16],oq 18 .mov [.c (iv 0)]] [16] []) (.block 0 (.loop c_n_Mul_l3))) c_n_Mul_k4)))
def r_n_Mul:List ResA:=[.t 4]
theorem t_n_Mul:transl Try.prog F_n_Mul=some (bare c_n_Mul,r_n_Mul,68):=by kernel_rfl
def c_n_Add_l0:ACode:=(.seq (rgN [oq 23 (.bin .lss T_int (.tmp 22) (.tmp 21)) [.t 22,.t 21]] [] []) (.seq (.cond (.t 23) .skip (.exit 0)) (.seq (.block 1 (.seq (rgN [oq 24 .mov [.t 22],oq 7 .mov [.t 24]] [23,24] []) (.seq (rgN [oq 25 .mov [.t 0],oq 26 .mov [.t 7],oq 27 (.iaddrS 1) [.t 25,.t 26],oq 28 (.load none) [.t 27],oq 29 (.conv T_uint32 T_uint64) [.t 28],oq 30 .mov [.t 6],oq 31 (.bin .add T_uint64 (.tmp 29) (.tmp 30)) [.t 29,.t 30],oq 8 .mov [.t 31]] [6,25,26,27,28,29,30,31] []) (.seq (.seq (rgN [oq 32 .mov [.t 7],oq 33 .mov [.t 1],oq 34 (.len false) [.t 33],oq 35 (.bin .lss T_int (.tmp 32) (.tmp 34)) [.t 32,.t 34]] [32,33,34] []) (.cond (.t 35) (rgN [oq 36 .mov [.t 8],oq 37 .mov [.t 1],oq 38 .mov [.t 7],oq 39 (.iaddrS 1) [.t 37,.t 38],oq 40 (.load none) [.t 39],oq 41 (.conv T_uint32 T_uint64) [.t 40],oq 42 (.bin .add T_uint64 (.tmp 36) (.tmp 41)) [.t 36,.t 41],oq 8 .mov [.t 42]] [35,36,37,38,39,40,41,42] []) .skip)) (rgN [oq 43 .mov [.t 5],oq 44 .mov [.t 7],oq 45 .mov [.t 8],oq 46 (.conv T_uint64 T_uint32) [.t 45],oq 47 .mov [.t 8],oq 48 (.bin .shr T_uint64 (.tmp 47) (.const (.int .u64 32))) [.t 47,.c (.val (.int .u64 32))],oq 49 (.iaddrS 1) [.t 43,.t 44],ox (.store 1) [.t 49,.t 46],oq 6 .mov [.t 48]] [7,8,35,43,44,45,46,47,48,49] []))))) (rgN [oq 50 (.bin .add T_int (.tmp 22) (kc 1)) [.t 22,.c (iv 1)],oq 22 .mov [.t 50]] [50] []))))
def c_n_Add_k1:ACode:=(.seq (rgN [oq 51 .mov [.t 5],oq 52 .mov [.t 0],oq 53 (.len false) [.t 52],oq 54 .mov [.t 6],oq 55 (.conv T_uint64 T_uint32) [.t 54],oq 56 (.iaddrS 1) [.t 51,.t 53],ox (.store 1) [.t 56,.t 55]] [0,1,6,21,22,23,51,52,53,54,55,56] []) (.seq (.region false [19] [oq 57 .mov [.t 5],oq 58 (.call F_n_trim) [.t 57],oq 4 .mov [.t 58]] [5,57,58] []) .ret))
def c_n_Add:ACode:=(.seq (rgN [oq 4 .mov [.c (.list 0 .full [])]] [4] []) (.seq (.seq (rgN [oq 9 .mov [.t 0],oq 10 (.len false) [.t 9],oq 11 .mov [.t 1],oq 12 (.len false) [.t 11],oq 13 (.bin .lss T_int (.tmp 10) (.tmp 12)) [.t 10,.t 12]] [9,10,11,12] []) (.cond (.t 13) (rgN [oq 14 .mov [.t 1],oq 15 .mov [.t 0],oq 0 .mov [.t 14],oq 1 .mov [.t 15]] [13,14,15] []) .skip)) (.seq (rgN [oq 16 .mov [.t 0],oq 17 (.len false) [.t 16],oq 18 (.bin .add T_int (.tmp 17) (kc 1)) [.t 17,.c (iv 1)],oq 19 (.mk 1 4 [.val (.int .u32 0)]) [.t 18,.t 18],oq 5 .mov [.t 19]] [13,16,17,18,19] []) (.seq (rgN [oq 6 .mov [.c (.val (.int .u64 0))]] [] []) (.seq (.seq (rgN [oq 20 .mov [.t 0],oq 21 (.len false) [.t 20],oq 22 .mov [.c (iv 0)]] [20] []) (.block 0 (.loop c_n_Add_l0))) c_n_Add_k1)))))
def r_n_Add:List ResA:=[.t 4]
theorem t_n_Add:transl Try.prog F_n_Add=some (bare c_n_Add,r_n_Add,59):=by kernel_rfl
def c_n_Sub_l0:ACode:=(.seq (rgN [oq 24 (.bin .lss T_int (.tmp 23) (.tmp 22)) [.t 23,.t 22]] [] []) (.seq (.cond (.t 24) .skip (.exit 0)) (.seq (.block 1 (.seq (rgN [oq 25 .mov [.t 23],oq 8 .mov [.t 25]] [24,25] []) (.seq (rgN [oq 26 .mov [.t 0],oq 27 .mov [.t 8],oq 28 (.iaddrS 1) [.t 26,.t 27],oq 29 (.load none) [.t 28],oq 30 (.conv T_uint32 T_uint64) [.t 29],oq 31 .mov [.t 7],oq 32 (.bin .sub T_uint64 (.tmp 30) (.tmp 31)) [.t 30,.t 31],oq 9 .mov [.t 32]] [7,26,27,28,29,30,31,32] []) (.seq (.seq (rgN [oq 33 .mov [.t 8],oq 34 .mov [.t 1],oq 35 (.len false) [.t 34],oq 36 (.bin .lss T_int (.tmp 33) (.tmp 35)) [.t 33,.t 35]] [33,34,35] []) (.cond (.t 36) (rgN [oq 37 .mov [.t 9],oq 38 .mov [.t 1],oq 39 .mov [.t 8],oq 40 (.iaddrS 1) [.t 38,.t 39],oq 41 (.load none) [.t 40],oq 42 (.conv T_uint32 T_uint64) [.t 41],oq 43 (.bin .sub T_uint64 (.tmp 37) (.tmp 42)) [.t 37,.t 42],oq 9 .mov [.t 43]] [36,37,38,39,40,41,42,43] []) .skip)) (rgN [oq 44 .mov [.t 6],oq 45 .mov [.t 8],oq 46 .mov [.t 9],oq 47 (.conv T_uint64 T_uint32) [.t 46],oq 48 .mov [.t 9],oq 49 (.bin .shr T_uint64 (.tmp 48) (.const (.int .u64 63))) [.t 48,.c (.val (.int .u64 63))],oq 50 (.iaddrS 1) [.t 44,.t 45],ox (.store 1) [.t 50,.t 47],oq 7 .mov [.t 49]] [8,9,36,44,45,46,47,48,49,50] []))))) (rgN [oq 51 (.bin .add T_int (.tmp 23) (kc 1)) [.t 23,.c (iv 1)],oq 23 .mov [.t 51]] [51] []))))
def c_n_Sub_k1:ACode:=(.seq (.region false [20] [oq 52 .mov [.t 6],oq 53 (.call F_n_trim) [.t 52],oq 4 .mov [.t 53],oq 5 .mov [.c (bv true)]] [0,1,6,7,22,23,24,52,53] []) .ret)
def c_n_Sub:ACode:=(.seq (rgN [oq 4 .mov [.c (.list 0 .full [])],oq 5 .mov [.c (bv false)]] [4,5] []) (.seq (rgN [oq 10 .mov [.t 0],oq 11 (.call F_n_trim) [.t 10],oq 12 .mov [.t 1],oq 13 (.call F_n_trim) [.t 12],oq 0 .mov [.t 11],oq 1 .mov [.t 13]] [10,11,12,13] []) (.seq (.seq (rgN [oq 14 .mov [.t 0],oq 15 .mov [.t 1],oq 16 (.call F_n_Cmp) [.t 14,.t 15],oq 17 (.bin .lss T_int (.tmp 16) (kc 0)) [.t 16,.c (iv 0)]] [14,15,16] []) (.cond (.t 17) (.seq (rgN [oq 4 .mov [.c (.list 0 .full [])],oq 5 .mov [.c (bv false)]] [0,1,17] []) .ret) .skip)) (.seq (rgN [oq 18 .mov [.t 0],oq 19 (.len false) [.t 18],oq 20 (.mk 1 4 [.val (.int .u32 0)]) [.t 19,.t 19],oq 6 .mov [.t 20]] [17,18,19,20] []) (.seq (rgN [oq 7 .mov [.c (.val (.int .u64 0))]] [] []) (.seq (.seq (rgN [oq 21 .mov [.t 0],oq 22 (.len false) [.t 21],oq 23 .mov [.c (iv 0)]] [21] []) (.block 0 (.loop c_n_Sub_l0))) c_n_Sub_k1))))))
def r_n_Sub:List ResA:=[.t 4,.t 5]
theorem t_n_Sub:transl Try.prog F_n_Sub=some (bare c_n_Sub,r_n_Sub,54):=by kernel_rfl
def c_f_Mul:ACode:=(.seq (rgN [oq 2 .box [.t 0],oq 3 .box [.t 1],⟨some 4,.alloc [bv false,.list 0 .full [],.list 0 .full []],[],none⟩] [0,1] []) (.seq (rgD [oq 5 (.faddr 0) [.t 2],oq 6 (.load none) [.t 5],oq 7 (.faddr 0) [.t 3],oq 8 (.load none) [.t 7],oq 9 (.bin .neq T_bool (.tmp 6) (.tmp 8)) [.t 6,.t 8],oq 10 (.faddr 1) [.t 2],oq 11 (.load none) [.t 10],oq 12 (.faddr 1) [.t 3],oq 13 (.load none) [.t 12],oq 14 (.call F_n_Mul) [.t 11,.t 13],oq 15 (.faddr 2) [.t 2],oq 16 (.load none) [.t 15],oq 17 (.faddr 2) [.t 3],oq 18 (.load none) [.t 17],oq 19 (.call F_n_Mul) [.t 16,.t 18],oq 20 (.call F_f_made) [.t 9,.t 14,.t 19],ox (.store 3) [.t 4,.t 20]] [2,3,5,6,7,8,9,10,11,12,13,14,15,16,17,18,19,20] [2,3]) .ret))
def r_f_Mul:List ResA:=[.cell 4 (some 3)]
theorem t_f_Mul:transl Try.prog F_f_Mul=some (bare c_f_Mul,r_f_Mul,21):=by kernel_rfl
def c_minrevenue_bound_1:ACode:=(rgD [oq 5 (.load none) [.t 1],oq 6 .mov [.t 0],oq 7 (.load none) [.t 1],oq 8 .mov [.t 0],oq 9 (.iaddrS 3) [.t 7,.t 8],oq 10 (.load (some 3)) [.t 9],oq 11 (.load none) [.t 2],oq 12 (.load none) [.t 3],oq 13 (.iaddrS 3) [.t 11,.t 12],oq 14 (.load (some 3)) [.t 13],oq 15 (.call F_f_Add) [.t 10,.t 14],oq 16 (.iaddrS 3) [.t 5,.t 6],ox (.store 3) [.t 16,.t 15]] [0,5,6,7,8,9,10,11,12,13,14,15,16] [])
def r_minrevenue_bound_1:List ResA:=[]
theorem t_minrevenue_bound_1:transl Try.prog F_minrevenue_bound_1=some (bare c_minrevenue_bound_1,r_minrevenue_bound_1,17):=by kernel_rfl
def c_f_Sub:ACode:=(.seq (rgN [oq 2 .box [.t 0],oq 3 .box [.t 1],⟨some 4,.alloc [bv false,.list 0 .full [],.list 0 .full []],[],none⟩] [0,1] []) (.seq (rgD [oq 5 (.load (some 3)) [.t 2],oq 6 (.load (some 3)) [.t 3],oq 7 (.call F_f_Neg) [.t 6],oq 8 (.call F_f_Add) [.t 5,.t 7],ox (.store 3) [.t 4,.t 8]] [2,3,5,6,7,8] [2,3]) .ret))
def r_f_Sub:List ResA:=[.cell 4 (some 3)]
theorem t_f_Sub:transl Try.prog F_f_Sub=some (bare c_f_Sub,r_f_Sub,9):=by kernel_rfl
def c_p_Neg:ACode:=(.seq (rgN [oq 1 .box [.t 0],⟨some 2,.alloc [bv false,.list 0 .full [],.list 0 .full []],[],none⟩] [0] []) (.seq (rgN [oq 3 (.faddr 0) [.t 1],oq 4 (.load none) [.t 3],oq 5 (.un .not) [.t 4],oq 6 .mov [.t 5],⟨some 7,.faddr 1,[.t 1],some (6,true)⟩,⟨some 8,.load none,[.t 7],some (6,true)⟩,⟨some 9,.len false,[.t 8],some (6,true)⟩,⟨some 10,.bin .gtr T_int (.tmp 9) (kc 0),[.t 9,.c (iv 0)],some (6,true)⟩,oq 11 .pick [.t 6,.t 10,.c (bv false)],oq 12 (.faddr 1) [.t 1],oq 13 (.load none) [.t 12],oq 14 (.faddr 2) [.t 1],oq 15 (.load none) [.t 14],⟨some 16,.build [bv false,.list 0 .full [],.list 0 .full []] [(0,1),(1,1),(2,1)],[.t 11,.t 13,.t 15],none⟩,ox (.store 3) [.t 2,.t 16]] [1,3,4,5,6,7,8,9,10,11,12,13,14,15,16] [1]) .ret))
def r_p_Neg:List ResA:=[.cell 2 (some 3)]
theorem t_p_Neg:transl Try.prog F_p_Neg=some (bare c_p_Neg,r_p_Neg,17):=by kernel_rfl
def c_q_DivMod_l0:ACode:=(.seq (.seq (rgN [oq 27 .mov [.t 10],oq 28 (.bin .geq T_int (.tmp 27) (kc 0)) [.t 27,.c (iv 0)]] [27] []) (.cond (.t 28) .skip (.exit 0))) (.seq (.block 1 (.seq (rgN [oq 31 .mov [.t 8],oq 32 .mov [.t 8],oq 33 (.call F_q_Add) [.t 31,.t 32],oq 8 .mov [.t 33]] [28,31,32,33] []) (.seq (rgN [oq 34 .mov [.t 9],oq 35 .mov [.t 9],oq 36 (.call F_q_Add) [.t 34,.t 35],oq 37 .mov [.t 0],oq 38 .mov [.t 10],oq 39 (.call F_q_Bit) [.t 37,.t 38],oq 40 (.call F_q_FromUint) [.t 39],oq 41 (.call F_q_Add) [.t 36,.t 40],oq 9 .mov [.t 41]] [34,35,36,37,38,39,40,41] []) (.seq (rgN [oq 42 .mov [.t 9],oq 43 .mov [.t 1],oq 44 (.call F_q_Cmp) [.t 42,.t 43],oq 45 (.bin .geq T_int (.tmp 44) (kc 0)) [.t 44,.c (iv 0)]] [42,43,44] []) (.cond (.t 45) (.seq (rgN [oq 47 .mov [.t 9],oq 48 .mov [.t 1],oq 49 (.call F_q_Sub) [.t 47,.t 48],oq 46 .mov [.t 49],oq 50 (.extract 0) [.t 46],oq 51 (.extract 1) [.t 46],oq 9 .mov [.t 50]] [45,47,48,49,46,50,51] []) (rgN [oq 52 .mov [.t 8],oq 53 (.call F_q_FromUint) [.c (.val (.int .u64 1))],oq 54 (.call F_q_Add) [.t 52,.t 53],oq 8 .mov [.t 54]] [52,53,54] [])) .skip))))) (rgN [oq 29 .mov [.t 10],oq 30 (.bin .sub T_int (.tmp 29) (kc 1)) [.t 29,.c (iv 1)],oq 10 .mov [.t 30]] [45,29,30] [])))
def c_q_DivMod_k1:ACode:=(.seq (rgN [oq 55 .mov [.t 8],oq 56 .mov [.t 9],oq 4 .mov [.t 55],oq 5 .mov [.t 56],oq 6 .mov [.c (iv 0)]] [0,1,8,9,10,28,55,56] []) .ret)
def c_q_DivMod:ACode:=(.seq (rgN [oq 4 .mov [.c (.list 0 .full [])],oq 5 .mov [.c (.list 0 .full [])],oq 6 .mov [.c (iv 0)]] [4,5,6] []) (.seq (.seq (rgN [oq 11 .mov [.t 1],oq 12 (.len false) [.t 11],oq 13 (.bin .eql T_int (.tmp 12) (kc 0)) [.t 12,.c (iv 0)]] [11,12] []) (.cond (.t 13) (.seq (rgN [oq 4 .mov [.c (.list 0 .full [])],oq 5 .mov [.c (.list 0 .full [])],oq 6 .mov [.c (iv 8)]] [0,1,13] []) .ret) .skip)) (.seq (rgN [oq 14 .mov [.t 0],oq 15 (.call F_q_Bits) [.t 14],oq 16 .mov [.t 1],oq 17 (.call F_q_Bits) [.t 16],⟨some 18,.mm .max #[T_int,T_int] T_int,[.c (iv 1),.t 17],none⟩,oq 19 (.bin .sub T_int (.tmp 15) (.tmp 18)) [.t 15,.t 18],oq 20 (.bin .add T_int (.tmp 19) (kc 1)) [.t 19,.c (iv 1)],⟨some 21,.mm .max #[T_int,T_int] T_int,[.c (iv 0),.t 20],none⟩,oq 7 .mov [.t 21]] [13,14,15,16,17,18,19,20,21] []) (.seq (rgN [oq 8 .mov [.c (.list 0 .full [])]] [] []) (.seq (rgN [oq 22 .mov [.t 0],oq 23 .mov [.t 7],oq 24 (.call F_q_high) [.t 22,.t 23],oq 9 .mov [.t 24]] [22,23,24] []) (.seq (.seq (rgN [oq 25 .mov [.t 7],oq 26 (.bin .sub T_int (.tmp 25) (kc 1)) [.t 25,.c (iv 1)],oq 10 .mov [.t 26]] [7,25,26] []) (.block 0 (.loop c_q_DivMod_l0))) c_q_DivMod_k1))))))
def r_q_DivMod:List ResA:=[.t 4,.t 5,.t 6]
theorem t_q_DivMod:transl Try.prog F_q_DivMod=some (bare c_q_DivMod,r_q_DivMod,57):=by kernel_rfl
def c_q_trim_l0:ACode:=(.seq (.seq (rgN [oq 3 .mov [.t 0],oq 4 (.len false) [.t 3],oq 5 (.bin .gtr T_int (.tmp 4) (kc 0)) [.t 4,.c (iv 0)],oq 6 .mov [.t 5],⟨some 7,.mov,[.t 0],some (6,true)⟩,⟨some 8,.mov,[.t 0],some (6,true)⟩,⟨some 9,.len false,[.t 8],some (6,true)⟩,⟨some 10,.bin .sub T_int (.tmp 9) (kc 1),[.t 9,.c (iv 1)],some (6,true)⟩,⟨some 11,.iaddrS 1,[.t 7,.t 10],some (6,true)⟩,⟨some 12,.load none,[.t 11],some (6,true)⟩,⟨some 13,.bin .eql T_uint32 (.tmp 12) (.const (.int .u32 0)),[.t 12,.c (.val (.int .u32 0))],some (6,true)⟩,oq 14 .pick [.t 6,.t 13,.c (bv false)]] [3,4,5,6,7,8,9,10,11,12,13] []) (.cond (.t 14) .skip (.exit 0))) (.block 1 (rgN [oq 15 .mov [.t 0],oq 16 .mov [.t 0],oq 17 (.len false) [.t 16],oq 18 (.bin .sub T_int (.tmp 17) (kc 1)) [.t 17,.c (iv 1)],oq 19 (.slice 1 false true false) [.t 15,.t 18],oq 0 .mov [.t 19]] [14,15,16,17,18,19] [])))
def c_q_trim_k1:ACode:=(.seq (rgN [oq 20 (.mkslice 1 0 [.val (.int .u32 0)] []) [],oq 21 .mov [.t 0],oq 22 (.append 1 4) [.t 20,.t 21],oq 2 .mov [.t 22]] [0,14,20,21,22] []) .ret)
def c_q_trim:ACode:=(.seq (rgN [oq 2 .mov [.c (.list 0 .full [])]] [2] []) (.seq (.block 0 (.loop c_q_trim_l0)) c_q_trim_k1))
def r_q_trim:List ResA:=[.t 2]
theorem t_q_trim:transl Try.prog F_q_trim=some (bare c_q_trim,r_q_trim,23):=by kernel_rfl
def c_s_valid_l0:ACode:=(.seq (rgN [oq 8 (.bin .lss T_int (.tmp 7) (.tmp 6)) [.t 7,.t 6]] [] []) (.seq (.cond (.t 8) .skip (.exit 0)) (.seq (.block 1 (.seq (rgN [oq 9 (.iaddrS 3) [.t 5,.t 7],oq 10 (.load (some 3)) [.t 9],⟨some 4,.alloc [bv false,.list 0 .full [],.list 0 .full []],[],none⟩,ox (.store 3) [.t 4,.t 10]] [8,9,10] []) (.seq (rgN [oq 11 (.load (some 3)) [.t 4],oq 12 (.call F_f_Valid) [.t 11],oq 13 (.un .not) [.t 12]] [4,11,12] [4]) (.cond (.t 13) (.seq (rgN [oq 2 .mov [.c (bv false)]] [5,6,7,13] []) .ret) .skip)))) (rgN [oq 14 (.bin .add T_int (.tmp 7) (kc 1)) [.t 7,.c (iv 1)],oq 7 .mov [.t 14]] [13,14] []))))
def c_s_valid_k1:ACode:=(.seq (rgN [oq 2 .mov [.c (bv true)]] [5,6,7,8] []) .ret)
def c_s_valid:ACode:=(.seq (rgN [oq 2 .mov [.c (bv false)]] [2] []) (.seq (.seq (rgN [oq 5 .mov [.t 0],oq 6 (.len false) [.t 5],oq 7 .mov [.c (iv 0)]] [0] []) (.block 0 (.loop c_s_valid_l0))) c_s_valid_k1))
def r_s_valid:List ResA:=[.t 2]
theorem t_s_valid:transl Try.prog F_s_valid=some (bare c_s_valid,r_s_valid,15):=by kernel_rfl
def c__tb_pivot_l0:ACode:=(.seq (rgN [oq 44 (.bin .lss T_int (.tmp 43) (.tmp 42)) [.t 43,.t 42]] [] []) (.seq (.cond (.t 44) .skip (.exit 0)) (.seq (.block 1 (.seq (rgN [oq 45 .mov [.t 43],oq 46 (.iaddrS 3) [.t 41,.t 43],oq 47 (.load (some 3)) [.t 46],⟨some 10,.alloc [bv false,.list 0 .full [],.list 0 .full []],[],none⟩,oq 9 .mov [.t 45],ox (.store 3) [.t 10,.t 47]] [44,45,46,47] []) (rgN [oq 48 .mov [.t 8],oq 49 .mov [.t 9],oq 50 (.load (some 3)) [.t 10],oq 51 (.load (some 3)) [.t 6],oq 52 (.call F_f_Mul) [.t 50,.t 51],oq 53 (.iaddrS 3) [.t 48,.t 49],ox (.store 3) [.t 53,.t 52]] [10,9,48,49,50,51,52,53] [10]))) (rgN [oq 54 (.bin .add T_int (.tmp 43) (kc 1)) [.t 43,.c (iv 1)],oq 43 .mov [.t 54]] [54] []))))
def c__tb_pivot_l1:ACode:=(.seq (rgN [oq 74 (.bin .lss T_int (.tmp 73) (.tmp 72)) [.t 73,.t 72]] [] []) (.seq (.cond (.t 74) .skip (.exit 2)) (.seq (.block 3 (.seq (rgN [oq 75 .mov [.t 73],oq 12 .mov [.t 75]] [74,75] []) (.seq (rgN [oq 76 .mov [.t 12],oq 77 .mov [.t 1],oq 78 (.bin .neq T_int (.tmp 76) (.tmp 77)) [.t 76,.t 77]] [76,77] []) (.cond (.t 78) (rgD [ox (.start [80,81,82,83,84,85,86,87,88,89,90,91,92,93,94,95,96,97,98,99,100,101,102,103,104,105,106,107,79,108,109,110]) [],oq 80 .mov [.t 0],oq 81 .nilChk [.t 80],oq 82 (.faddr 2) [.t 81],oq 83 (.load none) [.t 82],oq 84 .mov [.t 12],oq 85 .mov [.t 0],oq 86 .nilChk [.t 85],oq 87 (.faddr 3) [.t 86],oq 88 (.load none) [.t 87],oq 89 .mov [.t 12],oq 90 .mov [.t 0],oq 91 .nilChk [.t 90],oq 92 (.faddr 2) [.t 91],oq 93 (.load none) [.t 92],oq 94 .mov [.t 12],oq 95 (.iaddrS 1) [.t 93,.t 94],oq 96 (.load none) [.t 95],oq 97 .mov [.t 0],oq 98 .nilChk [.t 97],oq 99 (.faddr 3) [.t 98],oq 100 (.load none) [.t 99],oq 101 .mov [.t 12],oq 102 (.iaddrS 3) [.t 100,.t 101],oq 103 (.load (some 3)) [.t 102],oq 104 .mov [.t 2],oq 105 .mov [.t 8],oq 106 (.load (some 3)) [.t 11],oq 107 (.call F_s_eliminate) [.t 96,.t 103,.t 104,.t 105,.t 106],oq 79 .mov [.t 107],oq 108 (.extract 0) [.t 79],oq 109 (.extract 1) [.t 79],oq 110 (.iaddrS 1) [.t 83,.t 84],ox (.store 1) [.t 110,.t 108],oq 89 (.chk (.mov)) [.t 12],oq 109 (.chk (.extract 1)) [.t 79],oq 111 (.iaddrS 3) [.t 88,.t 89],ox (.store 3) [.t 111,.t 109]] [12,78,80,81,82,83,84,85,86,87,88,89,90,91,92,93,94,95,96,97,98,99,100,101,102,103,104,105,106,107,79,108,109,110,111] []) .skip)))) (rgN [oq 112 (.bin .add T_int (.tmp 73) (kc 1)) [.t 73,.c (iv 1)],oq 73 .mov [.t 112]] [12,78,112] []))))
def c__tb_pivot_k2:ACode:=(.seq (rgN [oq 113 .mov [.t 0],oq 114 .nilChk [.t 113],oq 115 (.faddr 4) [.t 114],oq 116 (.load none) [.t 115],oq 117 .mov [.t 2],oq 118 (.iaddrS 3) [.t 116,.t 117],oq 119 (.load (some 3)) [.t 118],⟨some 13,.alloc [bv false,.list 0 .full [],.list 0 .full []],[],none⟩,ox (.store 3) [.t 13,.t 119]] [72,73,74,113,114,115,116,117,118,119] []) (.seq (rgD [ox (.start [121,122,123,124,125,126,127,128,129,130,131,132,133,120,134,135,136,137]) [],oq 121 .mov [.t 0],oq 122 .mov [.t 0],oq 123 .nilChk [.t 122],oq 124 (.faddr 4) [.t 123],oq 125 (.load none) [.t 124],oq 126 .mov [.t 0],oq 127 .nilChk [.t 126],oq 128 (.faddr 5) [.t 127],oq 129 (.load (some 3)) [.t 128],oq 130 .mov [.t 2],oq 131 .mov [.t 8],oq 132 (.load (some 3)) [.t 11],oq 133 (.call F_s_eliminate) [.t 125,.t 129,.t 130,.t 131,.t 132],oq 120 .mov [.t 133],oq 134 (.extract 0) [.t 120],oq 135 (.extract 1) [.t 120],oq 136 .nilChk [.t 121],oq 137 (.faddr 4) [.t 136],ox (.store 1) [.t 137,.t 134],oq 135 (.chk (.extract 1)) [.t 120]] [121,122,123,124,125,126,127,128,129,130,131,132,133,120,134,135,136,137] []) (.seq (rgD [oq 138 .mov [.t 0],oq 139 .mov [.t 0],oq 140 .nilChk [.t 139],oq 141 (.faddr 5) [.t 140],oq 142 (.load (some 3)) [.t 141],oq 143 (.load (some 3)) [.t 13],oq 144 (.load (some 3)) [.t 11],oq 145 (.call F_f_Mul) [.t 143,.t 144],oq 146 (.call F_f_Add) [.t 142,.t 145],oq 147 .nilChk [.t 138],oq 148 (.faddr 5) [.t 147],ox (.store 3) [.t 148,.t 146]] [13,138,139,140,141,142,143,144,145,146,147,148] [13]) (.seq (rgD [ox (.start [149,150,151,152,153,154,155,156,157,158,159,160,161]) [],oq 149 .mov [.t 0],oq 150 .nilChk [.t 149],oq 151 (.faddr 2) [.t 150],oq 152 (.load none) [.t 151],oq 153 .mov [.t 1],oq 154 .mov [.t 0],oq 155 .nilChk [.t 154],oq 156 (.faddr 3) [.t 155],oq 157 (.load none) [.t 156],oq 158 .mov [.t 1],oq 159 .mov [.t 8],oq 160 (.load (some 3)) [.t 11],oq 161 (.iaddrS 1) [.t 152,.t 153],ox (.store 1) [.t 161,.t 159],oq 158 (.chk (.mov)) [.t 1],oq 160 (.chk (.load (some 3))) [.t 11],oq 162 (.iaddrS 3) [.t 157,.t 158],ox (.store 3) [.t 162,.t 160]] [8,11,149,150,151,152,153,154,155,156,157,158,159,160,161,162] [11]) (rgD [ox (.start [163,164,165,166,167,168,169,170,171,172,173,174,175,176,177,178,179,180,181,182,183,184,185,186,187]) [],oq 163 .mov [.t 0],oq 164 .nilChk [.t 163],oq 165 (.faddr 8) [.t 164],oq 166 (.load none) [.t 165],oq 167 .mov [.t 1],oq 168 .mov [.t 0],oq 169 .nilChk [.t 168],oq 170 (.faddr 9) [.t 169],oq 171 (.load none) [.t 170],oq 172 .mov [.t 2],oq 173 .mov [.t 0],oq 174 .nilChk [.t 173],oq 175 (.faddr 9) [.t 174],oq 176 (.load none) [.t 175],oq 177 .mov [.t 2],oq 178 (.iaddrS 1) [.t 176,.t 177],oq 179 (.load none) [.t 178],oq 180 .mov [.t 0],oq 181 .nilChk [.t 180],oq 182 (.faddr 8) [.t 181],oq 183 (.load none) [.t 182],oq 184 .mov [.t 1],oq 185 (.iaddrS 1) [.t 183,.t 184],oq 186 (.load none) [.t 185],oq 187 (.iaddrS 1) [.t 166,.t 167],ox (.store 1) [.t 187,.t 179],oq 172 (.chk (.mov)) [.t 2],oq 188 (.iaddrS 1) [.t 171,.t 172],ox (.store 1) [.t 188,.t 186]] [0,1,2,163,164,165,166,167,168,169,170,171,172,173,174,175,176,177,178,179,180,181,182,183,184,185,186,187,188] [])))))
def c__tb_pivot_k3:ACode:=(.seq (rgN [oq 55 .mov [.t 8],oq 56 .mov [.t 2],oq 57 (.load (some 3)) [.t 6],oq 58 (.iaddrS 3) [.t 55,.t 56],ox (.store 3) [.t 58,.t 57]] [41,42,43,44,55,56,57,58] []) (.seq (.region true [34] [oq 59 .mov [.t 0],oq 60 .nilChk [.t 59],oq 61 (.faddr 3) [.t 60],oq 62 (.load none) [.t 61],oq 63 .mov [.t 1],oq 64 (.iaddrS 3) [.t 62,.t 63],oq 65 (.load (some 3)) [.t 64],oq 66 (.load (some 3)) [.t 6],oq 67 (.call F_f_Mul) [.t 65,.t 66],⟨some 11,.alloc [bv false,.list 0 .full [],.list 0 .full []],[],none⟩,ox (.store 3) [.t 11,.t 67]] [6,59,60,61,62,63,64,65,66,67] [6]) (.seq (.seq (rgN [oq 68 .mov [.t 0],oq 69 .nilChk [.t 68],oq 70 (.faddr 2) [.t 69],oq 71 (.load none) [.t 70],oq 72 (.len false) [.t 71],oq 73 .mov [.c (iv 0)]] [68,69,70,71] []) (.block 2 (.loop c__tb_pivot_l1))) c__tb_pivot_k2)))
def c__tb_pivot:ACode:=(.seq (rgD [ox (.start [15,16,17,18,19,20,21,22,23,24,25,26,14,27,28,6]) [],oq 15 (.call F_f_FromInt) [.c (iv 1)],oq 16 .mov [.t 0],oq 17 .nilChk [.t 16],oq 18 (.faddr 2) [.t 17],oq 19 (.load none) [.t 18],oq 20 .mov [.t 1],oq 21 (.iaddrS 1) [.t 19,.t 20],oq 22 (.load none) [.t 21],oq 23 .mov [.t 2],oq 24 (.iaddrS 3) [.t 22,.t 23],oq 25 (.load (some 3)) [.t 24],oq 26 (.call F_f_Div) [.t 15,.t 25],oq 14 .mov [.t 26],oq 27 (.extract 0) [.t 14],oq 28 (.extract 1) [.t 14],⟨some 6,.alloc [bv false,.list 0 .full [],.list 0 .full []],[],none⟩,ox (.store 3) [.t 6,.t 27],oq 28 (.chk (.extract 1)) [.t 14],oq 7 .mov [.t 28]] [15,16,17,18,19,20,21,22,23,24,25,26,14,27,28,7] []) (.seq (rgN [oq 29 .mov [.t 0],oq 30 .nilChk [.t 29],oq 31 (.faddr 9) [.t 30],oq 32 (.load none) [.t 31],oq 33 (.len false) [.t 32],⟨some 34,.mk 3 56 [bv false,.list 0 .full [],.list 0 .full []],[.t 33,.t 33],none⟩,oq 8 .mov [.t 34]] [29,30,31,32,33,34] []) (.seq (.seq (rgN [oq 35 .mov [.t 0],oq 36 .nilChk [.t 35],oq 37 (.faddr 2) [.t 36],oq 38 (.load none) [.t 37],oq 39 .mov [.t 1],oq 40 (.iaddrS 1) [.t 38,.t 39],oq 41 (.load none) [.t 40],oq 42 (.len false) [.t 41],oq 43 .mov [.c (iv 0)]] [35,36,37,38,39,40] []) (.block 0 (.loop c__tb_pivot_l0))) c__tb_pivot_k3)))
def r__tb_pivot:List ResA:=[]
theorem t__tb_pivot:transl Try.prog F__tb_pivot=some (bare c__tb_pivot,r__tb_pivot,189):=by kernel_rfl
def c__tb_removeAuxiliary_l0:ACode:=(.seq (rgN [oq 42 (.bin .lss T_int (.tmp 41) (.tmp 40)) [.t 41,.t 40]] [] []) (.seq (.cond (.t 42) .skip (.exit 2)) (.seq (.block 3 (.seq (rgN [oq 43 .mov [.t 41],oq 44 (.iaddrS 3) [.t 39,.t 41],oq 45 (.load (some 3)) [.t 44],⟨some 6,.alloc [bv false,.list 0 .full [],.list 0 .full []],[],none⟩,oq 5 .mov [.t 43],ox (.store 3) [.t 6,.t 45]] [42,43,44,45] []) (.seq (rgN [oq 46 (.load (some 3)) [.t 6],oq 47 (.call F_f_Sign) [.t 46],oq 48 (.bin .neq T_int (.tmp 47) (kc 0)) [.t 47,.c (iv 0)]] [6,46,47] [6]) (.cond (.t 48) (.seq (rgN [oq 49 .mov [.t 0],oq 50 .mov [.t 3],oq 51 .mov [.t 5],oq 52 (.callI F__tb_pivot) [.t 49,.t 50,.t 51]] [3,39,40,41,5,48,49,50,51,52] []) (.exit 2)) .skip)))) (rgN [oq 53 (.bin .add T_int (.tmp 41) (kc 1)) [.t 41,.c (iv 1)],oq 41 .mov [.t 53]] [5,48,53] []))))
def c__tb_removeAuxiliary_k1:ACode:=(.exit 0)
def c__tb_removeAuxiliary_k2:ACode:=(rgN [oq 54 (.bin .add T_int (.tmp 25) (kc 1)) [.t 25,.c (iv 1)],oq 25 .mov [.t 54]] [3,32,54] [])
def c__tb_removeAuxiliary_l3:ACode:=(.seq (rgN [oq 26 (.bin .lss T_int (.tmp 25) (.tmp 24)) [.t 25,.t 24]] [] []) (.seq (.cond (.t 26) .skip (.exit 0)) (.seq (.block 1 (.seq (rgN [oq 27 .mov [.t 25],oq 28 (.iaddrS 1) [.t 23,.t 25],oq 29 (.load none) [.t 28],oq 3 .mov [.t 27],oq 4 .mov [.t 29]] [26,27,28,29] []) (.seq (.seq (rgN [oq 30 .mov [.t 4],oq 31 .mov [.t 2],oq 32 (.bin .neq T_int (.tmp 30) (.tmp 31)) [.t 30,.t 31]] [4,30,31] []) (.cond (.t 32) (.exit 1) .skip)) (.seq (.seq (rgN [oq 33 .mov [.t 0],oq 34 .nilChk [.t 33],oq 35 (.faddr 2) [.t 34],oq 36 (.load none) [.t 35],oq 37 .mov [.t 3],oq 38 (.iaddrS 1) [.t 36,.t 37],oq 39 (.load none) [.t 38],oq 40 (.len false) [.t 39],oq 41 .mov [.c (iv 0)]] [23,24,25,32,33,34,35,36,37,38] []) (.block 2 (.loop c__tb_removeAuxiliary_l0))) c__tb_removeAuxiliary_k1)))) c__tb_removeAuxiliary_k2)))
def c__tb_removeAuxiliary_l4:ACode:=(.seq (rgN [oq 74 (.bin .lss T_int (.tmp 73) (.tmp 72)) [.t 73,.t 72]] [] []) (.seq (.cond (.t 74) .skip (.exit 6)) (.seq (.block 7 (.seq (rgN [oq 75 .mov [.t 73],oq 76 (.iaddrS 1) [.t 71,.t 73],oq 77 (.load none) [.t 76],oq 9 .mov [.t 75],oq 10 .mov [.t 77]] [74,75,76,77] []) (rgD [ox (.start [78,79,80,81,82,83,84,85,86,87,88,89,90,91,92]) [],oq 78 .mov [.t 0],oq 79 .nilChk [.t 78],oq 80 (.faddr 2) [.t 79],oq 81 (.load none) [.t 80],oq 82 .mov [.t 9],⟨some 83,.mkslice 3 0 [bv false,.list 0 .full [],.list 0 .full []] [],[],none⟩,oq 84 .mov [.t 10],oq 85 .mov [.t 7],oq 86 (.slice 3 false true false) [.t 84,.t 85],oq 88 .mov [.t 10],oq 89 .mov [.t 7],oq 90 (.bin .add T_int (.tmp 89) (kc 1)) [.t 89,.c (iv 1)],oq 91 (.slice 3 true false false) [.t 88,.t 90],oq 87 (.append 3 56) [.t 83,.t 86],oq 78 (.chk (.mov)) [.t 0],oq 79 (.chk (.nilChk)) [.t 78],oq 80 (.chk (.faddr 2)) [.t 79],oq 81 (.chk (.load none)) [.t 80],oq 82 (.chk (.mov)) [.t 9],oq 88 (.chk (.mov)) [.t 10],oq 89 (.chk (.mov)) [.t 7],⟨some 90,.chk (.bin .add T_int (.tmp 89) (kc 1)),[.t 89,.c (iv 1)],none⟩,oq 91 (.chk (.slice 3 true false false)) [.t 88,.t 90],oq 92 (.append 3 56) [.t 87,.t 91],oq 78 (.chk (.mov)) [.t 0],oq 79 (.chk (.nilChk)) [.t 78],oq 80 (.chk (.faddr 2)) [.t 79],oq 81 (.chk (.load none)) [.t 80],oq 82 (.chk (.mov)) [.t 9],oq 93 (.iaddrS 1) [.t 81,.t 82],ox (.store 1) [.t 93,.t 92]] [9,10,78,79,80,81,82,83,84,85,86,88,89,90,91,87,92,93] []))) (rgN [oq 94 (.bin .add T_int (.tmp 73) (kc 1)) [.t 73,.c (iv 1)],oq 73 .mov [.t 94]] [94] []))))
def c__tb_removeAuxiliary_k5:ACode:=(.seq (rgD [ox (.start [95,96,97,98,99,100,101,102,103,104,105,106,107,108,109,110,111]) [],oq 95 .mov [.t 0],oq 96 (.mkslice 1 0 [iv 0] []) [],oq 97 .mov [.t 0],oq 98 .nilChk [.t 97],oq 99 (.faddr 9) [.t 98],oq 100 (.load none) [.t 99],oq 101 .mov [.t 7],oq 102 (.slice 1 false true false) [.t 100,.t 101],oq 104 .mov [.t 0],oq 105 .nilChk [.t 104],oq 106 (.faddr 9) [.t 105],oq 107 (.load none) [.t 106],oq 108 .mov [.t 7],oq 109 (.bin .add T_int (.tmp 108) (kc 1)) [.t 108,.c (iv 1)],oq 110 (.slice 1 true false false) [.t 107,.t 109],oq 103 (.appendU 1 8) [.t 96,.t 102],oq 95 (.chk (.mov)) [.t 0],oq 104 (.chk (.mov)) [.t 0],oq 105 (.chk (.nilChk)) [.t 104],oq 106 (.chk (.faddr 9)) [.t 105],oq 107 (.chk (.load none)) [.t 106],oq 108 (.chk (.mov)) [.t 7],⟨some 109,.chk (.bin .add T_int (.tmp 108) (kc 1)),[.t 108,.c (iv 1)],none⟩,oq 110 (.chk (.slice 1 true false false)) [.t 107,.t 109],oq 111 (.appendU 1 8) [.t 103,.t 110],oq 95 (.chk (.mov)) [.t 0],oq 112 .nilChk [.t 95],oq 113 (.faddr 9) [.t 112],ox (.store 1) [.t 113,.t 111]] [71,72,73,74,95,96,97,98,99,100,101,102,104,105,106,107,108,109,110,103,111,112,113] []) (.seq (rgD [ox (.start [114,115,116,117,118,119,120,121,122,123,124,125,126,127,128,129,130]) [],oq 114 .mov [.t 0],⟨some 115,.mkslice 3 0 [bv false,.list 0 .full [],.list 0 .full []] [],[],none⟩,oq 116 .mov [.t 0],oq 117 .nilChk [.t 116],oq 118 (.faddr 4) [.t 117],oq 119 (.load none) [.t 118],oq 120 .mov [.t 7],oq 121 (.slice 3 false true false) [.t 119,.t 120],oq 123 .mov [.t 0],oq 124 .nilChk [.t 123],oq 125 (.faddr 4) [.t 124],oq 126 (.load none) [.t 125],oq 127 .mov [.t 7],oq 128 (.bin .add T_int (.tmp 127) (kc 1)) [.t 127,.c (iv 1)],oq 129 (.slice 3 true false false) [.t 126,.t 128],oq 122 (.append 3 56) [.t 115,.t 121],oq 114 (.chk (.mov)) [.t 0],oq 123 (.chk (.mov)) [.t 0],oq 124 (.chk (.nilChk)) [.t 123],oq 125 (.chk (.faddr 4)) [.t 124],oq 126 (.chk (.load none)) [.t 125],oq 127 (.chk (.mov)) [.t 7],⟨some 128,.chk (.bin .add T_int (.tmp 127) (kc 1)),[.t 127,.c (iv 1)],none⟩,oq 129 (.chk (.slice 3 true false false)) [.t 126,.t 128],oq 130 (.append 3 56) [.t 122,.t 129],oq 114 (.chk (.mov)) [.t 0],oq 131 .nilChk [.t 114],oq 132 (.faddr 4) [.t 131],ox (.store 1) [.t 132,.t 130]] [0,7,114,115,116,117,118,119,120,121,123,124,125,126,127,128,129,122,130,131,132] []) .ret))
def c__tb_removeAuxiliary_k6:ACode:=(rgN [oq 133 (.bin .add T_int (.tmp 60) (kc 1)) [.t 60,.c (iv 1)],oq 60 .mov [.t 133]] [7,67,133] [])
def c__tb_removeAuxiliary_l7:ACode:=(.seq (rgN [oq 61 (.bin .lss T_int (.tmp 60) (.tmp 59)) [.t 60,.t 59]] [] []) (.seq (.cond (.t 61) .skip (.exit 4)) (.seq (.block 5 (.seq (rgN [oq 62 .mov [.t 60],oq 63 (.iaddrS 1) [.t 58,.t 60],oq 64 (.load none) [.t 63],oq 7 .mov [.t 62],oq 8 .mov [.t 64]] [61,62,63,64] []) (.seq (rgN [oq 65 .mov [.t 8],oq 66 .mov [.t 2],oq 67 (.bin .eql T_int (.tmp 65) (.tmp 66)) [.t 65,.t 66]] [8,65,66] []) (.cond (.t 67) (.seq (.seq (rgN [oq 68 .mov [.t 0],oq 69 .nilChk [.t 68],oq 70 (.faddr 2) [.t 69],oq 71 (.load none) [.t 70],oq 72 (.len false) [.t 71],oq 73 .mov [.c (iv 0)]] [2,58,59,60,67,68,69,70] []) (.block 6 (.loop c__tb_removeAuxiliary_l4))) c__tb_removeAuxiliary_k5) .skip)))) c__tb_removeAuxiliary_k6)))
def c__tb_removeAuxiliary_k8:ACode:=(.seq (rgN [oq 55 .mov [.t 0],oq 56 .nilChk [.t 55],oq 57 (.faddr 9) [.t 56],oq 58 (.load none) [.t 57],oq 59 (.len false) [.t 58],oq 60 .mov [.c (iv 0)]] [3,39,40,41,42,23,24,25,26,55,56,57] []) (.block 4 (.loop c__tb_removeAuxiliary_l7)))
def c__tb_removeAuxiliary:ACode:=(.seq (rgD [oq 11 .mov [.t 0],oq 12 .nilChk [.t 11],oq 13 (.faddr 0) [.t 12],oq 14 (.load none) [.t 13],oq 15 .mov [.t 0],oq 16 .nilChk [.t 15],oq 17 (.faddr 1) [.t 16],oq 18 (.load none) [.t 17],oq 19 (.bin .add T_int (.tmp 14) (.tmp 18)) [.t 14,.t 18],oq 2 .mov [.t 19]] [11,12,13,14,15,16,17,18,19] []) (.seq (.seq (rgN [oq 20 .mov [.t 0],oq 21 .nilChk [.t 20],oq 22 (.faddr 8) [.t 21],oq 23 (.load none) [.t 22],oq 24 (.len false) [.t 23],oq 25 .mov [.c (iv 0)]] [20,21,22] []) (.block 0 (.loop c__tb_removeAuxiliary_l3))) c__tb_removeAuxiliary_k8))
def r__tb_removeAuxiliary:List ResA:=[]
theorem t__tb_removeAuxiliary:transl Try.prog F__tb_removeAuxiliary=some (bare c__tb_removeAuxiliary,r__tb_removeAuxiliary,134):=by kernel_rfl
def c__tb_entering_l0:ACode:=(.seq (rgN [oq 12 (.bin .lss T_int (.tmp 11) (.tmp 10)) [.t 11,.t 10]] [] []) (.seq (.cond (.t 12) .skip (.exit 0)) (.seq (.block 1 (.seq (rgN [oq 13 .mov [.t 11],oq 14 (.iaddrS 1) [.t 9,.t 11],oq 15 (.load none) [.t 14],oq 4 .mov [.t 13],oq 5 .mov [.t 15]] [12,13,14,15] []) (.seq (rgN [oq 16 .mov [.t 0],oq 17 .nilChk [.t 16],oq 18 (.faddr 4) [.t 17],oq 19 (.load none) [.t 18],oq 20 .mov [.t 4],oq 21 (.iaddrS 3) [.t 19,.t 20],oq 22 (.load (some 3)) [.t 21],oq 23 (.call F_f_Sign) [.t 22],oq 24 (.bin .gtr T_int (.tmp 23) (kc 0)) [.t 23,.c (iv 0)],oq 25 .mov [.t 24],⟨some 26,.mov,[.t 3],some (25,true)⟩,⟨some 27,.bin .lss T_int (.tmp 26) (kc 0),[.t 26,.c (iv 0)],some (25,true)⟩,⟨some 28,.mov,[.t 27],some (25,true)⟩,⟨some 29,.mov,[.t 5],some (28,false)⟩,⟨some 30,.mov,[.t 0],some (28,false)⟩,⟨some 31,.nilChk,[.t 30],some (28,false)⟩,⟨some 32,.faddr 9,[.t 31],some (28,false)⟩,⟨some 33,.load none,[.t 32],some (28,false)⟩,⟨some 34,.mov,[.t 3],some (28,false)⟩,⟨some 35,.iaddrS 1,[.t 33,.t 34],some (28,false)⟩,⟨some 36,.load none,[.t 35],some (28,false)⟩,⟨some 37,.bin .lss T_int (.tmp 29) (.tmp 36),[.t 29,.t 36],some (28,false)⟩,⟨some 38,.pick,[.t 28,.c (bv true),.t 37],some (25,true)⟩,oq 39 .pick [.t 25,.t 38,.c (bv false)]] [5,16,17,18,19,20,21,22,23,24,25,26,27,28,29,30,31,32,33,34,35,36,37,38] []) (.cond (.t 39) (rgN [oq 40 .mov [.t 4],oq 3 .mov [.t 40]] [4,39,40] []) .skip)))) (rgN [oq 41 (.bin .add T_int (.tmp 11) (kc 1)) [.t 11,.c (iv 1)],oq 11 .mov [.t 41]] [4,39,41] []))))
def c__tb_entering_k1:ACode:=(.seq (rgN [oq 42 .mov [.t 3],oq 2 .mov [.t 42]] [0,3,9,10,11,12,42] []) .ret)
def c__tb_entering:ACode:=(.seq (rgN [oq 2 .mov [.c (iv 0)]] [2] []) (.seq (rgN [oq 3 .mov [.c (iv (-1))]] [] []) (.seq (.seq (rgN [oq 6 .mov [.t 0],oq 7 .nilChk [.t 6],oq 8 (.faddr 9) [.t 7],oq 9 (.load none) [.t 8],oq 10 (.len false) [.t 9],oq 11 .mov [.c (iv 0)]] [6,7,8] []) (.block 0 (.loop c__tb_entering_l0))) c__tb_entering_k1)))
def r__tb_entering:List ResA:=[.t 2]
theorem t__tb_entering:transl Try.prog F__tb_entering=some (bare c__tb_entering,r__tb_entering,43):=by kernel_rfl
def c__tb_leaving_l0:ACode:=(.seq (rgN [oq 18 (.bin .lss T_int (.tmp 17) (.tmp 16)) [.t 17,.t 16]] [] []) (.seq (.cond (.t 18) .skip (.exit 0)) (.seq (.block 1 (.seq (rgN [oq 19 .mov [.t 17],oq 20 (.iaddrS 1) [.t 15,.t 17],oq 21 (.load none) [.t 20],oq 7 .mov [.t 19],oq 8 .mov [.t 21]] [18,19,20,21] []) (.seq (.seq (rgN [oq 22 .mov [.t 8],oq 23 .mov [.t 1],oq 24 (.iaddrS 3) [.t 22,.t 23],oq 25 (.load (some 3)) [.t 24],oq 26 (.call F_f_Sign) [.t 25],oq 27 (.bin .leq T_int (.tmp 26) (kc 0)) [.t 26,.c (iv 0)]] [22,23,24,25,26] []) (.cond (.t 27) (.exit 1) .skip)) (.seq (rgD [ox (.start [29,30,31,32,33,34,35,36,37,38,39,40,28,41,42,9]) [],oq 29 .mov [.t 0],oq 30 .nilChk [.t 29],oq 31 (.faddr 3) [.t 30],oq 32 (.load none) [.t 31],oq 33 .mov [.t 7],oq 34 (.iaddrS 3) [.t 32,.t 33],oq 35 (.load (some 3)) [.t 34],oq 36 .mov [.t 8],oq 37 .mov [.t 1],oq 38 (.iaddrS 3) [.t 36,.t 37],oq 39 (.load (some 3)) [.t 38],oq 40 (.call F_f_Div) [.t 35,.t 39],oq 28 .mov [.t 40],oq 41 (.extract 0) [.t 28],oq 42 (.extract 1) [.t 28],⟨some 9,.alloc [bv false,.list 0 .full [],.list 0 .full []],[],none⟩,ox (.store 3) [.t 9,.t 41],oq 42 (.chk (.extract 1)) [.t 28],oq 10 .mov [.t 42]] [8,27,29,30,31,32,33,34,35,36,37,38,39,40,28,41,42,10] []) (.seq (.seq (rgN [oq 43 .mov [.t 5],oq 44 (.bin .geq T_int (.tmp 43) (kc 0)) [.t 43,.c (iv 0)]] [43] []) (.cond (.t 44) (.seq (rgN [oq 45 (.load (some 3)) [.t 9],oq 46 (.load (some 3)) [.t 6],oq 47 (.call F_f_Cmp) [.t 45,.t 46],oq 11 .mov [.t 47]] [44,45,46,47] []) (.block 2 (.seq (.seq (rgN [oq 49 .mov [.t 11],oq 50 (.bin .gtr T_int (.tmp 49) (kc 0)) [.t 49,.c (iv 0)],oq 48 .mov [.t 50]] [49,50] []) (.cond (.t 48) .skip (rgD [oq 51 .mov [.t 11],oq 52 (.bin .eql T_int (.tmp 51) (kc 0)) [.t 51,.c (iv 0)],oq 53 .mov [.t 52],⟨some 54,.mov,[.t 0],some (53,true)⟩,⟨some 55,.nilChk,[.t 54],some (53,true)⟩,⟨some 56,.faddr 8,[.t 55],some (53,true)⟩,⟨some 57,.load none,[.t 56],some (53,true)⟩,⟨some 58,.mov,[.t 7],some (53,true)⟩,⟨some 59,.iaddrS 1,[.t 57,.t 58],some (53,true)⟩,⟨some 60,.load none,[.t 59],some (53,true)⟩,⟨some 61,.mov,[.t 0],some (53,true)⟩,⟨some 62,.nilChk,[.t 61],some (53,true)⟩,⟨some 63,.faddr 8,[.t 62],some (53,true)⟩,⟨some 64,.load none,[.t 63],some (53,true)⟩,⟨some 65,.mov,[.t 5],some (53,true)⟩,⟨some 66,.iaddrS 1,[.t 64,.t 65],some (53,true)⟩,⟨some 67,.load none,[.t 66],some (53,true)⟩,⟨some 68,.bin .gtr T_int (.tmp 60) (.tmp 67),[.t 60,.t 67],some (53,true)⟩,oq 69 .pick [.t 53,.t 68,.c (bv false)],oq 48 .mov [.t 69]] [11,51,52,53,54,55,56,57,58,59,60,61,62,63,64,65,66,67,68,69] []))) (.cond (.t 48) (.exit 1) .skip)))) .skip)) (rgD [oq 70 .mov [.t 7],oq 71 (.load (some 3)) [.t 9],oq 5 .mov [.t 70],ox (.store 3) [.t 6,.t 71]] [7,9,11,48,44,70,71] [9])))))) (rgN [oq 72 (.bin .add T_int (.tmp 17) (kc 1)) [.t 17,.c (iv 1)],oq 17 .mov [.t 72]] [7,9,11,48,8,27,72] [9]))))
def c__tb_leaving_k1:ACode:=(.seq (rgN [oq 73 .mov [.t 5],oq 4 .mov [.t 73]] [0,1,5,6,15,16,17,18,73] [6]) .ret)
def c__tb_leaving:ACode:=(.seq (rgN [oq 4 .mov [.c (iv 0)]] [4] []) (.seq (rgN [oq 5 .mov [.c (iv (-1))]] [] []) (.seq (rgN [⟨some 6,.alloc [bv false,.list 0 .full [],.list 0 .full []],[],none⟩] [] []) (.seq .skip (.seq (.seq (rgN [oq 12 .mov [.t 0],oq 13 .nilChk [.t 12],oq 14 (.faddr 2) [.t 13],oq 15 (.load none) [.t 14],oq 16 (.len false) [.t 15],oq 17 .mov [.c (iv 0)]] [12,13,14] []) (.block 0 (.loop c__tb_leaving_l0))) c__tb_leaving_k1)))))
def r__tb_leaving:List ResA:=[.t 4]
theorem t__tb_leaving:transl Try.prog F__tb_leaving=some (bare c__tb_leaving,r__tb_leaving,74):=by kernel_rfl
def c_s_zeros_l0:ACode:=(.seq (rgN [oq 10 (.bin .lss T_int (.tmp 9) (.tmp 8)) [.t 9,.t 8]] [] []) (.seq (.cond (.t 10) .skip (.exit 0)) (.seq (.block 1 (.seq (rgN [oq 11 .mov [.t 9],oq 4 .mov [.t 11]] [10,11] []) (rgN [oq 12 .mov [.t 3],oq 13 .mov [.t 4],oq 14 (.call F_f_FromInt) [.c (iv 0)],oq 15 (.iaddrS 3) [.t 12,.t 13],ox (.store 3) [.t 15,.t 14]] [4,12,13,14,15] []))) (rgN [oq 16 (.bin .add T_int (.tmp 9) (kc 1)) [.t 9,.c (iv 1)],oq 9 .mov [.t 16]] [16] []))))
def c_s_zeros_k1:ACode:=(.seq (rgN [oq 17 .mov [.t 3],oq 2 .mov [.t 17]] [3,8,9,10,17] []) .ret)
def c_s_zeros:ACode:=(.seq (rgN [oq 2 .mov [.c (.list 0 .full [])]] [2] []) (.seq (rgN [oq 5 .mov [.t 0],⟨some 6,.mk 3 56 [bv false,.list 0 .full [],.list 0 .full []],[.t 5,.t 5],none⟩,oq 3 .mov [.t 6]] [0,5,6] []) (.seq (.seq (rgN [oq 7 .mov [.t 3],oq 8 (.len false) [.t 7],oq 9 .mov [.c (iv 0)]] [7] []) (.block 0 (.loop c_s_zeros_l0))) c_s_zeros_k1)))
def r_s_zeros:List ResA:=[.t 2]
theorem t_s_zeros:transl Try.prog F_s_zeros=some (bare c_s_zeros,r_s_zeros,18):=by kernel_rfl
def c_f_Neg:ACode:=(.seq (rgN [oq 1 .box [.t 0],⟨some 2,.alloc [bv false,.list 0 .full [],.list 0 .full []],[],none⟩] [0] []) (.seq (rgN [oq 3 (.faddr 0) [.t 1],oq 4 (.load none) [.t 3],oq 5 (.un .not) [.t 4],oq 6 (.faddr 1) [.t 1],oq 7 (.load none) [.t 6],oq 8 (.faddr 2) [.t 1],oq 9 (.load none) [.t 8],oq 10 (.call F_f_made) [.t 5,.t 7,.t 9],ox (.store 3) [.t 2,.t 10]] [1,3,4,5,6,7,8,9,10] [1]) .ret))
def r_f_Neg:List ResA:=[.cell 2 (some 3)]
theorem t_f_Neg:transl Try.prog F_f_Neg=some (bare c_f_Neg,r_f_Neg,11):=by kernel_rfl
def c_q_FromUint:ACode:=(.seq (rgN [oq 2 .mov [.c (.list 0 .full [])]] [2] []) (.seq (rgN [oq 3 .mov [.t 0],oq 4 (.bin .rem T_uint64 (.tmp 3) (.const (.int .u64 4294967296))) [.t 3,.c (.val (.int .u64 4294967296))],oq 5 (.conv T_uint64 T_uint32) [.t 4],oq 6 .mov [.t 0],oq 7 (.bin .quo T_uint64 (.tmp 6) (.const (.int .u64 4294967296))) [.t 6,.c (.val (.int .u64 4294967296))],oq 8 (.conv T_uint64 T_uint32) [.t 7],oq 9 (.mkslice 1 2 [.val (.int .u32 0)] [0,1]) [.t 5,.t 8],oq 10 (.call F_q_trim) [.t 9],oq 2 .mov [.t 10]] [0,3,4,5,6,7,8,9,10] []) .ret))
def r_q_FromUint:List ResA:=[.t 2]
theorem t_q_FromUint:transl Try.prog F_q_FromUint=some (bare c_q_FromUint,r_q_FromUint,11):=by kernel_rfl
def c_q_shift_l0:ACode:=(.seq (.seq (rgN [oq 7 .mov [.t 6],oq 8 .mov [.t 1],oq 9 (.bin .lss T_int (.tmp 7) (.tmp 8)) [.t 7,.t 8]] [7,8] []) (.cond (.t 9) .skip (.exit 0))) (.seq (.block 1 (rgN [oq 12 .mov [.t 5],oq 13 (.mkslice 1 1 [.val (.int .u32 0)] [0]) [.c (.val (.int .u32 0))],oq 14 (.append 1 4) [.t 12,.t 13],oq 5 .mov [.t 14]] [9,12,13,14] [])) (rgN [oq 10 .mov [.t 6],oq 11 (.bin .add T_int (.tmp 10) (kc 1)) [.t 10,.c (iv 1)],oq 6 .mov [.t 11]] [10,11] [])))
def c_q_shift_k1:ACode:=(.seq (rgN [oq 15 .mov [.t 5],oq 16 .mov [.t 0],oq 17 (.append 1 4) [.t 15,.t 16],oq 18 (.call F_q_trim) [.t 17],oq 4 .mov [.t 18]] [0,1,5,6,9,15,16,17,18] []) .ret)
def c_q_shift:ACode:=(.seq (rgN [oq 4 .mov [.c (.list 0 .full [])]] [4] []) (.seq (rgN [oq 5 .mov [.c (.list 0 .full [])]] [] []) (.seq (.seq (rgN [oq 6 .mov [.c (iv 0)]] [] []) (.block 0 (.loop c_q_shift_l0))) c_q_shift_k1)))
def r_q_shift:List ResA:=[.t 4]
theorem t_q_shift:transl Try.prog F_q_shift=some (bare c_q_shift,r_q_shift,19):=by kernel_rfl
def c_q_scale_l0:ACode:=(.seq (.seq (rgN [oq 9 .mov [.t 7],oq 10 .mov [.t 0],oq 11 (.len false) [.t 10],oq 12 (.bin .leq T_int (.tmp 9) (.tmp 11)) [.t 9,.t 11]] [9,10,11] []) (.cond (.t 12) .skip (.exit 0))) (.seq (.block 1 (.seq (rgN [oq 15 .mov [.t 0],oq 16 .mov [.t 7],oq 17 (.call F_q_digit) [.t 15,.t 16],oq 18 .mov [.t 1],oq 19 (.bin .mul T_uint64 (.tmp 17) (.tmp 18)) [.t 17,.t 18],oq 20 .mov [.t 6],oq 21 (.bin .add T_uint64 (.tmp 19) (.tmp 20)) [.t 19,.t 20],oq 8 .mov [.t 21]] [6,12,15,16,17,18,19,20,21] []) (.seq (rgN [oq 22 .mov [.t 5],oq 23 .mov [.t 8],oq 24 (.bin .rem T_uint64 (.tmp 23) (.const (.int .u64 4294967296))) [.t 23,.c (.val (.int .u64 4294967296))],oq 25 (.conv T_uint64 T_uint32) [.t 24],oq 26 (.mkslice 1 1 [.val (.int .u32 0)] [0]) [.t 25],oq 27 (.append 1 4) [.t 22,.t 26],oq 5 .mov [.t 27]] [22,23,24,25,26,27] []) (rgN [oq 28 .mov [.t 8],oq 29 (.bin .quo T_uint64 (.tmp 28) (.const (.int .u64 4294967296))) [.t 28,.c (.val (.int .u64 4294967296))],oq 6 .mov [.t 29]] [8,28,29] [])))) (rgN [oq 13 .mov [.t 7],oq 14 (.bin .add T_int (.tmp 13) (kc 1)) [.t 13,.c (iv 1)],oq 7 .mov [.t 14]] [13,14] [])))
def c_q_scale_k1:ACode:=(.seq (rgN [oq 30 .mov [.t 5],oq 31 (.call F_q_trim) [.t 30],oq 4 .mov [.t 31]] [0,1,5,6,7,12,30,31] []) .ret)
def c_q_scale:ACode:=(.seq (rgN [oq 4 .mov [.c (.list 0 .full [])]] [4] []) (.seq (rgN [oq 5 .mov [.c (.list 0 .full [])]] [] []) (.seq (rgN [oq 6 .mov [.c (.val (.int .u64 0))]] [] []) (.seq (.seq (rgN [oq 7 .mov [.c (iv 0)]] [] []) (.block 0 (.loop c_q_scale_l0))) c_q_scale_k1))))
def r_q_scale:List ResA:=[.t 4]
theorem t_q_scale:transl Try.prog F_q_scale=some (bare c_q_scale,r_q_scale,32):=by kernel_rfl
def c_q_digit:ACode:=(.seq (rgN [oq 4 .mov [.c (.val (.int .u64 0))]] [4] []) (.seq (.seq (rgN [oq 5 .mov [.t 1],oq 6 .mov [.t 0],oq 7 (.len false) [.t 6],oq 8 (.bin .lss T_int (.tmp 5) (.tmp 7)) [.t 5,.t 7]] [5,6,7] []) (.cond (.t 8) (.seq (rgN [oq 9 .mov [.t 0],oq 10 .mov [.t 1],oq 11 (.iaddrS 1) [.t 9,.t 10],oq 12 (.load none) [.t 11],oq 13 (.conv T_uint32 T_uint64) [.t 12],oq 4 .mov [.t 13]] [0,1,8,9,10,11,12,13] []) .ret) .skip)) (.seq (rgN [oq 4 .mov [.c (.val (.int .u64 0))]] [0,1,8] []) .ret)))
def r_q_digit:List ResA:=[.t 4]
theorem t_q_digit:transl Try.prog F_q_digit=some (bare c_q_digit,r_q_digit,14):=by kernel_rfl
def c_q_Cmp_l0:ACode:=(.seq (.seq (rgN [oq 12 .mov [.t 5],oq 13 (.bin .geq T_int (.tmp 12) (kc 0)) [.t 12,.c (iv 0)]] [12] []) (.cond (.t 13) .skip (.exit 0))) (.seq (.block 1 (.seq (.seq (rgN [oq 16 .mov [.t 0],oq 17 .mov [.t 5],oq 18 (.call F_q_digit) [.t 16,.t 17],oq 19 .mov [.t 1],oq 20 .mov [.t 5],oq 21 (.call F_q_digit) [.t 19,.t 20],oq 22 (.bin .lss T_uint64 (.tmp 18) (.tmp 21)) [.t 18,.t 21]] [13,16,17,18,19,20,21] []) (.cond (.t 22) (.seq (rgN [oq 4 .mov [.c (iv (-1))]] [0,1,5,22] []) .ret) .skip)) (.seq (rgN [oq 23 .mov [.t 0],oq 24 .mov [.t 5],oq 25 (.call F_q_digit) [.t 23,.t 24],oq 26 .mov [.t 1],oq 27 .mov [.t 5],oq 28 (.call F_q_digit) [.t 26,.t 27],oq 29 (.bin .gtr T_uint64 (.tmp 25) (.tmp 28)) [.t 25,.t 28]] [22,23,24,25,26,27,28] []) (.cond (.t 29) (.seq (rgN [oq 4 .mov [.c (iv 1)]] [0,1,5,29] []) .ret) .skip)))) (rgN [oq 14 .mov [.t 5],oq 15 (.bin .sub T_int (.tmp 14) (kc 1)) [.t 14,.c (iv 1)],oq 5 .mov [.t 15]] [29,14,15] [])))
def c_q_Cmp_k1:ACode:=(.seq (rgN [oq 4 .mov [.c (iv 0)]] [0,1,5,13] []) .ret)
def c_q_Cmp:ACode:=(.seq (rgN [oq 4 .mov [.c (iv 0)]] [4] []) (.seq (.seq (rgN [oq 6 .mov [.t 0],oq 7 (.len false) [.t 6],oq 8 .mov [.t 1],oq 9 (.len false) [.t 8],⟨some 10,.mm .max #[T_int,T_int] T_int,[.t 7,.t 9],none⟩,oq 11 (.bin .sub T_int (.tmp 10) (kc 1)) [.t 10,.c (iv 1)],oq 5 .mov [.t 11]] [6,7,8,9,10,11] []) (.block 0 (.loop c_q_Cmp_l0))) c_q_Cmp_k1))
def r_q_Cmp:List ResA:=[.t 4]
theorem t_q_Cmp:transl Try.prog F_q_Cmp=some (bare c_q_Cmp,r_q_Cmp,30):=by kernel_rfl
def c_n_trim_l0:ACode:=(.seq (.seq (rgN [oq 6 .mov [.t 3],oq 7 (.bin .gtr T_int (.tmp 6) (kc 0)) [.t 6,.c (iv 0)],oq 8 .mov [.t 7],⟨some 9,.mov,[.t 0],some (8,true)⟩,⟨some 10,.mov,[.t 3],some (8,true)⟩,⟨some 11,.bin .sub T_int (.tmp 10) (kc 1),[.t 10,.c (iv 1)],some (8,true)⟩,⟨some 12,.iaddrS 1,[.t 9,.t 11],some (8,true)⟩,⟨some 13,.load none,[.t 12],some (8,true)⟩,⟨some 14,.bin .eql T_uint32 (.tmp 13) (.const (.int .u32 0)),[.t 13,.c (.val (.int .u32 0))],some (8,true)⟩,oq 15 .pick [.t 8,.t 14,.c (bv false)]] [6,7,8,9,10,11,12,13,14] []) (.cond (.t 15) .skip (.exit 0))) (.block 1 (rgN [oq 16 .mov [.t 3],oq 17 (.bin .sub T_int (.tmp 16) (kc 1)) [.t 16,.c (iv 1)],oq 3 .mov [.t 17]] [15,16,17] [])))
def c_n_trim_k1:ACode:=(.seq (rgN [oq 18 .mov [.t 0],oq 19 .mov [.t 3],oq 20 .mov [.t 3],oq 21 (.slice 1 false true true) [.t 18,.t 19,.t 20],oq 2 .mov [.t 21]] [0,3,15,18,19,20,21] []) .ret)
def c_n_trim:ACode:=(.seq (rgN [oq 2 .mov [.c (.list 0 .full [])]] [2] []) (.seq (rgN [oq 4 .mov [.t 0],oq 5 (.len false) [.t 4],oq 3 .mov [.t 5]] [4,5] []) (.seq (.block 0 (.loop c_n_trim_l0)) c_n_trim_k1)))
def r_n_trim:List ResA:=[.t 2]
theorem t_n_trim:transl Try.prog F_n_trim=some (bare c_n_trim,r_n_trim,22):=by kernel_rfl
def c_n_DivMod_l0:ACode:=(.seq (.seq (rgN [oq 45 .mov [.t 1],oq 46 .mov [.t 1],oq 47 (.len false) [.t 46],oq 48 (.bin .sub T_int (.tmp 47) (kc 1)) [.t 47,.c (iv 1)],oq 49 (.iaddrS 1) [.t 45,.t 48],oq 50 (.load none) [.t 49],oq 51 .mov [.t 9],oq 52 (.bin .shl T_uint32 (.tmp 50) (.tmp 51)) [.t 50,.t 51],oq 53 (.bin .lss T_uint32 (.tmp 52) (.const (.int .u32 2147483648))) [.t 52,.c (.val (.int .u32 2147483648))]] [45,46,47,48,49,50,51,52] []) (.cond (.t 53) .skip (.exit 0))) (.block 1 (rgN [oq 54 .mov [.t 9],oq 55 (.bin .add T_uint (.tmp 54) (.const (.int .u64 1))) [.t 54,.c (.val (.int .u64 1))],oq 9 .mov [.t 55]] [53,54,55] [])))
def c_n_DivMod_l1:ACode:=(.seq (rgN [oq 76 (.bin .lss T_int (.tmp 75) (.tmp 74)) [.t 75,.t 74]] [] []) (.seq (.cond (.t 76) .skip (.exit 2)) (.seq (.block 3 (.seq (rgN [oq 77 .mov [.t 75],oq 14 .mov [.t 77]] [76,77] []) (.seq (rgN [oq 78 .mov [.t 13],oq 79 .mov [.t 14],oq 80 (.bin .sub T_int (.tmp 78) (.tmp 79)) [.t 78,.t 79],oq 15 .mov [.t 80]] [14,78,79,80] []) (rgN [oq 81 .mov [.t 4],oq 82 .mov [.t 15],oq 83 .mov [.t 10],oq 84 .mov [.t 15],oq 85 .mov [.t 15],oq 86 .mov [.t 12],oq 87 (.bin .add T_int (.tmp 85) (.tmp 86)) [.t 85,.t 86],oq 88 (.bin .add T_int (.tmp 87) (kc 1)) [.t 87,.c (iv 1)],oq 89 .mov [.t 15],oq 90 .mov [.t 12],oq 91 (.bin .add T_int (.tmp 89) (.tmp 90)) [.t 89,.t 90],oq 92 (.bin .add T_int (.tmp 91) (kc 1)) [.t 91,.c (iv 1)],oq 93 (.slice 1 true true true) [.t 83,.t 84,.t 88,.t 92],oq 94 .mov [.t 11],oq 95 (.callI F_n_digit) [.t 93,.t 94],oq 96 (.iaddrS 1) [.t 81,.t 82],ox (.store 1) [.t 96,.t 95]] [15,81,82,83,84,85,86,87,88,89,90,91,92,93,94,95,96] [])))) (rgN [oq 97 (.bin .add T_int (.tmp 75) (kc 1)) [.t 75,.c (iv 1)],oq 75 .mov [.t 97]] [97] []))))
def c_n_DivMod_l2:ACode:=(.seq (rgN [oq 102 (.bin .lss T_int (.tmp 101) (.tmp 100)) [.t 101,.t 100]] [] []) (.seq (.cond (.t 102) .skip (.exit 4)) (.seq (.block 5 (.seq (rgN [oq 103 .mov [.t 101],oq 16 .mov [.t 103]] [102,103] []) (.seq (rgN [oq 104 .mov [.t 5],oq 105 .mov [.t 16],oq 106 .mov [.t 10],oq 107 .mov [.t 16],oq 108 (.iaddrS 1) [.t 106,.t 107],oq 109 (.load none) [.t 108],oq 110 .mov [.t 9],oq 111 (.bin .shr T_uint32 (.tmp 109) (.tmp 110)) [.t 109,.t 110],oq 112 (.iaddrS 1) [.t 104,.t 105],ox (.store 1) [.t 112,.t 111]] [104,105,106,107,108,109,110,111,112] []) (.seq (rgN [oq 113 .mov [.t 9],oq 114 (.bin .gtr T_uint (.tmp 113) (.const (.int .u64 0))) [.t 113,.c (.val (.int .u64 0))]] [113] []) (.cond (.t 114) (rgD [oq 115 .mov [.t 5],oq 116 .mov [.t 16],oq 117 (.iaddrS 1) [.t 115,.t 116],oq 118 (.load none) [.t 117],oq 119 .mov [.t 10],oq 120 .mov [.t 16],oq 121 (.bin .add T_int (.tmp 120) (kc 1)) [.t 120,.c (iv 1)],oq 122 (.iaddrS 1) [.t 119,.t 121],oq 123 (.load none) [.t 122],oq 124 .mov [.t 9],oq 125 (.bin .sub T_uint (.const (.int .u64 32)) (.tmp 124)) [.c (.val (.int .u64 32)),.t 124],oq 126 (.bin .shl T_uint32 (.tmp 123) (.tmp 125)) [.t 123,.t 125],oq 127 (.bin .or T_uint32 (.tmp 118) (.tmp 126)) [.t 118,.t 126],oq 128 (.iaddrS 1) [.t 115,.t 116],ox (.store 1) [.t 128,.t 127]] [16,114,115,116,117,118,119,120,121,122,123,124,125,126,127,128] []) .skip))))) (rgN [oq 129 (.bin .add T_int (.tmp 101) (kc 1)) [.t 101,.c (iv 1)],oq 101 .mov [.t 129]] [16,114,129] []))))
def c_n_DivMod_k3:ACode:=(.seq (.region false [72,99] [oq 130 .mov [.t 4],oq 131 (.call F_n_trim) [.t 130],oq 132 .mov [.t 5],oq 133 (.call F_n_trim) [.t 132],oq 4 .mov [.t 131],oq 5 .mov [.t 133],oq 6 .mov [.c (iv 0)]] [9,10,100,101,102,130,131,132,133] []) .ret)
def c_n_DivMod_k4:ACode:=(.seq (rgN [oq 98 .mov [.t 12],oq 99 (.mk 1 4 [.val (.int .u32 0)]) [.t 98,.t 98],oq 5 .mov [.t 99]] [11,13,74,75,76,98,99] []) (.seq (.seq (rgN [oq 100 .mov [.t 12],oq 101 .mov [.c (iv 0)]] [12] []) (.block 4 (.loop c_n_DivMod_l2))) c_n_DivMod_k3))
def c_n_DivMod_k5:ACode:=(.seq (rgN [oq 56 .mov [.t 0],oq 57 .mov [.t 9],oq 58 (.callI F_n_shifted) [.t 56,.t 57],oq 10 .mov [.t 58]] [53,56,57,58] []) (.seq (rgN [oq 59 .mov [.t 1],oq 60 .mov [.t 9],oq 61 (.call F_n_shifted) [.t 59,.t 60],oq 62 (.call F_n_trim) [.t 61],oq 11 .mov [.t 62]] [59,60,61,62] []) (.seq (rgN [oq 63 .mov [.t 11],oq 64 (.len false) [.t 63],oq 65 .mov [.t 0],oq 66 (.len false) [.t 65],oq 67 .mov [.t 1],oq 68 (.len false) [.t 67],oq 69 (.bin .sub T_int (.tmp 66) (.tmp 68)) [.t 66,.t 68],oq 12 .mov [.t 64],oq 13 .mov [.t 69]] [0,1,63,64,65,66,67,68,69] []) (.seq (rgN [oq 70 .mov [.t 13],oq 71 (.bin .add T_int (.tmp 70) (kc 1)) [.t 70,.c (iv 1)],oq 72 (.mk 1 4 [.val (.int .u32 0)]) [.t 71,.t 71],oq 4 .mov [.t 72]] [70,71,72] []) (.seq (.seq (rgN [oq 73 .mov [.t 13],oq 74 (.bin .add T_int (.tmp 73) (kc 1)) [.t 73,.c (iv 1)],oq 75 .mov [.c (iv 0)]] [73] []) (.block 2 (.loop c_n_DivMod_l1))) c_n_DivMod_k4)))))
def c_n_DivMod:ACode:=(.seq (rgN [oq 4 .mov [.c (.list 0 .full [])],oq 5 .mov [.c (.list 0 .full [])],oq 6 .mov [.c (iv 0)]] [4,5,6] []) (.seq (rgN [oq 17 .mov [.t 0],oq 18 (.call F_n_trim) [.t 17],oq 19 .mov [.t 1],oq 20 (.call F_n_trim) [.t 19],oq 0 .mov [.t 18],oq 1 .mov [.t 20]] [17,18,19,20] []) (.seq (.seq (rgN [oq 21 .mov [.t 1],oq 22 (.len false) [.t 21],oq 23 (.bin .eql T_int (.tmp 22) (kc 0)) [.t 22,.c (iv 0)]] [21,22] []) (.cond (.t 23) (.seq (rgN [oq 4 .mov [.c (.list 0 .full [])],oq 5 .mov [.c (.list 0 .full [])],oq 6 .mov [.c (iv 8)]] [0,1,23] []) .ret) .skip)) (.seq (.seq (rgN [oq 24 .mov [.t 0],oq 25 .mov [.t 1],oq 26 (.call F_n_Cmp) [.t 24,.t 25],oq 27 (.bin .lss T_int (.tmp 26) (kc 0)) [.t 26,.c (iv 0)]] [23,24,25,26] []) (.cond (.t 27) (.seq (rgN [oq 28 .mov [.t 0],oq 29 (.call F_n_Add) [.t 28,.c (.list 0 .full [])],oq 4 .mov [.c (.list 0 .full [])],oq 5 .mov [.t 29],oq 6 .mov [.c (iv 0)]] [0,1,27,28,29] []) .ret) .skip)) (.seq (.seq (rgN [oq 30 .mov [.t 1],oq 31 (.len false) [.t 30],oq 32 (.bin .eql T_int (.tmp 31) (kc 1)) [.t 31,.c (iv 1)]] [27,30,31] []) (.cond (.t 32) (.seq (rgN [oq 34 .mov [.t 0],oq 35 .mov [.t 1],oq 36 (.iaddrS 1) [.t 35,.c (iv 0)],oq 37 (.load none) [.t 36],oq 38 (.call F_n_small) [.t 34,.t 37],oq 33 .mov [.t 38],oq 39 (.extract 0) [.t 33],oq 40 (.extract 1) [.t 33],oq 7 .mov [.t 39],oq 8 .mov [.t 40]] [0,1,32,34,35,36,37,38,33,39,40] []) (.seq (rgN [oq 41 .mov [.t 7],oq 42 .mov [.t 8],oq 43 (.conv T_uint32 T_uint64) [.t 42],oq 44 (.call F_n_FromUint) [.t 43],oq 4 .mov [.t 41],oq 5 .mov [.t 44],oq 6 .mov [.c (iv 0)]] [7,8,41,42,43,44] []) .ret)) .skip)) (.seq (rgN [oq 9 .mov [.c (.val (.int .u64 0))]] [32] []) (.seq (.block 0 (.loop c_n_DivMod_l0)) c_n_DivMod_k5)))))))
def r_n_DivMod:List ResA:=[.t 4,.t 5,.t 6]
theorem t_n_DivMod:transl Try.prog F_n_DivMod=some (bare c_n_DivMod,r_n_DivMod,134):=by kernel_rfl
def c_f_Make:ACode:=(.seq (rgN [⟨some 6,.alloc [bv false,.list 0 .full [],.list 0 .full []],[],none⟩,oq 7 .mov [.c (iv 0)]] [7] []) (.seq (.seq (rgN [oq 15 .mov [.t 2],oq 16 (.len false) [.t 15],oq 17 (.bin .eql T_int (.tmp 16) (kc 0)) [.t 16,.c (iv 0)]] [15,16] []) (.cond (.t 17) (.seq (rgN [⟨some 18,.build [bv false,.list 0 .full [],.list 0 .full []] [],[],none⟩,ox (.store 3) [.t 6,.t 18],oq 7 .mov [.c (iv 8)]] [0,1,2,17,18] []) .ret) .skip)) (.seq (rgN [oq 19 .mov [.t 1],oq 20 .mov [.t 2],oq 21 (.call F_n_GCD) [.t 19,.t 20],oq 8 .mov [.t 21]] [17,19,20,21] []) (.seq (rgN [oq 23 .mov [.t 1],oq 24 .mov [.t 8],oq 25 (.call F_n_DivMod) [.t 23,.t 24],oq 22 .mov [.t 25],oq 26 (.extract 0) [.t 22],oq 27 (.extract 1) [.t 22],oq 28 (.extract 2) [.t 22],oq 9 .mov [.t 26],oq 10 .mov [.t 27],oq 11 .mov [.t 28]] [1,23,24,25,22,26,27,28,10] []) (.seq (rgN [oq 30 .mov [.t 2],oq 31 .mov [.t 8],oq 32 (.call F_n_DivMod) [.t 30,.t 31],oq 29 .mov [.t 32],oq 33 (.extract 0) [.t 29],oq 34 (.extract 1) [.t 29],oq 35 (.extract 2) [.t 29],oq 12 .mov [.t 33],oq 13 .mov [.t 34],oq 14 .mov [.t 35]] [2,8,30,31,32,29,33,34,35,13] []) (.seq (.seq (rgN [oq 36 .mov [.t 11],oq 37 (.bin .neq T_api_Errno (.tmp 36) (kc 0)) [.t 36,.c (iv 0)],oq 38 .mov [.t 37],⟨some 39,.mov,[.t 14],some (38,false)⟩,⟨some 40,.bin .neq T_api_Errno (.tmp 39) (kc 0),[.t 39,.c (iv 0)],some (38,false)⟩,oq 41 .pick [.t 38,.c (bv true),.t 40]] [11,14,36,37,38,39,40] []) (.cond (.t 41) (.seq (rgN [⟨some 42,.build [bv false,.list 0 .full [],.list 0 .full []] [],[],none⟩,ox (.store 3) [.t 6,.t 42],oq 7 .mov [.c (iv 8)]] [0,9,12,41,42] []) .ret) .skip)) (.seq (rgN [oq 43 .mov [.t 0],oq 44 .mov [.t 43],⟨some 45,.mov,[.t 9],some (44,true)⟩,⟨some 46,.len false,[.t 45],some (44,true)⟩,⟨some 47,.bin .gtr T_int (.tmp 46) (kc 0),[.t 46,.c (iv 0)],some (44,true)⟩,oq 48 .pick [.t 44,.t 47,.c (bv false)],oq 49 .mov [.t 9],oq 50 .mov [.t 12],⟨some 51,.build [bv false,.list 0 .full [],.list 0 .full []] [(0,1),(1,1),(2,1)],[.t 48,.t 49,.t 50],none⟩,ox (.store 3) [.t 6,.t 51],oq 7 .mov [.c (iv 0)]] [0,9,12,41,43,44,45,46,47,48,49,50,51] []) .ret)))))))
def r_f_Make:List ResA:=[.cell 6 (some 3),.t 7]
theorem t_f_Make:transl Try.prog F_f_Make=some (bare c_f_Make,r_f_Make,52):=by kernel_rfl
def c_q_Bits_l0:ACode:=(.seq (.seq (rgN [oq 7 .mov [.t 3],oq 8 (.bin .gtr T_int (.tmp 7) (kc 0)) [.t 7,.c (iv 0)],oq 9 .mov [.t 8],⟨some 10,.mov,[.t 0],some (9,true)⟩,⟨some 11,.mov,[.t 3],some (9,true)⟩,⟨some 12,.bin .sub T_int (.tmp 11) (kc 1),[.t 11,.c (iv 1)],some (9,true)⟩,⟨some 13,.call F_q_Bit,[.t 10,.t 12],some (9,true)⟩,⟨some 14,.bin .eql T_uint64 (.tmp 13) (.const (.int .u64 0)),[.t 13,.c (.val (.int .u64 0))],some (9,true)⟩,oq 15 .pick [.t 9,.t 14,.c (bv false)]] [7,8,9,10,11,12,13,14] []) (.cond (.t 15) .skip (.exit 0))) (.block 1 (rgN [oq 16 .mov [.t 3],oq 17 (.bin .sub T_int (.tmp 16) (kc 1)) [.t 16,.c (iv 1)],oq 3 .mov [.t 17]] [15,16,17] [])))
def c_q_Bits_k1:ACode:=(.seq (rgN [oq 18 .mov [.t 3],oq 2 .mov [.t 18]] [0,3,15,18] []) .ret)
def c_q_Bits:ACode:=(.seq (rgN [oq 2 .mov [.c (iv 0)]] [2] []) (.seq (rgN [oq 4 .mov [.t 0],oq 5 (.len false) [.t 4],oq 6 (.bin .mul T_int (kc 32) (.tmp 5)) [.c (iv 32),.t 5],oq 3 .mov [.t 6]] [4,5,6] []) (.seq (.block 0 (.loop c_q_Bits_l0)) c_q_Bits_k1)))
def r_q_Bits:List ResA:=[.t 2]
theorem t_q_Bits:transl Try.prog F_q_Bits=some (bare c_q_Bits,r_q_Bits,19):=by kernel_rfl
def c_q_high_l0:ACode:=(.seq (.seq (rgN [oq 10 .mov [.t 6],oq 11 .mov [.t 0],oq 12 (.len false) [.t 11],oq 13 (.bin .lss T_int (.tmp 10) (.tmp 12)) [.t 10,.t 12]] [10,11,12] []) (.cond (.t 13) .skip (.exit 0))) (.seq (.block 1 (.seq (rgN [oq 16 .mov [.t 0],oq 17 .mov [.t 6],oq 18 (.call F_q_digit) [.t 16,.t 17],oq 19 .mov [.t 0],oq 20 .mov [.t 6],oq 21 (.bin .add T_int (.tmp 20) (kc 1)) [.t 20,.c (iv 1)],oq 22 (.call F_q_digit) [.t 19,.t 21],oq 23 (.bin .mul T_uint64 (.tmp 22) (.const (.int .u64 4294967296))) [.t 22,.c (.val (.int .u64 4294967296))],oq 24 (.bin .add T_uint64 (.tmp 18) (.tmp 23)) [.t 18,.t 23],oq 7 .mov [.t 24]] [13,16,17,18,19,20,21,22,23,24] []) (rgN [oq 25 .mov [.t 5],oq 26 .mov [.t 7],oq 27 .mov [.t 1],oq 28 (.bin .rem T_int (.tmp 27) (kc 32)) [.t 27,.c (iv 32)],oq 29 (.bin .shl T_uint64 (.const (.int .u64 1)) (.tmp 28)) [.c (.val (.int .u64 1)),.t 28],oq 30 (.bin .quo T_uint64 (.tmp 26) (.tmp 29)) [.t 26,.t 29],oq 31 (.bin .rem T_uint64 (.tmp 30) (.const (.int .u64 4294967296))) [.t 30,.c (.val (.int .u64 4294967296))],oq 32 (.conv T_uint64 T_uint32) [.t 31],oq 33 (.mkslice 1 1 [.val (.int .u32 0)] [0]) [.t 32],oq 34 (.append 1 4) [.t 25,.t 33],oq 5 .mov [.t 34]] [7,25,26,27,28,29,30,31,32,33,34] []))) (rgN [oq 14 .mov [.t 6],oq 15 (.bin .add T_int (.tmp 14) (kc 1)) [.t 14,.c (iv 1)],oq 6 .mov [.t 15]] [14,15] [])))
def c_q_high_k1:ACode:=(.seq (rgN [oq 35 .mov [.t 5],oq 36 (.call F_q_trim) [.t 35],oq 4 .mov [.t 36]] [0,1,5,6,13,35,36] []) .ret)
def c_q_high:ACode:=(.seq (rgN [oq 4 .mov [.c (.list 0 .full [])]] [4] []) (.seq (rgN [oq 5 .mov [.c (.list 0 .full [])]] [] []) (.seq (.seq (rgN [oq 8 .mov [.t 1],oq 9 (.bin .quo T_int (.tmp 8) (kc 32)) [.t 8,.c (iv 32)],oq 6 .mov [.t 9]] [8,9] []) (.block 0 (.loop c_q_high_l0))) c_q_high_k1)))
def r_q_high:List ResA:=[.t 4]
theorem t_q_high:transl Try.prog F_q_high=some (bare c_q_high,r_q_high,37):=by kernel_rfl
def c_q_Bit:ACode:=(.seq (rgN [oq 4 .mov [.c (.val (.int .u64 0))]] [4] []) (.seq (rgD [oq 5 .mov [.t 0],oq 6 .mov [.t 1],oq 7 (.bin .quo T_int (.tmp 6) (kc 32)) [.t 6,.c (iv 32)],oq 8 (.call F_q_digit) [.t 5,.t 7],oq 9 .mov [.t 1],oq 10 (.bin .rem T_int (.tmp 9) (kc 32)) [.t 9,.c (iv 32)],oq 11 (.bin .shl T_uint64 (.const (.int .u64 1)) (.tmp 10)) [.c (.val (.int .u64 1)),.t 10],oq 12 (.bin .quo T_uint64 (.tmp 8) (.tmp 11)) [.t 8,.t 11],oq 13 (.bin .rem T_uint64 (.tmp 12) (.const (.int .u64 2))) [.t 12,.c (.val (.int .u64 2))],oq 4 .mov [.t 13]] [0,1,5,6,7,8,9,10,11,12,13] []) .ret))
def r_q_Bit:List ResA:=[.t 4]
theorem t_q_Bit:transl Try.prog F_q_Bit=some (bare c_q_Bit,r_q_Bit,14):=by kernel_rfl
def c_f_Div:ACode:=(.seq (rgN [oq 2 .box [.t 0],oq 3 .box [.t 1],⟨some 4,.alloc [bv false,.list 0 .full [],.list 0 .full []],[],none⟩,oq 5 .mov [.c (iv 0)]] [0,1,5] []) (.seq (rgD [oq 6 (.faddr 0) [.t 2],oq 7 (.load none) [.t 6],oq 8 (.faddr 0) [.t 3],oq 9 (.load none) [.t 8],oq 10 (.bin .neq T_bool (.tmp 7) (.tmp 9)) [.t 7,.t 9],oq 11 (.faddr 1) [.t 2],oq 12 (.load none) [.t 11],oq 13 (.faddr 2) [.t 3],oq 14 (.load none) [.t 13],oq 15 (.call F_n_Mul) [.t 12,.t 14],oq 16 (.faddr 2) [.t 2],oq 17 (.load none) [.t 16],oq 18 (.faddr 1) [.t 3],oq 19 (.load none) [.t 18],oq 20 (.call F_n_Mul) [.t 17,.t 19],oq 21 (.call F_f_Make) [.t 10,.t 15,.t 20],oq 22 (.extract 0) [.t 21],oq 23 (.extract 1) [.t 21],ox (.store 3) [.t 4,.t 22],oq 5 .mov [.t 23]] [2,3,6,7,8,9,10,11,12,13,14,15,16,17,18,19,20,21,22,23] [2,3]) .ret))
def r_f_Div:List ResA:=[.cell 4 (some 3),.t 5]
theorem t_f_Div:transl Try.prog F_f_Div=some (bare c_f_Div,r_f_Div,24):=by kernel_rfl
def c_s_eliminate_l0:ACode:=(.seq (rgN [oq 31 (.bin .lss T_int (.tmp 30) (.tmp 29)) [.t 30,.t 29]] [] []) (.seq (.cond (.t 31) .skip (.exit 0)) (.seq (.block 1 (.seq (rgN [oq 32 .mov [.t 30],oq 33 (.iaddrS 3) [.t 28,.t 30],oq 34 (.load (some 3)) [.t 33],⟨some 15,.alloc [bv false,.list 0 .full [],.list 0 .full []],[],none⟩,oq 14 .mov [.t 32],ox (.store 3) [.t 15,.t 34]] [31,32,33,34] []) (.block 2 (.seq (rgN [oq 47 .mov [.t 14],oq 48 .mov [.t 2],oq 49 (.bin .eql T_int (.tmp 47) (.tmp 48)) [.t 47,.t 48],oq 46 .mov [.t 49]] [47,48,49] []) (.cond (.t 46) (rgD [oq 50 .mov [.t 13],oq 51 .mov [.t 14],oq 52 (.load (some 3)) [.t 12],oq 53 .mov [.t 3],oq 54 .mov [.t 14],oq 55 (.iaddrS 3) [.t 53,.t 54],oq 56 (.load (some 3)) [.t 55],oq 57 (.call F_f_Mul) [.t 52,.t 56],oq 58 (.call F_f_Neg) [.t 57],oq 59 (.iaddrS 3) [.t 50,.t 51],ox (.store 3) [.t 59,.t 58]] [15,14,46,50,51,52,53,54,55,56,57,58,59] [15]) (.seq (rgN [oq 61 .mov [.t 3],oq 62 .mov [.t 14],oq 63 (.iaddrS 3) [.t 61,.t 62],oq 64 (.load (some 3)) [.t 63],oq 65 (.call F_f_Sign) [.t 64],oq 66 (.bin .eql T_int (.tmp 65) (kc 0)) [.t 65,.c (iv 0)],oq 60 .mov [.t 66]] [46,61,62,63,64,65,66] []) (.cond (.t 60) (rgN [oq 67 .mov [.t 13],oq 68 .mov [.t 14],oq 69 (.load (some 3)) [.t 15],oq 70 (.iaddrS 3) [.t 67,.t 68],ox (.store 3) [.t 70,.t 69]] [15,14,60,67,68,69,70] [15]) (rgD [oq 35 .mov [.t 13],oq 36 .mov [.t 14],oq 37 (.load (some 3)) [.t 15],oq 38 (.load (some 3)) [.t 12],oq 39 .mov [.t 3],oq 40 .mov [.t 14],oq 41 (.iaddrS 3) [.t 39,.t 40],oq 42 (.load (some 3)) [.t 41],oq 43 (.call F_f_Mul) [.t 38,.t 42],oq 44 (.call F_f_Sub) [.t 37,.t 43],oq 45 (.iaddrS 3) [.t 35,.t 36],ox (.store 3) [.t 45,.t 44]] [15,14,60,35,36,37,38,39,40,41,42,43,44,45] [15])))))))) (rgN [oq 71 (.bin .add T_int (.tmp 30) (kc 1)) [.t 30,.c (iv 1)],oq 30 .mov [.t 71]] [71] []))))
def c_s_eliminate_k1:ACode:=(.seq (rgD [oq 72 .mov [.t 13],oq 73 (.load (some 3)) [.t 6],oq 74 (.load (some 3)) [.t 12],oq 75 (.load (some 3)) [.t 9],oq 76 (.call F_f_Mul) [.t 74,.t 75],oq 77 (.call F_f_Sub) [.t 73,.t 76],oq 10 .mov [.t 72],ox (.store 3) [.t 11,.t 77]] [2,3,6,9,12,13,28,29,30,31,72,73,74,75,76,77] [6,9,12]) .ret)
def c_s_eliminate:ACode:=(.seq (rgN [oq 6 .box [.t 1],oq 9 .box [.t 4],oq 10 .mov [.c (.list 0 .full [])],⟨some 11,.alloc [bv false,.list 0 .full [],.list 0 .full []],[],none⟩] [1,4,10] []) (.seq (rgN [oq 16 .mov [.t 0],oq 17 .mov [.t 2],oq 18 (.iaddrS 3) [.t 16,.t 17],oq 19 (.load (some 3)) [.t 18],⟨some 12,.alloc [bv false,.list 0 .full [],.list 0 .full []],[],none⟩,ox (.store 3) [.t 12,.t 19]] [16,17,18,19] []) (.seq (.seq (rgN [oq 20 (.load (some 3)) [.t 12],oq 21 (.call F_f_Sign) [.t 20],oq 22 (.bin .eql T_int (.tmp 21) (kc 0)) [.t 21,.c (iv 0)]] [20,21] []) (.cond (.t 22) (.seq (rgD [oq 23 .mov [.t 0],oq 24 (.load (some 3)) [.t 6],oq 10 .mov [.t 23],ox (.store 3) [.t 11,.t 24]] [0,2,3,6,9,12,22,23,24] [6,9,12]) .ret) .skip)) (.seq (rgN [oq 25 .mov [.t 0],oq 26 (.len false) [.t 25],⟨some 27,.mk 3 56 [bv false,.list 0 .full [],.list 0 .full []],[.t 26,.t 26],none⟩,oq 13 .mov [.t 27]] [22,25,26,27] []) (.seq (.seq (rgN [oq 28 .mov [.t 0],oq 29 (.len false) [.t 28],oq 30 .mov [.c (iv 0)]] [0] []) (.block 0 (.loop c_s_eliminate_l0))) c_s_eliminate_k1)))))
def r_s_eliminate:List ResA:=[.t 10,.cell 11 (some 3)]
theorem t_s_eliminate:transl Try.prog F_s_eliminate=some (bare c_s_eliminate,r_s_eliminate,78):=by kernel_rfl
def c_n_small_l0:ACode:=(.seq (rgN [oq 17 (.bin .lss T_int (.tmp 16) (.tmp 15)) [.t 16,.t 15]] [] []) (.seq (.cond (.t 17) .skip (.exit 0)) (.seq (.block 1 (.seq (rgN [oq 18 .mov [.t 16],oq 8 .mov [.t 18]] [17,18] []) (.seq (rgN [oq 19 .mov [.t 0],oq 20 (.len false) [.t 19],oq 21 (.bin .sub T_int (.tmp 20) (kc 1)) [.t 20,.c (iv 1)],oq 22 .mov [.t 8],oq 23 (.bin .sub T_int (.tmp 21) (.tmp 22)) [.t 21,.t 22],oq 9 .mov [.t 23]] [8,19,20,21,22,23] []) (.seq (rgN [oq 24 .mov [.t 7],oq 25 (.bin .shl T_uint64 (.tmp 24) (.const (.int .u64 32))) [.t 24,.c (.val (.int .u64 32))],oq 26 .mov [.t 0],oq 27 .mov [.t 9],oq 28 (.iaddrS 1) [.t 26,.t 27],oq 29 (.load none) [.t 28],oq 30 (.conv T_uint32 T_uint64) [.t 29],oq 31 (.bin .or T_uint64 (.tmp 25) (.tmp 30)) [.t 25,.t 30],oq 10 .mov [.t 31]] [7,24,25,26,27,28,29,30,31] []) (rgD [ox (.start [32,33,34,35,36,37,38,39,40,41,42,43]) [],oq 32 .mov [.t 6],oq 33 .mov [.t 9],oq 34 .mov [.t 10],oq 35 .mov [.t 1],oq 36 (.conv T_uint32 T_uint64) [.t 35],oq 37 (.bin .quo T_uint64 (.tmp 34) (.tmp 36)) [.t 34,.t 36],oq 38 (.conv T_uint64 T_uint32) [.t 37],oq 39 .mov [.t 10],oq 40 .mov [.t 1],oq 41 (.conv T_uint32 T_uint64) [.t 40],oq 42 (.bin .rem T_uint64 (.tmp 39) (.tmp 41)) [.t 39,.t 41],oq 43 (.iaddrS 1) [.t 32,.t 33],ox (.store 1) [.t 43,.t 38],oq 39 (.chk (.mov)) [.t 10],oq 40 (.chk (.mov)) [.t 1],oq 41 (.chk (.conv T_uint32 T_uint64)) [.t 40],oq 42 (.chk (.bin .rem T_uint64 (.tmp 39) (.tmp 41))) [.t 39,.t 41],oq 7 .mov [.t 42]] [9,10,32,33,34,35,36,37,38,39,40,41,42,43] []))))) (rgN [oq 44 (.bin .add T_int (.tmp 16) (kc 1)) [.t 16,.c (iv 1)],oq 16 .mov [.t 44]] [44] []))))
def c_n_small_k1:ACode:=(.seq (.region false [13] [oq 45 .mov [.t 6],oq 46 (.call F_n_trim) [.t 45],oq 47 .mov [.t 7],oq 48 (.conv T_uint64 T_uint32) [.t 47],oq 4 .mov [.t 46],oq 5 .mov [.t 48]] [0,1,6,7,15,16,17,45,46,47,48] []) .ret)
def c_n_small:ACode:=(.seq (rgN [oq 4 .mov [.c (.list 0 .full [])],oq 5 .mov [.c (.val (.int .u32 0))]] [4,5] []) (.seq (rgN [oq 11 .mov [.t 0],oq 12 (.len false) [.t 11],oq 13 (.mk 1 4 [.val (.int .u32 0)]) [.t 12,.t 12],oq 6 .mov [.t 13]] [11,12,13] []) (.seq (rgN [oq 7 .mov [.c (.val (.int .u64 0))]] [] []) (.seq (.seq (rgN [oq 14 .mov [.t 0],oq 15 (.len false) [.t 14],oq 16 .mov [.c (iv 0)]] [14] []) (.block 0 (.loop c_n_small_l0))) c_n_small_k1))))
def r_n_small:List ResA:=[.t 4,.t 5]
theorem t_n_small:transl Try.prog F_n_small=some (bare c_n_small,r_n_small,49):=by kernel_rfl
def c_n_shifted_l0:ACode:=(.seq (rgN [oq 15 (.bin .lss T_int (.tmp 14) (.tmp 13)) [.t 14,.t 13]] [] []) (.seq (.cond (.t 15) .skip (.exit 0)) (.seq (.block 1 (.seq (rgN [oq 16 .mov [.t 14],oq 6 .mov [.t 16]] [15,16] []) (.seq (rgN [oq 17 .mov [.t 0],oq 18 .mov [.t 6],oq 19 (.iaddrS 1) [.t 17,.t 18],oq 20 (.load none) [.t 19],oq 21 (.conv T_uint32 T_uint64) [.t 20],oq 22 .mov [.t 1],oq 23 (.bin .shl T_uint64 (.tmp 21) (.tmp 22)) [.t 21,.t 22],oq 7 .mov [.t 23]] [17,18,19,20,21,22,23] []) (.seq (rgN [oq 24 .mov [.t 5],oq 25 .mov [.t 6],oq 26 (.iaddrS 1) [.t 24,.t 25],oq 27 (.load none) [.t 26],oq 28 .mov [.t 7],oq 29 (.conv T_uint64 T_uint32) [.t 28],oq 30 (.bin .or T_uint32 (.tmp 27) (.tmp 29)) [.t 27,.t 29],oq 31 (.iaddrS 1) [.t 24,.t 25],ox (.store 1) [.t 31,.t 30]] [24,25,26,27,28,29,30,31] []) (rgN [oq 32 .mov [.t 5],oq 33 .mov [.t 6],oq 34 (.bin .add T_int (.tmp 33) (kc 1)) [.t 33,.c (iv 1)],oq 35 .mov [.t 7],oq 36 (.bin .shr T_uint64 (.tmp 35) (.const (.int .u64 32))) [.t 35,.c (.val (.int .u64 32))],oq 37 (.conv T_uint64 T_uint32) [.t 36],oq 38 (.iaddrS 1) [.t 32,.t 34],ox (.store 1) [.t 38,.t 37]] [6,7,32,33,34,35,36,37,38] []))))) (rgN [oq 39 (.bin .add T_int (.tmp 14) (kc 1)) [.t 14,.c (iv 1)],oq 14 .mov [.t 39]] [39] []))))
def c_n_shifted_k1:ACode:=(.seq (rgN [oq 40 .mov [.t 5],oq 4 .mov [.t 40]] [0,1,5,13,14,15,40] []) .ret)
def c_n_shifted:ACode:=(.seq (rgN [oq 4 .mov [.c (.list 0 .full [])]] [4] []) (.seq (rgN [oq 8 .mov [.t 0],oq 9 (.len false) [.t 8],oq 10 (.bin .add T_int (.tmp 9) (kc 1)) [.t 9,.c (iv 1)],oq 11 (.mk 1 4 [.val (.int .u32 0)]) [.t 10,.t 10],oq 5 .mov [.t 11]] [8,9,10,11] []) (.seq (.seq (rgN [oq 12 .mov [.t 0],oq 13 (.len false) [.t 12],oq 14 .mov [.c (iv 0)]] [12] []) (.block 0 (.loop c_n_shifted_l0))) c_n_shifted_k1)))
def r_n_shifted:List ResA:=[.t 4]
theorem t_n_shifted:transl Try.prog F_n_shifted=some (bare c_n_shifted,r_n_shifted,41):=by kernel_rfl
def c_n_digit_l0:ACode:=(.seq (.seq (rgD [oq 48 .mov [.t 7],oq 49 (.bin .geq T_uint64 (.tmp 48) (.const (.int .u64 4294967296))) [.t 48,.c (.val (.int .u64 4294967296))],oq 50 .mov [.t 49],⟨some 51,.mov,[.t 7],some (50,false)⟩,⟨some 52,.mov,[.t 1],some (50,false)⟩,⟨some 53,.mov,[.t 5],some (50,false)⟩,⟨some 54,.bin .sub T_int (.tmp 53) (kc 2),[.t 53,.c (iv 2)],some (50,false)⟩,⟨some 55,.iaddrS 1,[.t 52,.t 54],some (50,false)⟩,⟨some 56,.load none,[.t 55],some (50,false)⟩,⟨some 57,.conv T_uint32 T_uint64,[.t 56],some (50,false)⟩,⟨some 58,.bin .mul T_uint64 (.tmp 51) (.tmp 57),[.t 51,.t 57],some (50,false)⟩,⟨some 59,.mov,[.t 8],some (50,false)⟩,⟨some 60,.bin .shl T_uint64 (.tmp 59) (.const (.int .u64 32)),[.t 59,.c (.val (.int .u64 32))],some (50,false)⟩,⟨some 61,.mov,[.t 0],some (50,false)⟩,⟨some 62,.mov,[.t 5],some (50,false)⟩,⟨some 63,.bin .sub T_int (.tmp 62) (kc 2),[.t 62,.c (iv 2)],some (50,false)⟩,⟨some 64,.iaddrS 1,[.t 61,.t 63],some (50,false)⟩,⟨some 65,.load none,[.t 64],some (50,false)⟩,⟨some 66,.conv T_uint32 T_uint64,[.t 65],some (50,false)⟩,⟨some 67,.bin .or T_uint64 (.tmp 60) (.tmp 66),[.t 60,.t 66],some (50,false)⟩,⟨some 68,.bin .gtr T_uint64 (.tmp 58) (.tmp 67),[.t 58,.t 67],some (50,false)⟩,oq 69 .pick [.t 50,.c (bv true),.t 68]] [48,49,50,51,52,53,54,55,56,57,58,59,60,61,62,63,64,65,66,67,68] []) (.cond (.t 69) .skip (.exit 0))) (.block 1 (.seq (rgN [oq 70 .mov [.t 7],oq 71 (.bin .sub T_uint64 (.tmp 70) (.const (.int .u64 1))) [.t 70,.c (.val (.int .u64 1))],oq 7 .mov [.t 71]] [69,70,71] []) (.seq (rgN [oq 72 .mov [.t 8],oq 73 .mov [.t 1],oq 74 .mov [.t 5],oq 75 (.bin .sub T_int (.tmp 74) (kc 1)) [.t 74,.c (iv 1)],oq 76 (.iaddrS 1) [.t 73,.t 75],oq 77 (.load none) [.t 76],oq 78 (.conv T_uint32 T_uint64) [.t 77],oq 79 (.bin .add T_uint64 (.tmp 72) (.tmp 78)) [.t 72,.t 78],oq 8 .mov [.t 79]] [72,73,74,75,76,77,78,79] []) (.seq (rgN [oq 80 .mov [.t 8],oq 81 (.bin .geq T_uint64 (.tmp 80) (.const (.int .u64 4294967296))) [.t 80,.c (.val (.int .u64 4294967296))]] [80] []) (.cond (.t 81) (.exit 0) .skip))))))
def c_n_digit_l1:ACode:=(.seq (rgN [oq 84 (.bin .lss T_int (.tmp 83) (.tmp 82)) [.t 83,.t 82]] [] []) (.seq (.cond (.t 84) .skip (.exit 2)) (.seq (.block 3 (.seq (rgN [oq 85 .mov [.t 83],oq 11 .mov [.t 85]] [84,85] []) (.seq (rgN [oq 86 .mov [.t 7],oq 87 .mov [.t 1],oq 88 .mov [.t 11],oq 89 (.iaddrS 1) [.t 87,.t 88],oq 90 (.load none) [.t 89],oq 91 (.conv T_uint32 T_uint64) [.t 90],oq 92 (.bin .mul T_uint64 (.tmp 86) (.tmp 91)) [.t 86,.t 91],oq 93 .mov [.t 9],oq 94 (.bin .add T_uint64 (.tmp 92) (.tmp 93)) [.t 92,.t 93],oq 12 .mov [.t 94]] [9,86,87,88,89,90,91,92,93,94] []) (.seq (rgN [oq 95 .mov [.t 12],oq 96 (.bin .shr T_uint64 (.tmp 95) (.const (.int .u64 32))) [.t 95,.c (.val (.int .u64 32))],oq 9 .mov [.t 96]] [95,96] []) (.seq (rgN [oq 97 .mov [.t 0],oq 98 .mov [.t 11],oq 99 (.iaddrS 1) [.t 97,.t 98],oq 100 (.load none) [.t 99],oq 101 (.conv T_uint32 T_uint64) [.t 100],oq 102 .mov [.t 12],oq 103 (.bin .and T_uint64 (.tmp 102) (.const (.int .u64 4294967295))) [.t 102,.c (.val (.int .u64 4294967295))],oq 104 (.bin .sub T_uint64 (.tmp 101) (.tmp 103)) [.t 101,.t 103],oq 105 .mov [.t 10],oq 106 (.bin .sub T_uint64 (.tmp 104) (.tmp 105)) [.t 104,.t 105],oq 13 .mov [.t 106]] [10,12,97,98,99,100,101,102,103,104,105,106] []) (rgN [oq 107 .mov [.t 0],oq 108 .mov [.t 11],oq 109 .mov [.t 13],oq 110 (.conv T_uint64 T_uint32) [.t 109],oq 111 .mov [.t 13],oq 112 (.bin .shr T_uint64 (.tmp 111) (.const (.int .u64 63))) [.t 111,.c (.val (.int .u64 63))],oq 113 (.iaddrS 1) [.t 107,.t 108],ox (.store 1) [.t 113,.t 110],oq 10 .mov [.t 112]] [11,13,107,108,109,110,111,112,113] [])))))) (rgN [oq 114 (.bin .add T_int (.tmp 83) (kc 1)) [.t 83,.c (iv 1)],oq 83 .mov [.t 114]] [114] []))))
def c_n_digit_l2:ACode:=(.seq (rgN [oq 136 (.bin .lss T_int (.tmp 135) (.tmp 134)) [.t 135,.t 134]] [] []) (.seq (.cond (.t 136) .skip (.exit 4)) (.seq (.block 5 (.seq (rgN [oq 137 .mov [.t 135],oq 15 .mov [.t 137]] [136,137] []) (.seq (rgD [oq 138 .mov [.t 0],oq 139 .mov [.t 15],oq 140 (.iaddrS 1) [.t 138,.t 139],oq 141 (.load none) [.t 140],oq 142 (.conv T_uint32 T_uint64) [.t 141],oq 143 .mov [.t 1],oq 144 .mov [.t 15],oq 145 (.iaddrS 1) [.t 143,.t 144],oq 146 (.load none) [.t 145],oq 147 (.conv T_uint32 T_uint64) [.t 146],oq 148 (.bin .add T_uint64 (.tmp 142) (.tmp 147)) [.t 142,.t 147],oq 149 .mov [.t 9],oq 150 (.bin .add T_uint64 (.tmp 148) (.tmp 149)) [.t 148,.t 149],oq 16 .mov [.t 150]] [9,138,139,140,141,142,143,144,145,146,147,148,149,150] []) (rgN [oq 151 .mov [.t 0],oq 152 .mov [.t 15],oq 153 .mov [.t 16],oq 154 (.conv T_uint64 T_uint32) [.t 153],oq 155 .mov [.t 16],oq 156 (.bin .shr T_uint64 (.tmp 155) (.const (.int .u64 32))) [.t 155,.c (.val (.int .u64 32))],oq 157 (.iaddrS 1) [.t 151,.t 152],ox (.store 1) [.t 157,.t 154],oq 9 .mov [.t 156]] [15,16,151,152,153,154,155,156,157] [])))) (rgN [oq 158 (.bin .add T_int (.tmp 135) (kc 1)) [.t 135,.c (iv 1)],oq 135 .mov [.t 158]] [158] []))))
def c_n_digit_k3:ACode:=(.seq (rgN [oq 159 .mov [.t 0],oq 160 .mov [.t 5],oq 161 (.iaddrS 1) [.t 159,.t 160],oq 162 (.load none) [.t 161],oq 163 .mov [.t 9],oq 164 (.conv T_uint64 T_uint32) [.t 163],oq 165 (.bin .add T_uint32 (.tmp 162) (.tmp 164)) [.t 162,.t 164],oq 166 (.iaddrS 1) [.t 159,.t 160],ox (.store 1) [.t 166,.t 165]] [0,1,5,9,134,135,136,159,160,161,162,163,164,165,166] []) (.seq (rgN [oq 167 .mov [.t 7],oq 168 (.bin .sub T_uint64 (.tmp 167) (.const (.int .u64 1))) [.t 167,.c (.val (.int .u64 1))],oq 169 (.conv T_uint64 T_uint32) [.t 168],oq 4 .mov [.t 169]] [7,167,168,169] []) .ret))
def c_n_digit_k4:ACode:=(.seq (rgN [oq 115 .mov [.t 0],oq 116 .mov [.t 5],oq 117 (.iaddrS 1) [.t 115,.t 116],oq 118 (.load none) [.t 117],oq 119 (.conv T_uint32 T_uint64) [.t 118],oq 120 .mov [.t 9],oq 121 (.bin .sub T_uint64 (.tmp 119) (.tmp 120)) [.t 119,.t 120],oq 122 .mov [.t 10],oq 123 (.bin .sub T_uint64 (.tmp 121) (.tmp 122)) [.t 121,.t 122],oq 14 .mov [.t 123]] [9,10,82,83,84,115,116,117,118,119,120,121,122,123] []) (.seq (rgN [oq 124 .mov [.t 0],oq 125 .mov [.t 5],oq 126 .mov [.t 14],oq 127 (.conv T_uint64 T_uint32) [.t 126],oq 128 (.iaddrS 1) [.t 124,.t 125],ox (.store 1) [.t 128,.t 127]] [124,125,126,127,128] []) (.seq (.seq (rgN [oq 129 .mov [.t 14],oq 130 (.bin .shr T_uint64 (.tmp 129) (.const (.int .u64 63))) [.t 129,.c (.val (.int .u64 63))],oq 131 (.bin .eql T_uint64 (.tmp 130) (.const (.int .u64 0))) [.t 130,.c (.val (.int .u64 0))]] [14,129,130] []) (.cond (.t 131) (.seq (rgN [oq 132 .mov [.t 7],oq 133 (.conv T_uint64 T_uint32) [.t 132],oq 4 .mov [.t 133]] [0,1,5,7,131,132,133] []) .ret) .skip)) (.seq (rgN [oq 9 .mov [.c (.val (.int .u64 0))]] [131] []) (.seq (.seq (rgN [oq 134 .mov [.t 5],oq 135 .mov [.c (iv 0)]] [] []) (.block 4 (.loop c_n_digit_l2))) c_n_digit_k3)))))
def c_n_digit_k5:ACode:=(.seq (rgN [oq 9 .mov [.c (.val (.int .u64 0))],oq 10 .mov [.c (.val (.int .u64 0))]] [8,81,69] []) (.seq (.seq (rgN [oq 82 .mov [.t 5],oq 83 .mov [.c (iv 0)]] [] []) (.block 2 (.loop c_n_digit_l1))) c_n_digit_k4))
def c_n_digit:ACode:=(.seq (rgN [oq 4 .mov [.c (.val (.int .u32 0))]] [4] []) (.seq (rgN [oq 17 .mov [.t 1],oq 18 (.len false) [.t 17],oq 5 .mov [.t 18]] [17,18] []) (.seq (rgD [oq 19 .mov [.t 0],oq 20 .mov [.t 5],oq 21 (.iaddrS 1) [.t 19,.t 20],oq 22 (.load none) [.t 21],oq 23 (.conv T_uint32 T_uint64) [.t 22],oq 24 (.bin .shl T_uint64 (.tmp 23) (.const (.int .u64 32))) [.t 23,.c (.val (.int .u64 32))],oq 25 .mov [.t 0],oq 26 .mov [.t 5],oq 27 (.bin .sub T_int (.tmp 26) (kc 1)) [.t 26,.c (iv 1)],oq 28 (.iaddrS 1) [.t 25,.t 27],oq 29 (.load none) [.t 28],oq 30 (.conv T_uint32 T_uint64) [.t 29],oq 31 (.bin .or T_uint64 (.tmp 24) (.tmp 30)) [.t 24,.t 30],oq 6 .mov [.t 31]] [19,20,21,22,23,24,25,26,27,28,29,30,31] []) (.seq (rgD [oq 32 .mov [.t 6],oq 33 .mov [.t 1],oq 34 .mov [.t 5],oq 35 (.bin .sub T_int (.tmp 34) (kc 1)) [.t 34,.c (iv 1)],oq 36 (.iaddrS 1) [.t 33,.t 35],oq 37 (.load none) [.t 36],oq 38 (.conv T_uint32 T_uint64) [.t 37],oq 39 (.bin .quo T_uint64 (.tmp 32) (.tmp 38)) [.t 32,.t 38],oq 40 .mov [.t 6],oq 41 .mov [.t 1],oq 42 .mov [.t 5],oq 43 (.bin .sub T_int (.tmp 42) (kc 1)) [.t 42,.c (iv 1)],oq 44 (.iaddrS 1) [.t 41,.t 43],oq 45 (.load none) [.t 44],oq 46 (.conv T_uint32 T_uint64) [.t 45],oq 47 (.bin .rem T_uint64 (.tmp 40) (.tmp 46)) [.t 40,.t 46],oq 7 .mov [.t 39],oq 8 .mov [.t 47]] [6,32,33,34,35,36,37,38,39,40,41,42,43,44,45,46,47] []) (.seq (.block 0 (.loop c_n_digit_l0)) c_n_digit_k5)))))
def r_n_digit:List ResA:=[.t 4]
theorem t_n_digit:transl Try.prog F_n_digit=some (bare c_n_digit,r_n_digit,170):=by kernel_rfl
end Go.Proofs.Ytbgnkodhpbkdoaa

namespace Go.Dig
def B:Nat:=4294967296
theorem B_eq:B=4294967296:=rfl
theorem B_pos:0<B:=by decide
theorem pw_pos (k:Nat):0<B^k:=Nat.pow_pos B_pos
def val:List Nat→Nat
 | []=>0
 | d::l=>d+B*val l
def ok (l:List Nat):Prop:=∀ d∈l,d<B
def digs (x:Nat):List Nat:=if x=0 then [] else x%B::digs (x/B)
termination_by x
decreasing_by exact Nat.div_lt_self (by omega) (by decide)
theorem digs_zero:digs 0=[]:=by rw[digs]; rfl
theorem digs_pos {x:Nat} (h:x≠0):digs x=x%B::digs (x/B):=by rw[digs,if_neg h]
theorem val_digs (x:Nat):val (digs x)=x:=by
 induction x using Nat.strongRecOn with
 | ind x ih =>
  by_cases h:x=0
  ·subst h; rw[digs_zero]; rfl
  ·rw[digs_pos h,val,ih _ (Nat.div_lt_self (by omega) (by decide))]
   exact Nat.mod_add_div x B
theorem ok_digs (x:Nat):ok (digs x):=by
 induction x using Nat.strongRecOn with
 | ind x ih =>
  by_cases h:x=0
  ·subst h; rw[digs_zero]; intro d hd; cases hd
  ·rw[digs_pos h]
   intro d hd
   rcases List.mem_cons.1 hd with rfl | hd
   ·exact Nat.mod_lt _ B_pos
   ·exact ih _ (Nat.div_lt_self (by omega) (by decide)) d hd
theorem digs_eq_nil {x:Nat}:digs x=[]↔x=0:=by
 constructor
 ·intro h; have:=val_digs x; rw[h] at this; exact this.symm
 ·rintro rfl; exact digs_zero
theorem digs_inj {x y:Nat} (h:digs x=digs y):x=y:=by rw[← val_digs x,h,val_digs]
theorem ok_nil:ok []:=fun _ h=>by cases h
theorem ok_cons {d:Nat} {l:List Nat}:ok (d::l)↔d<B∧ok l:=by simp[ok]
theorem ok_append {a b:List Nat}:ok (a++b)↔ok a∧ok b:=by
 constructor
 ·intro h; exact ⟨fun d hd=>h d (by simp[hd]),fun d hd=>h d (by simp[hd])⟩
 ·rintro ⟨h1,h2⟩ d hd
  rcases List.mem_append.1 hd with hd | hd
  ·exact h1 d hd
  ·exact h2 d hd
theorem ok_take {a:List Nat} (h:ok a) (k:Nat):ok (a.take k):=fun d hd=>h d (List.mem_of_mem_take hd)
theorem ok_drop {a:List Nat} (h:ok a) (k:Nat):ok (a.drop k):=fun d hd=>h d (List.mem_of_mem_drop hd)
theorem ok_set {a:List Nat} (h:ok a) {k x:Nat} (hx:x<B):ok (a.set k x):=fun d hd=>by
 rcases List.mem_or_eq_of_mem_set hd with hd | rfl
 ·exact h d hd
 ·exact hx
theorem ok_rep (n:Nat):ok (List.replicate n 0):=fun d hd=>by
 rw[List.eq_of_mem_replicate hd]; exact B_pos
theorem ok_get {a:List Nat} (h:ok a) {k:Nat} (hk:k<a.length):a[k]<B:=h _ (List.getElem_mem hk)
theorem val_append (a b:List Nat):val (a++b)=val a+B^a.length*val b:=by
 induction a with
 | nil=>simp[val]
 | cons d a ih=>simp only[List.cons_append,val,ih,List.length_cons,Nat.pow_succ,Nat.mul_add]; rw[Nat.mul_comm (B^a.length) B,Nat.mul_assoc]; omega
theorem val_rep (n:Nat):val (List.replicate n 0)=0:=by
 induction n with
 | zero=>rfl
 | succ n ih=>simp[List.replicate_succ,val,ih]
theorem val_lt {a:List Nat} (h:ok a):val a<B^a.length:=by
 induction a with
 | nil=>simp[val]
 | cons d a ih =>
  have h1:=(ok_cons.1 h).1
  have h2:=ih (ok_cons.1 h).2
  simp only[val,List.length_cons,Nat.pow_succ]
  have:B*(val a+1)≤B*B^a.length:=Nat.mul_le_mul_left _ h2
  rw[Nat.mul_add] at this
  rw[Nat.mul_comm (B^a.length)]
  omega
theorem val_lt_of {a:List Nat} (h:ok a) {n:Nat} (hn:a.length≤n):val a<B^n :=
 Nat.lt_of_lt_of_le (val_lt h) (Nat.pow_le_pow_right B_pos hn)
theorem val_split (a:List Nat) (k:Nat):val a=val (a.take k)+B^(min k a.length)*val (a.drop k):=by
 have:=val_append (a.take k) (a.drop k)
 rwa [List.take_append_drop,List.length_take] at this
theorem val_take_succ {a:List Nat} {k:Nat} (hk:k<a.length):val (a.take (k+1))=val (a.take k)+B^k*a[k]:=by
 rw[List.take_succ_eq_append_getElem hk,val_append,List.length_take,Nat.min_eq_left (by omega)]
 simp[val]
theorem val_take {a:List Nat} (h:ok a) {k:Nat} (hk:k≤a.length):val (a.take k)=val a%B^k:=by
 have h1:=val_split a k
 have h2:=val_lt (ok_take h k)
 rw[List.length_take,Nat.min_eq_left hk] at h2
 rw[Nat.min_eq_left hk] at h1
 rw[h1,Nat.add_mul_mod_self_left,Nat.mod_eq_of_lt h2]
theorem val_drop {a:List Nat} (h:ok a) {k:Nat} (hk:k≤a.length):val (a.drop k)=val a/B^k:=by
 have h1:=val_split a k
 have h2:=val_lt (ok_take h k)
 rw[List.length_take,Nat.min_eq_left hk] at h2
 rw[Nat.min_eq_left hk] at h1
 rw[h1,Nat.add_mul_div_left _ _ (pw_pos k),Nat.div_eq_of_lt h2,Nat.zero_add]
theorem get_val {a:List Nat} (h:ok a) {k:Nat} (hk:k<a.length):a[k]=val a/B^k%B:=by
 rw[← val_drop h (by omega),List.drop_eq_getElem_cons hk,val,Nat.add_mul_mod_self_left,Nat.mod_eq_of_lt (ok_get h hk)]
def digsN (n x:Nat):List Nat:=(List.range n).map fun i=>x/B^i%B
theorem digsN_len {n x:Nat}:(digsN n x).length=n:=by simp[digsN]
theorem digsN_get {n x k:Nat} (hk:k<(digsN n x).length):(digsN n x)[k]=x/B^k%B:=by simp[digsN]
theorem ok_digsN {n x:Nat}:ok (digsN n x):=fun d hd=>by
 simp only[digsN,List.mem_map] at hd
 obtain ⟨i,_,rfl⟩:=hd
 exact Nat.mod_lt _ B_pos
theorem digsN_val {a:List Nat} (h:ok a):digsN a.length (val a)=a:=by
 apply List.ext_getElem
 ·simp[digsN]
 ·intro i h1 h2
  rw[digsN_get,← get_val h h2]
theorem digsN_succ {n x:Nat}:digsN (n+1) x=digsN n x++[x/B^n%B]:=by
 simp[digsN,List.range_succ]
theorem val_digsN {n x:Nat}:val (digsN n x)=x%B^n:=by
 induction n with
 | zero=>simp[digsN,val,Nat.mod_one]
 | succ n ih =>
  rw[digsN_succ,val_append,ih,digsN_len,Nat.pow_succ,Nat.mod_mul]
  simp[val]
theorem val_inj {a b:List Nat} (ha:ok a) (hb:ok b) (hl:a.length=b.length) (hv:val a=val b):a=b:=by
 rw[← digsN_val ha,← digsN_val hb,hl,hv]
def fillN (n k S:Nat):List Nat:=digsN k S++List.replicate (n-k) 0
theorem fillN_zero {n S:Nat}:fillN n 0 S=List.replicate n 0:=by simp[fillN,digsN]
theorem fillN_len {n k S:Nat} (hk:k≤n):(fillN n k S).length=n:=by simp[fillN,digsN_len]; omega
theorem fillN_all {n S:Nat}:fillN n n S=digsN n S:=by simp[fillN]
theorem fillN_set {n k S:Nat} (hk:k<n):(fillN n k S).set k (S/B^k%B)=fillN n (k+1) S:=by
 unfold fillN
 obtain ⟨m,hm⟩:∃ m,n-k=m+1:=⟨n-k-1,by omega⟩
 have hm2:n-(k+1)=m:=by omega
 rw[hm,hm2,digsN_succ,List.set_append_right _ _ (by rw[digsN_len]; exact Nat.le_refl _),digsN_len,Nat.sub_self,List.replicate_succ,List.set_cons_zero]
 simp
theorem val_digsN_lt {n x:Nat} (h:x<B^n):val (digsN n x)=x:=by rw[val_digsN,Nat.mod_eq_of_lt h]
theorem digs_of {a:List Nat} (h:ok a) (hn:∀ hk:0<a.length,a[a.length-1]≠0):digs (val a)=a:=by
 induction a with
 | nil=>exact digs_zero
 | cons d a ih =>
  have h1:=ok_cons.1 h
  by_cases ha:a=[]
  ·subst ha
   have:d≠0:=hn (by simp)
   have h2:(d+B*0)=d:=by omega
   simp only[val,h2]
   rw[digs_pos this,Nat.mod_eq_of_lt h1.1,Nat.div_eq_of_lt h1.1,digs_zero]
  ·have hpos:0<a.length:=by
    rcases a with _ | ⟨x,a⟩
    ·exact absurd rfl ha
    ·simp
   have hlast:∀ hk:0<a.length,a[a.length-1]≠0:=fun _=>by
    have:=hn (by simp)
    simp only[List.length_cons,Nat.add_sub_cancel] at this
    rw[List.getElem_cons] at this
    rw[dif_neg (by omega)] at this
    exact this
   have ih:=ih h1.2 hlast
   have hne:val a≠0:=by
    intro h0
    rw[h0,digs_zero] at ih
    exact ha ih.symm
   have h0:d+B*val a≠0:=by
    have:0<B*val a:=Nat.mul_pos B_pos (by omega)
    omega
   simp only[val]
   rw[digs_pos h0,Nat.add_mul_mod_self_left,Nat.mod_eq_of_lt h1.1,Nat.add_mul_div_left _ _ B_pos,Nat.div_eq_of_lt h1.1,Nat.zero_add,ih]
theorem digs_last {x:Nat} (h:0<(digs x).length):(digs x)[(digs x).length-1]≠0:=by
 induction x using Nat.strongRecOn with
 | ind x ih =>
  by_cases h0:x=0
  ·subst h0; rw[digs_zero] at h; simp at h
  ·have e:=digs_pos h0
   by_cases h1:x/B=0
   ·have e2:digs x=[x%B]:=by rw[e,h1,digs_zero]
    simp only[e2,List.length_singleton,Nat.sub_self,List.getElem_cons_zero]
    have:x<B:=by
     rcases Nat.lt_or_ge x B with h | h
     ·exact h
     ·have:=Nat.div_pos h B_pos; omega
    rw[Nat.mod_eq_of_lt this]; exact h0
   ·have hp:0<(digs (x/B)).length:=by
     rw[digs_pos h1]; simp
    have:=ih _ (Nat.div_lt_self (by omega) (by decide)) hp
    simp only[e,List.length_cons,Nat.add_sub_cancel]
    rw[List.getElem_cons,dif_neg (by omega)]
    exact this
theorem digs_len_le {x n:Nat}:(digs x).length≤n↔x<B^n:=by
 constructor
 ·intro h
  have:=val_lt_of (ok_digs x) h
  rwa [val_digs] at this
 ·intro h
  rcases Nat.lt_or_ge n (digs x).length with hlt | hge
  ·exfalso
   have hp:0<(digs x).length:=by omega
   have h1:=digs_last hp
   have h2:=get_val (ok_digs x) (k:=(digs x).length-1) (by omega)
   rw[val_digs] at h2
   have h3:x/B^((digs x).length-1)=0:=by
    apply Nat.div_eq_of_lt
    exact Nat.lt_of_lt_of_le h (Nat.pow_le_pow_right B_pos (by omega))
   rw[h3] at h2
   exact h1 h2
  ·exact hge
theorem digs_len_lt {x n:Nat}:n<(digs x).length↔B^n≤x:=by
 have:=@digs_len_le x n
 omega
theorem take_digs {a:List Nat} (h:ok a) {n:Nat} (hn:n≤a.length) (h0:∀ k (hk:k<a.length),n≤k→a[k]=0) (h1:∀ hk:0<n,a[n-1]'(by omega)≠0):a.take n=digs (val a):=by
 have hz:a.drop n=List.replicate (a.length-n) 0:=by
  apply List.ext_getElem
  ·simp
  ·intro i hi hj
   simp only[List.getElem_drop,List.getElem_replicate]
   exact h0 _ _ (by omega)
 have hv:val a=val (a.take n):=by
  rw[val_split a n,hz,val_rep]; omega
 rw[hv]
 refine (digs_of (ok_take h n) fun hk=>?_).symm
 simp only[List.length_take,Nat.min_eq_left hn] at hk ⊢
 simp only[List.getElem_take]
 exact h1 hk
theorem digs_digs_norm {a:List Nat} (h:ok a):(digs (val a)).length≤a.length:=digs_len_le.2 (val_lt h)
def itr {σ:Type} (f:Nat→σ→σ) (s:σ):Nat→σ
 | 0=>s
 | k+1=>f k (itr f s k)
theorem get_digs {x i:Nat} (h:i<(digs x).length):(digs x)[i]=x/B^i%B:=by
 rw[get_val (ok_digs x) h,val_digs]
theorem len_facts {a:List Nat} (h:ok a):(digs (val a)).length≤a.length∧(∀ i (hi:i<a.length),(digs (val a)).length≤i→a[i]=0) ∧
  (∀ (_h0:0<(digs (val a)).length) (h1:(digs (val a)).length-1<a.length),a[(digs (val a)).length-1]≠0)∧a.take (digs (val a)).length=digs (val a):=by
 have h1:=digs_digs_norm h
 have h2:∀ i (hi:i<a.length),(digs (val a)).length≤i→a[i]=0:=fun i hi hle=>by
  rw[get_val h hi]
  have h3:=digs_len_le.1 hle
  rw[Nat.div_eq_of_lt h3]
  rfl
 have h3:∀ (h0:0<(digs (val a)).length) (h1:(digs (val a)).length-1<a.length),a[(digs (val a)).length-1]≠0:=fun h0 h4=>by
  rw[get_val h h4,← get_digs (by omega)]
  exact digs_last h0
 exact ⟨h1,h2,h3,take_digs h h1 (fun k hk hle=>h2 k hk hle) (fun h0=>h3 h0 (by omega))⟩
theorem cmp_of_high {a b:List Nat} (ha:ok a) (_hb:ok b) (hl:a.length=b.length) {k:Nat} (hk:k<a.length) (heq:a.drop (k+1)=b.drop (k+1)) (hlt:a[k]<b[k]'(by omega)):val a<val b:=by
 have e1:=val_split a (k+1)
 have e2:=val_split b (k+1)
 rw[heq] at e1
 rw[Nat.min_eq_left (by omega)] at e1 e2
 have t1:=val_take_succ hk
 have t2:=val_take_succ (a:=b) (k:=k) (by omega)
 have l1:=val_lt (ok_take ha k)
 rw[List.length_take,Nat.min_eq_left (by omega)] at l1
 have:B^k*(a[k]+1)≤B^k*b[k]'(by omega):=Nat.mul_le_mul_left _ hlt
 rw[Nat.mul_add] at this
 omega
theorem lt_of_len {x y:Nat} (h:(digs x).length<(digs y).length):x<y:=by
 have h1:=digs_len_le.1 (Nat.le_refl (digs x).length)
 have h2:=digs_len_lt.1 h
 omega
theorem col_digit {L t R k:Nat}:(L+B^k*t+B^(k+1)*R)/B^k%B=(L/B^k+t)%B:=by
 have:L+B^k*t+B^(k+1)*R=L+B^k*(t+B*R):=by rw[Nat.pow_succ,Nat.mul_add,Nat.mul_assoc]; omega
 rw[this,Nat.add_mul_div_left _ _ (pw_pos k),← Nat.add_assoc,Nat.add_mul_mod_self_left]
theorem col_carry {L t k:Nat}:(L+B^k*t)/B^(k+1)=(L/B^k+t)/B:=by
 rw[Nat.pow_succ,← Nat.div_div_eq_div_mul,Nat.add_mul_div_left _ _ (pw_pos k)]
def bor (x y k:Nat):Nat:=if x%B^k<y%B^k then 1 else 0
theorem bor_le {x y k:Nat}:bor x y k≤1:=by unfold bor; split<;>omega
theorem bor_zero {x y:Nat}:bor x y 0=0:=by simp[bor,Nat.mod_one]
theorem sub_div {x y P:Nat} (hP:0<P) (h:y≤x):(x-y)/P=x/P-y/P-(if x%P<y%P then 1 else 0)∧y/P+(if x%P<y%P then 1 else 0)≤x/P:=by
 have e1:=Nat.div_add_mod x P
 have e2:=Nat.div_add_mod y P
 have l1:=Nat.mod_lt x hP
 have l2:=Nat.mod_lt y hP
 have hq:y/P≤x/P:=Nat.div_le_div_right h
 generalize x/P=a at *
 generalize y/P=b at *
 generalize x%P=r at *
 generalize y%P=s at *
 obtain ⟨c,rfl⟩:∃ c,a=b+c:=⟨a-b,by omega⟩
 rw[Nat.mul_add] at e1
 by_cases hlt:r<s
 ·simp only[hlt,if_true]
  rcases c with _ | c
  ·simp at e1; omega
  ·rw[Nat.mul_add,Nat.mul_one] at e1
   have:x-y=P*c+(P+r-s):=by omega
   rw[this,Nat.mul_add_div hP,Nat.div_eq_of_lt (by omega)]
   omega
 ·simp only[hlt,if_false]
  have:x-y=P*c+(r-s):=by omega
  rw[this,Nat.mul_add_div hP,Nat.div_eq_of_lt (by omega)]
  omega
theorem sub_digit {x y k:Nat} (h:y≤x):(((x-y)/B^k%B:Nat):Int)=((x/B^k%B:Nat)-(y/B^k%B:Nat)-(bor x y k:Nat):Int)%4294967296:=by
 obtain ⟨h1,h2⟩:=sub_div (pw_pos k) h
 have e:(if x%B^k<y%B^k then 1 else 0)=bor x y k:=rfl
 rw[e] at h1 h2
 rw[h1]
 generalize x/B^k=a at *
 generalize y/B^k=b at *
 generalize bor x y k=c at *
 rw[B_eq]
 omega
theorem bor_succ {x y k:Nat}:bor x y (k+1)=if x/B^k%B<y/B^k%B+bor x y k then 1 else 0:=by
 unfold bor
 rw[Nat.pow_succ,Nat.mod_mul,Nat.mod_mul]
 have l1:=Nat.mod_lt x (pw_pos k)
 have l2:=Nat.mod_lt y (pw_pos k)
 generalize x/B^k%B=a
 generalize y/B^k%B=b
 generalize x%B^k=r at *
 generalize y%B^k=s at *
 generalize B^k=P at *
 rcases Nat.lt_trichotomy a b with h | h | h
 ·have:P*(a+1)≤P*b:=Nat.mul_le_mul_left _ h
  rw[Nat.mul_add] at this
  rw[if_pos (by omega),if_pos (by omega)]
 ·subst h
  by_cases hrs:r<s
  ·rw[if_pos (by omega),if_pos (by rw[if_pos hrs]; omega)]
  ·rw[if_neg (by omega),if_neg (by rw[if_neg hrs]; omega)]
 ·have:P*(b+1)≤P*a:=Nat.mul_le_mul_left _ h
  rw[Nat.mul_add] at this
  rw[if_neg (by omega),if_neg (by split<;>omega)]
theorem getD_digs {x i:Nat}:(digs x)[i]?.getD 0=x/B^i%B:=by
 by_cases h:i<(digs x).length
 ·rw[List.getElem?_eq_getElem h,Option.getD_some,get_digs h]
 ·rw[List.getElem?_eq_none (by omega),Option.getD_none]
  have:=digs_len_le.1 (Nat.le_of_not_lt h)
  rw[Nat.div_eq_of_lt this]; rfl
end Go.Dig

namespace Go.Proofs.Ytbgnkodhpbkdoaa
open Go Go.Am Go.Dig
theorem wrap_succ {k:Nat} (h:k<4611686018427387904):IntKind.i64.wrap ((k:Int)+1)=((k+1:Nat):Int):=by
 rw[wrap64]<;>omega
abbrev uv (n:Nat):AV:=.val (.int .u32 (n:Int))
abbrev drows (a:List Nat):List (List AV):=a.map fun d=>[uv d]
abbrev nl (m:Am.Mode) (a:List Nat):AV:=.list 1 m (drows a)
abbrev nD (x:Nat):AV:=nl .plain (digs x)
theorem imp_full {sz:Nat} {rows:List (List AV)}:AV.imp (.list sz .full rows) (.list sz .plain rows):=fun I w v h=>by
 cases h with
 | listNil _ _ a cap hm ho=>exact .listNil _ _ a cap (by simp) (by simp)
 | list _ _ _ b o cap g hcap hm ho hrow hcell hc=>exact .list _ _ _ b o cap g hcap (by simp) (by simp) hrow hcell hc
theorem imp_outV {sz:Nat} {rows:List (List AV)}:AV.imp (outV sz rows) (.list sz .plain rows):=by
 unfold outV
 by_cases h:rows=[]
 ·subst h; simp only[if_true]; exact AV.imp_nil rfl
 ·simp only[h,if_false]; exact AV.imp.refl
theorem w32 (n:Nat):IntKind.u32.wrap (n:Int)=((n%B:Nat):Int):=by
 rw[IntKind.wrap_u32,B_eq]; omega
theorem w64 {n:Nat} (h:n<18446744073709551616):IntKind.u64.wrap (n:Int)=n:=IntWalk.u64_in n (by omega)
theorem w64' {n:Int} (h:0≤n) (h2:n<18446744073709551616):IntKind.u64.wrap n=n:=IntWalk.u64_in n (by omega)
def stTr (m:Am.Mode) (a:List Nat) (k:Nat):St:={env:=[(0,nl m a),(3,iv ((a.length-k:Nat):Int))],sto:=[]}
theorem trim_sound {m:Am.Mode} {a:List Nat} (ha:ok a) (hn:a.length<1099511627776):SoundCall Try.prog F_n_trim [nl m a] (nD (val a)):=by
 obtain ⟨h1,h2,h3,h4⟩:=len_facts ha
 refine soundW' t_n_trim (by simp) ?_
 simp[c_n_trim]
 generalize hT:(digs (val a)).length=T at h1 h2 h3 h4
 refine awp_for (stTr m a) (a.length-T) ?_ (fun k hk=>?_) ?_
 ·simp[stTr]
 ·have hp:0<a.length-k:=by omega
  have hp2:k<a.length:=by omega
  have w:IntKind.i64.wrap (((a.length-k:Nat):Int)-1)=((a.length-(k+1):Nat):Int):=by rw[wrap64]<;>omega
  have hlt:a.length-(k+1)<a.length:=by omega
  have hz:=h2 (a.length-(k+1)) hlt (by omega)
  simp[c_n_trim_l0,stTr,hp,w,hlt,hz]
 ·have e:a.length-(a.length-T)=T:=by omega
  rcases T with _ | T
  ·have h5:digs (val a)=[]:=by rw[← h4]; rfl
   simp[c_n_trim_l0,stTr,c_n_trim_k1,r_n_trim]
   rw[show nD (val a)=.list 1 .plain [] by simp only[nD,nl,drows,h5,List.map_nil]]
   exact imp_full
  ·have w:IntKind.i64.wrap (((T+1:Nat):Int)-1)=(T:Int):=by rw[wrap64]<;>omega
   have hz:=h3 (by omega) (by omega)
   simp only[Nat.add_sub_cancel] at hz
   have hlt:T<a.length:=by omega
   have ht:List.take (T+1) (drows a)=drows (digs (val a)):=by rw[← h4]; simp
   have en:((T:Int)+1).toNat=T+1:=by omega
   have e0:(0:Int)≤(T:Int)+1:=by omega
   have e1:(T:Int)+1≤a.length:=by omega
   simp at w
   simp[c_n_trim_l0,stTr,e,w,hlt,hz,e0,e1,en,c_n_trim_k1,r_n_trim]
   first | (rw[ht]; exact imp_full) | (simp only[← List.map_take]; rw[h4]; exact imp_full)
theorem valid_sound {m:Am.Mode} {a:List Nat} (ha:ok a) (hn:a.length<1099511627776):SoundCall Try.prog F_n_Valid [nl m a] (bv (decide (a=digs (val a)))):=by
 refine sound' t_n_Valid (by simp) ?_
 simp[c_n_Valid]
 refine eCall_i (trim_sound (m:=stm m) ha hn) (by simp[strip_list]) (by simp) ?_
 obtain ⟨h1,h2,h3,h4⟩:=len_facts ha
 have:decide ((((digs (val a)).length:Nat):Int)=(a.length:Int))=decide (a=digs (val a)):=by
  by_cases h:(digs (val a)).length=a.length
  ·have:a=digs (val a):=by rw[← h4,h]; simp
   simp[← this]
  ·have:a≠digs (val a):=fun e=>h (congrArg List.length e.symm)
   have h':¬ (((digs (val a)).length:Nat):Int)=(a.length:Int):=by omega
   simp[this]
   omega
 simp[r_n_Valid]
 simpa using this
end Go.Proofs.Ytbgnkodhpbkdoaa

namespace Go.Proofs.Ytbgnkodhpbkdoaa
open Go Go.Am Go.Dig
theorem wu64 (n:Int):IntKind.u64.wrap n=n%18446744073709551616:=by simp[IntKind.wrap,IntKind.bits,IntKind.signed]
abbrev u64v (n:Nat):AV:=.val (.int .u64 (n:Int))
theorem shr32 (n:Nat):(n:Int).fdiv (2^min 32 IntKind.u64.bits)=((n/B:Nat):Int):=by
 have:min 32 IntKind.u64.bits=32:=rfl
 rw[this,Int.fdiv_eq_ediv_of_nonneg _ (by decide),B_eq]
 rfl
theorem drows_set {a:List Nat} {k d:Nat}:(drows a).set k [uv d]=drows (a.set k d):=by simp[List.map_set]
theorem val_take_all {b:List Nat} {k:Nat} (h:b.length≤k):val (b.take k)=val b:=by rw[List.take_of_length_le h]
theorem val_take_le {a:List Nat} (h:ok a) (k:Nat):val (a.take k)<B^k:=val_lt_of (ok_take h k) (by simp; omega)
def low (a b:List Nat) (k:Nat):Nat:=val (a.take k)+val (b.take k)
def car (a b:List Nat) (k:Nat):Nat:=low a b k/B^k
theorem car_le {a b:List Nat} (ha:ok a) (hb:ok b) (k:Nat):car a b k≤1:=by
 have h1:=val_take_le ha k
 have h2:=val_take_le hb k
 have:low a b k<2*B^k:=by unfold low; omega
 have:=Nat.div_lt_of_lt_mul (Nat.mul_comm 2 _▸this)
 unfold car
 omega
theorem car_zero {a b:List Nat}:car a b 0=0:=by simp[car,low,val]
theorem low_split {a b:List Nat} {k t R:Nat} (h:low a b (k+1)=low a b k+B^k*t) (hs:val a+val b=low a b (k+1)+B^(k+1)*R) :
  (val a+val b)/B^k%B=(car a b k+t)%B∧car a b (k+1)=(car a b k+t)/B:=by
 constructor
 ·rw[hs,h,col_digit]; rfl
 ·unfold car; rw[h,col_carry]
theorem low_rest (a b:List Nat) (k:Nat) (ha:k≤a.length) (hb:k≤b.length∨b.length≤k):∃ R,val a+val b=low a b k+B^k*R:=by
 have e1:=val_split a k
 rw[Nat.min_eq_left ha] at e1
 rcases hb with hb | hb
 ·have e2:=val_split b k
  rw[Nat.min_eq_left hb] at e2
  exact ⟨val (a.drop k)+val (b.drop k),by unfold low; rw[Nat.mul_add]; omega⟩
 ·exact ⟨val (a.drop k),by unfold low; rw[val_take_all hb]; omega⟩
theorem add_col {a b:List Nat} {k:Nat} (hk:k<a.length) (hb:k<b.length∨b.length≤k):∃ t,t=car a b k+(a[k]+(b[k]?.getD 0))∧(val a+val b)/B^k%B=t%B∧car a b (k+1)=t/B:=by
 refine ⟨_,rfl,?_⟩
 obtain ⟨R,hR⟩:=low_rest a b (k+1) (by omega) (by omega)
 rcases hb with hb | hb
 ·rw[List.getElem?_eq_getElem hb,Option.getD_some]
  exact low_split (by unfold low; rw[val_take_succ hk,val_take_succ hb,Nat.mul_add]; omega) hR
 ·rw[List.getElem?_eq_none hb,Option.getD_none]
  exact low_split (by unfold low; rw[val_take_succ hk,val_take_all hb,val_take_all (show b.length≤k+1 by omega)]; simp; omega) hR
def stAdd (m1 m2:Am.Mode) (a b:List Nat) (k:Nat):St :=
 {env:=[(0,nl m1 a),(1,nl m2 b),(5,.sl 19 1 0 (a.length+1)),(6,u64v (car a b k)),(21,iv a.length),(22,iv k)],sto:=[(19,.arr 1 (drows (fillN (a.length+1) k (val a+val b))))]}
theorem add_loop {m1 m2:Am.Mode} {a b:List Nat} (ha:ok a) (hb:ok b) (hl:b.length≤a.length) (hn:a.length<1099511627775) :
  awp Try.prog (.loop c_n_Add_l0) (stAdd m1 m2 a b 0) (blockC 0 (seqC Try.prog c_n_Add_k1 (retW r_n_Add (nD (val a+val b))))):=by
 have hS:val a+val b<B^(a.length+1):=by
  have h1:=val_lt ha
  have h2:=val_lt_of hb hl
  rw[Nat.pow_succ,B_eq] at *
  omega
 refine awp_forW (stAdd m1 m2 a b) (fun _=>True) a.length (by simp[stAdd]) trivial (fun k hk _=>?_) (fun _=>?_)
 ·have e:(k:Int)<a.length:=by omega
  have hc:=car_le ha hb k
  have hak:=ok_get ha hk
  have hfl:=fillN_len (n:=a.length+1) (k:=k) (S:=val a+val b) (by omega)
  have hfk:k<(fillN (a.length+1) k (val a+val b)).length:=by omega
  have hset:=fillN_set (n:=a.length+1) (k:=k) (S:=val a+val b) (by omega)
  have e1:IntKind.u64.wrap ((a[k]:Nat):Int)=(a[k]:Nat):=w64 (by rw[B_eq] at hak; omega)
  obtain ⟨t,ht,g1,g2⟩:=add_col (a:=a) (b:=b) hk (by omega)
  rw[g1] at hset
  obtain ⟨d,hd⟩:∃ d,t%B=d:=⟨_,rfl⟩
  obtain ⟨q,hq⟩:∃ q,t/B=q:=⟨_,rfl⟩
  have f1:IntKind.u32.wrap (t:Int)=(d:Int):=by rw[w32,hd]
  have f2:(t:Int).fdiv (2^min 32 IntKind.u64.bits)=(q:Int):=by rw[shr32,hq]
  rw[hd] at hset
  have hset':(drows (fillN (a.length+1) k (val a+val b))).set k [uv d]=drows (fillN (a.length+1) (k+1) (val a+val b)):=by rw[drows_set,hset]
  rw[hq] at g2
  rw[B_eq] at hak
  have e4:IntKind.u64.wrap ((a[k]:Int)+(car a b k:Int))=((a[k]:Int)+(car a b k:Int)):=by rw[w64']<;>omega
  by_cases hkb:k<b.length
  ·have e2:(k:Int)<b.length:=by omega
   have hbk:=ok_get hb hkb
   rw[B_eq] at hbk
   rw[List.getElem?_eq_getElem hkb,Option.getD_some] at ht
   have e3:IntKind.u64.wrap ((b[k]:Nat):Int)=(b[k]:Nat):=w64 (by omega)
   have e5:IntKind.u64.wrap ((a[k]:Int)+(car a b k:Int)+(b[k]:Int))=(t:Int):=by rw[w64']<;>omega
   simp[c_n_Add_l0,stAdd,e,e2,hk,hkb,e1,e3,e4,e5,eBin_shr,hfk,splice,f1,f2,hset',g2,wrap_succ (show k<4611686018427387904 by omega)]
   omega
  ·have e2:¬ (k:Int)<b.length:=by omega
   rw[List.getElem?_eq_none (by omega),Option.getD_none] at ht
   have e5:(a[k]:Int)+(car a b k:Int)=(t:Int):=by omega
   rw[e5] at e4
   simp[c_n_Add_l0,stAdd,e,e2,hk,e1,e5,e4,eBin_shr,hfk,splice,f1,f2,hset',g2,wrap_succ (show k<4611686018427387904 by omega)]
   omega
 ·have hfl:=fillN_len (n:=a.length+1) (k:=a.length) (S:=val a+val b) (by omega)
  have hfk:a.length<(fillN (a.length+1) a.length (val a+val b)).length:=by omega
  have hset:=fillN_set (n:=a.length+1) (k:=a.length) (S:=val a+val b) (by omega)
  have hc:=car_le ha hb a.length
  have hcl:(val a+val b)/B^a.length%B=car a b a.length:=by
   have h1:car a b a.length=(val a+val b)/B^a.length:=by
    unfold car low; rw[val_take_all (Nat.le_refl _),val_take_all hl]
   rw[← h1,Nat.mod_eq_of_lt (by rw[B_eq]; omega)]
  rw[hcl] at hset
  have hset':(drows (fillN (a.length+1) a.length (val a+val b))).set a.length [uv (car a b a.length)]=drows (digsN (a.length+1) (val a+val b)):=by rw[drows_set,hset,fillN_all]
  have f1:IntKind.u32.wrap (car a b a.length:Int)=(car a b a.length:Int):=IntWalk.u32_in _ (by omega)
  have hle:a.length+1≤(digsN (a.length+1) (val a+val b)).length:=by rw[digsN_len]; exact Nat.le_refl _
  have htk:(drows (digsN (a.length+1) (val a+val b))).take (a.length+1)=drows (digsN (a.length+1) (val a+val b)):=List.take_of_length_le (by rw[List.length_map,digsN_len]; exact Nat.le_refl _)
  have key:=trim_sound (m:=.plain) (a:=digsN (a.length+1) (val a+val b)) ok_digsN (by rw[digsN_len]; omega)
  rw[val_digsN_lt hS] at key
  simp[c_n_Add_l0,stAdd,c_n_Add_k1,hfk,splice,f1,hset',eFreeze,frzE,htk,hle]
  refine ⟨by omega,?_⟩
  refine eCall_i key (by simp) (by simp) ?_
  simp[r_n_Add]
  exact AV.imp.refl
theorem add_sound {m1 m2:Am.Mode} {a b:List Nat} (ha:ok a) (hb:ok b) (hna:a.length<1099511627775) (hnb:b.length<1099511627775):SoundCall Try.prog F_n_Add [nl m1 a,nl m2 b] (nD (val a+val b)):=by
 refine soundW' t_n_Add (by simp) ?_
 by_cases h:a.length<b.length
 ·have h':(a.length:Int)<b.length:=by omega
  have w:IntKind.i64.wrap ((b.length:Int)+1)=(b.length:Int)+1:=wrap64 (by omega) (by omega)
  have key:=add_loop (m1:=m2) (m2:=m1) hb ha (by omega) (by omega)
  rw[Nat.add_comm (val b)] at key
  have e1:((b.length:Int)+1).toNat=b.length+1:=by omega
  simp[c_n_Add,h',w,eMk,e1]
  refine ⟨by omega,by omega,by omega,?_⟩
  have e2:stAdd m2 m1 b a 0={env:=[(0,nl m2 b),(1,nl m1 a),(5,.sl 19 1 0 (b.length+1)),(6,u64v 0),(21,iv b.length),(22,iv 0)],sto:=[(19,.arr 1 (List.replicate (b.length+1) [uv 0]))]}:=by
   simp[stAdd,car_zero,fillN_zero]
  rw[e2] at key
  exact key
 ·have h':¬ (a.length:Int)<b.length:=by omega
  have w:IntKind.i64.wrap ((a.length:Int)+1)=(a.length:Int)+1:=wrap64 (by omega) (by omega)
  have key:=add_loop (m1:=m1) (m2:=m2) ha hb (by omega) (by omega)
  have e1:((a.length:Int)+1).toNat=a.length+1:=by omega
  simp[c_n_Add,h',w,eMk,e1]
  refine ⟨by omega,by omega,by omega,?_⟩
  have e2:stAdd m1 m2 a b 0={env:=[(0,nl m1 a),(1,nl m2 b),(5,.sl 19 1 0 (a.length+1)),(6,u64v 0),(21,iv a.length),(22,iv 0)],sto:=[(19,.arr 1 (List.replicate (a.length+1) [uv 0]))]}:=by
   simp[stAdd,car_zero,fillN_zero]
  rw[e2] at key
  exact key
end Go.Proofs.Ytbgnkodhpbkdoaa

namespace Go.Proofs.Ytbgnkodhpbkdoaa
open Go Go.Am Go.Dig
def cmpN (x y:Nat):Int:=if x<y then -1 else if y<x then 1 else 0
def stCmp (x y:Nat) (k:Nat):St:={env:=[(0,nD x),(1,nD y),(22,iv (digs x).length),(23,iv k)],sto:=[]}
theorem cmp_sound {m1 m2:Am.Mode} {a b:List Nat} (ha:ok a) (hb:ok b) (hna:a.length<1099511627776) (hnb:b.length<1099511627776):SoundCall Try.prog F_n_Cmp [nl m1 a,nl m2 b] (iv (cmpN (val a) (val b))):=by
 refine sound' t_n_Cmp (by simp) ?_
 simp[c_n_Cmp]
 refine eCall_i (trim_sound (m:=stm m1) ha hna) (by simp[strip_list]) (by simp) ?_
 simp
 refine eCall_i (trim_sound (m:=stm m2) hb hnb) (by simp[strip_list]) (by simp) ?_
 have lx:=digs_digs_norm ha
 have ly:=digs_digs_norm hb
 generalize val a=x at *
 generalize val b=y at *
 by_cases hl:(digs x).length=(digs y).length
 ·have hl':(((digs x).length:Nat):Int)=((digs y).length:Int):=by omega
  simp[hl']
  refine awp_forW (stCmp x y) (fun k=>(digs x).drop ((digs x).length-k)=(digs y).drop ((digs x).length-k)) (digs x).length (by simp[stCmp,hl]) (by simp[hl]) (fun k hk hi=>?_) (fun hi=>?_)
  ·have e:(k:Int)<(digs x).length:=by omega
   have w:IntKind.i64.wrap (((digs x).length:Int)-1-k)=(((digs x).length-1-k:Nat):Int):=by rw[wrap64]<;>omega
   have w0:IntKind.i64.wrap (((digs x).length:Int)-1)=((digs x).length:Int)-1:=by rw[wrap64]<;>omega
   obtain ⟨j,hj⟩:∃ j,(digs x).length-1-k=j:=⟨_,rfl⟩
   rw[hj] at w
   have hjx:j<(digs x).length:=by omega
   have hjy:j<(digs y).length:=by omega
   have ejx:(j:Int)<(digs x).length:=by omega
   have ejy:(j:Int)<(digs y).length:=by omega
   have hd:(digs x).drop (j+1)=(digs y).drop (j+1):=by
    have:j+1=(digs x).length-k:=by omega
    rw[this]; exact hi
   rcases Nat.lt_trichotomy (digs x)[j] (digs y)[j] with h | h | h
   ·have hlt:=cmp_of_high (ok_digs x) (ok_digs y) hl hjx hd h
    rw[val_digs,val_digs] at hlt
    have hc:cmpN x y=-1:=by simp[cmpN,hlt]
    simp[c_n_Cmp_l0,stCmp,e,w0,w,hjx,hjy,ejx,ejy,h,r_n_Cmp,hc]
   ·have hnext:(digs x).drop ((digs x).length-(k+1))=(digs y).drop ((digs x).length-(k+1)):=by
     have:(digs x).length-(k+1)=j:=by omega
     rw[this,List.drop_eq_getElem_cons hjx,List.drop_eq_getElem_cons hjy,h,hd]
    simp[c_n_Cmp_l0,stCmp,e,w0,w,hjx,hjy,ejx,ejy,h,wrap_succ (show k<4611686018427387904 by omega),hnext]
   ·have hlt:=cmp_of_high (ok_digs y) (ok_digs x) hl.symm hjy hd.symm h
    rw[val_digs,val_digs] at hlt
    have hn:¬ (digs x)[j]<(digs y)[j]:=by omega
    have hc:cmpN x y=1:=by
     have:¬ x<y:=by omega
     simp[cmpN,hlt,this]
    simp[c_n_Cmp_l0,stCmp,e,w0,w,hjx,hjy,ejx,ejy,h,hn,r_n_Cmp,hc]
  ·have hxy:x=y:=digs_inj (by simpa using hi)
   have hc:cmpN x y=0:=by simp[cmpN,hxy]
   simp[c_n_Cmp_l0,stCmp,c_n_Cmp_k1,r_n_Cmp,hc]
 ·have hl':¬ (((digs x).length:Nat):Int)=((digs y).length:Int):=by omega
  by_cases hlt:(digs x).length<(digs y).length
  ·have hlt':(((digs x).length:Nat):Int)<((digs y).length:Int):=by omega
   have hc:cmpN x y=-1:=by simp[cmpN,lt_of_len hlt]
   simp[hl',hlt',r_n_Cmp,hc]
  ·have hlt':¬ (((digs x).length:Nat):Int)<((digs y).length:Int):=by omega
   have h2:=lt_of_len (show (digs y).length<(digs x).length by omega)
   have hc:cmpN x y=1:=by
    have:¬ x<y:=by omega
    simp[cmpN,h2,this]
   simp[hl',hlt',r_n_Cmp,hc]
theorem wsub (u v:Int):IntKind.u64.wrap (IntKind.u64.wrap u-v)=IntKind.u64.wrap (u-v):=by
 rw[wu64,wu64,wu64]; omega
theorem w3264 (u:Int):IntKind.u32.wrap (IntKind.u64.wrap u)=u%4294967296:=by
 rw[wu64,IntKind.wrap_u32]; omega
theorem shr63 {u:Int} (h1:-8589934592≤u) (h2:u<8589934592):(IntKind.u64.wrap u).fdiv (2^min 63 IntKind.u64.bits)=if u<0 then 1 else 0:=by
 have:min 63 IntKind.u64.bits=63:=rfl
 rw[this,Int.fdiv_eq_ediv_of_nonneg _ (by decide),wu64]
 have:(2:Int)^63=9223372036854775808:=by decide
 rw[this]
 split<;>omega
def stSub (x y:Nat) (k:Nat):St :=
 {env:=[(0,nD x),(1,nD y),(6,.sl 20 1 0 (digs x).length),(7,u64v (bor x y k)),(22,iv (digs x).length),(23,iv k)],sto:=[(20,.arr 1 (drows (fillN (digs x).length k (x-y))))]}
theorem sub_sound {m1 m2:Am.Mode} {a b:List Nat} (ha:ok a) (hb:ok b) (hna:a.length<1099511627776) (hnb:b.length<1099511627776) :
  SoundCall Try.prog F_n_Sub [nl m1 a,nl m2 b] (if val a<val b then .tuple [.list 0 .full [],bv false] else .tuple [nD (val a-val b),bv true]):=by
 refine soundW' t_n_Sub (by simp) ?_
 simp[c_n_Sub]
 refine eCall_i (trim_sound (m:=stm m1) ha hna) (by simp[strip_list]) (by simp) ?_
 simp
 refine eCall_i (trim_sound (m:=stm m2) hb hnb) (by simp[strip_list]) (by simp) ?_
 simp
 have lx:=digs_digs_norm ha
 have ly:=digs_digs_norm hb
 have key:=cmp_sound (m1:=.plain) (m2:=.plain) (ok_digs (val a)) (ok_digs (val b)) (by omega) (by omega)
 rw[val_digs,val_digs] at key
 refine eCall_i key (by simp) (by simp) ?_
 generalize val a=x at *
 generalize val b=y at *
 by_cases hlt:x<y
 ·simp[cmpN,hlt,r_n_Sub]
  exact AV.imp.refl
 ·have hle:y≤x:=by omega
  have hly:(digs y).length≤(digs x).length:=by
   apply Nat.le_of_not_lt
   intro h
   have:=lt_of_len h
   omega
  have hS:x-y<B^(digs x).length:=by
   have:=digs_len_le.1 (Nat.le_refl (digs x).length)
   omega
  have hc:¬ cmpN x y<0:=by
   simp only[cmpN,hlt,if_false]
   split<;>omega
  simp[hc,hlt,eMk]
  refine ⟨by omega,by omega,?_⟩
  refine awp_forW (stSub x y) (fun _=>True) (digs x).length (by simp[stSub,bor_zero,fillN_zero]) trivial (fun k hk _=>?_) (fun _=>?_)
  ·have e:(k:Int)<(digs x).length:=by omega
   have hak:=ok_get (ok_digs x) hk
   have hb1:=bor_le (x:=x) (y:=y) (k:=k)
   have hfl:=fillN_len (n:=(digs x).length) (k:=k) (S:=x-y) (by omega)
   have hfk:k<(fillN (digs x).length k (x-y)).length:=by omega
   have hset:=fillN_set (n:=(digs x).length) (k:=k) (S:=x-y) (by omega)
   have hsd:=sub_digit (k:=k) hle
   have hbs:=bor_succ (x:=x) (y:=y) (k:=k)
   rw[← get_digs hk] at hsd hbs
   obtain ⟨d,hd⟩:∃ d,(x-y)/B^k%B=d:=⟨_,rfl⟩
   rw[hd] at hset hsd
   have hset':(drows (fillN (digs x).length k (x-y))).set k [uv d]=drows (fillN (digs x).length (k+1) (x-y)):=by rw[drows_set,hset]
   have e1:IntKind.u64.wrap (((digs x)[k]:Nat):Int)=((digs x)[k]:Nat):=w64 (by rw[B_eq] at hak; omega)
   rw[B_eq] at hak
   by_cases hkb:k<(digs y).length
   ·have e2:(k:Int)<(digs y).length:=by omega
    have hbk:=ok_get (ok_digs y) hkb
    rw[B_eq] at hbk
    rw[← get_digs hkb] at hsd hbs
    have e3:IntKind.u64.wrap (((digs y)[k]:Nat):Int)=((digs y)[k]:Nat):=w64 (by omega)
    have e5:=wsub (((digs x)[k]:Nat)-(bor x y k:Nat):Int) ((digs y)[k]:Nat)
    have e6:=w3264 (((digs x)[k]:Nat)-(bor x y k:Nat)-((digs y)[k]:Nat):Int)
    have e7:=shr63 (u:=(((digs x)[k]:Nat)-(bor x y k:Nat)-((digs y)[k]:Nat):Int)) (by omega) (by omega)
    have e8:(((digs x)[k]:Nat)-(bor x y k:Nat)-((digs y)[k]:Nat):Int)%4294967296=(d:Int):=by omega
    rw[e8] at e6
    have e9:(if (((digs x)[k]:Nat)-(bor x y k:Nat)-((digs y)[k]:Nat):Int)<0 then (1:Int) else 0)=(bor x y (k+1):Int):=by
     rw[hbs]
     split<;>split<;>omega
    rw[e9] at e7
    simp[c_n_Sub_l0,stSub,e,e2,hk,hkb,e1,e3,e5,e6,e7,eBin_shr,hfk,splice,hset',wrap_succ (show k<4611686018427387904 by omega)]
   ·have e2:¬ (k:Int)<(digs y).length:=by omega
    have hy0:y/B^k%B=0:=by rw[← getD_digs,List.getElem?_eq_none (by omega)]; rfl
    rw[hy0] at hsd hbs
    have e6:=w3264 (((digs x)[k]:Nat)-(bor x y k:Nat):Int)
    have e7:=shr63 (u:=(((digs x)[k]:Nat)-(bor x y k:Nat):Int)) (by omega) (by omega)
    have e8:(((digs x)[k]:Nat)-(bor x y k:Nat):Int)%4294967296=(d:Int):=by omega
    rw[e8] at e6
    have e9:(if (((digs x)[k]:Nat)-(bor x y k:Nat):Int)<0 then (1:Int) else 0)=(bor x y (k+1):Int):=by
     rw[hbs]
     split<;>split<;>omega
    rw[e9] at e7
    simp[c_n_Sub_l0,stSub,e,e2,hk,e1,e6,e7,eBin_shr,hfk,splice,hset',wrap_succ (show k<4611686018427387904 by omega)]
  ·have htk:(drows (digsN (digs x).length (x-y))).take (digs x).length=drows (digsN (digs x).length (x-y)):=List.take_of_length_le (by rw[List.length_map,digsN_len]; exact Nat.le_refl _)
   have hle2:(digs x).length≤(digsN (digs x).length (x-y)).length:=by rw[digsN_len]; exact Nat.le_refl _
   have key:=trim_sound (m:=.plain) (a:=digsN (digs x).length (x-y)) ok_digsN (by rw[digsN_len]; omega)
   rw[val_digsN_lt hS] at key
   simp[c_n_Sub_l0,stSub,fillN_all,c_n_Sub_k1,eFreeze,frzE,htk,hle2]
   refine eCall_i key (by simp) (by simp) ?_
   simp[r_n_Sub]
   exact AV.imp.refl
end Go.Proofs.Ytbgnkodhpbkdoaa

namespace Go.Dig
theorem val_set {o:List Nat} {j d:Nat} (hj:j<o.length):val (o.set j d)+B^j*o[j]=val o+B^j*d:=by
 induction o generalizing j with
 | nil=>simp at hj
 | cons x o ih =>
  rcases j with _ | j
  ·simp[val]; omega
  ·simp only[List.length_cons,Nat.add_lt_add_iff_right] at hj
   have:=ih hj
   simp only[List.set_cons_succ,val,List.getElem_cons_succ,Nat.pow_succ]
   have e1:B^j*B*o[j]=B*(B^j*o[j]):=by rw[Nat.mul_comm (B^j) B,Nat.mul_assoc]
   have e2:B^j*B*d=B*(B^j*d):=by rw[Nat.mul_comm (B^j) B,Nat.mul_assoc]
   rw[e1,e2]
   have e3:B*(val (o.set j d)+B^j*o[j])=B*(val o+B^j*d):=by rw[this]
   rw[Nat.mul_add,Nat.mul_add] at e3
   omega
def mulStep (a b:List Nat) (i k:Nat) (s:List Nat × Nat):List Nat × Nat :=
 let t:=a.getD i 0*b.getD k 0+s.1.getD (i+k) 0+s.2
 (s.1.set (i+k) (t%B),t/B)
def mulO (a b:List Nat):Nat→List Nat
 | 0=>List.replicate (a.length+b.length) 0
 | i+1=>let s:=itr (mulStep a b i) (mulO a b i,0) b.length; s.1.set (i+b.length) s.2
def mulI (a b:List Nat) (i k:Nat):List Nat × Nat:=itr (mulStep a b i) (mulO a b i,0) k
theorem mulI_zero {a b:List Nat} {i:Nat}:mulI a b i 0=(mulO a b i,0):=rfl
theorem mulO_succ {a b:List Nat} {i:Nat}:mulO a b (i+1)=(mulI a b i b.length).1.set (i+b.length) (mulI a b i b.length).2:=rfl
theorem mulI_succ {a b:List Nat} {i k:Nat}:mulI a b i (k+1)=mulStep a b i k (mulI a b i k):=rfl
structure MulInv (a b o:List Nat) (c i k:Nat):Prop where
 len:o.length=a.length+b.length
 ok:ok o
 lt:c<B
 val:val o+B^(i+k)*c=val (a.take i)*val b+B^i*(a.getD i 0*val (b.take k))
 zero:∀ j (hj:j<o.length),i+b.length≤j→o[j]=0
theorem ok_getD {a:List Nat} (h:ok a) (i:Nat):a.getD i 0<B:=by
 rw[List.getD_eq_getElem?_getD]
 by_cases hi:i<a.length
 ·rw[List.getElem?_eq_getElem hi]; exact ok_get h hi
 ·rw[List.getElem?_eq_none (by omega)]; exact B_pos
theorem mul_bound {x y z w:Nat} (hx:x<B) (hy:y<B) (hz:z<B) (hw:w<B):x*y+z+w<B*B:=by
 have h:x*y≤(B-1)*(B-1):=Nat.mul_le_mul (by omega) (by omega)
 have:(B-1)*(B-1)+(B-1)+(B-1)<B*B:=by decide
 omega
theorem mul_step {a b o:List Nat} {c i k:Nat} (ha:ok a) (hb:ok b) (hi:i<a.length) (hk:k<b.length) (h:MulInv a b o c i k) :
  MulInv a b (mulStep a b i k (o,c)).1 (mulStep a b i k (o,c)).2 i (k+1):=by
 have hlen:=h.len
 have hik:i+k<o.length:=by omega
 obtain ⟨t,ht⟩:∃ t,t=a.getD i 0*b.getD k 0+o.getD (i+k) 0+c:=⟨_,rfl⟩
 have hbd:=mul_bound (ok_getD ha i) (ok_getD hb k) (ok_getD h.ok (i+k)) h.lt
 rw[← ht] at hbd
 simp only[mulStep,← ht]
 constructor
 ·simp[hlen]
 ·exact ok_set h.ok (Nat.mod_lt _ B_pos)
 ·exact Nat.div_lt_of_lt_mul hbd
 ·have e1:=val_set (o:=o) (j:=i+k) (d:=t%B) hik
  have e2:=Nat.mod_add_div t B
  have e3:=h.val
  have e4:=val_take_succ hk
  have e5:o.getD (i+k) 0=o[i+k]:=by simp[hik]
  have e6:b.getD k 0=b[k]:=by simp[hk]
  rw[e5,e6] at ht
  rw[e4]
  have e7:B^(i+(k+1))*(t/B)=B^(i+k)*(B*(t/B)):=by rw[← Nat.add_assoc,Nat.pow_succ,Nat.mul_assoc]
  rw[e7]
  have e8:B^(i+k)*(t%B)+B^(i+k)*(B*(t/B))=B^(i+k)*t:=by rw[← Nat.mul_add,e2]
  have e9:B^(i+k)*t=B^(i+k)*(a.getD i 0*b[k])+B^(i+k)*o[i+k]+B^(i+k)*c:=by rw[ht,Nat.mul_add,Nat.mul_add]
  have e10:B^i*(a.getD i 0*(val (b.take k)+B^k*b[k]))=B^i*(a.getD i 0*val (b.take k))+B^(i+k)*(a.getD i 0*b[k]):=by
   rw[Nat.mul_add,Nat.mul_add,Nat.pow_add]
   congr 1
   rw[Nat.mul_assoc]
   congr 1
   rw[Nat.mul_left_comm]
  rw[e10]
  omega
 ·intro j hj hle
  simp only[List.length_set] at hj
  rw[List.getElem_set_ne (by omega)]
  exact h.zero j hj hle
theorem mul_inner {a b:List Nat} {i:Nat} (ha:ok a) (hb:ok b) (hi:i<a.length) (h:MulInv a b (mulO a b i) 0 i 0):∀ k,k≤b.length→MulInv a b (mulI a b i k).1 (mulI a b i k).2 i k
 | 0,_=>h
 | k+1,hk=>by rw[mulI_succ]; exact mul_step ha hb hi (by omega) (mul_inner ha hb hi h k (by omega))
theorem mul_outer {a b:List Nat} (ha:ok a) (hb:ok b):∀ i,i≤a.length→MulInv a b (mulO a b i) 0 i 0
 | 0,_=>⟨by simp[mulO],ok_rep _,B_pos,by simp[mulO,val_rep,val],fun j hj _=>by simp[mulO]⟩
 | i+1,hi=>by
  have ih:=mul_outer ha hb i (by omega)
  have h:=mul_inner ha hb (by omega) ih b.length (Nat.le_refl _)
  have hlen:=h.len
  have hib:i+b.length<(mulI a b i b.length).1.length:=by omega
  rw[mulO_succ]
  have hz:=h.zero (i+b.length) hib (Nat.le_refl _)
  have hv:=val_set (d:=(mulI a b i b.length).2) hib
  have h3:=h.val
  rw[hz,Nat.mul_zero,Nat.add_zero] at hv
  refine ⟨by simp[hlen],ok_set h.ok h.lt,B_pos,?_,?_⟩
  ·rw[hv,h3,List.take_of_length_le (Nat.le_refl b.length)]
   have:val (a.take (i+1))=val (a.take i)+B^i*a.getD i 0:=by
    rw[val_take_succ (by omega)]; simp[show i<a.length by omega]
   rw[this,Nat.add_mul,Nat.mul_assoc]
   simp[val]
  ·intro j hj hle
   simp only[List.length_set] at hj
   rw[List.getElem_set_ne (by omega)]
   exact h.zero j hj (by omega)
theorem mul_val {a b:List Nat} (ha:ok a) (hb:ok b):ok (mulO a b a.length)∧(mulO a b a.length).length=a.length+b.length∧val (mulO a b a.length)=val a*val b:=by
 have h:=mul_outer ha hb a.length (Nat.le_refl _)
 refine ⟨h.ok,h.len,?_⟩
 have:=h.val
 simp[val] at this
 exact this
def smallQ (n D i:Nat):List Nat:=List.replicate (n-i) 0++(digsN n D).drop (n-i)
theorem smallQ_zero {n D:Nat}:smallQ n D 0=List.replicate n 0:=by
 simp[smallQ,digsN_len]
theorem smallQ_all {n D:Nat}:smallQ n D n=digsN n D:=by simp[smallQ]
theorem smallQ_len {n D i:Nat} (_h:i≤n):(smallQ n D i).length=n:=by simp[smallQ,digsN_len]; try omega
theorem smallQ_set {n D i:Nat} (h:i<n):(smallQ n D i).set (n-1-i) (D/B^(n-1-i)%B)=smallQ n D (i+1):=by
 obtain ⟨j,hj⟩:∃ j,n-1-i=j:=⟨_,rfl⟩
 have h1:n-i=j+1:=by omega
 have h2:n-(i+1)=j:=by omega
 unfold smallQ
 rw[hj,h1,h2,List.replicate_succ']
 rw[List.append_assoc,List.set_append_right _ _ (by simp)]
 simp only[List.length_replicate,Nat.sub_self]
 have hlt:j<(digsN n D).length:=by rw[digsN_len]; omega
 rw[List.drop_eq_getElem_cons hlt,digsN_get]
 rfl
theorem small_step {A d:Nat} (hd:0<d):(A/B%d*B+A%B)/d=A/d%B∧(A/B%d*B+A%B)%d=A%d∧A/B%d*B+A%B<d*B:=by
 have hA:=Nat.div_add_mod A B
 have h1:=Nat.div_add_mod (A/B) d
 have hm:=Nat.mod_lt (A/B) hd
 have hb:=Nat.mod_lt A B_pos
 have hlt:A/B%d*B+A%B<d*B:=by
  have:(A/B%d+1)*B≤d*B:=Nat.mul_le_mul_right _ hm
  rw[Nat.add_mul] at this
  omega
 have key:A=d*(A/B/d*B)+(A/B%d*B+A%B):=by
  have e:B*(A/B)=B*(d*(A/B/d)+A/B%d):=by rw[h1]
  rw[Nat.mul_add] at e
  have e2:d*(A/B/d*B)=B*(d*(A/B/d)):=by rw[← Nat.mul_assoc,Nat.mul_comm]
  rw[e2,Nat.mul_comm (A/B%d)]
  omega
 generalize A/B%d*B+A%B=t at *
 generalize A/B/d=g at *
 have hq:t/d<B:=Nat.div_lt_of_lt_mul hlt
 refine ⟨?_,?_,hlt⟩
 ·rw[key,Nat.mul_add_div hd,Nat.add_comm (g*B) _,Nat.add_mul_mod_self_right,Nat.mod_eq_of_lt hq]
 ·rw[key,Nat.mul_add_mod]
end Go.Dig

namespace Go.Proofs.Ytbgnkodhpbkdoaa
open Go Go.Am Go.Dig
theorem fromUint_sound {x:Nat} (h:x<18446744073709551616):SoundCall Try.prog F_n_FromUint [u64v x] (nD x):=by
 have f2:(x:Int).fdiv (2^min 32 IntKind.u64.bits)=((x/B:Nat):Int):=shr32 x
 have f1:=w32 x
 have f3:=w32 (x/B)
 obtain ⟨d0,h0⟩:∃ d,x%B=d:=⟨_,rfl⟩
 obtain ⟨q,hq⟩:∃ q,x/B=q:=⟨_,rfl⟩
 obtain ⟨d1,h1⟩:∃ d,q%B=d:=⟨_,rfl⟩
 rw[hq] at f2 f3
 rw[h0] at f1
 rw[h1] at f3
 have hok:ok [d0,d1]:=by
  intro d hd
  simp at hd
  rcases hd with rfl | rfl
  ·rw[← h0]; exact Nat.mod_lt _ B_pos
  ·rw[← h1]; exact Nat.mod_lt _ B_pos
 have hv:val [d0,d1]=x:=by
  have e1:=Nat.mod_add_div x B
  have hq2:q<B:=by rw[← hq,B_eq]; omega
  rw[Nat.mod_eq_of_lt hq2] at h1
  simp only[val,Nat.mul_zero,Nat.add_zero]
  rw[← h1,← h0,← hq]
  exact e1
 have key:=trim_sound (m:=.full) (a:=[d0,d1]) hok (by simp)
 rw[hv] at key
 refine sound' t_n_FromUint (by simp) ?_
 simp[c_n_FromUint,eBin_shr,f1,f2,f3,rowsA]
 refine eCall_i key (by simp) (by simp) ?_
 simp[r_n_FromUint]
def stMulI (m1 m2:Am.Mode) (a b:List Nat) (i k:Nat):St :=
 {env:=[(0,nl m1 a),(1,nl m2 b),(5,.sl 15 1 0 (a.length+b.length)),(17,iv a.length),(18,iv i),(6,iv i),(7,u64v (mulI a b i k).2),(22,iv b.length),(23,iv k)],sto:=[(15,.arr 1 (drows (mulI a b i k).1))]}
def stMulO (m1 m2:Am.Mode) (a b:List Nat) (i:Nat):St :=
 {env:=[(0,nl m1 a),(1,nl m2 b),(5,.sl 15 1 0 (a.length+b.length)),(17,iv a.length),(18,iv i)],sto:=[(15,.arr 1 (drows (mulO a b i)))]}
theorem mul_sound {m1 m2:Am.Mode} {a b:List Nat} (ha:ok a) (hb:ok b) (hna:a.length<1099511627776) (hnb:b.length<1099511627776) (hs:a.length+b.length<1099511627776) (f1:stm m1=m1) (f2:stm m2=m2) :
  SoundCall Try.prog F_n_Mul [nl m1 a,nl m2 b] (nD (val a*val b)):=by
 refine soundW' t_n_Mul (by simp) ?_
 have w:IntKind.i64.wrap ((a.length:Int)+b.length)=(a.length:Int)+b.length:=wrap64 (by omega) (by omega)
 have e1:((a.length:Int)+b.length).toNat=a.length+b.length:=by omega
 simp[c_n_Mul,w,eMk,e1]
 refine ⟨by omega,by omega,by omega,?_⟩
 refine awp_forW (stMulO m1 m2 a b) (fun _=>True) a.length (by simp[stMulO,mulO]) trivial (fun i hi _=>?_) (fun _=>?_)
 ·have hO:=mul_outer ha hb i (by omega)
  have ei:(i:Int)<a.length:=by omega
  simp[c_n_Mul_l3,stMulO,ei]
  refine awp_forW (stMulI m1 m2 a b i) (fun _=>True) b.length (by simp[stMulI,mulI_zero]) trivial (fun k hk _=>?_) (fun _=>?_)
  ·have hI:=mul_inner ha hb hi hO k (by omega)
   have ek:(k:Int)<b.length:=by omega
   have hst:=mulI_succ (a:=a) (b:=b) (i:=i) (k:=k)
   have hlen:=hI.len
   have hik:i+k<(mulI a b i k).1.length:=by omega
   have eik:((i:Int)+k)<(mulI a b i k).1.length:=by omega
   have wik:IntKind.i64.wrap ((i:Int)+k)=((i+k:Nat):Int):=by rw[wrap64]<;>omega
   have hbd:=mul_bound (ok_getD ha i) (ok_getD hb k) (ok_getD hI.ok (i+k)) hI.lt
   have g1:=ok_get ha hi
   have g2:=ok_get hb hk
   have g3:=ok_get hI.ok hik
   have g4:=hI.lt
   simp only[mulStep] at hst
   have q1:a.getD i 0=a[i]:=by simp[hi]
   have q2:b.getD k 0=b[k]:=by simp[hk]
   have q3:(mulI a b i k).1.getD (i+k) 0=(mulI a b i k).1[i+k]:=by simp[hik]
   rw[q1,q2,q3] at hst hbd
   obtain ⟨t,ht⟩:∃ t,a[i]*b[k]+(mulI a b i k).1[i+k]+(mulI a b i k).2=t:=⟨_,rfl⟩
   obtain ⟨p,hp⟩:∃ p,a[i]*b[k]=p:=⟨_,rfl⟩
   rw[ht] at hst hbd
   rw[hp] at ht
   obtain ⟨d,hd⟩:∃ d,t%B=d:=⟨_,rfl⟩
   obtain ⟨q,hq⟩:∃ q,t/B=q:=⟨_,rfl⟩
   rw[hd,hq] at hst
   have f1:IntKind.u32.wrap (t:Int)=(d:Int):=by rw[w32,hd]
   have f2:(t:Int).fdiv (2^min 32 IntKind.u64.bits)=(q:Int):=by rw[shr32,hq]
   have hBB:B*B=18446744073709551616:=by decide
   rw[hBB] at hbd
   rw[B_eq] at g1 g2 g3 g4
   have u1:IntKind.u64.wrap ((a[i]:Nat):Int)=(a[i]:Nat):=w64 (by omega)
   have u2:IntKind.u64.wrap ((b[k]:Nat):Int)=(b[k]:Nat):=w64 (by omega)
   have u3:IntKind.u64.wrap (((mulI a b i k).1[i+k]:Nat):Int)=((mulI a b i k).1[i+k]:Nat):=w64 (by omega)
   have u4:IntKind.u64.wrap ((a[i]:Int)*(b[k]:Int))=(p:Int):=by
    rw[show (a[i]:Int)*(b[k]:Int)=((a[i]*b[k]:Nat):Int) by simp,hp]; exact w64 (by omega)
   have u5:IntKind.u64.wrap ((p:Int)+((mulI a b i k).1[i+k]:Nat))=(p:Int)+((mulI a b i k).1[i+k]:Nat):=by rw[w64']<;>omega
   have u6:IntKind.u64.wrap ((p:Int)+((mulI a b i k).1[i+k]:Nat)+((mulI a b i k).2:Nat))=(t:Int):=by rw[w64']<;>omega
   have hset:(drows (mulI a b i k).1).set (i+k) [uv d]=drows (mulI a b i (k+1)).1:=by rw[drows_set,hst]
   have hq2:(mulI a b i (k+1)).2=q:=by rw[hst]
   have en:((i:Int)+k).toNat=i+k:=by omega
   have e0:(0:Int)≤(i:Int)+k:=by omega
   have elt:(i:Int)+k<(a.length:Int)+b.length:=by omega
   simp only[Int.natCast_add] at wik
   simp[c_n_Mul_l0,stMulI,ek,hi,hk,ei,wik,en,e0,elt,hik,u1,u2,u3,u4,u5,u6,eBin_shr,splice,f1,f2,hset,hq2,wrap_succ (show k<4611686018427387904 by omega)]
  ·have hI:=mul_inner ha hb hi hO b.length (Nat.le_refl _)
   have hlen:=hI.len
   have hik:i+b.length<(mulI a b i b.length).1.length:=by omega
   have wik:IntKind.i64.wrap ((i:Int)+b.length)=(i:Int)+b.length:=by rw[wrap64]<;>omega
   have en:((i:Int)+b.length).toNat=i+b.length:=by omega
   have e0:(0:Int)≤(i:Int)+b.length:=by omega
   have hset:(drows (mulI a b i b.length).1).set (i+b.length) [uv (mulI a b i b.length).2]=drows (mulO a b (i+1)):=by rw[mulO_succ]; exact drows_set
   have g4:=hI.lt
   rw[B_eq] at g4
   have f1:IntKind.u32.wrap ((mulI a b i b.length).2:Int)=((mulI a b i b.length).2:Int):=IntWalk.u32_in _ (by omega)
   simp[c_n_Mul_l0,stMulI,stMulO,c_n_Mul_k1,c_n_Mul_k2,wik,en,e0,hik,f1,splice,hset,ei,wrap_succ (show i<4611686018427387904 by omega)]
 ·obtain ⟨h1,h2,h3⟩:=mul_val ha hb
  have htk:(drows (mulO a b a.length)).take (a.length+b.length)=drows (mulO a b a.length):=List.take_of_length_le (by rw[List.length_map,h2]; exact Nat.le_refl _)
  have hle2:a.length+b.length≤(mulO a b a.length).length:=by rw[h2]; exact Nat.le_refl _
  have key:=trim_sound (m:=.plain) h1 (by rw[h2]; omega)
  rw[h3] at key
  simp[c_n_Mul_l3,stMulO,c_n_Mul_k4,eFreeze,frz_list f1,frz_list f2,frzE,htk,hle2]
  refine eCall_i key (by simp) (by simp) ?_
  simp[r_n_Mul]
  exact AV.imp.refl
end Go.Proofs.Ytbgnkodhpbkdoaa

namespace Go.Proofs.Ytbgnkodhpbkdoaa
open Go Go.Am Go.Dig
theorem or_hi {r a:Nat} (hr:r<B) (ha:a<B):bitI .or .u64 ((r*B:Nat):Int) (a:Int)=((r*B+a:Nat):Int):=by
 rw[B_eq] at *
 have hbits:IntKind.u64.bits=64:=rfl
 simp only[bitI]
 rw[BitVec.toNat_or]
 have e1:(BitVec.ofInt IntKind.u64.bits ((r*4294967296:Nat):Int)).toNat=r*4294967296:=by rw[hbits,BitVec.toNat_ofInt]; omega
 have e2:(BitVec.ofInt IntKind.u64.bits (a:Int)).toNat=a:=by rw[hbits,BitVec.toNat_ofInt]; omega
 rw[e1,e2]
 have h3:=Nat.shiftLeft_add_eq_or_of_lt (i:=32) (b:=a) (by omega) r
 rw[Nat.shiftLeft_eq] at h3
 have:(2:Nat)^32=4294967296:=by decide
 rw[this] at h3
 rw[← h3]
 exact w64 (by omega)
theorem shl32 {r:Nat} (hr:r<B):IntKind.u64.wrap ((r:Int)*2^min 32 IntKind.u64.bits)=((r*B:Nat):Int):=by
 have:min 32 IntKind.u64.bits=32:=rfl
 rw[this]
 have:(2:Int)^32=4294967296:=by decide
 rw[this]
 rw[B_eq] at *
 rw[w64']<;>omega
def stSm (m:Am.Mode) (a:List Nat) (d i:Nat):St :=
 {env:=[(0,nl m a),(1,uv d),(6,.sl 13 1 0 a.length),(7,u64v (val a/B^(a.length-i)%d)),(15,iv a.length),(16,iv i)],sto:=[(13,.arr 1 (drows (smallQ a.length (val a/d) i)))]}
theorem small_sound {m:Am.Mode} {a:List Nat} {d:Nat} (ha:ok a) (hn:a.length<1099511627776) (h0:0<d) (hd:d<B) (f1:stm m=m) :
  SoundCall Try.prog F_n_small [nl m a,uv d] (.tuple [nD (val a/d),uv (val a%d)]):=by
 refine soundW' t_n_small (by simp) ?_
 simp[c_n_small,eMk]
 refine ⟨by omega,by omega,?_⟩
 have hz:val a/B^a.length%d=0:=by rw[Nat.div_eq_of_lt (val_lt ha)]; exact Nat.zero_mod _
 refine awp_forW (stSm m a d) (fun _=>True) a.length (by simp[stSm,smallQ_zero,hz]) trivial (fun i hi _=>?_) (fun _=>?_)
 ·have e:(i:Int)<a.length:=by omega
  obtain ⟨k,hk⟩:∃ k,a.length-1-i=k:=⟨_,rfl⟩
  have hk1:a.length-i=k+1:=by omega
  have hk2:a.length-(i+1)=k:=by omega
  have hka:k<a.length:=by omega
  have w0:IntKind.i64.wrap ((a.length:Int)-1)=(a.length:Int)-1:=by rw[wrap64]<;>omega
  have w1:IntKind.i64.wrap ((a.length:Int)-1-i)=(k:Int):=by rw[wrap64]<;>omega
  obtain ⟨s1,s2,s3⟩:=small_step (A:=val a/B^k) h0
  rw[← get_val ha hka,Nat.div_div_eq_div_mul,← Nat.pow_succ] at s1 s2 s3
  obtain ⟨r,hr⟩:∃ r,val a/B^(k+1)%d=r:=⟨_,rfl⟩
  have hrd:r<d:=by rw[← hr]; exact Nat.mod_lt _ h0
  have hrB:r<B:=by omega
  have hak:=ok_get ha hka
  have hor:=or_hi hrB hak
  have hsh:=shl32 hrB
  rw[Nat.succ_eq_add_one,hr] at s1 s2 s3
  obtain ⟨t,ht⟩:∃ t,r*B+a[k]=t:=⟨_,rfl⟩
  obtain ⟨rb,hrb⟩:∃ rb,r*B=rb:=⟨_,rfl⟩
  rw[ht] at hor s1 s2 s3
  rw[hrb] at hor hsh
  have hset:=smallQ_set (n:=a.length) (D:=val a/d) hi
  rw[hk,Nat.div_div_eq_div_mul,Nat.mul_comm d,← Nat.div_div_eq_div_mul,← s1] at hset
  obtain ⟨q,hq⟩:∃ q,t/d=q:=⟨_,rfl⟩
  obtain ⟨r2,hr2⟩:∃ r2,t%d=r2:=⟨_,rfl⟩
  rw[hq] at hset s1
  rw[hr2] at s2
  have hqB:q<B:=by rw[s1]; exact Nat.mod_lt _ B_pos
  have hset':(drows (smallQ a.length (val a/d) i)).set k [uv q]=drows (smallQ a.length (val a/d) (i+1)):=by rw[drows_set,hset]
  have htB:t<18446744073709551616:=by
   have:d*B≤B*B:=Nat.mul_le_mul_right _ (by omega)
   have hBB:B*B=18446744073709551616:=by decide
   omega
  have hfl:=smallQ_len (D:=val a/d) (show i≤a.length by omega)
  have hkl:k<(smallQ a.length (val a/d) i).length:=by omega
  rw[B_eq] at hak hqB hd
  have u1:IntKind.u64.wrap ((a[k]:Nat):Int)=(a[k]:Nat):=w64 (by omega)
  have u2:IntKind.u64.wrap (d:Int)=d:=w64 (by omega)
  have hd0:¬ (d:Int)=0:=by omega
  have hd0n:¬ d=0:=by omega
  have u3:IntKind.u64.wrap ((t:Int).tdiv d)=(q:Int):=by
   rw[show (t:Int).tdiv d=((t/d:Nat):Int) from rfl,hq]; exact w64 (by omega)
  have u3':IntKind.u64.wrap ((t:Int)/d)=(q:Int):=by
   rw[show (t:Int)/d=((t/d:Nat):Int) by simp,hq]; exact w64 (by omega)
  have u4:(t:Int).tmod d=(r2:Int):=by rw[show (t:Int).tmod d=((t%d:Nat):Int) from rfl,hr2]
  have u5:IntKind.u32.wrap (q:Int)=q:=IntWalk.u32_in _ (by omega)
  simp[c_n_small_l0,stSm,e,w0,w1,hka,hkl,hk1,hk2,hr,eBin_shl,hsh,u1,hor,u2,eBin_quo,eBin_rem,hd0n,u3',u4,u5,splice,hset',s2,wrap_succ (show i<4611686018427387904 by omega)]
 ·have htk:(drows (digsN a.length (val a/d))).take a.length=drows (digsN a.length (val a/d)):=List.take_of_length_le (by rw[List.length_map,digsN_len]; exact Nat.le_refl _)
  have hle2:a.length≤(digsN a.length (val a/d)).length:=by rw[digsN_len]; exact Nat.le_refl _
  have key:=trim_sound (m:=.plain) (a:=digsN a.length (val a/d)) ok_digsN (by rw[digsN_len]; omega)
  have hlt:val a/d<B^a.length:=Nat.lt_of_le_of_lt (Nat.div_le_self _ _) (val_lt ha)
  rw[val_digsN_lt hlt] at key
  have hr:val a%d<d:=Nat.mod_lt _ h0
  have u5:IntKind.u32.wrap ((val a%d:Nat):Int)=(val a%d:Nat):=IntWalk.u32_in _ (by rw[B_eq] at hd; omega)
  obtain ⟨r,hr2⟩:∃ r,val a%d=r:=⟨_,rfl⟩
  have hr3:val a/B^(a.length-a.length)%d=r:=by simp[hr2]
  rw[hr2] at u5 ⊢
  simp[c_n_small_l0,stSm,smallQ_all,c_n_small_k1,eFreeze,frz_list f1,frzE,htk,hle2,hr2]
  refine eCall_i key (by simp) (by simp) ?_
  simp[r_n_small,u5]
  exact AV.imp.refl
end Go.Proofs.Ytbgnkodhpbkdoaa

namespace Go.Dig
def qhat (w u2 v1 v2:Nat):Nat:=min (B-1) ((w*B+u2)/(v1*B+v2))
def tooBig (g r u2 v2:Nat):Prop:=B≤g∨r*B+u2<g*v2
theorem qhat_le {w u2 v1 v2:Nat} (h1:0<v1) (hu:u2<B):qhat w u2 v1 v2≤w/v1:=by
 unfold qhat
 refine Nat.le_trans (Nat.min_le_right _ _) ?_
 rw[Nat.le_div_iff_mul_le h1]
 have h:=Nat.div_mul_le_self (w*B+u2) (v1*B+v2)
 generalize (w*B+u2)/(v1*B+v2)=q at *
 rw[Nat.mul_add,← Nat.mul_assoc] at h
 apply Nat.le_of_not_lt
 intro hlt
 have:(w+1)*B≤q*v1*B:=Nat.mul_le_mul_right _ hlt
 rw[Nat.add_mul] at this
 omega
theorem tooBig_iff {g r w u2 v1 v2:Nat} (h1:0<v1) (hr:w=g*v1+r):tooBig g r u2 v2↔qhat w u2 v1 v2<g:=by
 have hV:0<v1*B+v2:=by have:=Nat.mul_pos h1 B_pos; omega
 have key:g≤(w*B+u2)/(v1*B+v2)↔g*v2≤r*B+u2:=by
  rw[Nat.le_div_iff_mul_le hV,hr,Nat.mul_add,Nat.add_mul,← Nat.mul_assoc]
  omega
 unfold tooBig qhat
 have hB:=B_pos
 constructor
 ·rintro (h | h)
  ·exact Nat.lt_of_le_of_lt (Nat.min_le_left _ _) (by omega)
  ·exact Nat.lt_of_le_of_lt (Nat.min_le_right _ _) (by omega)
 ·intro h
  apply Classical.byContradiction
  intro hno
  have h2:g≤B-1:=by
   apply Nat.le_of_not_lt; intro h3; exact hno (.inl (by omega))
  have h3:g≤(w*B+u2)/(v1*B+v2):=key.2 (by
   apply Nat.le_of_not_lt; intro h4; exact hno (.inr h4))
  have:=Nat.le_min.2 ⟨h2,h3⟩
  omega
theorem break_ok {g r w u2 v1 v2:Nat} (_h1:0<v1) (hr:w=g*v1+r) (hw:w≤v1*B+(B-1)) (hv2:v2<B) (hrB:B≤r):¬ tooBig g r u2 v2:=by
 have hg:g≤B-1:=by
  apply Nat.le_of_not_lt
  intro h
  have:B*v1≤g*v1:=Nat.mul_le_mul_right _ (by omega)
  rw[Nat.mul_comm v1] at hw
  have:=B_pos
  omega
 rintro (h | h)
 ·have:=B_pos; omega
 ·have h2:g*v2≤(B-1)*(B-1):=Nat.mul_le_mul hg (by omega)
  have h3:B*B≤r*B:=Nat.mul_le_mul_right _ hrB
  have h4:(B-1)*(B-1)<B*B:=by decide
  omega
theorem qhat_close {w u2 v1 v2 U V P Q R:Nat} (h1:0<v1) (hu2:u2<B) (hv2:v2<B) (hU:U=(w*B+u2)*P+R) (hR:R<P) (hV:V=(v1*B+v2)*P+Q) (hQ:Q<P) (hUV:U<V*B) :
  U/V≤qhat w u2 v1 v2∧qhat w u2 v1 v2≤U/V+1:=by
 have hP:0<P:=by omega
 have hV2:0<v1*B+v2:=by have:=Nat.mul_pos h1 B_pos; omega
 have hVpos:0<V:=by have:=Nat.mul_pos hV2 hP; omega
 constructor
 ·unfold qhat
  refine Nat.le_min.2 ⟨?_,?_⟩
  ·have:U/V<B:=Nat.div_lt_of_lt_mul hUV
   omega
  ·rw[Nat.le_div_iff_mul_le hV2]
   have h:=Nat.div_mul_le_self U V
   generalize U/V=q at *
   have h2:q*((v1*B+v2)*P)≤q*V:=Nat.mul_le_mul_left _ (by omega)
   rw[← Nat.mul_assoc] at h2
   apply Nat.le_of_not_lt
   intro hlt
   have:(w*B+u2+1)*P≤q*(v1*B+v2)*P:=Nat.mul_le_mul_right _ hlt
   rw[Nat.add_mul] at this
   omega
 ·have hq1:qhat w u2 v1 v2≤B-1:=Nat.min_le_left _ _
  have hq2:qhat w u2 v1 v2*(v1*B+v2)≤w*B+u2:=by
   have:qhat w u2 v1 v2≤(w*B+u2)/(v1*B+v2):=Nat.min_le_right _ _
   exact Nat.le_trans (Nat.mul_le_mul_right _ this) (Nat.div_mul_le_self _ _)
  generalize qhat w u2 v1 v2=g at *
  rcases g with _ | g
  ·exact Nat.zero_le _
  ·have:g≤U/V:=by
    rw[Nat.le_div_iff_mul_le hVpos]
    -- (g+1) V2 P≤U,and V<(V2+1) P,g+1≤B-1≤v1 B
    have e1:(g+1)*(v1*B+v2)*P≤(w*B+u2)*P:=Nat.mul_le_mul_right _ hq2
    have e2:g*V≤g*((v1*B+v2)*P+P):=Nat.mul_le_mul_left _ (by omega)
    have e3:g*P≤(v1*B+v2)*P:=Nat.mul_le_mul_right _ (by
     have:1*B≤v1*B:=Nat.mul_le_mul_right _ h1
     omega)
    rw[Nat.add_mul,Nat.one_mul,Nat.add_mul] at e1
    rw[Nat.mul_add,← Nat.mul_assoc] at e2
    omega
   omega
theorem mul_col {g:Nat} {v:List Nat} {k:Nat} (hk:k<v.length):(g*val v)/B^k%B=(g*v[k]+g*val (v.take k)/B^k)%B∧g*val (v.take (k+1))/B^(k+1)=(g*v[k]+g*val (v.take k)/B^k)/B:=by
 have e1:=val_take_succ hk
 have e2:=val_split v (k+1)
 rw[Nat.min_eq_left (by omega)] at e2
 constructor
 ·rw[e2,e1,Nat.mul_add,Nat.mul_add,Nat.mul_left_comm g (B^k),Nat.mul_left_comm g (B^(k+1)),col_digit,Nat.add_comm]
 ·rw[e1,Nat.mul_add,Nat.mul_left_comm g (B^k),col_carry,Nat.add_comm]
theorem mul_carry_lt {g:Nat} {v:List Nat} (hv:ok v) (hg:g<B) (k:Nat):g*val (v.take k)/B^k<B:=by
 apply Nat.div_lt_of_lt_mul
 have h1:=val_lt_of (ok_take hv k) (n:=k) (by simp; omega)
 have:g*val (v.take k)≤B*val (v.take k):=Nat.mul_le_mul_right _ (by omega)
 have h2:B*val (v.take k)<B*B^k:=Nat.mul_lt_mul_of_pos_left h1 B_pos
 rw[Nat.mul_comm (B^k)]
 omega
def mixD (Z:Nat) (u:List Nat) (k:Nat):List Nat:=digsN k Z++u.drop k
theorem mixD_zero {Z:Nat} {u:List Nat}:mixD Z u 0=u:=by simp[mixD,digsN]
theorem mixD_len {Z:Nat} {u:List Nat} {k:Nat} (h:k≤u.length):(mixD Z u k).length=u.length:=by simp[mixD,digsN_len]; omega
theorem mixD_get {Z:Nat} {u:List Nat} {k:Nat} (h:k<u.length):(mixD Z u k)[k]'(by rw[mixD_len (by omega)]; exact h)=u[k]:=by
 unfold mixD
 rw[List.getElem_append_right (by rw[digsN_len]; exact Nat.le_refl _)]
 simp[digsN_len]
theorem mixD_set {Z:Nat} {u:List Nat} {k:Nat} (h:k<u.length):(mixD Z u k).set k (Z/B^k%B)=mixD Z u (k+1):=by
 unfold mixD
 rw[List.set_append_right _ _ (by rw[digsN_len]; exact Nat.le_refl _),digsN_len,Nat.sub_self,List.drop_eq_getElem_cons h,List.set_cons_zero,digsN_succ]
 simp
theorem mixD_all {Z:Nat} {u:List Nat} {n:Nat} (h:u.length=n):mixD Z u n=digsN n Z:=by
 unfold mixD; rw[List.drop_of_length_le (by omega)]; simp
theorem digsN_mod {n x:Nat}:digsN n (x+B^n)=digsN n x:=by
 refine val_inj ok_digsN ok_digsN (by rw[digsN_len,digsN_len]) ?_
 rw[val_digsN,val_digsN,Nat.add_mod_right]
theorem digit_add {U n k:Nat} (hk:k<n):(U+B^n)/B^k%B=U/B^k%B:=by
 have h:=digsN_mod (n:=n) (x:=U)
 have h1:k<(digsN n (U+B^n)).length:=by rw[digsN_len]; exact hk
 have h2:k<(digsN n U).length:=by rw[digsN_len]; exact hk
 rw[← digsN_get h1,← digsN_get h2]
 simp only[h]
def seg (W:List Nat) (off:Nat) (X:List Nat):List Nat:=W.take off++X++W.drop (off+X.length)
theorem seg_len {W X:List Nat} {off:Nat} (h:off+X.length≤W.length):(seg W off X).length=W.length:=by simp[seg]; omega
theorem seg_get {W X:List Nat} {off i:Nat} (h:off+X.length≤W.length) (hi:i<X.length):(seg W off X)[off+i]'(by rw[seg_len h]; omega)=X[i]:=by
 unfold seg
 rw[List.getElem_append_left (by simp; omega),List.getElem_append_right (by simp; omega)]
 congr 1
 simp; omega
theorem seg_set {W X:List Nat} {off i d:Nat} (h:off+X.length≤W.length) (hi:i<X.length):(seg W off X).set (off+i) d=seg W off (X.set i d):=by
 unfold seg
 rw[List.length_set,List.set_append_left _ _ (by simp; omega),List.set_append_right _ _ (by simp; omega)]
 have:off+i-(List.take off W).length=i:=by simp; omega
 rw[this]
theorem seg_self {W:List Nat} {off n:Nat} (h:off+n≤W.length):seg W off ((W.drop off).take n)=W:=by
 unfold seg
 have:((W.drop off).take n).length=n:=by simp; omega
 rw[this]
 rw[List.append_assoc,← List.drop_drop,List.take_append_drop,List.take_append_drop]
end Go.Dig

namespace Go.Dig
theorem shift_step {N L i t:Nat} (hL:L<B^(i+1)) (hi:i+1<N) (hlt:L+B^i*t<B^N) (ht:(L/B^i+t)/B<B) :
  ((digsN N L).set i ((L/B^i+t)%B)).set (i+1) ((L/B^i+t)/B)=digsN N (L+B^i*t):=by
 have hLN:L<B^N:=Nat.lt_of_lt_of_le hL (Nat.pow_le_pow_right B_pos (by omega))
 have hlen:=digsN_len (n:=N) (x:=L)
 have ho:ok (digsN N L):=ok_digsN
 have hd1:(L/B^i+t)%B<B:=Nat.mod_lt _ B_pos
 refine val_inj (ok_set (ok_set ho hd1) ht) ok_digsN (by simp[digsN_len]) ?_
 rw[val_digsN_lt hlt]
 have e1:=val_set (o:=digsN N L) (j:=i) (d:=(L/B^i+t)%B) (by omega)
 have e2:=val_set (o:=(digsN N L).set i ((L/B^i+t)%B)) (j:=i+1) (d:=(L/B^i+t)/B) (by simp; omega)
 rw[val_digsN_lt hLN,digsN_get] at e1
 rw[List.getElem_set_ne (by omega),digsN_get,Nat.div_eq_of_lt hL] at e2
 have h0:0%B=0:=rfl
 rw[h0,Nat.mul_zero,Nat.add_zero] at e2
 have hc:L/B^i<B:=Nat.div_lt_of_lt_mul (by rw[← Nat.pow_succ]; exact hL)
 rw[Nat.mod_eq_of_lt hc] at e1
 have e3:=Nat.mod_add_div (L/B^i+t) B
 have e4:B^(i+1)*((L/B^i+t)/B)=B^i*(B*((L/B^i+t)/B)):=by rw[Nat.pow_succ,Nat.mul_assoc]
 have e5:B^i*((L/B^i+t)%B)+B^i*(B*((L/B^i+t)/B))=B^i*(L/B^i)+B^i*t:=by rw[← Nat.mul_add,e3,Nat.mul_add]
 rw[e2,e4]
 omega
theorem low_or {c a bits:Nat} (hb:bits<32) (hc:c<2^bits) (_ha:a<B):c ||| (a*2^bits%B)=c+a*2^bits%B∧c+a*2^bits%B=(c+a*2^bits)%B∧a*2^bits/B=(c+a*2^bits)/B∧c+a*2^bits%B<B:=by
 have hB:B=2^(32-bits)*2^bits:=by
  rw[← Nat.pow_add,Nat.sub_add_cancel (by omega)]; rfl
 have hm:a*2^bits%B=(a%2^(32-bits))*2^bits:=by
  rw[hB,Nat.mul_mod_mul_right]
 have hlt:a%2^(32-bits)<2^(32-bits):=Nat.mod_lt _ (Nat.pow_pos (by omega))
 have hd:=Nat.div_add_mod (a*2^bits) B
 have hsum:c+a*2^bits%B<B:=by
  rw[hm]
  have:(a%2^(32-bits)+1)*2^bits≤2^(32-bits)*2^bits:=Nat.mul_le_mul_right _ hlt
  rw[Nat.add_mul,← hB] at this
  omega
 refine ⟨?_,?_,?_,hsum⟩
 ·rw[hm]
  have h:=Nat.shiftLeft_add_eq_or_of_lt hc (a%2^(32-bits))
  rw[Nat.shiftLeft_eq] at h
  rw[Nat.or_comm,← h]; omega
 ·have:c+a*2^bits=c+a*2^bits%B+B*(a*2^bits/B):=by omega
  rw[this,Nat.add_mul_mod_self_left,Nat.mod_eq_of_lt hsum]
 ·have:c+a*2^bits=c+a*2^bits%B+B*(a*2^bits/B):=by omega
  rw[this,Nat.add_mul_div_left _ _ B_pos,Nat.div_eq_of_lt hsum,Nat.zero_add]
def shL (a:List Nat) (bits i:Nat):Nat:=val (a.take i)*2^bits
theorem shL_zero {a:List Nat} {bits:Nat}:shL a bits 0=0:=by simp[shL,val]
theorem pow_bits {bits:Nat} (hb:bits<32):2^bits<B:=by
 have:2^bits<2^32:=Nat.pow_lt_pow_right (by omega) hb
 exact this
theorem shL_lt {a:List Nat} {bits i:Nat} (ha:ok a):shL a bits i<B^i*2^bits:=by
 unfold shL
 exact Nat.mul_lt_mul_of_pos_right (val_lt_of (ok_take ha i) (by simp; omega)) (Nat.pow_pos (by omega))
theorem shL_succ {a:List Nat} {bits i:Nat} (hi:i<a.length):shL a bits (i+1)=shL a bits i+B^i*(a[i]*2^bits):=by
 unfold shL
 rw[val_take_succ hi,Nat.add_mul,Nat.mul_assoc]
theorem shL_all {a:List Nat} {bits:Nat}:shL a bits a.length=val a*2^bits:=by
 unfold shL; rw[List.take_of_length_le (Nat.le_refl _)]
theorem digsN_zero {n:Nat}:digsN n 0=List.replicate n 0:=by
 refine val_inj ok_digsN (ok_rep n) (by simp[digsN_len]) ?_
 rw[val_digsN,val_rep,Nat.zero_mod]
end Go.Dig

namespace Go.Proofs.Ytbgnkodhpbkdoaa
open Go Go.Am Go.Dig
theorem or32 {c x:Nat} (hc:c<B) (hx:x<B) (h:c ||| x<B):bitI .or .u32 (c:Int) (x:Int)=((c ||| x:Nat):Int):=by
 rw[B_eq] at *
 have hbits:IntKind.u32.bits=32:=rfl
 simp only[bitI]
 rw[BitVec.toNat_or]
 have e1:(BitVec.ofInt IntKind.u32.bits (c:Int)).toNat=c:=by rw[hbits,BitVec.toNat_ofInt]; omega
 have e2:(BitVec.ofInt IntKind.u32.bits (x:Int)).toNat=x:=by rw[hbits,BitVec.toNat_ofInt]; omega
 rw[e1,e2]
 exact IntWalk.u32_in _ (by omega)
def stSh (a:List Nat) (m:Am.Mode) (σ:List (Nat × Entry)) (out:List (List (Nat × AV))) (b bits i:Nat):St :=
 {env:=[(0,nl m a),(1,u64v bits),(5,.sl (b+11) 1 0 (a.length+1)),(13,iv a.length),(14,iv i)],sto:=pt σ (b+11) (.arr 1 (drows (digsN (a.length+1) (shL a bits i)))),out:=out,base:=b}
theorem shiftedI {m:Am.Mode} {a:List Nat} {bits:Nat} {s:St} {K:AV→St→Prop} (b:Nat) (ha:ok a) (hn:a.length<1099511627775) (hb:bits<32) (hf:lk s.sto (b+11)=none)
  (h:K (.sl (b+11) 1 0 (a.length+1)) ⟨s.env,pt s.sto (b+11) (.arr 1 (drows (digsN (a.length+1) (val a*2^bits)))),s.out,s.base⟩):CallI Try.prog F_n_shifted [nl m a,u64v bits] s K:=by
 obtain ⟨env,σ,out,base⟩:=s
 simp only at hf h
 refine soundI' b t_n_shifted (by simp) ?_
 have w:IntKind.i64.wrap ((a.length:Int)+1)=(a.length:Int)+1:=wrap64 (by omega) (by omega)
 have e1:((a.length:Int)+1).toNat=a.length+1:=by omega
 simp[c_n_shifted,w,eMk,e1,hf]
 refine ⟨by omega,by omega,by omega,?_⟩
 refine awp_forW (stSh a m σ (env::out) b bits) (fun _=>True) a.length (by simp[stSh,shL_zero,digsN_zero]; exact .inl rfl) trivial (fun i hi _=>?_) (fun _=>?_)
 ·have e:(i:Int)<a.length:=by omega
  have hpow:=pow_bits hb
  have hak:=ok_get ha hi
  have hL:=shL_lt (bits:=bits) (i:=i) ha
  have hLB:shL a bits i<B^(i+1):=by
   have:B^i*2^bits≤B^i*B:=Nat.mul_le_mul_left _ (by omega)
   rw[Nat.pow_succ]; omega
  have hc:shL a bits i/B^i<2^bits:=Nat.div_lt_of_lt_mul hL
  obtain ⟨o1,o2,o3,o4⟩:=low_or (c:=shL a bits i/B^i) (a:=a[i]) hb hc hak
  have hsucc:=shL_succ (bits:=bits) hi
  have hL2:=shL_lt (bits:=bits) (i:=i+1) ha
  have hLN:shL a bits (i+1)<B^(a.length+1):=by
   have h1:B^(i+1)*2^bits≤B^(i+1)*B:=Nat.mul_le_mul_left _ (by omega)
   have h3:B^(i+1+1)=B^(i+1)*B:=Nat.pow_succ _ _
   have h2:B^(i+1+1)≤B^(a.length+1):=Nat.pow_le_pow_right B_pos (by omega)
   omega
  have htB:(shL a bits i/B^i+a[i]*2^bits)/B<B:=by
   rw[← o3]
   apply Nat.div_lt_of_lt_mul
   exact Nat.mul_lt_mul_of_lt_of_lt hak hpow
  have hstep:=shift_step (N:=a.length+1) (i:=i) (t:=a[i]*2^bits) hLB (by omega) (by rw[← hsucc]; exact hLN) htB
  rw[← hsucc,← o2,← o3] at hstep
  have hlen:=digsN_len (n:=a.length+1) (x:=shL a bits i)
  have hi1:i<(digsN (a.length+1) (shL a bits i)).length:=by omega
  have hget:(digsN (a.length+1) (shL a bits i))[i]=shL a bits i/B^i:=by
   rw[digsN_get,Nat.mod_eq_of_lt (Nat.lt_trans hc hpow)]
  obtain ⟨c,hcE⟩:∃ c,shL a bits i/B^i=c:=⟨_,rfl⟩
  obtain ⟨t,htE⟩:∃ t,a[i]*2^bits=t:=⟨_,rfl⟩
  have htlt:t<B*B:=by rw[← htE]; exact Nat.mul_lt_mul_of_lt_of_lt hak hpow
  rw[hcE,htE] at o1 o4 hstep
  rw[hcE] at hget hc
  obtain ⟨x,hxE⟩:∃ x,t%B=x:=⟨_,rfl⟩
  obtain ⟨q,hqE⟩:∃ q,t/B=q:=⟨_,rfl⟩
  rw[hxE] at o1 o4 hstep
  rw[hqE] at hstep
  have hxB:x<B:=by rw[← hxE]; exact Nat.mod_lt _ B_pos
  have hqB:q<B:=by rw[← hqE]; exact Nat.div_lt_of_lt_mul htlt
  have hor:=or32 (c:=c) (x:=x) (by omega) hxB (by rw[o1]; exact o4)
  rw[o1] at hor
  obtain ⟨y,hyE⟩:∃ y,c+x=y:=⟨_,rfl⟩
  rw[hyE] at hor hstep
  have hBB:B*B=18446744073709551616:=by decide
  rw[hBB] at htlt
  have f1:IntKind.u32.wrap (t:Int)=(x:Int):=by rw[w32,hxE]
  have f2:(t:Int).fdiv (2^min 32 IntKind.u64.bits)=(q:Int):=by rw[shr32,hqE]
  have f3:IntKind.u32.wrap (q:Int)=q:=IntWalk.u32_in _ (by rw[B_eq] at hqB; omega)
  have u1:IntKind.u64.wrap ((a[i]:Nat):Int)=(a[i]:Nat):=w64 (by rw[B_eq] at hak; omega)
  have hmin:min bits IntKind.u64.bits=bits:=by
   have:IntKind.u64.bits=64:=rfl
   omega
  have u2:IntKind.u64.wrap (((a[i]:Nat):Int)*2^bits)=(t:Int):=by
   rw[show ((a[i]:Nat):Int)*2^bits=((a[i]*2^bits:Nat):Int) by simp,htE]; exact w64 htlt
  have hset:((drows (digsN (a.length+1) (shL a bits i))).set i [uv y]).set (i+1) [uv q]=drows (digsN (a.length+1) (shL a bits (i+1))):=by
   rw[drows_set,drows_set,hstep]
  have wi:IntKind.i64.wrap ((i:Int)+1)=(i:Int)+1:=wrap64 (by omega) (by omega)
  have ei1:(i:Int)<a.length+1:=by omega
  have e2:((i:Int)+1).toNat=i+1:=by omega
  have e3:(0:Int)≤(i:Int)+1:=by omega
  have hi2:i+1<(digsN (a.length+1) (shL a bits i)).length:=by omega
  have hnb:¬ ((bits:Int)<0):=by omega
  simp[c_n_shifted_l0,stSh,e,hi,hi1,hi2,ei1,e2,e3,hget,hor,u1,eBin_shl,eBin_shr,hmin,u2,f1,f2,f3,wi,splice,hset]
 ·have:digsN (a.length+1) (shL a bits a.length)=digsN (a.length+1) (val a*2^bits):=by rw[shL_all]
  simp[c_n_shifted_l0,stSh,c_n_shifted_k1,r_n_shifted,this]
  exact h
end Go.Proofs.Ytbgnkodhpbkdoaa

namespace Go.Proofs.Ytbgnkodhpbkdoaa
open Go Go.Am Go.Dig
def gK (w v1 k:Nat):Nat:=w/v1-k
def rK (w v1 k:Nat):Nat:=w%v1+k*v1
theorem gr_eq {w v1 k:Nat} (hk:k≤w/v1):w=gK w v1 k*v1+rK w v1 k:=by
 unfold gK rK
 have h:=Nat.div_add_mod w v1
 have:(w/v1-k)*v1+k*v1=v1*(w/v1):=by rw[← Nat.add_mul,Nat.sub_add_cancel hk,Nat.mul_comm]
 omega
structure DigOk (W v:List Nat) (off e:Nat):Prop where
 okW:ok W
 okv:ok v
 hv:v.length=e+2
 hW:off+e+3≤W.length
 small:W.length<1099511627776
def topW (W:List Nat) (off e:Nat):Nat:=W.getD (off+(e+2)) 0*B+W.getD (off+(e+1)) 0
def stD0 (m:Am.Mode) (W v:List Nat) (σ:List (Nat × Entry)) (out:List (List (Nat × AV))) (b j off e k:Nat):St :=
 {env:=[(0,.sl j 1 off (e+3)),(1,nl m v),(5,iv ((e:Int)+2)),(7,u64v (gK (topW W off e) (v.getD (e+1) 0) k)),(8,u64v (rK (topW W off e) (v.getD (e+1) 0) k))],sto:=σ,out:=out,base:=b}
theorem digit_guess {m:Am.Mode} {W v:List Nat} {σ:List (Nat × Entry)} {out:List (List (Nat × AV))} {b j off e:Nat} {K:Exit→St→Prop} (h:DigOk W v off e) (hj:lk σ j=some (.arr 1 (drows W)))
  (h1:0<v.getD (e+1) 0) (hw:topW W off e≤v.getD (e+1) 0*B+(B-1)) (g:Nat) (hg:g=qhat (topW W off e) (W.getD (off+e) 0) (v.getD (e+1) 0) (v.getD e 0))
  (hK:∀ r q y,(q=69∨q=81)→awp Try.prog c_n_digit_k5 {env:=[(0,.sl j 1 off (e+3)),(1,nl m v),(5,iv ((e:Int)+2)),(7,u64v g),(8,r),(q,y)],sto:=σ,out:=out,base:=b} K) :
  awp Try.prog (.loop c_n_digit_l0) (stD0 m W v σ out b j off e 0) (blockC 0 (seqC Try.prog c_n_digit_k5 K)):=by
 have hvl:=h.hv
 have hWl:=h.hW
 have hsm:=h.small
 have hv0:e<v.length:=by omega
 have hv1:e+1<v.length:=by omega
 have hW0:off+e<W.length:=by omega
 have q1:v.getD (e+1) 0=v[e+1]:=by simp[hv1]
 have q2:v.getD e 0=v[e]:=by simp[hv0]
 have q3:W.getD (off+e) 0=W[off+e]:=by simp[hW0]
 have hu2:W.getD (off+e) 0<B:=ok_getD h.okW _
 have hv2B:v.getD e 0<B:=ok_getD h.okv _
 have hv1B:v.getD (e+1) 0<B:=ok_getD h.okv _
 have hwB:topW W off e<B*B:=by
  have a1:=ok_getD h.okW (off+(e+2))
  have a2:=ok_getD h.okW (off+(e+1))
  have:(W.getD (off+(e+2)) 0+1)*B≤B*B:=Nat.mul_le_mul_right _ a1
  unfold topW
  rw[Nat.add_mul] at this
  omega
 generalize hwe:topW W off e=w at *
 generalize hv1e:v.getD (e+1) 0=v1 at *
 generalize hu2e:W.getD (off+e) 0=u2 at *
 generalize hv2e:v.getD e 0=v2 at *
 have hle:=qhat_le (w:=w) (v2:=v2) h1 hu2
 rw[← hg] at hle
 rw[show B*B=18446744073709551616 by decide] at hwB
 have hst:∀ k,stD0 m W v σ out b j off e k={env:=[(0,.sl j 1 off (e+3)),(1,nl m v),(5,iv ((e:Int)+2)),(7,u64v (gK w v1 k)),(8,u64v (rK w v1 k))],sto:=σ,out:=out,base:=b}:=fun k=>by
  rw[stD0,hwe,hv1e]
 have i1:IntKind.i64.wrap ((e:Int))=e:=wrap64 (by omega) (by omega)
 have i2:IntKind.i64.wrap ((e:Int)+1)=(e:Int)+1:=wrap64 (by omega) (by omega)
 have i5:IntKind.i64.wrap ((e:Int)+2-1)=(e:Int)+1:=by rw[wrap64]<;>omega
 have i6:IntKind.i64.wrap ((e:Int)+2-2)=(e:Int):=by rw[wrap64]<;>omega
 have i3:((e:Int)+1).toNat=e+1:=by omega
 have i4:(0:Int)≤(e:Int)+1:=by omega
 have c1:IntKind.u64.wrap (v1:Int)=v1:=w64 (by rw[B_eq] at hv1B; omega)
 have c2:IntKind.u64.wrap (v2:Int)=v2:=w64 (by rw[B_eq] at hv2B; omega)
 have c3:IntKind.u64.wrap (u2:Int)=u2:=w64 (by rw[B_eq] at hu2; omega)
 have p1:v[e+1]=v1:=by rw[← q1]
 have p2:v[e]=v2:=by rw[← q2]
 have p3:W[off+e]=u2:=by rw[← q3]
 have x1:(e:Int)<v.length:=by omega
 have x2:(e:Int)+1<v.length:=by omega
 have x3:(e:Int)<(e:Int)+3:=by omega
 refine awp_forW (stD0 m W v σ out b j off e) (fun k=>rK w v1 k<B) (w/v1-g) (by rw[hst]; simp) ?_ (fun k hk hr=>?_) (fun hr=>?_)
 ·show rK w v1 0<B
  unfold rK
  rw[Nat.zero_mul,Nat.add_zero]
  exact Nat.lt_trans (Nat.mod_lt w h1) hv1B
 ·have hkw:k≤w/v1:=Nat.le_trans (Nat.le_of_lt hk) (Nat.sub_le _ _)
  have hkw2:k+1≤w/v1:=Nat.le_trans hk (Nat.sub_le _ _)
  have heq:=gr_eq (w:=w) (v1:=v1) (k:=k) hkw
  have hbig:=(tooBig_iff (u2:=u2) (v2:=v2) h1 heq).2 (by rw[← hg]; unfold gK; omega)
  have hgk:gK w v1 (k+1)+1=gK w v1 k:=by unfold gK; omega
  have hrk:rK w v1 (k+1)=rK w v1 k+v1:=by unfold rK; rw[Nat.add_mul]; omega
  have heq2:=gr_eq (w:=w) (v1:=v1) (k:=k+1) (by omega)
  have hbrk:=fun hB=>break_ok (u2:=u2) (v2:=v2) h1 heq2 hw hv2B hB
  have hgle:gK w v1 k≤w:=by
   have:w/v1≤w:=Nat.div_le_self _ _
   unfold gK; omega
  have hend:B≤rK w v1 (k+1)→gK w v1 (k+1)=g:=fun hB=>by
   have:=hbrk hB
   rw[tooBig_iff h1 heq2,← hg] at this
   unfold gK at *
   omega
  rw[hst]
  have hgsub:IntKind.u64.wrap ((gK w v1 k:Int)-1)=(gK w v1 (k+1):Int):=by rw[w64']<;>omega
  have hradd:IntKind.u64.wrap ((rK w v1 k:Int)+(v1:Int))=(rK w v1 (k+1):Int):=by
   rw[B_eq] at hr hv1B
   rw[w64']<;>omega
  have rest:∀ K2,(∀ q y,(q=69∨q=81)→(¬ B≤rK w v1 (k+1)→K2 Exit.normal {env:=[(0,.sl j 1 off (e+3)),(1,nl m v),(5,iv ((e:Int)+2)),(7,u64v (gK w v1 (k+1))),(8,u64v (rK w v1 (k+1))),(q,y)],sto:=σ,out:=out,base:=b}) ∧
    (B≤rK w v1 (k+1)→K2 (Exit.exit 0) {env:=[(0,.sl j 1 off (e+3)),(1,nl m v),(5,iv ((e:Int)+2)),(7,u64v (gK w v1 (k+1))),(8,u64v (rK w v1 (k+1))),(q,y)],sto:=σ,out:=out,base:=b})) →
    awp Try.prog c_n_digit_l0 {env:=[(0,.sl j 1 off (e+3)),(1,nl m v),(5,iv ((e:Int)+2)),(7,u64v (gK w v1 k)),(8,u64v (rK w v1 k))],sto:=σ,out:=out,base:=b} K2:=by
   intro K2 hK2
   by_cases hB:B≤gK w v1 k
   ·have hB':(4294967296:Int)≤gK w v1 k:=by rw[B_eq] at hB; omega
    by_cases hBr:B≤rK w v1 (k+1)
    ·have hBr':(4294967296:Int)≤rK w v1 (k+1):=by rw[B_eq] at hBr; omega
     simp[c_n_digit_l0,hB',hBr',hgsub,i5,i3,i4,x2,hv1,p1,c1,hradd]
     exact (hK2 _ _ (by simp)).2 hBr
    ·have hBr':¬ (4294967296:Int)≤rK w v1 (k+1):=by rw[B_eq] at hBr; omega
     simp[c_n_digit_l0,hB',hBr',hgsub,i5,i3,i4,x2,hv1,p1,c1,hradd]
     exact (hK2 _ _ (by simp)).1 hBr
   ·have hB':¬ (4294967296:Int)≤gK w v1 k:=by rw[B_eq] at hB; omega
    have hlt:rK w v1 k*B+u2<gK w v1 k*v2:=hbig.resolve_left hB
    have hor:=or_hi hr hu2
    have hsh:=shl32 hr
    have hpl:gK w v1 k*v2<18446744073709551616:=by
     have:gK w v1 k*v2≤(B-1)*(B-1):=Nat.mul_le_mul (by omega) (by omega)
     have:(B-1)*(B-1)<18446744073709551616:=by decide
     omega
    obtain ⟨p,hp⟩:∃ p,gK w v1 k*v2=p:=⟨_,rfl⟩
    obtain ⟨rb,hrb⟩:∃ rb,rK w v1 k*B=rb:=⟨_,rfl⟩
    rw[hp] at hlt hpl
    rw[hrb] at hlt hor hsh
    have hmul:IntKind.u64.wrap ((gK w v1 k:Int)*(v2:Int))=(p:Int):=by
     rw[show (gK w v1 k:Int)*(v2:Int)=((gK w v1 k*v2:Nat):Int) by simp,hp]; exact w64 hpl
    have hlt':(rb:Int)+(u2:Int)<(p:Int):=by omega
    simp only[Int.natCast_add] at hor
    by_cases hBr:B≤rK w v1 (k+1)
    ·have hBr':(4294967296:Int)≤rK w v1 (k+1):=by rw[B_eq] at hBr; omega
     simp[c_n_digit_l0,hB',hBr',hgsub,i1,i5,i3,i4,x1,x2,x3,hv0,hv1,hW0,p1,p2,p3,c1,c2,c3,hj,hmul,eBin_shl,hsh,hor,hlt',hradd]
     exact (hK2 _ _ (by simp)).2 hBr
    ·have hBr':¬ (4294967296:Int)≤rK w v1 (k+1):=by rw[B_eq] at hBr; omega
     simp[c_n_digit_l0,hB',hBr',hgsub,i1,i5,i3,i4,x1,x2,x3,hv0,hv1,hW0,p1,p2,p3,c1,c2,c3,hj,hmul,eBin_shl,hsh,hor,hlt',hradd]
     exact (hK2 _ _ (by simp)).1 hBr
  refine rest _ fun q y hq=>⟨fun hB=>?_,fun hB=>?_⟩
  ·rw[stepW_normal,hst]
   refine ⟨by rcases hq with rfl | rfl<;>simp,by omega⟩
  ·have:=hend hB
   rw[this]
   exact hK _ _ _ hq
 ·have hgk:gK w v1 (w/v1-g)=g:=by unfold gK; omega
  have heq:=gr_eq (w:=w) (v1:=v1) (k:=w/v1-g) (by omega)
  have hnb:=fun hb=>(tooBig_iff (u2:=u2) (v2:=v2) h1 heq).1 hb
  rw[hgk,← hg] at hnb
  have hB:¬ B≤g:=fun hb=>Nat.lt_irrefl _ (hnb (.inl hb))
  have hlt:¬ rK w v1 (w/v1-g)*B+u2<g*v2:=fun hb=>Nat.lt_irrefl _ (hnb (.inr hb))
  have hB':¬ (4294967296:Int)≤g:=by rw[B_eq] at hB; omega
  have hor:=or_hi hr hu2
  have hsh:=shl32 hr
  have hst2:stD0 m W v σ out b j off e (w/v1-g)={env:=[(0,.sl j 1 off (e+3)),(1,nl m v),(5,iv ((e:Int)+2)),(7,u64v g),(8,u64v (rK w v1 (w/v1-g)))],sto:=σ,out:=out,base:=b}:=by
   rw[hst,hgk]
  rw[hst2]
  clear hst2 heq
  generalize rK w v1 (w/v1-g)=r at *
  obtain ⟨p,hp⟩:∃ p,g*v2=p:=⟨_,rfl⟩
  obtain ⟨rb,hrb⟩:∃ rb,r*B=rb:=⟨_,rfl⟩
  have hpl:g*v2<18446744073709551616:=by
   have:g*v2≤(B-1)*(B-1):=Nat.mul_le_mul (by omega) (by omega)
   have:(B-1)*(B-1)<18446744073709551616:=by decide
   omega
  rw[hp] at hlt hpl
  rw[hrb] at hlt hor hsh
  have hmul:IntKind.u64.wrap ((g:Int)*(v2:Int))=(p:Int):=by
   rw[show (g:Int)*(v2:Int)=((g*v2:Nat):Int) by simp,hp]; exact w64 hpl
  have hlt':¬ (rb:Int)+(u2:Int)<(p:Int):=by omega
  simp only[Int.natCast_add] at hor
  simp[c_n_digit_l0,hB',i1,x1,x3,hv0,hW0,p2,p3,c2,c3,hj,hmul,eBin_shl,hsh,hor,hlt']
  exact hK _ _ _ (by simp)
end Go.Proofs.Ytbgnkodhpbkdoaa

namespace Go.Proofs.Ytbgnkodhpbkdoaa
open Go Go.Am Go.Dig
theorem and_low {p:Nat} (hp:p<18446744073709551616):bitI .and .u64 (p:Int) 4294967295=((p%B:Nat):Int):=by
 have hbits:IntKind.u64.bits=64:=rfl
 simp only[bitI]
 rw[BitVec.toNat_and]
 have e1:(BitVec.ofInt IntKind.u64.bits (p:Int)).toNat=p:=by rw[hbits,BitVec.toNat_ofInt]; omega
 have e2:(BitVec.ofInt IntKind.u64.bits 4294967295).toNat=4294967295:=rfl
 rw[e1,e2]
 have h:=Nat.and_two_pow_sub_one_eq_mod p 32
 have:(2:Nat)^32-1=4294967295:=by decide
 rw[this] at h
 rw[h,show (2:Nat)^32=B from rfl]
 exact w64 (Nat.lt_trans (Nat.mod_lt _ B_pos) (by decide))
def cK (g:Nat) (v:List Nat) (k:Nat):Nat:=g*val (v.take k)/B^k
def stD1 (m:Am.Mode) (W v u:List Nat) (σ:List (Nat × Entry)) (out:List (List (Nat × AV))) (b j off e g x T k:Nat):St :=
 {env:=[(0,.sl j 1 off (e+3)),(1,nl m v),(5,iv ((e:Int)+2)),(7,u64v g),(9,u64v (cK g v k)),(10,u64v (bor x T k)),(82,iv ((e:Int)+2)),(83,iv k)],sto:=pt σ j (.arr 1 (drows (seg W off (mixD (x-T) u k)))),out:=out,base:=b}
section
variable {m:Am.Mode} {W v:List Nat} {σ:List (Nat × Entry)} {out:List (List (Nat × AV))} {b j off e g x:Nat} {K:Exit→St→Prop} (h:DigOk W v off e) (hj:lk σ j=some (.arr 1 (drows W)))
  (hg:g<B) (hx:∀ k,k<e+3→x/B^k%B=W.getD (off+k) 0) (hT:g*val v≤x)
include h hj hg hx hT
omit hj in
theorem digit_sub {s:St} (hs:impE s (stD1 m W v ((W.drop off).take (e+3)) σ out b j off e g x (g*val v) 0))
  (hK:awp Try.prog c_n_digit_k4 {env:=[(0,.sl j 1 off (e+3)),(1,nl m v),(5,iv ((e:Int)+2)),(7,u64v g),(9,u64v (cK g v (e+2))),(10,u64v (bor x (g*val v) (e+2))),(82,iv ((e:Int)+2)),(83,iv ((e:Int)+2)),(84,bv false)],sto:=pt σ j (.arr 1 (drows (seg W off (mixD (x-g*val v) ((W.drop off).take (e+3)) (e+2))))),out:=out,base:=b} K) :
  awp Try.prog (.loop c_n_digit_l1) s (blockC 2 (seqC Try.prog c_n_digit_k4 K)):=by
 have hvl:=h.hv
 have hWl:=h.hW
 have hsm:=h.small
 generalize hue:(W.drop off).take (e+3)=u at *
 have hul:u.length=e+3:=by rw[← hue]; simp; omega
 refine awp_forW (stD1 m W v u σ out b j off e g x (g*val v)) (fun _=>True) (e+2) hs trivial (fun k hk _=>?_) (fun _=>?_)
 ·have hkv:k<v.length:=by omega
  have hku:k<u.length:=by omega
  have hvB:=ok_get h.okv hkv
  have hWk:off+k<W.length:=by omega
  have huk:u[k]=W[off+k]:=by subst hue; simp
  have hq:W.getD (off+k) 0=W[off+k]:=by simp[hWk]
  have hukB:u[k]<B:=by rw[huk]; exact ok_get h.okW hWk
  have hcB:cK g v k<B:=mul_carry_lt h.okv hg k
  obtain ⟨m1,m2⟩:=mul_col (g:=g) hkv
  have hsd:=sub_digit (k:=k) hT
  have hbs:=bor_succ (x:=x) (y:=g*val v) (k:=k)
  have hb1:=bor_le (x:=x) (y:=g*val v) (k:=k)
  rw[hx k (by omega),hq,← huk,m1] at hsd hbs
  have hck:cK g v (k+1)=(g*v[k]+cK g v k)/B:=m2
  change (((x-g*val v)/B^k%B:Nat):Int)=((u[k]:Nat)-((g*v[k]+cK g v k)%B:Nat)-(bor x (g*val v) k:Nat):Int)%4294967296 at hsd
  change bor x (g*val v) (k+1)=if u[k]<(g*v[k]+cK g v k)%B+bor x (g*val v) k then 1 else 0 at hbs
  have hpB:g*v[k]+cK g v k<18446744073709551616:=by
   have:=mul_bound hg hvB hcB B_pos
   have hBB:B*B=18446744073709551616:=by decide
   omega
  have hmx:=mixD_set (Z:=x-g*val v) hku
  have hml:=mixD_len (Z:=x-g*val v) (u:=u) (k:=k) (by omega)
  have hmg:=mixD_get (Z:=x-g*val v) hku
  have hsl:=seg_len (W:=W) (X:=mixD (x-g*val v) u k) (off:=off) (by rw[hml]; omega)
  have hsg:=seg_get (W:=W) (X:=mixD (x-g*val v) u k) (off:=off) (i:=k) (by rw[hml]; omega) (by omega)
  have hss:=seg_set (W:=W) (X:=mixD (x-g*val v) u k) (off:=off) (i:=k) (d:=(x-g*val v)/B^k%B) (by rw[hml]; omega) (by omega)
  rw[hmx] at hss
  rw[hmg] at hsg
  obtain ⟨d,hd⟩:∃ d,(x-g*val v)/B^k%B=d:=⟨_,rfl⟩
  rw[hd] at hss hsd
  obtain ⟨p,hp⟩:∃ p,g*v[k]+cK g v k=p:=⟨_,rfl⟩
  obtain ⟨gv,hgv⟩:∃ gv,g*v[k]=gv:=⟨_,rfl⟩
  rw[hp] at hsd hbs hck hpB
  rw[hgv] at hp
  obtain ⟨pl,hpl⟩:∃ pl,p%B=pl:=⟨_,rfl⟩
  rw[hpl] at hsd hbs
  have hplB:pl<B:=by rw[← hpl]; exact Nat.mod_lt _ B_pos
  obtain ⟨c2,hc2⟩:∃ c2,p/B=c2:=⟨_,rfl⟩
  rw[hc2] at hck
  rw[stD1]
  generalize bor x (g*val v) k=b0 at *
  generalize hb2:bor x (g*val v) (k+1)=b2 at *
  have hA:off+k<(seg W off (mixD (x-g*val v) u k)).length:=by omega
  have hset:(drows (seg W off (mixD (x-g*val v) u k))).set (off+k) [uv d]=drows (seg W off (mixD (x-g*val v) u (k+1))):=by rw[drows_set,hss]
  have hst1:stD1 m W v u σ out b j off e g x (g*val v) (k+1)={env:=[(0,.sl j 1 off (e+3)),(1,nl m v),(5,iv ((e:Int)+2)),(7,u64v g),(9,u64v c2),(10,u64v b2),(82,iv ((e:Int)+2)),(83,iv ((k:Int)+1))],sto:=pt σ j (.arr 1 (drows (seg W off (mixD (x-g*val v) u (k+1))))),out:=out,base:=b}:=by
   rw[stD1,hck,hb2]; rfl
  clear hd
  generalize huk2:u[k]=uk at *
  have ek:(k:Int)<(e:Int)+2:=by omega
  have ekv:(k:Int)<v.length:=by omega
  have ek3:(k:Int)<(e:Int)+3:=by omega
  have u1:IntKind.u64.wrap ((v[k]:Nat):Int)=(v[k]:Nat):=w64 (Nat.lt_trans hvB (by decide))
  have u2:IntKind.u64.wrap ((g:Int)*(v[k]:Int))=(gv:Int):=by
   rw[show (g:Int)*(v[k]:Int)=((g*v[k]:Nat):Int) by simp,hgv]; exact w64 (by omega)
  have u3:IntKind.u64.wrap ((gv:Int)+(cK g v k:Int))=(p:Int):=by rw[w64']<;>omega
  have u4:(p:Int).fdiv (2^min 32 IntKind.u64.bits)=(c2:Int):=by rw[shr32,hc2]
  have u5:=and_low hpB
  rw[hpl] at u5
  rw[B_eq] at hukB hplB
  have u6:IntKind.u64.wrap (uk:Int)=uk:=w64 (by omega)
  have u7:=wsub ((uk:Int)-(pl:Int)) (b0:Int)
  have u8:=w3264 ((uk:Int)-(pl:Int)-(b0:Int))
  rw[← hsd] at u8
  have u9:=shr63 (u:=(uk:Int)-(pl:Int)-(b0:Int)) (by omega) (by omega)
  have u10:(if (uk:Int)-(pl:Int)-(b0:Int)<0 then (1:Int) else 0)=(b2:Int):=by
   rw[hbs]; split<;>split<;>omega
  rw[u10] at u9
  have w1:IntKind.i64.wrap ((k:Int)+1)=(k:Int)+1:=wrap64 (by omega) (by omega)
  simp[c_n_digit_l1,ek,ekv,ek3,hkv,u1,u2,u3,u4,u5,u6,u7,u8,u9,hA,hsg,splice,hset,w1,eBin_shr,hst1]
 ·simp[c_n_digit_l1,stD1]
  exact hK
end
end Go.Proofs.Ytbgnkodhpbkdoaa

namespace Go.Proofs.Ytbgnkodhpbkdoaa
open Go Go.Am Go.Dig
def stD2 (m:Am.Mode) (W v z:List Nat) (σ:List (Nat × Entry)) (out:List (List (Nat × AV))) (b j off e g k:Nat):St :=
 {env:=[(0,.sl j 1 off (e+3)),(1,nl m v),(5,iv ((e:Int)+2)),(7,u64v g),(9,u64v (car z v k)),(134,iv ((e:Int)+2)),(135,iv k)],sto:=pt σ j (.arr 1 (drows (seg W off (mixD (val z+val v) z k)))),out:=out,base:=b}
section
variable {m:Am.Mode} {W v z:List Nat} {σ:List (Nat × Entry)} {out:List (List (Nat × AV))} {b j off e g:Nat} {K:Exit→St→Prop} (h:DigOk W v off e) (hz:ok z) (hzl:z.length=e+3)
include h hz hzl
theorem digit_back {s:St} (hs:impE s (stD2 m W v z σ out b j off e g 0))
  (hK:awp Try.prog c_n_digit_k3 {env:=[(0,.sl j 1 off (e+3)),(1,nl m v),(5,iv ((e:Int)+2)),(7,u64v g),(9,u64v (car z v (e+2))),(134,iv ((e:Int)+2)),(135,iv ((e:Int)+2)),(136,bv false)],sto:=pt σ j (.arr 1 (drows (seg W off (mixD (val z+val v) z (e+2))))),out:=out,base:=b} K) :
  awp Try.prog (.loop c_n_digit_l2) s (blockC 4 (seqC Try.prog c_n_digit_k3 K)):=by
 have hvl:=h.hv
 have hWl:=h.hW
 have hsm:=h.small
 refine awp_forW (stD2 m W v z σ out b j off e g) (fun _=>True) (e+2) hs trivial (fun k hk _=>?_) (fun _=>?_)
 ·have hkv:k<v.length:=by omega
  have hkz:k<z.length:=by omega
  have hvB:=ok_get h.okv hkv
  have hzB:=ok_get hz hkz
  have hc:=car_le hz h.okv k
  obtain ⟨t,ht,g1,g2⟩:=add_col (a:=z) (b:=v) hkz (by omega)
  rw[List.getElem?_eq_getElem hkv,Option.getD_some] at ht
  have hmx:=mixD_set (Z:=val z+val v) hkz
  have hml:=mixD_len (Z:=val z+val v) (u:=z) (k:=k) (by omega)
  have hmg:=mixD_get (Z:=val z+val v) hkz
  have hsl:=seg_len (W:=W) (X:=mixD (val z+val v) z k) (off:=off) (by rw[hml]; omega)
  have hsg:=seg_get (W:=W) (X:=mixD (val z+val v) z k) (off:=off) (i:=k) (by rw[hml]; omega) (by omega)
  have hss:=seg_set (W:=W) (X:=mixD (val z+val v) z k) (off:=off) (i:=k) (d:=(val z+val v)/B^k%B) (by rw[hml]; omega) (by omega)
  rw[hmx,g1] at hss
  rw[hmg] at hsg
  obtain ⟨d,hd⟩:∃ d,t%B=d:=⟨_,rfl⟩
  obtain ⟨q,hq⟩:∃ q,t/B=q:=⟨_,rfl⟩
  rw[hd] at hss
  rw[hq] at g2
  have hA:off+k<(seg W off (mixD (val z+val v) z k)).length:=by omega
  have hset:(drows (seg W off (mixD (val z+val v) z k))).set (off+k) [uv d]=drows (seg W off (mixD (val z+val v) z (k+1))):=by rw[drows_set,hss]
  have hst1:stD2 m W v z σ out b j off e g (k+1)={env:=[(0,.sl j 1 off (e+3)),(1,nl m v),(5,iv ((e:Int)+2)),(7,u64v g),(9,u64v q),(134,iv ((e:Int)+2)),(135,iv ((k:Int)+1))],sto:=pt σ j (.arr 1 (drows (seg W off (mixD (val z+val v) z (k+1))))),out:=out,base:=b}:=by
   rw[stD2,g2]; rfl
  rw[stD2]
  generalize car z v k=c at *
  generalize hzk:z[k]=zk at *
  generalize hvk:v[k]=vk at *
  rw[B_eq] at hvB hzB
  have ek:(k:Int)<(e:Int)+2:=by omega
  have ekv:(k:Int)<v.length:=by omega
  have ek3:(k:Int)<(e:Int)+3:=by omega
  have f1:IntKind.u32.wrap (t:Int)=(d:Int):=by rw[w32,hd]
  have f2:(t:Int).fdiv (2^min 32 IntKind.u64.bits)=(q:Int):=by rw[shr32,hq]
  have u1:IntKind.u64.wrap (vk:Int)=vk:=w64 (by omega)
  have u2:IntKind.u64.wrap (zk:Int)=zk:=w64 (by omega)
  have u3:IntKind.u64.wrap ((zk:Int)+(vk:Int))=(zk:Int)+vk:=by rw[w64']<;>omega
  have u4:IntKind.u64.wrap ((zk:Int)+(vk:Int)+(c:Int))=(t:Int):=by rw[w64']<;>omega
  have w1:IntKind.i64.wrap ((k:Int)+1)=(k:Int)+1:=wrap64 (by omega) (by omega)
  simp[c_n_digit_l2,ek,ekv,ek3,hkv,hvk,u1,u2,u3,u4,f1,f2,hA,hsg,splice,hset,w1,eBin_shr,hst1]
 ·simp[c_n_digit_l2,stD2]
  exact hK
theorem back_end (hg:0<g) (hgB:g<B):awp Try.prog c_n_digit_k3 {env:=[(0,.sl j 1 off (e+3)),(1,nl m v),(5,iv ((e:Int)+2)),(7,u64v g),(9,u64v (car z v (e+2))),(134,iv ((e:Int)+2)),(135,iv ((e:Int)+2)),(136,bv false)],sto:=pt σ j (.arr 1 (drows (seg W off (mixD (val z+val v) z (e+2))))),out:=out,base:=b}
  (fun ex s=>ex=.ret∧s={env:=[(4,uv (g-1))],sto:=pt σ j (.arr 1 (drows (seg W off (digsN (e+3) (val z+val v))))),out:=out,base:=b}):=by
 have hvl:=h.hv
 have hWl:=h.hW
 have hsm:=h.small
 have hkz:e+2<z.length:=by omega
 have hzB:=ok_get hz hkz
 have hc:=car_le hz h.okv (e+2)
 obtain ⟨t,ht,g1,g2⟩:=add_col (a:=z) (b:=v) hkz (by omega)
 rw[List.getElem?_eq_none (by omega),Option.getD_none] at ht
 have hmx:=mixD_set (Z:=val z+val v) hkz
 have hml:=mixD_len (Z:=val z+val v) (u:=z) (k:=e+2) (by omega)
 have hmg:=mixD_get (Z:=val z+val v) hkz
 have hsl:=seg_len (W:=W) (X:=mixD (val z+val v) z (e+2)) (off:=off) (by rw[hml]; omega)
 have hsg:=seg_get (W:=W) (X:=mixD (val z+val v) z (e+2)) (off:=off) (i:=e+2) (by rw[hml]; omega) (by omega)
 have hss:=seg_set (W:=W) (X:=mixD (val z+val v) z (e+2)) (off:=off) (i:=e+2) (d:=(val z+val v)/B^(e+2)%B) (by rw[hml]; omega) (by omega)
 rw[hmx,g1,show e+2+1=e+3 from rfl,mixD_all hzl] at hss
 rw[hmg] at hsg
 obtain ⟨d,hd⟩:∃ d,t%B=d:=⟨_,rfl⟩
 rw[hd] at hss
 have hA:off+(e+2)<(seg W off (mixD (val z+val v) z (e+2))).length:=by omega
 have hset:(drows (seg W off (mixD (val z+val v) z (e+2)))).set (off+(e+2)) [uv d]=drows (seg W off (digsN (e+3) (val z+val v))):=by rw[drows_set,hss]
 generalize car z v (e+2)=c at *
 generalize hzk:z[e+2]=zk at *
 have e1:((e:Int)+2).toNat=e+2:=by omega
 have e2:(0:Int)≤(e:Int)+2:=by omega
 have e3:(e:Int)+2<(e:Int)+3:=by omega
 have u1:IntKind.u32.wrap (c:Int)=c:=IntWalk.u32_in _ (by omega)
 have u2:IntKind.u32.wrap ((zk:Int)+(c:Int))=(d:Int):=by
  have:(zk:Int)+(c:Int)=(t:Int):=by omega
  rw[this,w32,hd]
 rw[B_eq] at hgB
 have u3:IntKind.u64.wrap ((g:Int)-1)=((g-1:Nat):Int):=by rw[w64']<;>omega
 have u4:IntKind.u32.wrap ((g-1:Nat):Int)=((g-1:Nat):Int):=IntWalk.u32_in _ (by omega)
 simp[c_n_digit_k3,e1,e2,e3,hA,hsg,u1,u2,u3,u4,splice,hset]
end
end Go.Proofs.Ytbgnkodhpbkdoaa
