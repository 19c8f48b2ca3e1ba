/- What the proof rests on, part 8: C Dig N0 PB Q0 Q1 Q2 Q3 Q4 Q5 Q6. -/
import Derived.Test.YtbmhibiljjnfiaaP7
import Derived.Test.YtbmhibiljjnfiaaProg
set_option maxRecDepth 100000
set_option maxHeartbeats 4000000
namespace Go.Proofs.Ytbmhibiljjnfiaa
open Go Go.Am
def c_ref10_Check_l0:ACode:=(.seq (.seq (rgN [oq 66 .mov [.t 6],oq 67 .mov [.t 4],oq 68 (.bin .lss T_int (.tmp 66) (.tmp 67)) [.t 66,.t 67]] [66,67] []) (.cond (.t 68) .skip (.exit 2))) (.seq (.block 3 (.seq (rgD [oq 71 (.faddr 2) [.t 1],oq 72 (.load none) [.t 71],oq 73 .mov [.t 6],oq 74 (.iaddrS 3) [.t 72,.t 73],oq 75 (.faddr 0) [.t 74],oq 76 (.load none) [.t 75],oq 77 (.faddr 0) [.t 5],oq 78 (.load none) [.t 77],oq 79 (.bin .eql T_int (.tmp 76) (.tmp 78)) [.t 76,.t 78],oq 80 .mov [.t 79],⟨some 81,.faddr 2,[.t 1],some (80,true)⟩,⟨some 82,.load none,[.t 81],some (80,true)⟩,⟨some 83,.mov,[.t 6],some (80,true)⟩,⟨some 84,.iaddrS 3,[.t 82,.t 83],some (80,true)⟩,⟨some 85,.faddr 1,[.t 84],some (80,true)⟩,⟨some 86,.load none,[.t 85],some (80,true)⟩,⟨some 87,.faddr 1,[.t 5],some (80,true)⟩,⟨some 88,.load none,[.t 87],some (80,true)⟩,⟨some 89,.bin .eql T_int (.tmp 86) (.tmp 88),[.t 86,.t 88],some (80,true)⟩,oq 90 .pick [.t 80,.t 89,.c (bv false)]] [68,71,72,73,74,75,76,77,78,79,80,81,82,83,84,85,86,87,88,89] []) (.cond (.t 90) (.seq (rgN [oq 2 .mov [.c (iv 7)]] [1,4,5,6,90] [1,5]) .ret) .skip))) (rgN [oq 69 .mov [.t 6],oq 70 (.bin .add T_int (.tmp 69) (kc 1)) [.t 69,.c (iv 1)],oq 6 .mov [.t 70]] [90,69,70] [])))
def c_ref10_Check_k1:ACode:=(rgN [oq 30 .mov [.t 4],oq 31 (.bin .add T_int (.tmp 30) (kc 1)) [.t 30,.c (iv 1)],oq 4 .mov [.t 31]] [5,6,68,30,31] [5])
def c_ref10_Check_l2:ACode:=(.seq (.seq (rgN [oq 25 .mov [.t 4],oq 26 (.faddr 2) [.t 1],oq 27 (.load none) [.t 26],oq 28 (.len false) [.t 27],oq 29 (.bin .lss T_int (.tmp 25) (.tmp 28)) [.t 25,.t 28]] [25,26,27,28] []) (.cond (.t 29) .skip (.exit 0))) (.seq (.block 1 (.seq (rgN [oq 32 (.faddr 2) [.t 1],oq 33 (.load none) [.t 32],oq 34 .mov [.t 4],oq 35 (.iaddrS 3) [.t 33,.t 34],oq 36 (.load (some 3)) [.t 35],oq 5 (.alloc [iv 0,iv 0,iv 0]) [],ox (.store 3) [.t 5,.t 36]] [29,32,33,34,35,36] []) (.seq (.seq (rgN [oq 37 (.faddr 0) [.t 5],oq 38 (.load none) [.t 37],⟨some 39,.bin .lss T_int (.tmp 38) (kc (-1)),[.t 38,.c (iv (-1))],none⟩,oq 40 .mov [.t 39],⟨some 41,.faddr 0,[.t 5],some (40,false)⟩,⟨some 42,.load none,[.t 41],some (40,false)⟩,⟨some 43,.faddr 1,[.t 1],some (40,false)⟩,⟨some 44,.load none,[.t 43],some (40,false)⟩,⟨some 45,.len false,[.t 44],some (40,false)⟩,⟨some 46,.bin .geq T_int (.tmp 42) (.tmp 45),[.t 42,.t 45],some (40,false)⟩,oq 47 .pick [.t 40,.c (bv true),.t 46]] [37,38,39,40,41,42,43,44,45,46] []) (.cond (.t 47) (.seq (rgN [oq 2 .mov [.c (iv 6)]] [1,4,5,47] [1,5]) .ret) .skip)) (.seq (.seq (rgN [oq 48 (.faddr 1) [.t 5],oq 49 (.load none) [.t 48],oq 50 (.bin .lss T_int (.tmp 49) (kc 0)) [.t 49,.c (iv 0)],oq 51 .mov [.t 50],⟨some 52,.faddr 1,[.t 5],some (51,false)⟩,⟨some 53,.load none,[.t 52],some (51,false)⟩,⟨some 54,.bin .gtr T_int (.tmp 53) (kc 4),[.t 53,.c (iv 4)],some (51,false)⟩,oq 55 .pick [.t 51,.c (bv true),.t 54],oq 56 .mov [.t 55],⟨some 57,.faddr 2,[.t 5],some (56,false)⟩,⟨some 58,.load none,[.t 57],some (56,false)⟩,⟨some 59,.bin .lss T_int (.tmp 58) (kc 0),[.t 58,.c (iv 0)],some (56,false)⟩,oq 60 .pick [.t 56,.c (bv true),.t 59],oq 61 .mov [.t 60],⟨some 62,.faddr 2,[.t 5],some (61,false)⟩,⟨some 63,.load none,[.t 62],some (61,false)⟩,⟨some 64,.bin .gtr T_int (.tmp 63) (kc 24),[.t 63,.c (iv 24)],some (61,false)⟩,oq 65 .pick [.t 61,.c (bv true),.t 64]] [47,48,49,50,51,52,53,54,55,56,57,58,59,60,61,62,63,64] []) (.cond (.t 65) (.seq (rgN [oq 2 .mov [.c (iv 4)]] [1,4,5,65] [1,5]) .ret) .skip)) (.seq (rgN [oq 6 .mov [.c (iv 0)]] [65] []) (.block 2 (.loop c_ref10_Check_l0))))))) c_ref10_Check_k1))
def c_ref10_Check_l3:ACode:=(.seq (.seq (rgN [oq 143 .mov [.t 9],oq 144 .mov [.t 7],oq 145 (.bin .lss T_int (.tmp 143) (.tmp 144)) [.t 143,.t 144]] [143,144] []) (.cond (.t 145) .skip (.exit 6))) (.seq (.block 7 (.seq (rgD [oq 148 (.faddr 3) [.t 1],oq 149 (.load none) [.t 148],oq 150 .mov [.t 9],oq 151 (.iaddrS 3) [.t 149,.t 150],oq 152 (.faddr 0) [.t 151],oq 153 (.load none) [.t 152],oq 154 (.faddr 0) [.t 8],oq 155 (.load none) [.t 154],oq 156 (.bin .eql T_int (.tmp 153) (.tmp 155)) [.t 153,.t 155]] [145,148,149,150,151,152,153,154,155] []) (.cond (.t 156) (.seq (rgN [oq 2 .mov [.c (iv 7)]] [1,7,8,9,156] [1,8]) .ret) .skip))) (rgN [oq 146 .mov [.t 9],oq 147 (.bin .add T_int (.tmp 146) (kc 1)) [.t 146,.c (iv 1)],oq 9 .mov [.t 147]] [156,146,147] [])))
def c_ref10_Check_k4:ACode:=(rgN [oq 100 .mov [.t 7],oq 101 (.bin .add T_int (.tmp 100) (kc 1)) [.t 100,.c (iv 1)],oq 7 .mov [.t 101]] [8,9,145,100,101] [8])
def c_ref10_Check_l5:ACode:=(.seq (.seq (rgN [oq 95 .mov [.t 7],oq 96 (.faddr 3) [.t 1],oq 97 (.load none) [.t 96],oq 98 (.len false) [.t 97],oq 99 (.bin .lss T_int (.tmp 95) (.tmp 98)) [.t 95,.t 98]] [95,96,97,98] []) (.cond (.t 99) .skip (.exit 4))) (.seq (.block 5 (.seq (rgN [oq 102 (.faddr 3) [.t 1],oq 103 (.load none) [.t 102],oq 104 .mov [.t 7],oq 105 (.iaddrS 3) [.t 103,.t 104],oq 106 (.load (some 3)) [.t 105],oq 8 (.alloc [iv 0,iv 0,iv 0]) [],ox (.store 3) [.t 8,.t 106]] [99,102,103,104,105,106] []) (.seq (.seq (rgN [oq 107 (.faddr 0) [.t 8],oq 108 (.load none) [.t 107],oq 109 (.bin .lss T_int (.tmp 108) (kc 0)) [.t 108,.c (iv 0)],oq 110 .mov [.t 109],⟨some 111,.faddr 0,[.t 8],some (110,false)⟩,⟨some 112,.load none,[.t 111],some (110,false)⟩,⟨some 113,.faddr 0,[.t 1],some (110,false)⟩,⟨some 114,.load none,[.t 113],some (110,false)⟩,⟨some 115,.len false,[.t 114],some (110,false)⟩,⟨some 116,.bin .geq T_int (.tmp 112) (.tmp 115),[.t 112,.t 115],some (110,false)⟩,oq 117 .pick [.t 110,.c (bv true),.t 116]] [107,108,109,110,111,112,113,114,115,116] []) (.cond (.t 117) (.seq (rgN [oq 2 .mov [.c (iv 6)]] [1,7,8,117] [1,8]) .ret) .skip)) (.seq (.seq (rgD [oq 118 (.faddr 1) [.t 8],oq 119 (.load none) [.t 118],oq 120 (.bin .lss T_int (.tmp 119) (kc 1)) [.t 119,.c (iv 1)],oq 121 .mov [.t 120],⟨some 122,.faddr 1,[.t 8],some (121,false)⟩,⟨some 123,.load none,[.t 122],some (121,false)⟩,⟨some 124,.bin .gtr T_int (.tmp 123) (kc 4),[.t 123,.c (iv 4)],some (121,false)⟩,oq 125 .pick [.t 121,.c (bv true),.t 124],oq 126 .mov [.t 125],⟨some 127,.faddr 2,[.t 8],some (126,false)⟩,⟨some 128,.load none,[.t 127],some (126,false)⟩,⟨some 129,.bin .lss T_int (.tmp 128) (kc 1),[.t 128,.c (iv 1)],some (126,false)⟩,oq 130 .pick [.t 126,.c (bv true),.t 129],oq 131 .mov [.t 130],⟨some 132,.faddr 2,[.t 8],some (131,false)⟩,⟨some 133,.load none,[.t 132],some (131,false)⟩,⟨some 134,.faddr 0,[.t 1],some (131,false)⟩,⟨some 135,.load none,[.t 134],some (131,false)⟩,⟨some 136,.faddr 0,[.t 8],some (131,false)⟩,⟨some 137,.load none,[.t 136],some (131,false)⟩,⟨some 138,.iaddrS 5,[.t 135,.t 137],some (131,false)⟩,⟨some 139,.faddr 1,[.t 138],some (131,false)⟩,⟨some 140,.load none,[.t 139],some (131,false)⟩,⟨some 141,.bin .gtr T_int (.tmp 133) (.tmp 140),[.t 133,.t 140],some (131,false)⟩,oq 142 .pick [.t 131,.c (bv true),.t 141]] [117,118,119,120,121,122,123,124,125,126,127,128,129,130,131,132,133,134,135,136,137,138,139,140,141] []) (.cond (.t 142) (.seq (rgN [oq 2 .mov [.c (iv 4)]] [1,7,8,142] [1,8]) .ret) .skip)) (.seq (rgN [oq 9 .mov [.c (iv 0)]] [142] []) (.block 6 (.loop c_ref10_Check_l3))))))) c_ref10_Check_k4))
def c_ref10_Check_k6:ACode:=(.seq (rgN [oq 2 .mov [.c (iv 0)]] [1,7,99] [1]) .ret)
def c_ref10_Check_k7:ACode:=(.seq (.seq (rgN [oq 91 (.faddr 3) [.t 1],oq 92 (.load none) [.t 91],oq 93 (.len false) [.t 92],oq 94 (.bin .gtr T_int (.tmp 93) (kc 6)) [.t 93,.c (iv 6)]] [4,29,91,92,93] []) (.cond (.t 94) (.seq (rgN [oq 2 .mov [.c (iv 3)]] [1,94] [1]) .ret) .skip)) (.seq (.seq (rgN [oq 7 .mov [.c (iv 0)]] [94] []) (.block 4 (.loop c_ref10_Check_l5))) c_ref10_Check_k6))
def c_ref10_Check:ACode:=(.seq (rgN [oq 1 .box [.t 0],oq 2 .mov [.c (iv 0)]] [0,2] []) (.seq (rgN [oq 10 (.faddr 0) [.t 1],oq 11 (.load none) [.t 10],oq 12 (.call F_ref08_Check) [.t 11],oq 3 .mov [.t 12]] [10,11,12] []) (.seq (.seq (rgN [oq 13 .mov [.t 3],oq 14 (.bin .eql T_api_Errno (.tmp 13) (kc 0)) [.t 13,.c (iv 0)]] [13] []) (.cond (.t 14) (rgN [oq 15 (.faddr 1) [.t 1],oq 16 (.load none) [.t 15],oq 17 (.call F_ref09_Check) [.t 16],oq 3 .mov [.t 17]] [14,15,16,17] []) .skip)) (.seq (.seq (rgN [oq 18 .mov [.t 3],oq 19 (.bin .neq T_api_Errno (.tmp 18) (kc 0)) [.t 18,.c (iv 0)]] [14,18] []) (.cond (.t 19) (.seq (rgN [oq 20 .mov [.t 3],oq 2 .mov [.t 20]] [1,3,19,20] [1]) .ret) .skip)) (.seq (.seq (rgN [oq 21 (.faddr 2) [.t 1],oq 22 (.load none) [.t 21],oq 23 (.len false) [.t 22],oq 24 (.bin .gtr T_int (.tmp 23) (kc 16)) [.t 23,.c (iv 16)]] [3,19,21,22,23] []) (.cond (.t 24) (.seq (rgN [oq 2 .mov [.c (iv 3)]] [1,24] [1]) .ret) .skip)) (.seq (.seq (rgN [oq 4 .mov [.c (iv 0)]] [24] []) (.block 0 (.loop c_ref10_Check_l2))) c_ref10_Check_k7))))))
def r_ref10_Check:List ResA:=[.t 2]
theorem t_ref10_Check:transl Try.prog F_ref10_Check=some (bare c_ref10_Check,r_ref10_Check,157):=by kernel_rfl
def c_ref08_Supply_l0:ACode:=(.seq (.seq (rgN [oq 5 .mov [.t 4],oq 6 .mov [.t 0],oq 7 (.len false) [.t 6],oq 8 (.bin .lss T_int (.tmp 5) (.tmp 7)) [.t 5,.t 7],oq 9 .mov [.t 8],⟨some 10,.mov,[.t 4],some (9,true)⟩,⟨some 11,.bin .lss T_int (.tmp 10) (kc 6),[.t 10,.c (iv 6)],some (9,true)⟩,oq 12 .pick [.t 9,.t 11,.c (bv false)]] [5,6,7,8,9,10,11] []) (.cond (.t 12) .skip (.exit 0))) (.seq (.block 1 (rgN [oq 15 .mov [.t 4],oq 16 .mov [.t 0],oq 17 .mov [.t 4],oq 18 (.iaddrS 5) [.t 16,.t 17],oq 19 (.faddr 1) [.t 18],oq 20 (.load none) [.t 19],oq 21 (.iaddrA 6 1) [.t 3,.t 15],ox (.store 1) [.t 21,.t 20]] [12,15,16,17,18,19,20,21] [])) (rgN [oq 13 .mov [.t 4],oq 14 (.bin .add T_int (.tmp 13) (kc 1)) [.t 13,.c (iv 1)],oq 4 .mov [.t 14]] [13,14] [])))
def c_ref08_Supply_k1:ACode:=(.seq (rgN [oq 22 (.load (some 6)) [.t 3],ox (.store 6) [.t 2,.t 22]] [0,3,4,12,22] [3]) .ret)
def c_ref08_Supply:ACode:=(.seq (rgN [oq 2 (.alloc [iv 0,iv 0,iv 0,iv 0,iv 0,iv 0]) []] [] []) (.seq (rgN [oq 3 (.alloc [iv 0,iv 0,iv 0,iv 0,iv 0,iv 0]) []] [] []) (.seq (.seq (rgN [oq 4 .mov [.c (iv 0)]] [] []) (.block 0 (.loop c_ref08_Supply_l0))) c_ref08_Supply_k1)))
def r_ref08_Supply:List ResA:=[.cell 2 (some 6)]
theorem t_ref08_Supply:transl Try.prog F_ref08_Supply=some (bare c_ref08_Supply,r_ref08_Supply,23):=by kernel_rfl
def c_ref10_Open_l0:ACode:=(.seq (.seq (rgN [oq 14 .mov [.t 6],oq 15 (.faddr 0) [.t 1],oq 16 (.load none) [.t 15],oq 17 (.len false) [.t 16],oq 18 (.bin .lss T_int (.tmp 14) (.tmp 17)) [.t 14,.t 17]] [14,15,16,17] []) (.cond (.t 18) .skip (.exit 0))) (.seq (.block 1 (rgN [oq 21 .mov [.t 6],oq 22 (.faddr 0) [.t 1],oq 23 (.load none) [.t 22],oq 24 .mov [.t 6],oq 25 (.iaddrS 5) [.t 23,.t 24],oq 26 (.faddr 1) [.t 25],oq 27 (.load none) [.t 26],oq 28 (.iaddrA 6 1) [.t 4,.t 21],ox (.store 1) [.t 28,.t 27]] [18,21,22,23,24,25,26,27,28] [])) (rgN [oq 19 .mov [.t 6],oq 20 (.bin .add T_int (.tmp 19) (kc 1)) [.t 19,.c (iv 1)],oq 6 .mov [.t 20]] [19,20] [])))
def c_ref10_Open_l1:ACode:=(.seq (.seq (rgN [oq 29 .mov [.t 7],oq 30 (.faddr 3) [.t 1],oq 31 (.load none) [.t 30],oq 32 (.len false) [.t 31],oq 33 (.bin .lss T_int (.tmp 29) (.tmp 32)) [.t 29,.t 32]] [29,30,31,32] []) (.cond (.t 33) .skip (.exit 2))) (.seq (.block 3 (.seq (rgN [oq 36 (.faddr 3) [.t 1],oq 37 (.load none) [.t 36],oq 38 .mov [.t 7],oq 39 (.iaddrS 3) [.t 37,.t 38],oq 40 (.load (some 3)) [.t 39],oq 8 (.alloc [iv 0,iv 0,iv 0]) [],ox (.store 3) [.t 8,.t 40]] [33,36,37,38,39,40] []) (.seq (rgD [oq 41 (.faddr 0) [.t 8],oq 42 (.load none) [.t 41],oq 43 (.faddr 0) [.t 8],oq 44 (.load none) [.t 43],oq 45 (.iaddrA 6 1) [.t 4,.t 44],oq 46 (.load none) [.t 45],oq 47 (.faddr 2) [.t 8],oq 48 (.load none) [.t 47],oq 49 (.bin .sub T_int (.tmp 46) (.tmp 48)) [.t 46,.t 48],oq 50 (.iaddrA 6 1) [.t 4,.t 42],ox (.store 1) [.t 50,.t 49]] [41,42,43,44,45,46,47,48,49,50] []) (rgN [oq 51 (.faddr 0) [.t 8],oq 52 (.load none) [.t 51],oq 53 (.faddr 1) [.t 8],oq 54 (.load none) [.t 53],oq 55 (.iaddrA 6 1) [.t 5,.t 52],ox (.store 1) [.t 55,.t 54]] [8,51,52,53,54,55] [8])))) (rgN [oq 34 .mov [.t 7],oq 35 (.bin .add T_int (.tmp 34) (kc 1)) [.t 34,.c (iv 1)],oq 7 .mov [.t 35]] [34,35] [])))
def c_ref10_Open_k2:ACode:=(.seq (rgD [ox (.start [56,57]) [],oq 56 (.load (some 6)) [.t 4],oq 57 (.load (some 6)) [.t 5],ox (.store 6) [.t 2,.t 56],oq 57 (.chk (.load (some 6))) [.t 5],ox (.store 6) [.t 3,.t 57]] [1,4,5,7,33,56,57] [1,4,5]) .ret)
def c_ref10_Open_k3:ACode:=(.seq (.seq (rgN [oq 7 .mov [.c (iv 0)]] [6,18] []) (.block 2 (.loop c_ref10_Open_l1))) c_ref10_Open_k2)
def c_ref10_Open:ACode:=(.seq (rgN [oq 1 .box [.t 0],oq 2 (.alloc [iv 0,iv 0,iv 0,iv 0,iv 0,iv 0]) [],oq 3 (.alloc [iv 0,iv 0,iv 0,iv 0,iv 0,iv 0]) []] [0] []) (.seq (rgN [oq 4 (.alloc [iv 0,iv 0,iv 0,iv 0,iv 0,iv 0]) [],oq 5 (.alloc [iv 0,iv 0,iv 0,iv 0,iv 0,iv 0]) []] [] []) (.seq (.seq (rgN [oq 9 (.load (some 4)) [.t 1],oq 10 (.call F_ref10_Check) [.t 9],oq 11 (.bin .neq T_api_Errno (.tmp 10) (kc 0)) [.t 10,.c (iv 0)]] [9,10] []) (.cond (.t 11) (.seq (rgD [ox (.start [12,13]) [],oq 12 (.load (some 6)) [.t 4],oq 13 (.load (some 6)) [.t 5],ox (.store 6) [.t 2,.t 12],oq 13 (.chk (.load (some 6))) [.t 5],ox (.store 6) [.t 3,.t 13]] [1,4,5,11,12,13] [1,4,5]) .ret) .skip)) (.seq (.seq (rgN [oq 6 .mov [.c (iv 0)]] [11] []) (.block 0 (.loop c_ref10_Open_l0))) c_ref10_Open_k3))))
def r_ref10_Open:List ResA:=[.cell 2 (some 6),.cell 3 (some 6)]
theorem t_ref10_Open:transl Try.prog F_ref10_Open=some (bare c_ref10_Open,r_ref10_Open,58):=by kernel_rfl
def c_ref08_Sums_l0:ACode:=(.seq (.seq (rgN [oq 28 .mov [.t 13],oq 29 .mov [.t 12],oq 30 (.iaddrA 6 1) [.t 5,.t 29],oq 31 (.load none) [.t 30],oq 32 (.bin .lss T_int (.tmp 28) (.tmp 31)) [.t 28,.t 31]] [28,29,30,31] []) (.cond (.t 32) .skip (.exit 2))) (.seq (.block 3 (.seq (rgN [oq 35 .mov [.t 9],oq 36 .mov [.t 0],oq 37 .mov [.t 12],oq 38 (.iaddrS 5) [.t 36,.t 37],oq 39 (.faddr 3) [.t 38],oq 40 (.load none) [.t 39],oq 41 (.bin .add T_int (.tmp 35) (.tmp 40)) [.t 35,.t 40],oq 9 .mov [.t 41]] [32,35,36,37,38,39,40,41] []) (.seq (rgN [oq 42 .mov [.t 10],oq 43 .mov [.t 0],oq 44 .mov [.t 12],oq 45 (.iaddrS 5) [.t 43,.t 44],oq 46 (.faddr 2) [.t 45],oq 47 (.load none) [.t 46],oq 48 (.bin .add T_int64 (.tmp 42) (.tmp 47)) [.t 42,.t 47],oq 10 .mov [.t 48]] [42,43,44,45,46,47,48] []) (.seq (rgN [oq 49 .mov [.t 0],oq 50 .mov [.t 12],oq 51 (.iaddrS 5) [.t 49,.t 50],oq 52 (.faddr 4) [.t 51],oq 53 (.load none) [.t 52],oq 54 .mov [.t 1],oq 55 (.bin .eql T_int (.tmp 53) (.tmp 54)) [.t 53,.t 54]] [49,50,51,52,53,54] []) (.cond (.t 55) (rgN [oq 56 .mov [.t 11],oq 57 (.bin .add T_int (.tmp 56) (kc 1)) [.t 56,.c (iv 1)],oq 11 .mov [.t 57]] [55,56,57] []) .skip))))) (rgN [oq 33 .mov [.t 13],oq 34 (.bin .add T_int (.tmp 33) (kc 1)) [.t 33,.c (iv 1)],oq 13 .mov [.t 34]] [55,33,34] [])))
def c_ref08_Sums_k1:ACode:=(rgN [oq 26 .mov [.t 12],oq 27 (.bin .add T_int (.tmp 26) (kc 1)) [.t 26,.c (iv 1)],oq 12 .mov [.t 27]] [13,32,26,27] [])
def c_ref08_Sums_l2:ACode:=(.seq (.seq (rgN [oq 22 .mov [.t 12],oq 23 .mov [.t 0],oq 24 (.len false) [.t 23],oq 25 (.bin .lss T_int (.tmp 22) (.tmp 24)) [.t 22,.t 24]] [22,23,24] []) (.cond (.t 25) .skip (.exit 0))) (.seq (.block 1 (.seq (rgN [oq 13 .mov [.c (iv 0)]] [25] []) (.block 2 (.loop c_ref08_Sums_l0)))) c_ref08_Sums_k1))
def c_ref08_Sums_k3:ACode:=(.seq (rgN [oq 58 .mov [.t 9],oq 59 .mov [.t 10],oq 60 .mov [.t 11],oq 6 .mov [.t 58],oq 7 .mov [.t 59],oq 8 .mov [.t 60]] [0,1,5,9,10,11,12,25,58,59,60] [5]) .ret)
def c_ref08_Sums:ACode:=(.seq (rgN [oq 5 .box [.t 2],oq 6 .mov [.c (iv 0)],oq 7 .mov [.c (iv 0)],oq 8 .mov [.c (iv 0)]] [2,6,7,8] []) (.seq (rgN [oq 9 .mov [.c (iv 0)],oq 10 .mov [.c (iv 0)],oq 11 .mov [.c (iv 0)]] [] []) (.seq (.seq (rgN [oq 14 .mov [.t 0],oq 15 (.call F_ref08_Check) [.t 14],oq 16 (.bin .neq T_api_Errno (.tmp 15) (kc 0)) [.t 15,.c (iv 0)],oq 17 .mov [.t 16],⟨some 18,.load (some 6),[.t 5],some (17,false)⟩,⟨some 19,.call F_ref08_Valid,[.t 18],some (17,false)⟩,⟨some 20,.un .not,[.t 19],some (17,false)⟩,oq 21 .pick [.t 17,.c (bv true),.t 20]] [14,15,16,17,18,19,20] []) (.cond (.t 21) (.seq (rgN [oq 6 .mov [.c (iv 0)],oq 7 .mov [.c (iv 0)],oq 8 .mov [.c (iv 0)]] [0,1,5,9,10,11,21] [5]) .ret) .skip)) (.seq (.seq (rgN [oq 12 .mov [.c (iv 0)]] [21] []) (.block 0 (.loop c_ref08_Sums_l2))) c_ref08_Sums_k3))))
def r_ref08_Sums:List ResA:=[.t 6,.t 7,.t 8]
theorem t_ref08_Sums:transl Try.prog F_ref08_Sums=some (bare c_ref08_Sums,r_ref08_Sums,61):=by kernel_rfl
def c_ref10_Allowed_l0:ACode:=(.seq (.seq (rgN [oq 42 .mov [.t 11],oq 43 (.bin .lss T_int (.tmp 42) (kc 6)) [.t 42,.c (iv 6)]] [42] []) (.cond (.t 43) .skip (.exit 0))) (.seq (.block 1 (.seq (rgD [oq 46 .mov [.t 11],oq 47 (.iaddrA 6 1) [.t 5,.t 46],oq 48 (.load none) [.t 47],oq 49 .mov [.t 11],oq 50 (.iaddrA 6 1) [.t 10,.t 49],oq 51 (.load none) [.t 50],oq 52 (.bin .gtr T_int (.tmp 48) (.tmp 51)) [.t 48,.t 51],oq 53 .mov [.t 52],⟨some 54,.mov,[.t 11],some (53,false)⟩,⟨some 55,.iaddrA 6 1,[.t 9,.t 54],some (53,false)⟩,⟨some 56,.load none,[.t 55],some (53,false)⟩,⟨some 57,.bin .neq T_int (.tmp 56) (kc 0),[.t 56,.c (iv 0)],some (53,false)⟩,⟨some 58,.mov,[.t 57],some (53,false)⟩,⟨some 59,.mov,[.t 11],some (58,true)⟩,⟨some 60,.iaddrA 6 1,[.t 9,.t 59],some (58,true)⟩,⟨some 61,.load none,[.t 60],some (58,true)⟩,⟨some 62,.faddr 1,[.t 3],some (58,true)⟩,⟨some 63,.load none,[.t 62],some (58,true)⟩,⟨some 64,.mov,[.t 1],some (58,true)⟩,⟨some 65,.iaddrS 4,[.t 63,.t 64],some (58,true)⟩,⟨some 66,.faddr 1,[.t 65],some (58,true)⟩,⟨some 67,.load none,[.t 66],some (58,true)⟩,⟨some 68,.bin .neq T_int (.tmp 61) (.tmp 67),[.t 61,.t 67],some (58,true)⟩,⟨some 69,.pick,[.t 58,.t 68,.c (bv false)],some (53,false)⟩,⟨some 70,.mov,[.t 69],some (53,false)⟩,⟨some 71,.mov,[.t 11],some (70,true)⟩,⟨some 72,.iaddrA 6 1,[.t 5,.t 71],some (70,true)⟩,⟨some 73,.load none,[.t 72],some (70,true)⟩,⟨some 74,.mov,[.t 11],some (70,true)⟩,⟨some 75,.iaddrA 6 1,[.t 8,.t 74],some (70,true)⟩,⟨some 76,.load none,[.t 75],some (70,true)⟩,⟨some 77,.bin .gtr T_int (.tmp 73) (.tmp 76),[.t 73,.t 76],some (70,true)⟩,⟨some 78,.pick,[.t 70,.t 77,.c (bv false)],some (53,false)⟩,oq 79 .pick [.t 53,.c (bv true),.t 78]] [43,46,47,48,49,50,51,52,53,54,55,56,57,58,59,60,61,62,63,64,65,66,67,68,69,70,71,72,73,74,75,76,77,78] []) (.cond (.t 79) (.seq (rgN [oq 6 .mov [.c (iv 14)]] [1,3,5,8,9,10,11,79] [3,5,8,9,10]) .ret) .skip))) (rgN [oq 44 .mov [.t 11],oq 45 (.bin .add T_int (.tmp 44) (kc 1)) [.t 44,.c (iv 1)],oq 11 .mov [.t 45]] [79,44,45] [])))
def c_ref10_Allowed_l1:ACode:=(.seq (.seq (rgN [oq 80 .mov [.t 12],oq 81 (.faddr 2) [.t 3],oq 82 (.load none) [.t 81],oq 83 (.len false) [.t 82],oq 84 (.bin .lss T_int (.tmp 80) (.tmp 83)) [.t 80,.t 83]] [80,81,82,83] []) (.cond (.t 84) .skip (.exit 2))) (.seq (.block 3 (.seq (rgN [oq 87 (.faddr 2) [.t 3],oq 88 (.load none) [.t 87],oq 89 .mov [.t 12],oq 90 (.iaddrS 3) [.t 88,.t 89],oq 91 (.load (some 3)) [.t 90],oq 13 (.alloc [iv 0,iv 0,iv 0]) [],ox (.store 3) [.t 13,.t 91]] [84,87,88,89,90,91] []) (.seq (rgN [oq 93 (.faddr 0) [.t 3],oq 94 (.load none) [.t 93],oq 95 (.faddr 1) [.t 13],oq 96 (.load none) [.t 95],oq 97 (.load (some 6)) [.t 5],oq 98 (.call F_ref08_Sums) [.t 94,.t 96,.t 97],oq 92 .mov [.t 98],oq 99 (.extract 0) [.t 92],oq 100 (.extract 1) [.t 92],oq 101 (.extract 2) [.t 92],oq 14 .mov [.t 99],oq 15 .mov [.t 100],oq 16 .mov [.t 101]] [93,94,95,96,97,98,92,99,100,101,14,15] []) (.seq (rgN [oq 102 (.faddr 0) [.t 13],oq 103 (.load none) [.t 102],⟨some 104,.bin .eql T_int (.tmp 103) (kc (-1)),[.t 103,.c (iv (-1))],none⟩,oq 105 .mov [.t 104],⟨some 106,.faddr 0,[.t 13],some (105,false)⟩,⟨some 107,.load none,[.t 106],some (105,false)⟩,⟨some 108,.mov,[.t 1],some (105,false)⟩,⟨some 109,.bin .eql T_int (.tmp 107) (.tmp 108),[.t 107,.t 108],some (105,false)⟩,oq 110 .pick [.t 105,.c (bv true),.t 109],oq 111 .mov [.t 110],⟨some 112,.mov,[.t 16],some (111,true)⟩,⟨some 113,.faddr 2,[.t 13],some (111,true)⟩,⟨some 114,.load none,[.t 113],some (111,true)⟩,⟨some 115,.bin .gtr T_int (.tmp 112) (.tmp 114),[.t 112,.t 114],some (111,true)⟩,oq 116 .pick [.t 111,.t 115,.c (bv false)]] [13,16,102,103,104,105,106,107,108,109,110,111,112,113,114,115] [13]) (.cond (.t 116) (.seq (rgN [oq 6 .mov [.c (iv 14)]] [1,3,5,12,116] [3,5]) .ret) .skip))))) (rgN [oq 85 .mov [.t 12],oq 86 (.bin .add T_int (.tmp 85) (kc 1)) [.t 85,.c (iv 1)],oq 12 .mov [.t 86]] [116,85,86] [])))
def c_ref10_Allowed_k2:ACode:=(.seq (rgN [oq 6 .mov [.c (iv 0)]] [1,3,5,12,84] [3,5]) .ret)
def c_ref10_Allowed_k3:ACode:=(.seq (.seq (rgN [oq 12 .mov [.c (iv 0)]] [8,9,10,11,43] [8,9,10]) (.block 2 (.loop c_ref10_Allowed_l1))) c_ref10_Allowed_k2)
def c_ref10_Allowed:ACode:=(.seq (rgN [oq 3 .box [.t 0],oq 5 .box [.t 2],oq 6 .mov [.c (iv 0)]] [0,2,6] []) (.seq (rgN [oq 17 (.load (some 4)) [.t 3],oq 18 (.call F_ref10_Check) [.t 17],oq 7 .mov [.t 18]] [17,18] []) (.seq (.seq (rgN [oq 19 .mov [.t 7],oq 20 (.bin .neq T_api_Errno (.tmp 19) (kc 0)) [.t 19,.c (iv 0)]] [19] []) (.cond (.t 20) (.seq (rgN [oq 21 .mov [.t 7],oq 6 .mov [.t 21]] [1,3,5,7,20,21] [3,5]) .ret) .skip)) (.seq (.seq (rgN [oq 22 .mov [.t 1],oq 23 (.bin .lss T_int (.tmp 22) (kc 0)) [.t 22,.c (iv 0)],oq 24 .mov [.t 23],⟨some 25,.mov,[.t 1],some (24,false)⟩,⟨some 26,.faddr 1,[.t 3],some (24,false)⟩,⟨some 27,.load none,[.t 26],some (24,false)⟩,⟨some 28,.len false,[.t 27],some (24,false)⟩,⟨some 29,.bin .geq T_int (.tmp 25) (.tmp 28),[.t 25,.t 28],some (24,false)⟩,oq 30 .pick [.t 24,.c (bv true),.t 29]] [7,20,22,23,24,25,26,27,28,29] []) (.cond (.t 30) (.seq (rgN [oq 6 .mov [.c (iv 6)]] [1,3,5,30] [3,5]) .ret) .skip)) (.seq (.seq (rgN [oq 31 (.load (some 6)) [.t 5],oq 32 (.call F_ref08_Valid) [.t 31],oq 33 (.un .not) [.t 32]] [30,31,32] []) (.cond (.t 33) (.seq (rgN [oq 6 .mov [.c (iv 4)]] [1,3,5,33] [3,5]) .ret) .skip)) (.seq (rgN [oq 35 (.load (some 4)) [.t 3],oq 36 (.call F_ref10_Open) [.t 35],oq 34 .mov [.t 36],oq 37 (.extract 0) [.t 34],oq 38 (.extract 1) [.t 34],oq 8 (.alloc [iv 0,iv 0,iv 0,iv 0,iv 0,iv 0]) [],oq 9 (.alloc [iv 0,iv 0,iv 0,iv 0,iv 0,iv 0]) [],ox (.store 6) [.t 8,.t 37],ox (.store 6) [.t 9,.t 38]] [33,35,36,34,37,38] []) (.seq (rgN [oq 39 (.faddr 0) [.t 3],oq 40 (.load none) [.t 39],oq 41 (.call F_ref08_Supply) [.t 40],oq 10 (.alloc [iv 0,iv 0,iv 0,iv 0,iv 0,iv 0]) [],ox (.store 6) [.t 10,.t 41]] [39,40,41] []) (.seq (.seq (rgN [oq 11 .mov [.c (iv 0)]] [] []) (.block 0 (.loop c_ref10_Allowed_l0))) c_ref10_Allowed_k3))))))))
def r_ref10_Allowed:List ResA:=[.t 6]
theorem t_ref10_Allowed:transl Try.prog F_ref10_Allowed=some (bare c_ref10_Allowed,r_ref10_Allowed,117):=by kernel_rfl
def c__problem_view__coef:ACode:=(.seq (rgN [oq 3 .box [.t 0],oq 5 .box [.t 2],oq 6 .mov [.c (iv 0)]] [0,2,6] []) (.seq (rgN [oq 8 .mov [.t 1],oq 9 (.faddr 0) [.t 3],oq 10 (.faddr 18) [.t 9],oq 11 (.load none) [.t 10],oq 12 (.len false) [.t 11],oq 13 (.bin .sub T_int (.tmp 8) (.tmp 12)) [.t 8,.t 12],oq 7 .mov [.t 13]] [8,9,10,11,12,13] []) (.block 0 (.seq (rgN [oq 42 .mov [.t 7],oq 43 (.bin .lss T_int (.tmp 42) (kc 0)) [.t 42,.c (iv 0)],oq 44 .mov [.t 43],⟨some 45,.faddr 0,[.t 5],some (44,true)⟩,⟨some 46,.load none,[.t 45],some (44,true)⟩,⟨some 47,.mov,[.t 1],some (44,true)⟩,⟨some 48,.bin .eql T_int (.tmp 46) (.tmp 47),[.t 46,.t 47],some (44,true)⟩,oq 49 .pick [.t 44,.t 48,.c (bv false)],oq 41 .mov [.t 49]] [1,42,43,44,45,46,47,48,49] []) (.cond (.t 41) (.seq (rgN [oq 6 .mov [.c (iv 1)]] [3,5,7,41] [3,5]) .ret) (.seq (rgN [oq 51 .mov [.t 7],oq 52 (.bin .lss T_int (.tmp 51) (kc 0)) [.t 51,.c (iv 0)],oq 50 .mov [.t 52]] [41,51,52] []) (.cond (.t 50) (.seq (rgN [oq 6 .mov [.c (iv 0)]] [3,5,7,50] [3,5]) .ret) (.seq (rgN [oq 54 .mov [.t 7],oq 55 (.bin .lss T_int (.tmp 54) (kc 6)) [.t 54,.c (iv 6)],oq 53 .mov [.t 55]] [50,54,55] []) (.cond (.t 53) (.seq (rgN [oq 56 .mov [.t 7],oq 57 (.faddr 1) [.t 5],oq 58 (.iaddrA 6 1) [.t 57,.t 56],oq 59 (.load none) [.t 58],oq 6 .mov [.t 59]] [3,5,7,53,56,57,58,59] [3,5]) .ret) (.seq (rgN [oq 14 .mov [.t 7],oq 15 (.bin .sub T_int (.tmp 14) (kc 6)) [.t 14,.c (iv 6)],oq 7 .mov [.t 15]] [53,14,15] []) (.seq (.seq (rgD [oq 16 .mov [.t 7],oq 17 (.faddr 0) [.t 3],oq 18 (.faddr 12) [.t 17],oq 19 (.iaddrA 6 1) [.t 18,.t 16],oq 20 (.load none) [.t 19],oq 21 (.bin .eql T_int (.tmp 20) (kc 0)) [.t 20,.c (iv 0)],oq 22 .mov [.t 21],⟨some 23,.mov,[.t 7],some (22,false)⟩,⟨some 24,.faddr 0,[.t 3],some (22,false)⟩,⟨some 25,.faddr 12,[.t 24],some (22,false)⟩,⟨some 26,.iaddrA 6 1,[.t 25,.t 23],some (22,false)⟩,⟨some 27,.load none,[.t 26],some (22,false)⟩,⟨some 28,.faddr 0,[.t 3],some (22,false)⟩,⟨some 29,.faddr 18,[.t 28],some (22,false)⟩,⟨some 30,.load none,[.t 29],some (22,false)⟩,⟨some 31,.faddr 0,[.t 5],some (22,false)⟩,⟨some 32,.load none,[.t 31],some (22,false)⟩,⟨some 33,.iaddrS 1,[.t 30,.t 32],some (22,false)⟩,⟨some 34,.load none,[.t 33],some (22,false)⟩,⟨some 35,.bin .eql T_int (.tmp 27) (.tmp 34),[.t 27,.t 34],some (22,false)⟩,oq 36 .pick [.t 22,.c (bv true),.t 35]] [3,16,17,18,19,20,21,22,23,24,25,26,27,28,29,30,31,32,33,34,35] [3]) (.cond (.t 36) (.seq (rgN [oq 6 .mov [.c (iv 0)]] [5,7,36] [5]) .ret) .skip)) (.seq (rgN [oq 37 .mov [.t 7],oq 38 (.faddr 1) [.t 5],oq 39 (.iaddrA 6 1) [.t 38,.t 37],oq 40 (.load none) [.t 39],oq 6 .mov [.t 40]] [5,7,36,37,38,39,40] [5]) .ret))))))))))))
def r__problem_view__coef:List ResA:=[.t 6]
theorem t__problem_view__coef:transl Try.prog F__problem_view__coef=some (bare c__problem_view__coef,r__problem_view__coef,60):=by kernel_rfl
def c__problem_view__bound:ACode:=(.seq (rgN [oq 2 .box [.t 0],oq 4 .mov [.c (iv 0)]] [0,4] []) (.seq (rgN [oq 6 .mov [.t 1],oq 7 (.faddr 0) [.t 2],oq 8 (.faddr 18) [.t 7],oq 9 (.load none) [.t 8],oq 10 (.len false) [.t 9],oq 11 (.bin .sub T_int (.tmp 6) (.tmp 10)) [.t 6,.t 10],oq 5 .mov [.t 11]] [1,6,7,8,9,10,11] []) (.block 0 (.seq (rgN [oq 19 .mov [.t 5],oq 20 (.bin .lss T_int (.tmp 19) (kc 0)) [.t 19,.c (iv 0)],oq 18 .mov [.t 20]] [19,20] []) (.cond (.t 18) (.seq (rgN [oq 4 .mov [.c (iv 1)]] [2,5,18] [2]) .ret) (.seq (rgN [oq 22 .mov [.t 5],oq 23 (.bin .lss T_int (.tmp 22) (kc 6)) [.t 22,.c (iv 6)],oq 21 .mov [.t 23]] [18,22,23] []) (.cond (.t 21) (.seq (rgN [oq 24 .mov [.t 5],oq 25 (.faddr 0) [.t 2],oq 26 (.faddr 0) [.t 25],oq 27 (.iaddrA 6 1) [.t 26,.t 24],oq 28 (.load none) [.t 27],oq 4 .mov [.t 28]] [2,5,21,24,25,26,27,28] [2]) .ret) (.seq (rgN [oq 12 .mov [.t 5],oq 13 (.bin .sub T_int (.tmp 12) (kc 6)) [.t 12,.c (iv 6)],oq 14 (.faddr 0) [.t 2],oq 15 (.faddr 6) [.t 14],oq 16 (.iaddrA 6 1) [.t 15,.t 13],oq 17 (.load none) [.t 16],oq 4 .mov [.t 17]] [2,5,21,12,13,14,15,16,17] [2]) .ret))))))))
def r__problem_view__bound:List ResA:=[.t 4]
theorem t__problem_view__bound:transl Try.prog F__problem_view__bound=some (bare c__problem_view__bound,r__problem_view__bound,29):=by kernel_rfl
def c_ref20_coef:ACode:=(.seq (rgN [oq 3 .box [.t 0],oq 5 .box [.t 2],oq 6 .mov [.c (iv 0)],oq 7 .mov [.c (iv 0)]] [0,2,6,7] []) (.seq (rgN [oq 10 (.faddr 18) [.t 3],oq 11 (.load none) [.t 10],oq 12 (.len false) [.t 11],oq 8 .mov [.t 12]] [10,11,12] []) (.seq (.block 0 (.seq (rgN [oq 14 .mov [.t 1],oq 15 .mov [.t 8],oq 16 (.bin .lss T_int (.tmp 14) (.tmp 15)) [.t 14,.t 15],oq 13 .mov [.t 16]] [14,15,16] []) (.cond (.t 13) (.seq (.seq (rgN [oq 17 (.faddr 0) [.t 5],oq 18 (.load none) [.t 17],oq 19 .mov [.t 1],oq 20 (.bin .eql T_int (.tmp 18) (.tmp 19)) [.t 18,.t 19]] [1,3,5,8,13,17,18,19] [3,5]) (.cond (.t 20) (.seq (rgN [oq 6 .mov [.c (iv 1)],oq 7 .mov [.c (iv 1)]] [20] []) .ret) .skip)) (.seq (rgN [oq 6 .mov [.c (iv 0)],oq 7 .mov [.c (iv 1)]] [20] []) .ret)) (.seq (rgN [oq 22 .mov [.t 1],oq 23 .mov [.t 8],oq 24 (.bin .add T_int (.tmp 23) (kc 6)) [.t 23,.c (iv 6)],oq 25 (.bin .lss T_int (.tmp 22) (.tmp 24)) [.t 22,.t 24],oq 21 .mov [.t 25]] [13,22,23,24,25] []) (.cond (.t 21) (.seq (rgD [oq 26 .mov [.t 1],oq 27 .mov [.t 8],oq 28 (.bin .sub T_int (.tmp 26) (.tmp 27)) [.t 26,.t 27],oq 29 (.faddr 1) [.t 5],oq 30 (.iaddrA 6 1) [.t 29,.t 28],oq 31 (.load none) [.t 30],oq 32 .mov [.t 1],oq 33 .mov [.t 8],oq 34 (.bin .sub T_int (.tmp 32) (.tmp 33)) [.t 32,.t 33],oq 35 (.faddr 0) [.t 3],oq 36 (.iaddrA 6 1) [.t 35,.t 34],oq 37 (.load none) [.t 36],oq 6 .mov [.t 31],oq 7 .mov [.t 37]] [1,3,5,8,21,26,27,28,29,30,31,32,33,34,35,36,37] [3,5]) .ret) .skip))))) (.seq (rgN [oq 38 .mov [.t 1],oq 39 .mov [.t 8],oq 40 (.bin .sub T_int (.tmp 38) (.tmp 39)) [.t 38,.t 39],oq 41 (.bin .sub T_int (.tmp 40) (kc 6)) [.t 40,.c (iv 6)],oq 9 .mov [.t 41]] [1,8,21,38,39,40,41] []) (.seq (.seq (rgD [oq 42 .mov [.t 9],oq 43 (.faddr 12) [.t 3],oq 44 (.iaddrA 6 1) [.t 43,.t 42],oq 45 (.load none) [.t 44],oq 46 (.bin .neq T_int (.tmp 45) (kc 0)) [.t 45,.c (iv 0)],oq 47 .mov [.t 46],⟨some 48,.faddr 0,[.t 5],some (47,true)⟩,⟨some 49,.load none,[.t 48],some (47,true)⟩,⟨some 50,.faddr 18,[.t 3],some (47,true)⟩,⟨some 51,.load none,[.t 50],some (47,true)⟩,⟨some 52,.len false,[.t 51],some (47,true)⟩,⟨some 53,.bin .lss T_int (.tmp 49) (.tmp 52),[.t 49,.t 52],some (47,true)⟩,oq 54 .pick [.t 47,.t 53,.c (bv false)],oq 55 .mov [.t 54],⟨some 56,.mov,[.t 9],some (55,true)⟩,⟨some 57,.faddr 12,[.t 3],some (55,true)⟩,⟨some 58,.iaddrA 6 1,[.t 57,.t 56],some (55,true)⟩,⟨some 59,.load none,[.t 58],some (55,true)⟩,⟨some 60,.faddr 18,[.t 3],some (55,true)⟩,⟨some 61,.load none,[.t 60],some (55,true)⟩,⟨some 62,.faddr 0,[.t 5],some (55,true)⟩,⟨some 63,.load none,[.t 62],some (55,true)⟩,⟨some 64,.iaddrS 1,[.t 61,.t 63],some (55,true)⟩,⟨some 65,.load none,[.t 64],some (55,true)⟩,⟨some 66,.bin .neq T_int (.tmp 59) (.tmp 65),[.t 59,.t 65],some (55,true)⟩,oq 67 .pick [.t 55,.t 66,.c (bv false)]] [42,43,44,45,46,47,48,49,50,51,52,53,54,55,56,57,58,59,60,61,62,63,64,65,66] []) (.cond (.t 67) (.seq (rgD [oq 68 .mov [.t 9],oq 69 (.faddr 1) [.t 5],oq 70 (.iaddrA 6 1) [.t 69,.t 68],oq 71 (.load none) [.t 70],oq 72 .mov [.t 9],oq 73 (.faddr 6) [.t 3],oq 74 (.iaddrA 6 1) [.t 73,.t 72],oq 75 (.load none) [.t 74],oq 6 .mov [.t 71],oq 7 .mov [.t 75]] [3,5,9,67,68,69,70,71,72,73,74,75] [3,5]) .ret) .skip)) (.seq (rgD [oq 76 .mov [.t 9],oq 77 (.faddr 6) [.t 3],oq 78 (.iaddrA 6 1) [.t 77,.t 76],oq 79 (.load none) [.t 78],oq 6 .mov [.c (iv 0)],oq 7 .mov [.t 79]] [3,5,9,67,76,77,78,79] [3,5]) .ret))))))
def r_ref20_coef:List ResA:=[.t 6,.t 7]
theorem t_ref20_coef:transl Try.prog F_ref20_coef=some (bare c_ref20_coef,r_ref20_coef,80):=by kernel_rfl
def c__problem_view__fits_l0:ACode:=(.seq (rgN [oq 18 (.bin .lss T_int (.tmp 17) (.tmp 16)) [.t 17,.t 16]] [] []) (.seq (.cond (.t 18) .skip (.exit 2)) (.seq (.block 3 (.seq (rgN [oq 19 (.iaddrS 8) [.t 15,.t 17],oq 20 (.load (some 8)) [.t 19],oq 9 (.alloc [iv 0,iv 0,iv 0,iv 0,iv 0,iv 0,iv 0,iv 0]) [],ox (.store 8) [.t 9,.t 20]] [18,19,20] []) (rgN [oq 21 .mov [.t 7],oq 22 .mov [.t 5],oq 23 (.load (some 20)) [.t 2],oq 24 .mov [.t 6],oq 25 (.load (some 8)) [.t 9],oq 26 .callv [.t 22,.t 23,.t 24,.t 25],oq 27 (.bin .add T_int (.tmp 21) (.tmp 26)) [.t 21,.t 26],oq 7 .mov [.t 27]] [9,21,22,23,24,25,26,27] [9]))) (rgN [oq 28 (.bin .add T_int (.tmp 17) (kc 1)) [.t 17,.c (iv 1)],oq 17 .mov [.t 28]] [28] []))))
def c__problem_view__fits_k1:ACode:=(.seq (rgN [oq 29 .mov [.t 7],oq 30 (.load (some 20)) [.t 2],oq 31 .mov [.t 6],oq 32 (.call F__problem_view__bound) [.t 30,.t 31],oq 33 (.bin .gtr T_int (.tmp 29) (.tmp 32)) [.t 29,.t 32]] [6,7,15,16,17,18,29,30,31,32] []) (.cond (.t 33) (.seq (rgN [oq 4 .mov [.c (bv false)]] [1,2,5,11,12,33] [2]) .ret) .skip))
def c__problem_view__fits_k2:ACode:=(rgN [oq 34 (.bin .add T_int (.tmp 12) (kc 1)) [.t 12,.c (iv 1)],oq 12 .mov [.t 34]] [33,34] [])
def c__problem_view__fits_l3:ACode:=(.seq (rgN [oq 13 (.bin .lss T_int (.tmp 12) (.tmp 11)) [.t 12,.t 11]] [] []) (.seq (.cond (.t 13) .skip (.exit 0)) (.seq (.block 1 (.seq (rgN [oq 14 .mov [.t 12],oq 6 .mov [.t 14]] [13,14] []) (.seq (rgN [oq 7 .mov [.c (iv 0)]] [] []) (.seq (.seq (rgN [oq 15 .mov [.t 1],oq 16 (.len false) [.t 15],oq 17 .mov [.c (iv 0)]] [] []) (.block 2 (.loop c__problem_view__fits_l0))) c__problem_view__fits_k1)))) c__problem_view__fits_k2)))
def c__problem_view__fits_k4:ACode:=(.seq (rgN [oq 4 .mov [.c (bv true)]] [1,2,5,11,12,13] [2]) .ret)
def c__problem_view__fits:ACode:=(.seq (rgN [oq 2 .box [.t 0],oq 4 .mov [.c (bv false)]] [0,4] []) (.seq (rgN [oq 5 .mov [.c (.fn (.func 50) [])]] [] []) (.seq (.seq (rgN [oq 10 (.load (some 20)) [.t 2],oq 11 (.call F__problem_view__rows) [.t 10],oq 12 .mov [.c (iv 0)]] [10] []) (.block 0 (.loop c__problem_view__fits_l3))) c__problem_view__fits_k4)))
def r__problem_view__fits:List ResA:=[.t 4]
theorem t__problem_view__fits:transl Try.prog F__problem_view__fits=some (bare c__problem_view__fits,r__problem_view__fits,35):=by kernel_rfl
def c_f_FromInt:ACode:=(.seq (rgN [⟨some 2,.alloc [bv false,.list 0 .full [],.list 0 .full []],[],none⟩] [] []) (.seq (rgN [oq 3 .mov [.t 0],oq 4 (.bin .lss T_int64 (.tmp 3) (kc 0)) [.t 3,.c (iv 0)],oq 5 .mov [.t 0],oq 6 (.call F_f_size) [.t 5],oq 7 (.call F_n_FromUint) [.c (.val (.int .u64 1))],oq 8 (.call F_f_made) [.t 4,.t 6,.t 7],ox (.store 3) [.t 2,.t 8]] [0,3,4,5,6,7,8] []) .ret))
def r_f_FromInt:List ResA:=[.cell 2 (some 3)]
theorem t_f_FromInt:transl Try.prog F_f_FromInt=some (bare c_f_FromInt,r_f_FromInt,9):=by kernel_rfl
def c_slices_Cloneasl_int_int_:ACode:=(.seq (rgN [oq 2 .mov [.c (.list 0 .full [])]] [2] []) (.seq (.seq (rgN [oq 3 .mov [.t 0],oq 4 (.nilS false) [.t 3]] [3] []) (.cond (.t 4) (.seq (rgN [oq 2 .mov [.c (.list 0 .full [])]] [0,4] []) .ret) .skip)) (.seq (rgN [oq 5 (.mkslice 1 0 [iv 0] []) [],oq 6 .mov [.t 0],oq 7 (.append 1 8) [.t 5,.t 6],oq 2 .mov [.t 7]] [0,4,5,6,7] []) .ret)))
def r_slices_Cloneasl_int_int_:List ResA:=[.t 2]
theorem t_slices_Cloneasl_int_int_:transl Try.prog F_slices_Cloneasl_int_int_=some (bare c_slices_Cloneasl_int_int_,r_slices_Cloneasl_int_int_,8):=by kernel_rfl
def c_slices_Compareasl_int_int__l0:ACode:=(.seq (rgN [oq 12 (.bin .lss T_int (.tmp 11) (.tmp 10)) [.t 11,.t 10]] [] []) (.seq (.cond (.t 12) .skip (.exit 0)) (.seq (.block 1 (.seq (rgN [oq 13 .mov [.t 11],oq 14 (.iaddrS 1) [.t 9,.t 11],oq 15 (.load none) [.t 14],oq 5 .mov [.t 13],oq 6 .mov [.t 15]] [12,13,14,15] []) (.seq (.seq (rgN [oq 16 .mov [.t 5],oq 17 .mov [.t 1],oq 18 (.len false) [.t 17],oq 19 (.bin .geq T_int (.tmp 16) (.tmp 18)) [.t 16,.t 18]] [16,17,18] []) (.cond (.t 19) (.seq (rgN [oq 4 .mov [.c (iv 1)]] [0,1,9,10,11,5,6,19] []) .ret) .skip)) (.seq (rgN [oq 20 .mov [.t 1],oq 21 .mov [.t 5],oq 22 (.iaddrS 1) [.t 20,.t 21],oq 23 (.load none) [.t 22],oq 7 .mov [.t 23]] [5,19,20,21,22,23] []) (.seq (rgN [oq 24 .mov [.t 6],oq 25 .mov [.t 7],oq 26 (.call F_cmp_Compareaint_) [.t 24,.t 25],oq 8 .mov [.t 26]] [6,7,24,25,26] []) (.seq (rgN [oq 27 .mov [.t 8],oq 28 (.bin .neq T_int (.tmp 27) (kc 0)) [.t 27,.c (iv 0)]] [27] []) (.cond (.t 28) (.seq (rgN [oq 29 .mov [.t 8],oq 4 .mov [.t 29]] [0,1,9,10,11,8,28,29] []) .ret) .skip))))))) (rgN [oq 30 (.bin .add T_int (.tmp 11) (kc 1)) [.t 11,.c (iv 1)],oq 11 .mov [.t 30]] [8,28,30] []))))
def c_slices_Compareasl_int_int__k1:ACode:=(.seq (.seq (rgN [oq 31 .mov [.t 0],oq 32 (.len false) [.t 31],oq 33 .mov [.t 1],oq 34 (.len false) [.t 33],oq 35 (.bin .lss T_int (.tmp 32) (.tmp 34)) [.t 32,.t 34]] [0,1,9,10,11,12,31,32,33,34] []) (.cond (.t 35) (.seq (rgN [oq 4 .mov [.c (iv (-1))]] [35] []) .ret) .skip)) (.seq (rgN [oq 4 .mov [.c (iv 0)]] [35] []) .ret))
def c_slices_Compareasl_int_int_:ACode:=(.seq (rgN [oq 4 .mov [.c (iv 0)]] [4] []) (.seq (.seq (rgN [oq 9 .mov [.t 0],oq 10 (.len false) [.t 9],oq 11 .mov [.c (iv 0)]] [] []) (.block 0 (.loop c_slices_Compareasl_int_int__l0))) c_slices_Compareasl_int_int__k1))
def r_slices_Compareasl_int_int_:List ResA:=[.t 4]
theorem t_slices_Compareasl_int_int_:transl Try.prog F_slices_Compareasl_int_int_=some (bare c_slices_Compareasl_int_int_,r_slices_Compareasl_int_int_,36):=by kernel_rfl
def c_problem_picked_l0:ACode:=(.seq (rgN [oq 13 (.bin .lss T_int (.tmp 12) (.tmp 11)) [.t 12,.t 11]] [] []) (.seq (.cond (.t 13) .skip (.exit 0)) (.seq (.block 1 (.seq (rgN [oq 14 (.iaddrS 1) [.t 10,.t 12],oq 15 (.load none) [.t 14],oq 9 .mov [.t 15]] [13,14,15] []) (.seq (.seq (rgN [oq 16 .mov [.t 9],oq 17 .mov [.t 7],oq 18 (.bin .leq T_int (.tmp 16) (.tmp 17)) [.t 16,.t 17],oq 19 .mov [.t 18],⟨some 20,.mov,[.t 9],some (19,false)⟩,⟨some 21,.faddr 19,[.t 2],some (19,false)⟩,⟨some 22,.load none,[.t 21],some (19,false)⟩,⟨some 23,.len false,[.t 22],some (19,false)⟩,⟨some 24,.bin .geq T_int (.tmp 20) (.tmp 23),[.t 20,.t 23],some (19,false)⟩,oq 25 .pick [.t 19,.c (bv true),.t 24]] [7,16,17,18,19,20,21,22,23,24] []) (.cond (.t 25) (.seq (rgN [oq 4 .mov [.c (.list 0 .full [])],oq 5 .mov [.c (bv false)]] [2,6,10,11,12,9,25] [2]) .ret) .skip)) (.seq (rgN [oq 26 .mov [.t 9],oq 7 .mov [.t 26]] [25,26] []) (rgN [oq 27 .mov [.t 6],oq 28 (.faddr 19) [.t 2],oq 29 (.load none) [.t 28],oq 30 .mov [.t 9],oq 31 (.iaddrS 8) [.t 29,.t 30],oq 32 (.load (some 8)) [.t 31],oq 33 (.mkslice 8 1 [iv 0,iv 0,iv 0,iv 0,iv 0,iv 0,iv 0,iv 0] [0]) [.t 32],oq 34 (.append 8 64) [.t 27,.t 33],oq 6 .mov [.t 34]] [9,27,28,29,30,31,32,33,34] []))))) (rgN [oq 35 (.bin .add T_int (.tmp 12) (kc 1)) [.t 12,.c (iv 1)],oq 12 .mov [.t 35]] [35] []))))
def c_problem_picked_k1:ACode:=(.seq (rgN [oq 36 .mov [.t 6],oq 4 .mov [.t 36],oq 5 .mov [.c (bv true)]] [2,6,7,10,11,12,13,36] [2]) .ret)
def c_problem_picked:ACode:=(.seq (rgN [oq 2 .box [.t 0],oq 4 .mov [.c (.list 0 .full [])],oq 5 .mov [.c (bv false)]] [0,4,5] []) (.seq (rgN [oq 6 .mov [.c (.list 0 .full [])]] [] []) (.seq (rgN [oq 7 .mov [.c (iv (-1))]] [] []) (.seq (.seq (rgN [oq 10 .mov [.t 1],oq 11 (.len false) [.t 10],oq 12 .mov [.c (iv 0)]] [1] []) (.block 0 (.loop c_problem_picked_l0))) c_problem_picked_k1))))
def r_problem_picked:List ResA:=[.t 4,.t 5]
theorem t_problem_picked:transl Try.prog F_problem_picked=some (bare c_problem_picked,r_problem_picked,37):=by kernel_rfl
def c_setup_allowed_l0:ACode:=(.seq (rgN [oq 51 (.bin .lss T_int (.tmp 50) (.tmp 49)) [.t 50,.t 49]] [] []) (.seq (.cond (.t 51) .skip (.exit 0)) (.seq (.block 1 (.seq (rgN [oq 52 (.iaddrS 3) [.t 48,.t 50],oq 53 (.load (some 3)) [.t 52],oq 11 (.alloc [iv 0,iv 0,iv 0]) [],ox (.store 3) [.t 11,.t 53]] [51,52,53] []) (.seq (rgD [oq 54 (.faddr 0) [.t 11],oq 55 (.load none) [.t 54],⟨some 56,.bin .eql T_int (.tmp 55) (kc (-1)),[.t 55,.c (iv (-1))],none⟩,oq 57 .mov [.t 56],⟨some 58,.faddr 0,[.t 11],some (57,false)⟩,⟨some 59,.load none,[.t 58],some (57,false)⟩,⟨some 60,.mov,[.t 1],some (57,false)⟩,⟨some 61,.bin .eql T_int (.tmp 59) (.tmp 60),[.t 59,.t 60],some (57,false)⟩,oq 62 .pick [.t 57,.c (bv true),.t 61],oq 63 .mov [.t 62],⟨some 64,.faddr 0,[.t 3],some (63,true)⟩,⟨some 65,.load none,[.t 64],some (63,true)⟩,⟨some 66,.faddr 1,[.t 11],some (63,true)⟩,⟨some 67,.load none,[.t 66],some (63,true)⟩,⟨some 68,.load (some 6),[.t 5],some (63,true)⟩,⟨some 69,.call F_catalog_Units,[.t 65,.t 67,.t 68],some (63,true)⟩,⟨some 70,.faddr 2,[.t 11],some (63,true)⟩,⟨some 71,.load none,[.t 70],some (63,true)⟩,⟨some 72,.bin .gtr T_int (.tmp 69) (.tmp 71),[.t 69,.t 71],some (63,true)⟩,oq 73 .pick [.t 63,.t 72,.c (bv false)]] [11,54,55,56,57,58,59,60,61,62,63,64,65,66,67,68,69,70,71,72] [11]) (.cond (.t 73) (.seq (rgN [oq 6 .mov [.c (iv 14)]] [1,3,5,48,49,50,73] [3,5]) .ret) .skip)))) (rgN [oq 74 (.bin .add T_int (.tmp 50) (kc 1)) [.t 50,.c (iv 1)],oq 50 .mov [.t 74]] [73,74] []))))
def c_setup_allowed_k1:ACode:=(.seq (rgN [oq 6 .mov [.c (iv 0)]] [1,3,5,48,49,50,51] [3,5]) .ret)
def c_setup_allowed:ACode:=(.seq (rgN [oq 3 .box [.t 0],oq 5 .box [.t 2],oq 6 .mov [.c (iv 0)]] [0,2,6] []) (.seq (.seq (rgN [oq 12 .mov [.t 1],oq 13 (.bin .lss T_int (.tmp 12) (kc 0)) [.t 12,.c (iv 0)],oq 14 .mov [.t 13],⟨some 15,.mov,[.t 1],some (14,false)⟩,⟨some 16,.faddr 1,[.t 3],some (14,false)⟩,⟨some 17,.load none,[.t 16],some (14,false)⟩,⟨some 18,.len false,[.t 17],some (14,false)⟩,⟨some 19,.bin .geq T_int (.tmp 15) (.tmp 18),[.t 15,.t 18],some (14,false)⟩,oq 20 .pick [.t 14,.c (bv true),.t 19]] [12,13,14,15,16,17,18,19] []) (.cond (.t 20) (.seq (rgN [oq 6 .mov [.c (iv 6)]] [1,3,5,20] [3,5]) .ret) .skip)) (.seq (.seq (rgN [oq 21 (.load (some 6)) [.t 5],oq 22 (.call F_bundle_Check) [.t 21],oq 7 .mov [.t 22]] [20,21,22] []) (.seq (rgN [oq 23 .mov [.t 7],oq 24 (.bin .neq T_api_Errno (.tmp 23) (kc 0)) [.t 23,.c (iv 0)]] [23] []) (.cond (.t 24) (.seq (rgN [oq 25 .mov [.t 7],oq 6 .mov [.t 25]] [1,3,5,7,24,25] [3,5]) .ret) .skip))) (.seq (rgN [oq 27 (.load (some 4)) [.t 3],oq 28 (.call F_setup_shares) [.t 27],oq 26 .mov [.t 28],oq 29 (.extract 0) [.t 26],oq 30 (.extract 1) [.t 26],oq 8 (.alloc [iv 0,iv 0,iv 0,iv 0,iv 0,iv 0]) [],oq 9 (.alloc [iv 0,iv 0,iv 0,iv 0,iv 0,iv 0]) [],ox (.store 6) [.t 8,.t 29],ox (.store 6) [.t 9,.t 30]] [7,24,27,28,26,29,30] []) (.seq (.seq (rgD [oq 31 (.load (some 6)) [.t 5],oq 32 (.faddr 0) [.t 3],oq 33 (.load none) [.t 32],oq 34 (.call F_catalog_Supply) [.t 33],oq 35 (.call F_bundle_Within) [.t 31,.t 34],oq 36 (.un .not) [.t 35],oq 37 .mov [.t 36],⟨some 38,.load (some 4),[.t 3],some (37,false)⟩,⟨some 39,.load (some 6),[.t 9],some (37,false)⟩,⟨some 40,.mov,[.t 1],some (37,false)⟩,⟨some 41,.load (some 6),[.t 5],some (37,false)⟩,⟨some 42,.call F_setup_outside,[.t 38,.t 39,.t 40,.t 41],some (37,false)⟩,⟨some 43,.load (some 6),[.t 8],some (37,false)⟩,⟨some 44,.call F_bundle_Within,[.t 42,.t 43],some (37,false)⟩,⟨some 45,.un .not,[.t 44],some (37,false)⟩,oq 46 .pick [.t 37,.c (bv true),.t 45]] [8,9,31,32,33,34,35,36,37,38,39,40,41,42,43,44,45] [8,9]) (.cond (.t 46) (.seq (rgN [oq 6 .mov [.c (iv 14)]] [1,3,5,46] [3,5]) .ret) .skip)) (.seq (.seq (rgN [oq 47 (.faddr 2) [.t 3],oq 48 (.load none) [.t 47],oq 49 (.len false) [.t 48],oq 50 .mov [.c (iv 0)]] [46,47] []) (.block 0 (.loop c_setup_allowed_l0))) c_setup_allowed_k1))))))
def r_setup_allowed:List ResA:=[.t 6]
theorem t_setup_allowed:transl Try.prog F_setup_allowed=some (bare c_setup_allowed,r_setup_allowed,75):=by kernel_rfl
def c_setup_shares_l0:ACode:=(.seq (rgN [oq 13 (.bin .lss T_int (.tmp 12) (.tmp 11)) [.t 12,.t 11]] [] []) (.seq (.cond (.t 13) .skip (.exit 0)) (.seq (.block 1 (.seq (rgN [oq 14 (.iaddrS 3) [.t 10,.t 12],oq 15 (.load (some 3)) [.t 14],oq 5 (.alloc [iv 0,iv 0,iv 0]) [],ox (.store 3) [.t 5,.t 15]] [13,14,15] []) (.seq (rgD [oq 16 (.faddr 0) [.t 5],oq 17 (.load none) [.t 16],oq 18 (.iaddrA 6 1) [.t 2,.t 17],oq 19 (.load none) [.t 18],oq 20 (.faddr 2) [.t 5],oq 21 (.load none) [.t 20],oq 22 (.bin .sub T_int (.tmp 19) (.tmp 21)) [.t 19,.t 21],oq 23 (.iaddrA 6 1) [.t 2,.t 17],ox (.store 1) [.t 23,.t 22]] [16,17,18,19,20,21,22,23] []) (rgN [oq 24 (.faddr 0) [.t 5],oq 25 (.load none) [.t 24],oq 26 (.faddr 1) [.t 5],oq 27 (.load none) [.t 26],oq 28 (.iaddrA 6 1) [.t 3,.t 25],ox (.store 1) [.t 28,.t 27]] [5,24,25,26,27,28] [5])))) (rgN [oq 29 (.bin .add T_int (.tmp 12) (kc 1)) [.t 12,.c (iv 1)],oq 12 .mov [.t 29]] [29] []))))
def c_setup_shares_k1:ACode:=(.seq (rgD [ox (.start [30,31]) [],oq 30 (.load (some 6)) [.t 2],oq 31 (.load (some 6)) [.t 3],ox (.store 6) [.t 2,.t 30],oq 31 (.chk (.load (some 6))) [.t 3],ox (.store 6) [.t 3,.t 31]] [10,11,12,13,30,31] []) .ret)
def c_setup_shares:ACode:=(.seq (rgN [oq 1 .box [.t 0],oq 2 (.alloc [iv 0,iv 0,iv 0,iv 0,iv 0,iv 0]) [],oq 3 (.alloc [iv 0,iv 0,iv 0,iv 0,iv 0,iv 0]) []] [0] []) (.seq (rgN [oq 6 (.faddr 0) [.t 1],oq 7 (.load none) [.t 6],oq 8 (.call F_catalog_Supply) [.t 7],ox (.store 6) [.t 2,.t 8]] [6,7,8] []) (.seq (.seq (rgN [oq 9 (.faddr 3) [.t 1],oq 10 (.load none) [.t 9],oq 11 (.len false) [.t 10],oq 12 .mov [.c (iv 0)]] [1,9] [1]) (.block 0 (.loop c_setup_shares_l0))) c_setup_shares_k1)))
def r_setup_shares:List ResA:=[.cell 2 (some 6),.cell 3 (some 6)]
theorem t_setup_shares:transl Try.prog F_setup_shares=some (bare c_setup_shares,r_setup_shares,32):=by kernel_rfl
def c_setup_outside_l0:ACode:=(.seq (rgN [oq 11 (.bin .lss T_int (.tmp 10) (kc 6)) [.t 10,.c (iv 6)]] [] []) (.seq (.cond (.t 11) .skip (.exit 0)) (.seq (.block 1 (.seq (rgN [oq 12 .mov [.t 10],oq 9 .mov [.t 12]] [11,12] []) (.seq (rgD [oq 13 .mov [.t 9],oq 14 (.iaddrA 6 1) [.t 5,.t 13],oq 15 (.load none) [.t 14],oq 16 (.bin .eql T_int (.tmp 15) (kc 0)) [.t 15,.c (iv 0)],oq 17 .mov [.t 16],⟨some 18,.mov,[.t 9],some (17,false)⟩,⟨some 19,.iaddrA 6 1,[.t 5,.t 18],some (17,false)⟩,⟨some 20,.load none,[.t 19],some (17,false)⟩,⟨some 21,.faddr 1,[.t 4],some (17,false)⟩,⟨some 22,.load none,[.t 21],some (17,false)⟩,⟨some 23,.mov,[.t 2],some (17,false)⟩,⟨some 24,.iaddrS 4,[.t 22,.t 23],some (17,false)⟩,⟨some 25,.faddr 1,[.t 24],some (17,false)⟩,⟨some 26,.load none,[.t 25],some (17,false)⟩,⟨some 27,.bin .eql T_int (.tmp 20) (.tmp 26),[.t 20,.t 26],some (17,false)⟩,oq 28 .pick [.t 17,.c (bv true),.t 27]] [13,14,15,16,17,18,19,20,21,22,23,24,25,26,27] []) (.cond (.t 28) (rgN [oq 29 .mov [.t 9],oq 30 (.iaddrA 6 1) [.t 7,.t 29],ox (.store 1) [.t 30,.c (iv 0)]] [9,28,29,30] []) .skip)))) (rgN [oq 31 (.bin .add T_int (.tmp 10) (kc 1)) [.t 10,.c (iv 1)],oq 10 .mov [.t 31]] [9,28,31] []))))
def c_setup_outside_k1:ACode:=(.seq (rgN [oq 32 (.load (some 6)) [.t 7],ox (.store 6) [.t 8,.t 32]] [2,4,5,7,10,11,32] [4,5,7]) .ret)
def c_setup_outside:ACode:=(.seq (rgN [oq 4 .box [.t 0],oq 5 .box [.t 1],oq 7 .box [.t 3],oq 8 (.alloc [iv 0,iv 0,iv 0,iv 0,iv 0,iv 0]) []] [0,1,3] []) (.seq (.seq (rgN [oq 10 .mov [.c (iv 0)]] [] []) (.block 0 (.loop c_setup_outside_l0))) c_setup_outside_k1))
def r_setup_outside:List ResA:=[.cell 8 (some 6)]
theorem t_setup_outside:transl Try.prog F_setup_outside=some (bare c_setup_outside,r_setup_outside,33):=by kernel_rfl
def c_bundle_Check_l0:ACode:=(.seq (rgN [oq 7 (.bin .lss T_int (.tmp 6) (kc 6)) [.t 6,.c (iv 6)]] [] []) (.seq (.cond (.t 7) .skip (.exit 0)) (.seq (.block 1 (.seq (rgN [oq 8 (.idxA 6 1 none) [.t 5,.t 6],oq 4 .mov [.t 8]] [7,8] []) (.seq (rgN [oq 9 .mov [.t 4],oq 10 (.bin .lss T_int (.tmp 9) (kc 0)) [.t 9,.c (iv 0)],oq 11 .mov [.t 10],⟨some 12,.mov,[.t 4],some (11,false)⟩,⟨some 13,.bin .gtr T_int (.tmp 12) (kc 4),[.t 12,.c (iv 4)],some (11,false)⟩,oq 14 .pick [.t 11,.c (bv true),.t 13]] [4,9,10,11,12,13] []) (.cond (.t 14) (.seq (rgN [oq 2 .mov [.c (iv 4)]] [5,6,14] []) .ret) .skip)))) (rgN [oq 15 (.bin .add T_int (.tmp 6) (kc 1)) [.t 6,.c (iv 1)],oq 6 .mov [.t 15]] [14,15] []))))
def c_bundle_Check_k1:ACode:=(.seq (rgN [oq 2 .mov [.c (iv 0)]] [5,6,7] []) .ret)
def c_bundle_Check:ACode:=(.seq (rgN [oq 1 .box [.t 0],oq 2 .mov [.c (iv 0)]] [0,2] []) (.seq (.seq (rgN [oq 5 (.load (some 6)) [.t 1],oq 6 .mov [.c (iv 0)]] [1] [1]) (.block 0 (.loop c_bundle_Check_l0))) c_bundle_Check_k1))
def r_bundle_Check:List ResA:=[.t 2]
theorem t_bundle_Check:transl Try.prog F_bundle_Check=some (bare c_bundle_Check,r_bundle_Check,16):=by kernel_rfl
def c_catalog_Check_l0:ACode:=(.seq (rgN [oq 18 (.bin .lss T_int (.tmp 17) (.tmp 16)) [.t 17,.t 16]] [] []) (.seq (.cond (.t 18) .skip (.exit 1)) (.seq (.block 2 (.seq (rgN [oq 19 .mov [.t 17],oq 20 (.iaddrS 5) [.t 15,.t 17],oq 21 (.load (some 5)) [.t 20],⟨some 4,.alloc [.val (.string ⟨#[]⟩),iv 0,iv 0,iv 0,iv 0],[],none⟩,oq 3 .mov [.t 19],ox (.store 5) [.t 4,.t 21]] [18,19,20,21] []) (.seq (.seq (rgN [oq 22 (.faddr 0) [.t 4],oq 23 (.load none) [.t 22],oq 24 (.call F_lexer_IsName) [.t 23],oq 25 (.un .not) [.t 24]] [22,23,24] []) (.cond (.t 25) (.seq (rgN [oq 2 .mov [.c (iv 5)]] [0,15,16,17,4,3,25] [4]) .ret) .skip)) (.seq (.seq (rgD [oq 27 .mov [.t 0],oq 28 .mov [.t 3],oq 29 (.slice 5 false true false) [.t 27,.t 28],oq 30 (.faddr 0) [.t 4],oq 31 (.load none) [.t 30],oq 32 (.call F_catalog_Find) [.t 29,.t 31],oq 26 .mov [.t 32],oq 33 (.extract 0) [.t 26],oq 34 (.extract 1) [.t 26],oq 5 .mov [.t 33],oq 6 .mov [.t 34]] [3,25,27,28,29,30,31,32,26,33,34,5] []) (.seq (rgN [oq 35 .mov [.t 6]] [6] []) (.cond (.t 35) (.seq (rgN [oq 2 .mov [.c (iv 7)]] [0,15,16,17,4,35] [4]) .ret) .skip))) (.seq (rgN [oq 36 (.faddr 1) [.t 4],oq 37 (.load none) [.t 36],oq 38 (.call F_catalog_between) [.t 37,.c (iv 1),.c (iv 4)],oq 39 (.un .not) [.t 38],oq 40 .mov [.t 39],⟨some 41,.faddr 2,[.t 4],some (40,false)⟩,⟨some 42,.load none,[.t 41],some (40,false)⟩,⟨some 43,.call F_catalog_between,[.t 42,.c (iv 0),.c (iv 1000000)],some (40,false)⟩,⟨some 44,.un .not,[.t 43],some (40,false)⟩,oq 45 .pick [.t 40,.c (bv true),.t 44],oq 46 .mov [.t 45],⟨some 47,.faddr 3,[.t 4],some (46,false)⟩,⟨some 48,.load none,[.t 47],some (46,false)⟩,⟨some 49,.call F_catalog_between,[.t 48,.c (iv 0),.c (iv 1000)],some (46,false)⟩,⟨some 50,.un .not,[.t 49],some (46,false)⟩,oq 51 .pick [.t 46,.c (bv true),.t 50],oq 52 .mov [.t 51],⟨some 53,.faddr 4,[.t 4],some (52,false)⟩,⟨some 54,.load none,[.t 53],some (52,false)⟩,⟨some 55,.call F_catalog_between,[.t 54,.c (iv 0),.c (iv 4)],some (52,false)⟩,⟨some 56,.un .not,[.t 55],some (52,false)⟩,oq 57 .pick [.t 52,.c (bv true),.t 56]] [4,35,36,37,38,39,40,41,42,43,44,45,46,47,48,49,50,51,52,53,54,55,56] [4]) (.cond (.t 57) (.seq (rgN [oq 2 .mov [.c (iv 4)]] [0,15,16,17,57] []) .ret) .skip)))))) (rgN [oq 58 (.bin .add T_int (.tmp 17) (kc 1)) [.t 17,.c (iv 1)],oq 17 .mov [.t 58]] [57,58] []))))
def c_catalog_Check_k1:ACode:=(.seq (.seq (rgN [oq 59 .mov [.t 0],oq 60 (.call F_catalog_Supply) [.t 59],oq 61 (.call F_bundle_Count) [.t 60],oq 62 (.bin .eql T_int (.tmp 61) (kc 0)) [.t 61,.c (iv 0)]] [0,15,16,17,18,59,60,61] []) (.cond (.t 62) (.seq (rgN [oq 2 .mov [.c (iv 12)]] [62] []) .ret) .skip)) (.seq (rgN [oq 2 .mov [.c (iv 0)]] [62] []) .ret))
def c_catalog_Check:ACode:=(.seq (rgN [oq 2 .mov [.c (iv 0)]] [2] []) (.seq (.block 0 (.seq (rgN [oq 8 .mov [.t 0],oq 9 (.len false) [.t 8],oq 10 (.bin .eql T_int (.tmp 9) (kc 0)) [.t 9,.c (iv 0)],oq 7 .mov [.t 10]] [8,9,10] []) (.cond (.t 7) (.seq (rgN [oq 2 .mov [.c (iv 1)]] [0,7] []) .ret) (.seq (rgN [oq 12 .mov [.t 0],oq 13 (.len false) [.t 12],oq 14 (.bin .gtr T_int (.tmp 13) (kc 6)) [.t 13,.c (iv 6)],oq 11 .mov [.t 14]] [7,12,13,14] []) (.cond (.t 11) (.seq (rgN [oq 2 .mov [.c (iv 3)]] [0,11] []) .ret) .skip))))) (.seq (.seq (rgN [oq 15 .mov [.t 0],oq 16 (.len false) [.t 15],oq 17 .mov [.c (iv 0)]] [11] []) (.block 1 (.loop c_catalog_Check_l0))) c_catalog_Check_k1)))
def r_catalog_Check:List ResA:=[.t 2]
theorem t_catalog_Check:transl Try.prog F_catalog_Check=some (bare c_catalog_Check,r_catalog_Check,63):=by kernel_rfl
def c_roster_Check_l0:ACode:=(.seq (rgN [oq 18 (.bin .lss T_int (.tmp 17) (.tmp 16)) [.t 17,.t 16]] [] []) (.seq (.cond (.t 18) .skip (.exit 1)) (.seq (.block 2 (.seq (rgN [oq 19 .mov [.t 17],oq 20 (.iaddrS 4) [.t 15,.t 17],oq 21 (.load (some 4)) [.t 20],⟨some 4,.alloc [.val (.string ⟨#[]⟩),iv 0,iv 0,iv 0],[],none⟩,oq 3 .mov [.t 19],ox (.store 4) [.t 4,.t 21]] [18,19,20,21] []) (.seq (.seq (rgN [oq 22 (.faddr 0) [.t 4],oq 23 (.load none) [.t 22],oq 24 (.call F_lexer_IsName) [.t 23],oq 25 (.un .not) [.t 24]] [22,23,24] []) (.cond (.t 25) (.seq (rgN [oq 2 .mov [.c (iv 5)]] [0,15,16,17,4,3,25] [4]) .ret) .skip)) (.seq (.seq (rgD [oq 27 .mov [.t 0],oq 28 .mov [.t 3],oq 29 (.slice 4 false true false) [.t 27,.t 28],oq 30 (.faddr 0) [.t 4],oq 31 (.load none) [.t 30],oq 32 (.call F_roster_Find) [.t 29,.t 31],oq 26 .mov [.t 32],oq 33 (.extract 0) [.t 26],oq 34 (.extract 1) [.t 26],oq 5 .mov [.t 33],oq 6 .mov [.t 34]] [3,25,27,28,29,30,31,32,26,33,34,5] []) (.seq (rgN [oq 35 .mov [.t 6]] [6] []) (.cond (.t 35) (.seq (rgN [oq 2 .mov [.c (iv 7)]] [0,15,16,17,4,35] [4]) .ret) .skip))) (.seq (rgN [oq 36 (.faddr 1) [.t 4],oq 37 (.load none) [.t 36],oq 38 (.bin .lss T_int (.tmp 37) (kc 0)) [.t 37,.c (iv 0)],oq 39 .mov [.t 38],⟨some 40,.faddr 1,[.t 4],some (39,false)⟩,⟨some 41,.load none,[.t 40],some (39,false)⟩,⟨some 42,.bin .gtr T_int (.tmp 41) (kc 4),[.t 41,.c (iv 4)],some (39,false)⟩,oq 43 .pick [.t 39,.c (bv true),.t 42],oq 44 .mov [.t 43],⟨some 45,.faddr 2,[.t 4],some (44,false)⟩,⟨some 46,.load none,[.t 45],some (44,false)⟩,⟨some 47,.bin .lss T_int64 (.tmp 46) (kc 0),[.t 46,.c (iv 0)],some (44,false)⟩,oq 48 .pick [.t 44,.c (bv true),.t 47],oq 49 .mov [.t 48],⟨some 50,.faddr 2,[.t 4],some (49,false)⟩,⟨some 51,.load none,[.t 50],some (49,false)⟩,⟨some 52,.bin .gtr T_int64 (.tmp 51) (kc 1000000),[.t 51,.c (iv 1000000)],some (49,false)⟩,oq 53 .pick [.t 49,.c (bv true),.t 52],oq 54 .mov [.t 53],⟨some 55,.faddr 3,[.t 4],some (54,false)⟩,⟨some 56,.load none,[.t 55],some (54,false)⟩,⟨some 57,.bin .lss T_int (.tmp 56) (kc 0),[.t 56,.c (iv 0)],some (54,false)⟩,oq 58 .pick [.t 54,.c (bv true),.t 57],oq 59 .mov [.t 58],⟨some 60,.faddr 3,[.t 4],some (59,false)⟩,⟨some 61,.load none,[.t 60],some (59,false)⟩,⟨some 62,.bin .gtr T_int (.tmp 61) (kc 24000),[.t 61,.c (iv 24000)],some (59,false)⟩,oq 63 .pick [.t 59,.c (bv true),.t 62]] [4,35,36,37,38,39,40,41,42,43,44,45,46,47,48,49,50,51,52,53,54,55,56,57,58,59,60,61,62] [4]) (.cond (.t 63) (.seq (rgN [oq 2 .mov [.c (iv 4)]] [0,15,16,17,63] []) .ret) .skip)))))) (rgN [oq 64 (.bin .add T_int (.tmp 17) (kc 1)) [.t 17,.c (iv 1)],oq 17 .mov [.t 64]] [63,64] []))))
def c_roster_Check_k1:ACode:=(.seq (rgN [oq 2 .mov [.c (iv 0)]] [0,15,16,17,18] []) .ret)
def c_roster_Check:ACode:=(.seq (rgN [oq 2 .mov [.c (iv 0)]] [2] []) (.seq (.block 0 (.seq (rgN [oq 8 .mov [.t 0],oq 9 (.len false) [.t 8],oq 10 (.bin .eql T_int (.tmp 9) (kc 0)) [.t 9,.c (iv 0)],oq 7 .mov [.t 10]] [8,9,10] []) (.cond (.t 7) (.seq (rgN [oq 2 .mov [.c (iv 1)]] [0,7] []) .ret) (.seq (rgN [oq 12 .mov [.t 0],oq 13 (.len false) [.t 12],oq 14 (.bin .gtr T_int (.tmp 13) (kc 8)) [.t 13,.c (iv 8)],oq 11 .mov [.t 14]] [7,12,13,14] []) (.cond (.t 11) (.seq (rgN [oq 2 .mov [.c (iv 3)]] [0,11] []) .ret) .skip))))) (.seq (.seq (rgN [oq 15 .mov [.t 0],oq 16 (.len false) [.t 15],oq 17 .mov [.c (iv 0)]] [11] []) (.block 1 (.loop c_roster_Check_l0))) c_roster_Check_k1)))
def r_roster_Check:List ResA:=[.t 2]
theorem t_roster_Check:transl Try.prog F_roster_Check=some (bare c_roster_Check,r_roster_Check,65):=by kernel_rfl
def c_setup_checkCaps_l0:ACode:=(.seq (rgN [oq 54 (.bin .lss T_int (.tmp 53) (.tmp 52)) [.t 53,.t 52]] [] []) (.seq (.cond (.t 54) .skip (.exit 2)) (.seq (.block 3 (.seq (rgN [oq 55 (.iaddrS 3) [.t 51,.t 53],oq 56 (.load (some 3)) [.t 55],oq 6 (.alloc [iv 0,iv 0,iv 0]) [],ox (.store 3) [.t 6,.t 56]] [54,55,56] []) (.seq (rgN [oq 57 (.faddr 0) [.t 6],oq 58 (.load none) [.t 57],oq 59 (.faddr 0) [.t 4],oq 60 (.load none) [.t 59],oq 61 (.bin .eql T_int (.tmp 58) (.tmp 60)) [.t 58,.t 60],oq 62 .mov [.t 61],⟨some 63,.faddr 1,[.t 6],some (62,true)⟩,⟨some 64,.load none,[.t 63],some (62,true)⟩,⟨some 65,.faddr 1,[.t 4],some (62,true)⟩,⟨some 66,.load none,[.t 65],some (62,true)⟩,⟨some 67,.bin .eql T_int (.tmp 64) (.tmp 66),[.t 64,.t 66],some (62,true)⟩,oq 68 .pick [.t 62,.t 67,.c (bv false)]] [6,57,58,59,60,61,62,63,64,65,66,67] [6]) (.cond (.t 68) (.seq (rgN [oq 2 .mov [.c (iv 7)]] [1,12,13,14,4,51,52,53,68] [1,4]) .ret) .skip)))) (rgN [oq 69 (.bin .add T_int (.tmp 53) (kc 1)) [.t 53,.c (iv 1)],oq 53 .mov [.t 69]] [68,69] []))))
def c_setup_checkCaps_k1:ACode:=(rgN [oq 70 (.bin .add T_int (.tmp 14) (kc 1)) [.t 14,.c (iv 1)],oq 14 .mov [.t 70]] [4,51,52,53,54,70] [4])
def c_setup_checkCaps_l2:ACode:=(.seq (rgN [oq 15 (.bin .lss T_int (.tmp 14) (.tmp 13)) [.t 14,.t 13]] [] []) (.seq (.cond (.t 15) .skip (.exit 0)) (.seq (.block 1 (.seq (rgN [oq 16 .mov [.t 14],oq 17 (.iaddrS 3) [.t 12,.t 14],oq 18 (.load (some 3)) [.t 17],oq 4 (.alloc [iv 0,iv 0,iv 0]) [],oq 3 .mov [.t 16],ox (.store 3) [.t 4,.t 18]] [15,16,17,18] []) (.seq (.seq (rgN [oq 19 (.faddr 0) [.t 4],oq 20 (.load none) [.t 19],⟨some 21,.bin .lss T_int (.tmp 20) (kc (-1)),[.t 20,.c (iv (-1))],none⟩,oq 22 .mov [.t 21],⟨some 23,.faddr 0,[.t 4],some (22,false)⟩,⟨some 24,.load none,[.t 23],some (22,false)⟩,⟨some 25,.faddr 1,[.t 1],some (22,false)⟩,⟨some 26,.load none,[.t 25],some (22,false)⟩,⟨some 27,.len false,[.t 26],some (22,false)⟩,⟨some 28,.bin .geq T_int (.tmp 24) (.tmp 27),[.t 24,.t 27],some (22,false)⟩,oq 29 .pick [.t 22,.c (bv true),.t 28]] [19,20,21,22,23,24,25,26,27,28] []) (.cond (.t 29) (.seq (rgN [oq 2 .mov [.c (iv 6)]] [1,12,13,14,4,3,29] [1,4]) .ret) .skip)) (.seq (.seq (rgN [oq 30 (.faddr 1) [.t 4],oq 31 (.load none) [.t 30],oq 32 (.bin .lss T_int (.tmp 31) (kc 0)) [.t 31,.c (iv 0)],oq 33 .mov [.t 32],⟨some 34,.faddr 1,[.t 4],some (33,false)⟩,⟨some 35,.load none,[.t 34],some (33,false)⟩,⟨some 36,.bin .gtr T_int (.tmp 35) (kc 4),[.t 35,.c (iv 4)],some (33,false)⟩,oq 37 .pick [.t 33,.c (bv true),.t 36],oq 38 .mov [.t 37],⟨some 39,.faddr 2,[.t 4],some (38,false)⟩,⟨some 40,.load none,[.t 39],some (38,false)⟩,⟨some 41,.bin .lss T_int (.tmp 40) (kc 0),[.t 40,.c (iv 0)],some (38,false)⟩,oq 42 .pick [.t 38,.c (bv true),.t 41],oq 43 .mov [.t 42],⟨some 44,.faddr 2,[.t 4],some (43,false)⟩,⟨some 45,.load none,[.t 44],some (43,false)⟩,⟨some 46,.bin .gtr T_int (.tmp 45) (kc 24),[.t 45,.c (iv 24)],some (43,false)⟩,oq 47 .pick [.t 43,.c (bv true),.t 46]] [29,30,31,32,33,34,35,36,37,38,39,40,41,42,43,44,45,46] []) (.cond (.t 47) (.seq (rgN [oq 2 .mov [.c (iv 4)]] [1,12,13,14,4,3,47] [1,4]) .ret) .skip)) (.seq (rgN [oq 48 (.faddr 2) [.t 1],oq 49 (.load none) [.t 48],oq 50 .mov [.t 3],oq 51 (.slice 3 false true false) [.t 49,.t 50],oq 52 (.len false) [.t 51],oq 53 .mov [.c (iv 0)]] [3,47,48,49,50] []) (.block 2 (.loop c_setup_checkCaps_l0))))))) c_setup_checkCaps_k1)))
def c_setup_checkCaps_k3:ACode:=(.seq (rgN [oq 2 .mov [.c (iv 0)]] [1,12,13,14,15] [1]) .ret)
def c_setup_checkCaps:ACode:=(.seq (rgN [oq 1 .box [.t 0],oq 2 .mov [.c (iv 0)]] [0,2] []) (.seq (.seq (rgN [oq 7 (.faddr 2) [.t 1],oq 8 (.load none) [.t 7],oq 9 (.len false) [.t 8],oq 10 (.bin .gtr T_int (.tmp 9) (kc 16)) [.t 9,.c (iv 16)]] [7,8,9] []) (.cond (.t 10) (.seq (rgN [oq 2 .mov [.c (iv 3)]] [1,10] [1]) .ret) .skip)) (.seq (.seq (rgN [oq 11 (.faddr 2) [.t 1],oq 12 (.load none) [.t 11],oq 13 (.len false) [.t 12],oq 14 .mov [.c (iv 0)]] [10,11] []) (.block 0 (.loop c_setup_checkCaps_l2))) c_setup_checkCaps_k3)))
def r_setup_checkCaps:List ResA:=[.t 2]
theorem t_setup_checkCaps:transl Try.prog F_setup_checkCaps=some (bare c_setup_checkCaps,r_setup_checkCaps,71):=by kernel_rfl
def c_setup_checkAsides_l0:ACode:=(.seq (rgN [oq 61 (.bin .lss T_int (.tmp 60) (.tmp 59)) [.t 60,.t 59]] [] []) (.seq (.cond (.t 61) .skip (.exit 2)) (.seq (.block 3 (.seq (rgN [oq 62 (.iaddrS 3) [.t 58,.t 60],oq 63 (.load (some 3)) [.t 62],oq 6 (.alloc [iv 0,iv 0,iv 0]) [],ox (.store 3) [.t 6,.t 63]] [61,62,63] []) (.seq (rgN [oq 64 (.faddr 0) [.t 6],oq 65 (.load none) [.t 64],oq 66 (.faddr 0) [.t 4],oq 67 (.load none) [.t 66],oq 68 (.bin .eql T_int (.tmp 65) (.tmp 67)) [.t 65,.t 67]] [6,64,65,66,67] [6]) (.cond (.t 68) (.seq (rgN [oq 2 .mov [.c (iv 7)]] [1,12,13,14,4,58,59,60,68] [1,4]) .ret) .skip)))) (rgN [oq 69 (.bin .add T_int (.tmp 60) (kc 1)) [.t 60,.c (iv 1)],oq 60 .mov [.t 69]] [68,69] []))))
def c_setup_checkAsides_k1:ACode:=(rgN [oq 70 (.bin .add T_int (.tmp 14) (kc 1)) [.t 14,.c (iv 1)],oq 14 .mov [.t 70]] [4,58,59,60,61,70] [4])
def c_setup_checkAsides_l2:ACode:=(.seq (rgN [oq 15 (.bin .lss T_int (.tmp 14) (.tmp 13)) [.t 14,.t 13]] [] []) (.seq (.cond (.t 15) .skip (.exit 0)) (.seq (.block 1 (.seq (rgN [oq 16 .mov [.t 14],oq 17 (.iaddrS 3) [.t 12,.t 14],oq 18 (.load (some 3)) [.t 17],oq 4 (.alloc [iv 0,iv 0,iv 0]) [],oq 3 .mov [.t 16],ox (.store 3) [.t 4,.t 18]] [15,16,17,18] []) (.seq (.seq (rgN [oq 19 (.faddr 0) [.t 4],oq 20 (.load none) [.t 19],oq 21 (.bin .lss T_int (.tmp 20) (kc 0)) [.t 20,.c (iv 0)],oq 22 .mov [.t 21],⟨some 23,.faddr 0,[.t 4],some (22,false)⟩,⟨some 24,.load none,[.t 23],some (22,false)⟩,⟨some 25,.faddr 0,[.t 1],some (22,false)⟩,⟨some 26,.load none,[.t 25],some (22,false)⟩,⟨some 27,.len false,[.t 26],some (22,false)⟩,⟨some 28,.bin .geq T_int (.tmp 24) (.tmp 27),[.t 24,.t 27],some (22,false)⟩,oq 29 .pick [.t 22,.c (bv true),.t 28]] [19,20,21,22,23,24,25,26,27,28] []) (.cond (.t 29) (.seq (rgN [oq 2 .mov [.c (iv 6)]] [1,12,13,14,4,3,29] [1,4]) .ret) .skip)) (.seq (.seq (rgD [oq 30 (.faddr 1) [.t 4],oq 31 (.load none) [.t 30],oq 32 (.bin .lss T_int (.tmp 31) (kc 1)) [.t 31,.c (iv 1)],oq 33 .mov [.t 32],⟨some 34,.faddr 1,[.t 4],some (33,false)⟩,⟨some 35,.load none,[.t 34],some (33,false)⟩,⟨some 36,.bin .gtr T_int (.tmp 35) (kc 4),[.t 35,.c (iv 4)],some (33,false)⟩,oq 37 .pick [.t 33,.c (bv true),.t 36],oq 38 .mov [.t 37],⟨some 39,.faddr 2,[.t 4],some (38,false)⟩,⟨some 40,.load none,[.t 39],some (38,false)⟩,⟨some 41,.bin .lss T_int (.tmp 40) (kc 1),[.t 40,.c (iv 1)],some (38,false)⟩,oq 42 .pick [.t 38,.c (bv true),.t 41],oq 43 .mov [.t 42],⟨some 44,.faddr 2,[.t 4],some (43,false)⟩,⟨some 45,.load none,[.t 44],some (43,false)⟩,⟨some 46,.faddr 0,[.t 1],some (43,false)⟩,⟨some 47,.load none,[.t 46],some (43,false)⟩,⟨some 48,.faddr 0,[.t 4],some (43,false)⟩,⟨some 49,.load none,[.t 48],some (43,false)⟩,⟨some 50,.iaddrS 5,[.t 47,.t 49],some (43,false)⟩,⟨some 51,.faddr 1,[.t 50],some (43,false)⟩,⟨some 52,.load none,[.t 51],some (43,false)⟩,⟨some 53,.bin .gtr T_int (.tmp 45) (.tmp 52),[.t 45,.t 52],some (43,false)⟩,oq 54 .pick [.t 43,.c (bv true),.t 53]] [29,30,31,32,33,34,35,36,37,38,39,40,41,42,43,44,45,46,47,48,49,50,51,52,53] []) (.cond (.t 54) (.seq (rgN [oq 2 .mov [.c (iv 4)]] [1,12,13,14,4,3,54] [1,4]) .ret) .skip)) (.seq (rgN [oq 55 (.faddr 3) [.t 1],oq 56 (.load none) [.t 55],oq 57 .mov [.t 3],oq 58 (.slice 3 false true false) [.t 56,.t 57],oq 59 (.len false) [.t 58],oq 60 .mov [.c (iv 0)]] [3,54,55,56,57] []) (.block 2 (.loop c_setup_checkAsides_l0))))))) c_setup_checkAsides_k1)))
def c_setup_checkAsides_k3:ACode:=(.seq (rgN [oq 2 .mov [.c (iv 0)]] [1,12,13,14,15] [1]) .ret)
def c_setup_checkAsides:ACode:=(.seq (rgN [oq 1 .box [.t 0],oq 2 .mov [.c (iv 0)]] [0,2] []) (.seq (.seq (rgN [oq 7 (.faddr 3) [.t 1],oq 8 (.load none) [.t 7],oq 9 (.len false) [.t 8],oq 10 (.bin .gtr T_int (.tmp 9) (kc 6)) [.t 9,.c (iv 6)]] [7,8,9] []) (.cond (.t 10) (.seq (rgN [oq 2 .mov [.c (iv 3)]] [1,10] [1]) .ret) .skip)) (.seq (.seq (rgN [oq 11 (.faddr 3) [.t 1],oq 12 (.load none) [.t 11],oq 13 (.len false) [.t 12],oq 14 .mov [.c (iv 0)]] [10,11] []) (.block 0 (.loop c_setup_checkAsides_l2))) c_setup_checkAsides_k3)))
def r_setup_checkAsides:List ResA:=[.t 2]
theorem t_setup_checkAsides:transl Try.prog F_setup_checkAsides=some (bare c_setup_checkAsides,r_setup_checkAsides,71):=by kernel_rfl
def c__catalog_units__sum_l0:ACode:=(.seq (rgN [oq 22 (.bin .lss T_int (.tmp 21) (.tmp 20)) [.t 21,.t 20]] [] []) (.seq (.cond (.t 22) .skip (.exit 0)) (.seq (.block 1 (.seq (rgN [oq 23 .mov [.t 21],oq 24 (.iaddrS 5) [.t 19,.t 21],oq 25 (.load (some 5)) [.t 24],⟨some 7,.alloc [.val (.string ⟨#[]⟩),iv 0,iv 0,iv 0,iv 0],[],none⟩,oq 6 .mov [.t 23],ox (.store 5) [.t 7,.t 25]] [22,23,24,25] []) (rgD [oq 26 .mov [.t 5],oq 27 .mov [.t 6],oq 28 (.faddr 1) [.t 2],oq 29 (.iaddrA 6 1) [.t 28,.t 27],oq 30 (.load none) [.t 29],oq 31 .mov [.t 1],oq 32 (.load (some 5)) [.t 7],oq 33 .callv [.t 31,.t 32],oq 34 (.bin .mul T_int64 (.tmp 30) (.tmp 33)) [.t 30,.t 33],oq 35 (.bin .add T_int64 (.tmp 26) (.tmp 34)) [.t 26,.t 34],oq 5 .mov [.t 35]] [7,6,26,27,28,29,30,31,32,33,34,35] [7]))) (rgN [oq 36 (.bin .add T_int (.tmp 21) (kc 1)) [.t 21,.c (iv 1)],oq 21 .mov [.t 36]] [36] []))))
def c__catalog_units__sum_k1:ACode:=(.seq (rgN [oq 37 .mov [.t 5],oq 4 .mov [.t 37]] [1,2,5,19,20,21,22,37] [2]) .ret)
def c__catalog_units__sum:ACode:=(.seq (rgN [oq 2 .box [.t 0],oq 4 .mov [.c (iv 0)]] [0,4] []) (.seq (.seq (rgN [oq 8 (.faddr 0) [.t 2],oq 9 (.load none) [.t 8],oq 10 (.call F_catalog_Check) [.t 9],oq 11 (.bin .neq T_api_Errno (.tmp 10) (kc 0)) [.t 10,.c (iv 0)],oq 12 .mov [.t 11],⟨some 13,.faddr 1,[.t 2],some (12,false)⟩,⟨some 14,.load (some 6),[.t 13],some (12,false)⟩,⟨some 15,.call F_bundle_Check,[.t 14],some (12,false)⟩,⟨some 16,.bin .neq T_api_Errno (.tmp 15) (kc 0),[.t 15,.c (iv 0)],some (12,false)⟩,oq 17 .pick [.t 12,.c (bv true),.t 16]] [8,9,10,11,12,13,14,15,16] []) (.cond (.t 17) (.seq (rgN [oq 4 .mov [.c (iv 0)]] [1,2,17] [2]) .ret) .skip)) (.seq (rgN [oq 5 .mov [.c (iv 0)]] [17] []) (.seq (.seq (rgN [oq 18 (.faddr 0) [.t 2],oq 19 (.load none) [.t 18],oq 20 (.len false) [.t 19],oq 21 .mov [.c (iv 0)]] [18] []) (.block 0 (.loop c__catalog_units__sum_l0))) c__catalog_units__sum_k1))))
def r__catalog_units__sum:List ResA:=[.t 4]
theorem t__catalog_units__sum:transl Try.prog F__catalog_units__sum=some (bare c__catalog_units__sum,r__catalog_units__sum,38):=by kernel_rfl
def c_catalog_Reserve_1:ACode:=(.seq (rgN [oq 1 .box [.t 0],oq 2 .mov [.c (iv 0)]] [0,2] []) (.seq (rgN [oq 3 (.faddr 2) [.t 1],oq 4 (.load none) [.t 3],oq 2 .mov [.t 4]] [1,3,4] [1]) .ret))
def r_catalog_Reserve_1:List ResA:=[.t 2]
theorem t_catalog_Reserve_1:transl Try.prog F_catalog_Reserve_1=some (bare c_catalog_Reserve_1,r_catalog_Reserve_1,5):=by kernel_rfl
def c_ref08_Check_l0:ACode:=(.seq (.seq (rgN [oq 27 .mov [.t 4],oq 28 .mov [.t 3],oq 29 (.bin .lss T_int (.tmp 27) (.tmp 28)) [.t 27,.t 28]] [27,28] []) (.cond (.t 29) .skip (.exit 2))) (.seq (.block 3 (.seq (rgD [oq 32 .mov [.t 0],oq 33 .mov [.t 4],oq 34 (.iaddrS 5) [.t 32,.t 33],oq 35 (.faddr 0) [.t 34],oq 36 (.load none) [.t 35],oq 37 .mov [.t 0],oq 38 .mov [.t 3],oq 39 (.iaddrS 5) [.t 37,.t 38],oq 40 (.faddr 0) [.t 39],oq 41 (.load none) [.t 40],oq 42 (.bin .eql T_string (.tmp 36) (.tmp 41)) [.t 36,.t 41]] [29,32,33,34,35,36,37,38,39,40,41] []) (.cond (.t 42) (.seq (rgN [oq 2 .mov [.c (iv 7)]] [0,3,4,42] []) .ret) .skip))) (rgN [oq 30 .mov [.t 4],oq 31 (.bin .add T_int (.tmp 30) (kc 1)) [.t 30,.c (iv 1)],oq 4 .mov [.t 31]] [42,30,31] [])))
def c_ref08_Check_k1:ACode:=(.seq (rgN [oq 43 .mov [.t 0],oq 44 .mov [.t 3],oq 45 (.iaddrS 5) [.t 43,.t 44],oq 46 (.load (some 5)) [.t 45],⟨some 5,.alloc [.val (.string ⟨#[]⟩),iv 0,iv 0,iv 0,iv 0],[],none⟩,ox (.store 5) [.t 5,.t 46]] [4,29,43,44,45,46] []) (.seq (rgN [oq 47 (.faddr 1) [.t 5],oq 48 (.load none) [.t 47],oq 49 (.bin .lss T_int (.tmp 48) (kc 1)) [.t 48,.c (iv 1)],oq 50 .mov [.t 49],⟨some 51,.faddr 1,[.t 5],some (50,false)⟩,⟨some 52,.load none,[.t 51],some (50,false)⟩,⟨some 53,.bin .gtr T_int (.tmp 52) (kc 4),[.t 52,.c (iv 4)],some (50,false)⟩,oq 54 .pick [.t 50,.c (bv true),.t 53],oq 55 .mov [.t 54],⟨some 56,.faddr 2,[.t 5],some (55,false)⟩,⟨some 57,.load none,[.t 56],some (55,false)⟩,⟨some 58,.bin .lss T_int64 (.tmp 57) (kc 0),[.t 57,.c (iv 0)],some (55,false)⟩,oq 59 .pick [.t 55,.c (bv true),.t 58],oq 60 .mov [.t 59],⟨some 61,.faddr 2,[.t 5],some (60,false)⟩,⟨some 62,.load none,[.t 61],some (60,false)⟩,⟨some 63,.bin .gtr T_int64 (.tmp 62) (kc 1000000),[.t 62,.c (iv 1000000)],some (60,false)⟩,oq 64 .pick [.t 60,.c (bv true),.t 63],oq 65 .mov [.t 64],⟨some 66,.faddr 3,[.t 5],some (65,false)⟩,⟨some 67,.load none,[.t 66],some (65,false)⟩,⟨some 68,.bin .lss T_int (.tmp 67) (kc 0),[.t 67,.c (iv 0)],some (65,false)⟩,oq 69 .pick [.t 65,.c (bv true),.t 68],oq 70 .mov [.t 69],⟨some 71,.faddr 3,[.t 5],some (70,false)⟩,⟨some 72,.load none,[.t 71],some (70,false)⟩,⟨some 73,.bin .gtr T_int (.tmp 72) (kc 1000),[.t 72,.c (iv 1000)],some (70,false)⟩,oq 74 .pick [.t 70,.c (bv true),.t 73],oq 75 .mov [.t 74],⟨some 76,.faddr 4,[.t 5],some (75,false)⟩,⟨some 77,.load none,[.t 76],some (75,false)⟩,⟨some 78,.bin .lss T_int (.tmp 77) (kc 0),[.t 77,.c (iv 0)],some (75,false)⟩,oq 79 .pick [.t 75,.c (bv true),.t 78],oq 80 .mov [.t 79],⟨some 81,.faddr 4,[.t 5],some (80,false)⟩,⟨some 82,.load none,[.t 81],some (80,false)⟩,⟨some 83,.bin .gtr T_int (.tmp 82) (kc 4),[.t 82,.c (iv 4)],some (80,false)⟩,oq 84 .pick [.t 80,.c (bv true),.t 83]] [5,47,48,49,50,51,52,53,54,55,56,57,58,59,60,61,62,63,64,65,66,67,68,69,70,71,72,73,74,75,76,77,78,79,80,81,82,83] [5]) (.cond (.t 84) (.seq (rgN [oq 2 .mov [.c (iv 4)]] [0,3,84] []) .ret) .skip)))
def c_ref08_Check_k2:ACode:=(rgN [oq 18 .mov [.t 3],oq 19 (.bin .add T_int (.tmp 18) (kc 1)) [.t 18,.c (iv 1)],oq 3 .mov [.t 19]] [84,18,19] [])
def c_ref08_Check_l3:ACode:=(.seq (.seq (rgN [oq 14 .mov [.t 3],oq 15 .mov [.t 0],oq 16 (.len false) [.t 15],oq 17 (.bin .lss T_int (.tmp 14) (.tmp 16)) [.t 14,.t 16]] [14,15,16] []) (.cond (.t 17) .skip (.exit 0))) (.seq (.block 1 (.seq (.seq (rgN [oq 20 .mov [.t 0],oq 21 .mov [.t 3],oq 22 (.iaddrS 5) [.t 20,.t 21],oq 23 (.faddr 0) [.t 22],oq 24 (.load none) [.t 23],oq 25 (.call F_ref08_IsName) [.t 24],oq 26 (.un .not) [.t 25]] [17,20,21,22,23,24,25] []) (.cond (.t 26) (.seq (rgN [oq 2 .mov [.c (iv 5)]] [0,3,26] []) .ret) .skip)) (.seq (.seq (rgN [oq 4 .mov [.c (iv 0)]] [26] []) (.block 2 (.loop c_ref08_Check_l0))) c_ref08_Check_k1))) c_ref08_Check_k2))
def c_ref08_Check_l4:ACode:=(.seq (.seq (rgN [oq 85 .mov [.t 7],oq 86 .mov [.t 0],oq 87 (.len false) [.t 86],oq 88 (.bin .lss T_int (.tmp 85) (.tmp 87)) [.t 85,.t 87]] [85,86,87] []) (.cond (.t 88) .skip (.exit 4))) (.seq (.block 5 (rgN [oq 91 .mov [.t 6],oq 92 .mov [.t 0],oq 93 .mov [.t 7],oq 94 (.iaddrS 5) [.t 92,.t 93],oq 95 (.faddr 1) [.t 94],oq 96 (.load none) [.t 95],oq 97 (.bin .add T_int (.tmp 96) (kc 1)) [.t 96,.c (iv 1)],oq 98 (.bin .mul T_int (.tmp 91) (.tmp 97)) [.t 91,.t 97],oq 6 .mov [.t 98]] [88,91,92,93,94,95,96,97,98] [])) (rgN [oq 89 .mov [.t 7],oq 90 (.bin .add T_int (.tmp 89) (kc 1)) [.t 89,.c (iv 1)],oq 7 .mov [.t 90]] [89,90] [])))
def c_ref08_Check_k5:ACode:=(.seq (.seq (rgN [oq 99 .mov [.t 6],oq 100 (.bin .gtr T_int (.tmp 99) (kc 1024)) [.t 99,.c (iv 1024)]] [0,6,7,88,99] []) (.cond (.t 100) (.seq (rgN [oq 2 .mov [.c (iv 12)]] [100] []) .ret) .skip)) (.seq (rgN [oq 2 .mov [.c (iv 0)]] [100] []) .ret))
def c_ref08_Check_k6:ACode:=(.seq (rgN [oq 6 .mov [.c (iv 1)]] [3,17] []) (.seq (.seq (rgN [oq 7 .mov [.c (iv 0)]] [] []) (.block 4 (.loop c_ref08_Check_l4))) c_ref08_Check_k5))
def c_ref08_Check:ACode:=(.seq (rgN [oq 2 .mov [.c (iv 0)]] [2] []) (.seq (.seq (rgN [oq 8 .mov [.t 0],oq 9 (.len false) [.t 8],oq 10 (.bin .eql T_int (.tmp 9) (kc 0)) [.t 9,.c (iv 0)]] [8,9] []) (.cond (.t 10) (.seq (rgN [oq 2 .mov [.c (iv 1)]] [0,10] []) .ret) .skip)) (.seq (.seq (rgN [oq 11 .mov [.t 0],oq 12 (.len false) [.t 11],oq 13 (.bin .gtr T_int (.tmp 12) (kc 6)) [.t 12,.c (iv 6)]] [10,11,12] []) (.cond (.t 13) (.seq (rgN [oq 2 .mov [.c (iv 3)]] [0,13] []) .ret) .skip)) (.seq (.seq (rgN [oq 3 .mov [.c (iv 0)]] [13] []) (.block 0 (.loop c_ref08_Check_l3))) c_ref08_Check_k6))))
def r_ref08_Check:List ResA:=[.t 2]
theorem t_ref08_Check:transl Try.prog F_ref08_Check=some (bare c_ref08_Check,r_ref08_Check,101):=by kernel_rfl
def c_ref09_Check_l0:ACode:=(.seq (.seq (rgN [oq 12 .mov [.t 3],oq 13 .mov [.t 0],oq 14 (.len false) [.t 13],oq 15 (.bin .lss T_int (.tmp 12) (.tmp 14)) [.t 12,.t 14]] [12,13,14] []) (.cond (.t 15) .skip (.exit 0))) (.seq (.block 1 (.seq (.seq (rgN [oq 18 .mov [.t 0],oq 19 .mov [.t 3],oq 20 (.iaddrS 4) [.t 18,.t 19],oq 21 (.faddr 0) [.t 20],oq 22 (.load none) [.t 21],oq 23 (.call F_ref06_IsName) [.t 22],oq 24 (.un .not) [.t 23]] [15,18,19,20,21,22,23] []) (.cond (.t 24) (.seq (rgN [oq 2 .mov [.c (iv 5)]] [0,3,24] []) .ret) .skip)) (.seq (.seq (rgN [oq 26 .mov [.t 0],oq 27 .mov [.t 0],oq 28 .mov [.t 3],oq 29 (.iaddrS 4) [.t 27,.t 28],oq 30 (.faddr 0) [.t 29],oq 31 (.load none) [.t 30],oq 32 (.call F_ref09_Find) [.t 26,.t 31],oq 25 .mov [.t 32],oq 33 (.extract 0) [.t 25],oq 34 (.extract 1) [.t 25],oq 4 .mov [.t 33],oq 5 .mov [.t 34]] [24,26,27,28,29,30,31,32,25,33,34,5] []) (.seq (rgN [oq 35 .mov [.t 4],oq 36 .mov [.t 3],oq 37 (.bin .neq T_int (.tmp 35) (.tmp 36)) [.t 35,.t 36]] [4,35,36] []) (.cond (.t 37) (.seq (rgN [oq 2 .mov [.c (iv 7)]] [0,3,37] []) .ret) .skip))) (.seq (rgN [oq 38 .mov [.t 0],oq 39 .mov [.t 3],oq 40 (.iaddrS 4) [.t 38,.t 39],oq 41 (.faddr 1) [.t 40],oq 42 (.load none) [.t 41],oq 43 (.bin .lss T_int (.tmp 42) (kc 0)) [.t 42,.c (iv 0)],oq 44 .mov [.t 43],⟨some 45,.mov,[.t 0],some (44,false)⟩,⟨some 46,.mov,[.t 3],some (44,false)⟩,⟨some 47,.iaddrS 4,[.t 45,.t 46],some (44,false)⟩,⟨some 48,.faddr 1,[.t 47],some (44,false)⟩,⟨some 49,.load none,[.t 48],some (44,false)⟩,⟨some 50,.bin .gtr T_int (.tmp 49) (kc 4),[.t 49,.c (iv 4)],some (44,false)⟩,oq 51 .pick [.t 44,.c (bv true),.t 50],oq 52 .mov [.t 51],⟨some 53,.mov,[.t 0],some (52,false)⟩,⟨some 54,.mov,[.t 3],some (52,false)⟩,⟨some 55,.iaddrS 4,[.t 53,.t 54],some (52,false)⟩,⟨some 56,.faddr 2,[.t 55],some (52,false)⟩,⟨some 57,.load none,[.t 56],some (52,false)⟩,⟨some 58,.bin .lss T_int64 (.tmp 57) (kc 0),[.t 57,.c (iv 0)],some (52,false)⟩,oq 59 .pick [.t 52,.c (bv true),.t 58],oq 60 .mov [.t 59],⟨some 61,.mov,[.t 0],some (60,false)⟩,⟨some 62,.mov,[.t 3],some (60,false)⟩,⟨some 63,.iaddrS 4,[.t 61,.t 62],some (60,false)⟩,⟨some 64,.faddr 2,[.t 63],some (60,false)⟩,⟨some 65,.load none,[.t 64],some (60,false)⟩,⟨some 66,.bin .gtr T_int64 (.tmp 65) (kc 1000000),[.t 65,.c (iv 1000000)],some (60,false)⟩,oq 67 .pick [.t 60,.c (bv true),.t 66],oq 68 .mov [.t 67],⟨some 69,.mov,[.t 0],some (68,false)⟩,⟨some 70,.mov,[.t 3],some (68,false)⟩,⟨some 71,.iaddrS 4,[.t 69,.t 70],some (68,false)⟩,⟨some 72,.faddr 3,[.t 71],some (68,false)⟩,⟨some 73,.load none,[.t 72],some (68,false)⟩,⟨some 74,.bin .lss T_int (.tmp 73) (kc 0),[.t 73,.c (iv 0)],some (68,false)⟩,oq 75 .pick [.t 68,.c (bv true),.t 74],oq 76 .mov [.t 75],⟨some 77,.mov,[.t 0],some (76,false)⟩,⟨some 78,.mov,[.t 3],some (76,false)⟩,⟨some 79,.iaddrS 4,[.t 77,.t 78],some (76,false)⟩,⟨some 80,.faddr 3,[.t 79],some (76,false)⟩,⟨some 81,.load none,[.t 80],some (76,false)⟩,⟨some 82,.bin .gtr T_int (.tmp 81) (kc 24000),[.t 81,.c (iv 24000)],some (76,false)⟩,oq 83 .pick [.t 76,.c (bv true),.t 82]] [37,38,39,40,41,42,43,44,45,46,47,48,49,50,51,52,53,54,55,56,57,58,59,60,61,62,63,64,65,66,67,68,69,70,71,72,73,74,75,76,77,78,79,80,81,82] []) (.cond (.t 83) (.seq (rgN [oq 2 .mov [.c (iv 4)]] [0,3,83] []) .ret) .skip))))) (rgN [oq 16 .mov [.t 3],oq 17 (.bin .add T_int (.tmp 16) (kc 1)) [.t 16,.c (iv 1)],oq 3 .mov [.t 17]] [83,16,17] [])))
def c_ref09_Check_k1:ACode:=(.seq (rgN [oq 2 .mov [.c (iv 0)]] [0,3,15] []) .ret)
def c_ref09_Check:ACode:=(.seq (rgN [oq 2 .mov [.c (iv 0)]] [2] []) (.seq (.seq (rgN [oq 6 .mov [.t 0],oq 7 (.len false) [.t 6],oq 8 (.bin .eql T_int (.tmp 7) (kc 0)) [.t 7,.c (iv 0)]] [6,7] []) (.cond (.t 8) (.seq (rgN [oq 2 .mov [.c (iv 1)]] [0,8] []) .ret) .skip)) (.seq (.seq (rgN [oq 9 .mov [.t 0],oq 10 (.len false) [.t 9],oq 11 (.bin .gtr T_int (.tmp 10) (kc 8)) [.t 10,.c (iv 8)]] [8,9,10] []) (.cond (.t 11) (.seq (rgN [oq 2 .mov [.c (iv 3)]] [0,11] []) .ret) .skip)) (.seq (.seq (rgN [oq 3 .mov [.c (iv 0)]] [11] []) (.block 0 (.loop c_ref09_Check_l0))) c_ref09_Check_k1))))
def r_ref09_Check:List ResA:=[.t 2]
theorem t_ref09_Check:transl Try.prog F_ref09_Check=some (bare c_ref09_Check,r_ref09_Check,84):=by kernel_rfl
def c_f_made:ACode:=(.seq (rgN [⟨some 6,.alloc [bv false,.list 0 .full [],.list 0 .full []],[],none⟩] [] []) (.seq (rgN [oq 10 .mov [.t 0],oq 11 .mov [.t 1],oq 12 .mov [.t 2],oq 13 (.call F_f_Make) [.t 10,.t 11,.t 12],oq 9 .mov [.t 13],oq 14 (.extract 0) [.t 9],oq 15 (.extract 1) [.t 9],⟨some 7,.alloc [bv false,.list 0 .full [],.list 0 .full []],[],none⟩,ox (.store 3) [.t 7,.t 14],oq 8 .mov [.t 15]] [0,1,2,10,11,12,13,9,14,15,8] []) (.seq (rgN [oq 16 (.load (some 3)) [.t 7],ox (.store 3) [.t 6,.t 16]] [7,16] [7]) .ret)))
def r_f_made:List ResA:=[.cell 6 (some 3)]
theorem t_f_made:transl Try.prog F_f_made=some (bare c_f_made,r_f_made,17):=by kernel_rfl
def c_f_size:ACode:=(.seq (rgN [oq 2 .mov [.c (.list 0 .full [])]] [2] []) (.seq (.seq (rgN [oq 3 .mov [.t 0],oq 4 (.bin .lss T_int64 (.tmp 3) (kc 0)) [.t 3,.c (iv 0)]] [3] []) (.cond (.t 4) (.seq (rgN [oq 5 .mov [.t 0],oq 6 (.bin .add T_int64 (.tmp 5) (kc 1)) [.t 5,.c (iv 1)],oq 7 (.un .neg) [.t 6],oq 8 (.conv T_int64 T_uint64) [.t 7],oq 9 (.bin .add T_uint64 (.tmp 8) (.const (.int .u64 1))) [.t 8,.c (.val (.int .u64 1))],oq 10 (.call F_n_FromUint) [.t 9],oq 2 .mov [.t 10]] [0,4,5,6,7,8,9,10] []) .ret) .skip)) (.seq (rgN [oq 11 .mov [.t 0],oq 12 (.conv T_int64 T_uint64) [.t 11],oq 13 (.call F_n_FromUint) [.t 12],oq 2 .mov [.t 13]] [0,4,11,12,13] []) .ret)))
def r_f_size:List ResA:=[.t 2]
theorem t_f_size:transl Try.prog F_f_size=some (bare c_f_size,r_f_size,14):=by kernel_rfl
def c_n_FromUint:ACode:=(.seq (rgN [oq 2 .mov [.c (.list 0 .full [])]] [2] []) (.seq (rgN [oq 3 .mov [.t 0],oq 4 (.conv T_uint64 T_uint32) [.t 3],oq 5 .mov [.t 0],oq 6 (.bin .shr T_uint64 (.tmp 5) (.const (.int .u64 32))) [.t 5,.c (.val (.int .u64 32))],oq 7 (.conv T_uint64 T_uint32) [.t 6],oq 8 (.mkslice 1 2 [.val (.int .u32 0)] [0,1]) [.t 4,.t 7],oq 9 (.call F_n_trim) [.t 8],oq 2 .mov [.t 9]] [0,3,4,5,6,7,8,9] []) .ret))
def r_n_FromUint:List ResA:=[.t 2]
theorem t_n_FromUint:transl Try.prog F_n_FromUint=some (bare c_n_FromUint,r_n_FromUint,10):=by kernel_rfl
def c_cmp_Compareaint_:ACode:=(.seq (rgN [oq 4 .mov [.c (iv 0)]] [4] []) (.seq (rgN [oq 7 .mov [.t 0],oq 8 (.call F_cmp_isNaNaint_) [.t 7],oq 5 .mov [.t 8]] [7,8] []) (.seq (rgN [oq 9 .mov [.t 1],oq 10 (.call F_cmp_isNaNaint_) [.t 9],oq 6 .mov [.t 10]] [9,10] []) (.seq (.seq (rgN [oq 11 .mov [.t 5]] [5] []) (.cond (.t 11) (.seq (.seq (rgN [oq 12 .mov [.t 6]] [0,1,6,11] []) (.cond (.t 12) (.seq (rgN [oq 4 .mov [.c (iv 0)]] [12] []) .ret) .skip)) (.seq (rgN [oq 4 .mov [.c (iv (-1))]] [12] []) .ret)) .skip)) (.seq (.seq (rgN [oq 13 .mov [.t 6]] [6,11] []) (.cond (.t 13) (.seq (rgN [oq 4 .mov [.c (iv 1)]] [0,1,13] []) .ret) .skip)) (.seq (.seq (rgN [oq 14 .mov [.t 0],oq 15 .mov [.t 1],oq 16 (.bin .lss T_int (.tmp 14) (.tmp 15)) [.t 14,.t 15]] [13,14,15] []) (.cond (.t 16) (.seq (rgN [oq 4 .mov [.c (iv (-1))]] [0,1,16] []) .ret) .skip)) (.seq (.seq (rgN [oq 17 .mov [.t 0],oq 18 .mov [.t 1],oq 19 (.bin .gtr T_int (.tmp 17) (.tmp 18)) [.t 17,.t 18]] [0,1,16,17,18] []) (.cond (.t 19) (.seq (rgN [oq 4 .mov [.c (iv 1)]] [19] []) .ret) .skip)) (.seq (rgN [oq 4 .mov [.c (iv 0)]] [19] []) .ret))))))))
def r_cmp_Compareaint_:List ResA:=[.t 4]
theorem t_cmp_Compareaint_:transl Try.prog F_cmp_Compareaint_=some (bare c_cmp_Compareaint_,r_cmp_Compareaint_,20):=by kernel_rfl
def c_bundle_Within:ACode:=(.seq (rgN [oq 2 .box [.t 0],oq 3 .box [.t 1],oq 4 .mov [.c (bv false)]] [0,1,4] []) (.seq (rgD [oq 5 (.load (some 6)) [.t 2],oq 6 (.load (some 6)) [.t 3],oq 7 (.call F_bundle_Meet) [.t 5,.t 6],oq 8 (.load (some 6)) [.t 2],oq 9 (.bin .eql T_api_Bundle (.tmp 7) (.tmp 8)) [.t 7,.t 8],oq 4 .mov [.t 9]] [2,3,5,6,7,8,9] [2,3]) .ret))
def r_bundle_Within:List ResA:=[.t 4]
theorem t_bundle_Within:transl Try.prog F_bundle_Within=some (bare c_bundle_Within,r_bundle_Within,10):=by kernel_rfl
def c_catalog_Units:ACode:=(.seq (rgN [oq 4 .box [.t 1],oq 5 .box [.t 2],oq 6 .mov [.c (iv 0)]] [1,2,6] []) (.seq (rgN [oq 8 .mov [.t 0],oq 9 (.load (some 6)) [.t 5],⟨some 10,.build [.list 0 .full [],iv 0,iv 0,iv 0,iv 0,iv 0,iv 0] [(0,1),(1,6)],[.t 8,.t 9],none⟩,oq 11 (.mkb F__catalog_units__sum) [.t 10],oq 7 .mov [.t 11]] [0,5,8,9,10,11] [5]) (.seq (rgN [oq 12 .mov [.t 7],oq 13 (.mkfn F_catalog_Units_1) [.t 4],oq 14 .callv [.t 12,.t 13],oq 6 .mov [.t 14]] [4,7,12,13,14] [4]) .ret)))
def r_catalog_Units:List ResA:=[.t 6]
theorem t_catalog_Units:transl Try.prog F_catalog_Units=some (bare c_catalog_Units,r_catalog_Units,15):=by kernel_rfl
def c_lexer_IsName:ACode:=(.seq (rgN [oq 2 .mov [.c (bv false)]] [2] []) (.seq (rgN [oq 3 .mov [.t 0],⟨some 4,.bin .neq T_string (.tmp 3) (.const (.string ⟨#[]⟩)),[.t 3,.c (.val (.string ⟨#[]⟩))],none⟩,oq 5 .mov [.t 4],⟨some 6,.mov,[.t 0],some (5,true)⟩,⟨some 7,.len true,[.t 6],some (5,true)⟩,⟨some 8,.bin .leq T_int (.tmp 7) (kc 12),[.t 7,.c (iv 12)],some (5,true)⟩,oq 9 .pick [.t 5,.t 8,.c (bv false)],oq 10 .mov [.t 9],⟨some 11,.mov,[.t 0],some (10,true)⟩,⟨some 12,.idxV T_string,[.t 11,.c (iv 0)],some (10,true)⟩,⟨some 13,.conv T_uint8 T_int32,[.t 12],some (10,true)⟩,⟨some 14,.call F_lexer_letter,[.t 13],some (10,true)⟩,oq 15 .pick [.t 10,.t 14,.c (bv false)],oq 16 .mov [.t 15],⟨some 17,.mov,[.t 0],some (16,true)⟩,⟨some 18,.call F_lexer_run,[.t 17,.c (iv 0),.c (.fn (.func 91) [])],some (16,true)⟩,⟨some 19,.mov,[.t 0],some (16,true)⟩,⟨some 20,.bin .eql T_string (.tmp 18) (.tmp 19),[.t 18,.t 19],some (16,true)⟩,oq 21 .pick [.t 16,.t 20,.c (bv false)],oq 2 .mov [.t 21]] [0,3,4,5,6,7,8,9,10,11,12,13,14,15,16,17,18,19,20,21] []) .ret))
def r_lexer_IsName:List ResA:=[.t 2]
theorem t_lexer_IsName:transl Try.prog F_lexer_IsName=some (bare c_lexer_IsName,r_lexer_IsName,22):=by kernel_rfl
def c_catalog_Find_l0:ACode:=(.seq (rgN [oq 11 (.bin .lss T_int (.tmp 10) (.tmp 9)) [.t 10,.t 9]] [] []) (.seq (.cond (.t 11) .skip (.exit 0)) (.seq (.block 1 (.seq (rgN [oq 12 .mov [.t 10],oq 13 (.iaddrS 5) [.t 8,.t 10],oq 14 (.load (some 5)) [.t 13],⟨some 7,.alloc [.val (.string ⟨#[]⟩),iv 0,iv 0,iv 0,iv 0],[],none⟩,oq 6 .mov [.t 12],ox (.store 5) [.t 7,.t 14]] [11,12,13,14] []) (.seq (rgN [oq 15 (.faddr 0) [.t 7],oq 16 (.load none) [.t 15],oq 17 .mov [.t 1],oq 18 (.bin .eql T_string (.tmp 16) (.tmp 17)) [.t 16,.t 17]] [7,15,16,17] [7]) (.cond (.t 18) (.seq (rgN [oq 19 .mov [.t 6],oq 4 .mov [.t 19],oq 5 .mov [.c (bv true)]] [1,8,9,10,6,18,19] []) .ret) .skip)))) (rgN [oq 20 (.bin .add T_int (.tmp 10) (kc 1)) [.t 10,.c (iv 1)],oq 10 .mov [.t 20]] [6,18,20] []))))
def c_catalog_Find_k1:ACode:=(.seq (rgN [oq 4 .mov [.c (iv 0)],oq 5 .mov [.c (bv false)]] [1,8,9,10,11] []) .ret)
def c_catalog_Find:ACode:=(.seq (rgN [oq 4 .mov [.c (iv 0)],oq 5 .mov [.c (bv false)]] [4,5] []) (.seq (.seq (rgN [oq 8 .mov [.t 0],oq 9 (.len false) [.t 8],oq 10 .mov [.c (iv 0)]] [0] []) (.block 0 (.loop c_catalog_Find_l0))) c_catalog_Find_k1))
def r_catalog_Find:List ResA:=[.t 4,.t 5]
theorem t_catalog_Find:transl Try.prog F_catalog_Find=some (bare c_catalog_Find,r_catalog_Find,21):=by kernel_rfl
def c_catalog_between:ACode:=(.seq (rgN [oq 6 .mov [.c (bv false)]] [6] []) (.seq (rgN [oq 7 .mov [.t 0],oq 8 .mov [.t 1],oq 9 (.bin .geq T_int64 (.tmp 7) (.tmp 8)) [.t 7,.t 8],oq 10 .mov [.t 9],⟨some 11,.mov,[.t 0],some (10,true)⟩,⟨some 12,.mov,[.t 2],some (10,true)⟩,⟨some 13,.bin .leq T_int64 (.tmp 11) (.tmp 12),[.t 11,.t 12],some (10,true)⟩,oq 14 .pick [.t 10,.t 13,.c (bv false)],oq 6 .mov [.t 14]] [0,1,2,7,8,9,10,11,12,13,14] []) .ret))
def r_catalog_between:List ResA:=[.t 6]
theorem t_catalog_between:transl Try.prog F_catalog_between=some (bare c_catalog_between,r_catalog_between,15):=by kernel_rfl
def c_bundle_Count_l0:ACode:=(.seq (rgN [oq 11 (.bin .lss T_int (.tmp 10) (kc 6)) [.t 10,.c (iv 6)]] [] []) (.seq (.cond (.t 11) .skip (.exit 0)) (.seq (.block 1 (.seq (rgN [oq 12 (.idxA 6 1 none) [.t 9,.t 10],oq 5 .mov [.t 12]] [11,12] []) (rgN [oq 13 .mov [.t 3],oq 14 .mov [.t 5],oq 15 (.bin .add T_int (.tmp 14) (kc 1)) [.t 14,.c (iv 1)],oq 16 (.bin .mul T_int (.tmp 13) (.tmp 15)) [.t 13,.t 15],oq 3 .mov [.t 16]] [5,13,14,15,16] []))) (rgN [oq 17 (.bin .add T_int (.tmp 10) (kc 1)) [.t 10,.c (iv 1)],oq 10 .mov [.t 17]] [17] []))))
def c_bundle_Count_k1:ACode:=(.seq (.seq (rgN [oq 18 .mov [.t 3],oq 19 (.bin .gtr T_int (.tmp 18) (kc 1024)) [.t 18,.c (iv 1024)]] [9,10,11,18] []) (.cond (.t 19) (.seq (rgN [oq 2 .mov [.c (iv 0)]] [3,19] []) .ret) .skip)) (.seq (rgN [oq 20 .mov [.t 3],oq 2 .mov [.t 20]] [3,19,20] []) .ret))
def c_bundle_Count:ACode:=(.seq (rgN [oq 1 .box [.t 0],oq 2 .mov [.c (iv 0)]] [0,2] []) (.seq (.seq (rgN [oq 6 (.load (some 6)) [.t 1],oq 7 (.call F_bundle_Check) [.t 6],oq 8 (.bin .neq T_api_Errno (.tmp 7) (kc 0)) [.t 7,.c (iv 0)]] [6,7] []) (.cond (.t 8) (.seq (rgN [oq 2 .mov [.c (iv 0)]] [1,8] [1]) .ret) .skip)) (.seq (rgN [oq 3 .mov [.c (iv 1)]] [8] []) (.seq (.seq (rgN [oq 9 (.load (some 6)) [.t 1],oq 10 .mov [.c (iv 0)]] [1] [1]) (.block 0 (.loop c_bundle_Count_l0))) c_bundle_Count_k1))))
def r_bundle_Count:List ResA:=[.t 2]
theorem t_bundle_Count:transl Try.prog F_bundle_Count=some (bare c_bundle_Count,r_bundle_Count,21):=by kernel_rfl
def c_roster_Find_l0:ACode:=(.seq (rgN [oq 11 (.bin .lss T_int (.tmp 10) (.tmp 9)) [.t 10,.t 9]] [] []) (.seq (.cond (.t 11) .skip (.exit 0)) (.seq (.block 1 (.seq (rgN [oq 12 .mov [.t 10],oq 13 (.iaddrS 4) [.t 8,.t 10],oq 14 (.load (some 4)) [.t 13],⟨some 7,.alloc [.val (.string ⟨#[]⟩),iv 0,iv 0,iv 0],[],none⟩,oq 6 .mov [.t 12],ox (.store 4) [.t 7,.t 14]] [11,12,13,14] []) (.seq (rgN [oq 15 (.faddr 0) [.t 7],oq 16 (.load none) [.t 15],oq 17 .mov [.t 1],oq 18 (.bin .eql T_string (.tmp 16) (.tmp 17)) [.t 16,.t 17]] [7,15,16,17] [7]) (.cond (.t 18) (.seq (rgN [oq 19 .mov [.t 6],oq 4 .mov [.t 19],oq 5 .mov [.c (bv true)]] [1,8,9,10,6,18,19] []) .ret) .skip)))) (rgN [oq 20 (.bin .add T_int (.tmp 10) (kc 1)) [.t 10,.c (iv 1)],oq 10 .mov [.t 20]] [6,18,20] []))))
def c_roster_Find_k1:ACode:=(.seq (rgN [oq 4 .mov [.c (iv 0)],oq 5 .mov [.c (bv false)]] [1,8,9,10,11] []) .ret)
def c_roster_Find:ACode:=(.seq (rgN [oq 4 .mov [.c (iv 0)],oq 5 .mov [.c (bv false)]] [4,5] []) (.seq (.seq (rgN [oq 8 .mov [.t 0],oq 9 (.len false) [.t 8],oq 10 .mov [.c (iv 0)]] [0] []) (.block 0 (.loop c_roster_Find_l0))) c_roster_Find_k1))
def r_roster_Find:List ResA:=[.t 4,.t 5]
theorem t_roster_Find:transl Try.prog F_roster_Find=some (bare c_roster_Find,r_roster_Find,21):=by kernel_rfl
def c_ref08_IsName_l0:ACode:=(.seq (.seq (rgN [oq 13 .mov [.t 3],oq 14 .mov [.t 0],oq 15 (.len true) [.t 14],oq 16 (.bin .lss T_int (.tmp 13) (.tmp 15)) [.t 13,.t 15]] [13,14,15] []) (.cond (.t 16) .skip (.exit 0))) (.seq (.block 1 (.seq (rgN [oq 19 .mov [.t 0],oq 20 .mov [.t 3],oq 21 (.idxV T_string) [.t 19,.t 20],oq 22 (.bin .geq T_uint8 (.tmp 21) (.const (.int .u8 97))) [.t 21,.c (.val (.int .u8 97))],oq 23 .mov [.t 22],⟨some 24,.mov,[.t 0],some (23,true)⟩,⟨some 25,.mov,[.t 3],some (23,true)⟩,⟨some 26,.idxV T_string,[.t 24,.t 25],some (23,true)⟩,⟨some 27,.bin .leq T_uint8 (.tmp 26) (.const (.int .u8 122)),[.t 26,.c (.val (.int .u8 122))],some (23,true)⟩,oq 28 .pick [.t 23,.t 27,.c (bv false)],oq 4 .mov [.t 28]] [16,19,20,21,22,23,24,25,26,27,28] []) (.seq (rgN [oq 29 .mov [.t 4],oq 30 (.un .not) [.t 29],oq 31 .mov [.t 30],⟨some 32,.mov,[.t 3],some (31,true)⟩,⟨some 33,.bin .eql T_int (.tmp 32) (kc 0),[.t 32,.c (iv 0)],some (31,true)⟩,⟨some 34,.mov,[.t 33],some (31,true)⟩,⟨some 35,.mov,[.t 0],some (34,false)⟩,⟨some 36,.mov,[.t 3],some (34,false)⟩,⟨some 37,.idxV T_string,[.t 35,.t 36],some (34,false)⟩,⟨some 38,.bin .neq T_uint8 (.tmp 37) (.const (.int .u8 95)),[.t 37,.c (.val (.int .u8 95))],some (34,false)⟩,⟨some 39,.mov,[.t 38],some (34,false)⟩,⟨some 40,.mov,[.t 0],some (39,true)⟩,⟨some 41,.mov,[.t 3],some (39,true)⟩,⟨some 42,.idxV T_string,[.t 40,.t 41],some (39,true)⟩,⟨some 43,.bin .lss T_uint8 (.tmp 42) (.const (.int .u8 48)),[.t 42,.c (.val (.int .u8 48))],some (39,true)⟩,⟨some 44,.mov,[.t 43],some (39,true)⟩,⟨some 45,.mov,[.t 0],some (44,false)⟩,⟨some 46,.mov,[.t 3],some (44,false)⟩,⟨some 47,.idxV T_string,[.t 45,.t 46],some (44,false)⟩,⟨some 48,.bin .gtr T_uint8 (.tmp 47) (.const (.int .u8 57)),[.t 47,.c (.val (.int .u8 57))],some (44,false)⟩,⟨some 49,.pick,[.t 44,.c (bv true),.t 48],some (39,true)⟩,⟨some 50,.pick,[.t 39,.t 49,.c (bv false)],some (34,false)⟩,⟨some 51,.pick,[.t 34,.c (bv true),.t 50],some (31,true)⟩,oq 52 .pick [.t 31,.t 51,.c (bv false)]] [4,29,30,31,32,33,34,35,36,37,38,39,40,41,42,43,44,45,46,47,48,49,50,51] []) (.cond (.t 52) (.seq (rgN [oq 2 .mov [.c (bv false)]] [0,3,52] []) .ret) .skip)))) (rgN [oq 17 .mov [.t 3],oq 18 (.bin .add T_int (.tmp 17) (kc 1)) [.t 17,.c (iv 1)],oq 3 .mov [.t 18]] [52,17,18] [])))
def c_ref08_IsName_k1:ACode:=(.seq (rgN [oq 2 .mov [.c (bv true)]] [0,3,16] []) .ret)
def c_ref08_IsName:ACode:=(.seq (rgN [oq 2 .mov [.c (bv false)]] [2] []) (.seq (.seq (rgN [oq 5 .mov [.t 0],oq 6 (.len true) [.t 5],oq 7 (.bin .lss T_int (.tmp 6) (kc 1)) [.t 6,.c (iv 1)],oq 8 .mov [.t 7],⟨some 9,.mov,[.t 0],some (8,false)⟩,⟨some 10,.len true,[.t 9],some (8,false)⟩,⟨some 11,.bin .gtr T_int (.tmp 10) (kc 12),[.t 10,.c (iv 12)],some (8,false)⟩,oq 12 .pick [.t 8,.c (bv true),.t 11]] [5,6,7,8,9,10,11] []) (.cond (.t 12) (.seq (rgN [oq 2 .mov [.c (bv false)]] [0,12] []) .ret) .skip)) (.seq (.seq (rgN [oq 3 .mov [.c (iv 0)]] [12] []) (.block 0 (.loop c_ref08_IsName_l0))) c_ref08_IsName_k1)))
def r_ref08_IsName:List ResA:=[.t 2]
theorem t_ref08_IsName:transl Try.prog F_ref08_IsName=some (bare c_ref08_IsName,r_ref08_IsName,53):=by kernel_rfl
def c_ref06_IsName:ACode:=(.seq (rgN [oq 2 .mov [.c (bv false)]] [2] []) (.seq (.seq (rgN [oq 5 .mov [.t 0],⟨some 6,.bin .eql T_string (.tmp 5) (.const (.string ⟨#[]⟩)),[.t 5,.c (.val (.string ⟨#[]⟩))],none⟩,oq 7 .mov [.t 6],⟨some 8,.mov,[.t 0],some (7,false)⟩,⟨some 9,.len true,[.t 8],some (7,false)⟩,⟨some 10,.bin .gtr T_int (.tmp 9) (kc 12),[.t 9,.c (iv 12)],some (7,false)⟩,oq 11 .pick [.t 7,.c (bv true),.t 10],oq 12 .mov [.t 11],⟨some 13,.mov,[.t 0],some (12,false)⟩,⟨some 14,.idxV T_string,[.t 13,.c (iv 0)],some (12,false)⟩,⟨some 15,.call F_ref06_letter,[.t 14],some (12,false)⟩,⟨some 16,.un .not,[.t 15],some (12,false)⟩,oq 17 .pick [.t 12,.c (bv true),.t 16]] [5,6,7,8,9,10,11,12,13,14,15,16] []) (.cond (.t 17) (.seq (rgN [oq 2 .mov [.c (bv false)]] [0,17] []) .ret) .skip)) (.seq (rgN [oq 19 .mov [.t 0],oq 20 (.call F_ref06_One) [.t 19],oq 18 .mov [.t 20],oq 21 (.extract 0) [.t 18],oq 22 (.extract 1) [.t 18],⟨some 3,.alloc [iv 0,.val (.string ⟨#[]⟩),iv 0,iv 0],[],none⟩,ox (.store 4) [.t 3,.t 21],oq 4 .mov [.t 22]] [17,19,20,18,21,22] []) (.seq (rgN [oq 23 .mov [.t 4],oq 24 (.bin .eql T_api_Errno (.tmp 23) (kc 0)) [.t 23,.c (iv 0)],oq 25 .mov [.t 24],⟨some 26,.faddr 1,[.t 3],some (25,true)⟩,⟨some 27,.load none,[.t 26],some (25,true)⟩,⟨some 28,.mov,[.t 0],some (25,true)⟩,⟨some 29,.bin .eql T_string (.tmp 27) (.tmp 28),[.t 27,.t 28],some (25,true)⟩,oq 30 .pick [.t 25,.t 29,.c (bv false)],oq 2 .mov [.t 30]] [0,3,4,23,24,25,26,27,28,29,30] [3]) .ret))))
def r_ref06_IsName:List ResA:=[.t 2]
theorem t_ref06_IsName:transl Try.prog F_ref06_IsName=some (bare c_ref06_IsName,r_ref06_IsName,31):=by kernel_rfl
def c_ref09_Find_l0:ACode:=(.seq (.seq (rgN [oq 7 .mov [.t 6],oq 8 .mov [.t 0],oq 9 (.len false) [.t 8],oq 10 (.bin .lss T_int (.tmp 7) (.tmp 9)) [.t 7,.t 9]] [7,8,9] []) (.cond (.t 10) .skip (.exit 0))) (.seq (.block 1 (.seq (rgN [oq 13 .mov [.t 0],oq 14 .mov [.t 6],oq 15 (.iaddrS 4) [.t 13,.t 14],oq 16 (.faddr 0) [.t 15],oq 17 (.load none) [.t 16],oq 18 .mov [.t 1],oq 19 (.bin .eql T_string (.tmp 17) (.tmp 18)) [.t 17,.t 18]] [10,13,14,15,16,17,18] []) (.cond (.t 19) (.seq (rgN [oq 20 .mov [.t 6],oq 4 .mov [.t 20],oq 5 .mov [.c (bv true)]] [0,1,6,19,20] []) .ret) .skip))) (rgN [oq 11 .mov [.t 6],oq 12 (.bin .add T_int (.tmp 11) (kc 1)) [.t 11,.c (iv 1)],oq 6 .mov [.t 12]] [19,11,12] [])))
def c_ref09_Find_k1:ACode:=(.seq (rgN [oq 4 .mov [.c (iv 0)],oq 5 .mov [.c (bv false)]] [0,1,6,10] []) .ret)
def c_ref09_Find:ACode:=(.seq (rgN [oq 4 .mov [.c (iv 0)],oq 5 .mov [.c (bv false)]] [4,5] []) (.seq (.seq (rgN [oq 6 .mov [.c (iv 0)]] [] []) (.block 0 (.loop c_ref09_Find_l0))) c_ref09_Find_k1))
def r_ref09_Find:List ResA:=[.t 4,.t 5]
theorem t_ref09_Find:transl Try.prog F_ref09_Find=some (bare c_ref09_Find,r_ref09_Find,21):=by kernel_rfl
def c_f_Make:ACode:=(.seq (rgN [⟨some 6,.alloc [bv false,.list 0 .full [],.list 0 .full []],[],none⟩,oq 7 .mov [.c (iv 0)]] [7] []) (.seq (.seq (rgN [oq 15 .mov [.t 2],oq 16 (.len false) [.t 15],oq 17 (.bin .eql T_int (.tmp 16) (kc 0)) [.t 16,.c (iv 0)]] [15,16] []) (.cond (.t 17) (.seq (rgN [⟨some 18,.build [bv false,.list 0 .full [],.list 0 .full []] [],[],none⟩,ox (.store 3) [.t 6,.t 18],oq 7 .mov [.c (iv 8)]] [0,1,2,17,18] []) .ret) .skip)) (.seq (rgN [oq 19 .mov [.t 1],oq 20 .mov [.t 2],oq 21 (.call F_n_GCD) [.t 19,.t 20],oq 8 .mov [.t 21]] [17,19,20,21] []) (.seq (rgN [oq 23 .mov [.t 1],oq 24 .mov [.t 8],oq 25 (.call F_n_DivMod) [.t 23,.t 24],oq 22 .mov [.t 25],oq 26 (.extract 0) [.t 22],oq 27 (.extract 1) [.t 22],oq 28 (.extract 2) [.t 22],oq 9 .mov [.t 26],oq 10 .mov [.t 27],oq 11 .mov [.t 28]] [1,23,24,25,22,26,27,28,10] []) (.seq (rgN [oq 30 .mov [.t 2],oq 31 .mov [.t 8],oq 32 (.call F_n_DivMod) [.t 30,.t 31],oq 29 .mov [.t 32],oq 33 (.extract 0) [.t 29],oq 34 (.extract 1) [.t 29],oq 35 (.extract 2) [.t 29],oq 12 .mov [.t 33],oq 13 .mov [.t 34],oq 14 .mov [.t 35]] [2,8,30,31,32,29,33,34,35,13] []) (.seq (.seq (rgN [oq 36 .mov [.t 11],oq 37 (.bin .neq T_api_Errno (.tmp 36) (kc 0)) [.t 36,.c (iv 0)],oq 38 .mov [.t 37],⟨some 39,.mov,[.t 14],some (38,false)⟩,⟨some 40,.bin .neq T_api_Errno (.tmp 39) (kc 0),[.t 39,.c (iv 0)],some (38,false)⟩,oq 41 .pick [.t 38,.c (bv true),.t 40]] [11,14,36,37,38,39,40] []) (.cond (.t 41) (.seq (rgN [⟨some 42,.build [bv false,.list 0 .full [],.list 0 .full []] [],[],none⟩,ox (.store 3) [.t 6,.t 42],oq 7 .mov [.c (iv 8)]] [0,9,12,41,42] []) .ret) .skip)) (.seq (rgN [oq 43 .mov [.t 0],oq 44 .mov [.t 43],⟨some 45,.mov,[.t 9],some (44,true)⟩,⟨some 46,.len false,[.t 45],some (44,true)⟩,⟨some 47,.bin .gtr T_int (.tmp 46) (kc 0),[.t 46,.c (iv 0)],some (44,true)⟩,oq 48 .pick [.t 44,.t 47,.c (bv false)],oq 49 .mov [.t 9],oq 50 .mov [.t 12],⟨some 51,.build [bv false,.list 0 .full [],.list 0 .full []] [(0,1),(1,1),(2,1)],[.t 48,.t 49,.t 50],none⟩,ox (.store 3) [.t 6,.t 51],oq 7 .mov [.c (iv 0)]] [0,9,12,41,43,44,45,46,47,48,49,50,51] []) .ret)))))))
def r_f_Make:List ResA:=[.cell 6 (some 3),.t 7]
theorem t_f_Make:transl Try.prog F_f_Make=some (bare c_f_Make,r_f_Make,52):=by kernel_rfl
def c_n_trim_l0:ACode:=(.seq (.seq (rgN [oq 6 .mov [.t 3],oq 7 (.bin .gtr T_int (.tmp 6) (kc 0)) [.t 6,.c (iv 0)],oq 8 .mov [.t 7],⟨some 9,.mov,[.t 0],some (8,true)⟩,⟨some 10,.mov,[.t 3],some (8,true)⟩,⟨some 11,.bin .sub T_int (.tmp 10) (kc 1),[.t 10,.c (iv 1)],some (8,true)⟩,⟨some 12,.iaddrS 1,[.t 9,.t 11],some (8,true)⟩,⟨some 13,.load none,[.t 12],some (8,true)⟩,⟨some 14,.bin .eql T_uint32 (.tmp 13) (.const (.int .u32 0)),[.t 13,.c (.val (.int .u32 0))],some (8,true)⟩,oq 15 .pick [.t 8,.t 14,.c (bv false)]] [6,7,8,9,10,11,12,13,14] []) (.cond (.t 15) .skip (.exit 0))) (.block 1 (rgN [oq 16 .mov [.t 3],oq 17 (.bin .sub T_int (.tmp 16) (kc 1)) [.t 16,.c (iv 1)],oq 3 .mov [.t 17]] [15,16,17] [])))
def c_n_trim_k1:ACode:=(.seq (rgN [oq 18 .mov [.t 0],oq 19 .mov [.t 3],oq 20 .mov [.t 3],oq 21 (.slice 1 false true true) [.t 18,.t 19,.t 20],oq 2 .mov [.t 21]] [0,3,15,18,19,20,21] []) .ret)
def c_n_trim:ACode:=(.seq (rgN [oq 2 .mov [.c (.list 0 .full [])]] [2] []) (.seq (rgN [oq 4 .mov [.t 0],oq 5 (.len false) [.t 4],oq 3 .mov [.t 5]] [4,5] []) (.seq (.block 0 (.loop c_n_trim_l0)) c_n_trim_k1)))
def r_n_trim:List ResA:=[.t 2]
theorem t_n_trim:transl Try.prog F_n_trim=some (bare c_n_trim,r_n_trim,22):=by kernel_rfl
def c_cmp_isNaNaint_:ACode:=(.seq (rgN [oq 2 .mov [.c (bv false)]] [2] []) (.seq (rgN [oq 3 .mov [.t 0],oq 4 .mov [.t 0],oq 5 (.bin .neq T_int (.tmp 3) (.tmp 4)) [.t 3,.t 4],oq 2 .mov [.t 5]] [0,3,4,5] []) .ret))
def r_cmp_isNaNaint_:List ResA:=[.t 2]
theorem t_cmp_isNaNaint_:transl Try.prog F_cmp_isNaNaint_=some (bare c_cmp_isNaNaint_,r_cmp_isNaNaint_,6):=by kernel_rfl
def c_bundle_Meet_l0:ACode:=(.seq (rgN [oq 7 (.bin .lss T_int (.tmp 6) (kc 6)) [.t 6,.c (iv 6)]] [] []) (.seq (.cond (.t 7) .skip (.exit 0)) (.seq (.block 1 (.seq (rgN [oq 8 .mov [.t 6],oq 5 .mov [.t 8]] [7,8] []) (rgD [oq 9 .mov [.t 5],oq 10 .mov [.t 5],oq 11 (.iaddrA 6 1) [.t 2,.t 10],oq 12 (.load none) [.t 11],oq 13 .mov [.t 5],oq 14 (.iaddrA 6 1) [.t 3,.t 13],oq 15 (.load none) [.t 14],⟨some 16,.mm .min #[T_int,T_int] T_int,[.t 12,.t 15],none⟩,oq 17 (.iaddrA 6 1) [.t 2,.t 9],ox (.store 1) [.t 17,.t 16]] [5,9,10,11,12,13,14,15,16,17] []))) (rgN [oq 18 (.bin .add T_int (.tmp 6) (kc 1)) [.t 6,.c (iv 1)],oq 6 .mov [.t 18]] [18] []))))
def c_bundle_Meet_k1:ACode:=(.seq (rgN [oq 19 (.load (some 6)) [.t 2],ox (.store 6) [.t 4,.t 19]] [2,3,6,7,19] [2,3]) .ret)
def c_bundle_Meet:ACode:=(.seq (rgN [oq 2 .box [.t 0],oq 3 .box [.t 1],oq 4 (.alloc [iv 0,iv 0,iv 0,iv 0,iv 0,iv 0]) []] [0,1] []) (.seq (.seq (rgN [oq 6 .mov [.c (iv 0)]] [] []) (.block 0 (.loop c_bundle_Meet_l0))) c_bundle_Meet_k1))
def r_bundle_Meet:List ResA:=[.cell 4 (some 6)]
theorem t_bundle_Meet:transl Try.prog F_bundle_Meet=some (bare c_bundle_Meet,r_bundle_Meet,20):=by kernel_rfl
def c_catalog_Units_1:ACode:=(.seq (rgN [oq 2 .box [.t 0],oq 3 .mov [.c (iv 0)]] [0,3] []) (.seq (.seq (rgN [oq 4 (.faddr 4) [.t 2],oq 5 (.load none) [.t 4],oq 6 (.load none) [.t 1],oq 7 (.bin .eql T_int (.tmp 5) (.tmp 6)) [.t 5,.t 6]] [2,4,5,6] [2]) (.cond (.t 7) (.seq (rgN [oq 3 .mov [.c (iv 1)]] [7] []) .ret) .skip)) (.seq (rgN [oq 3 .mov [.c (iv 0)]] [7] []) .ret)))
def r_catalog_Units_1:List ResA:=[.t 3]
theorem t_catalog_Units_1:transl Try.prog F_catalog_Units_1=some (bare c_catalog_Units_1,r_catalog_Units_1,8):=by kernel_rfl
def c_lexer_letter:ACode:=(.seq (rgN [oq 2 .mov [.c (bv false)]] [2] []) (.seq (rgN [oq 3 .mov [.t 0],oq 4 (.bin .geq T_int32 (.tmp 3) (.const (.int .i32 97))) [.t 3,.c (.val (.int .i32 97))],oq 5 .mov [.t 4],⟨some 6,.mov,[.t 0],some (5,true)⟩,⟨some 7,.bin .leq T_int32 (.tmp 6) (.const (.int .i32 122)),[.t 6,.c (.val (.int .i32 122))],some (5,true)⟩,oq 8 .pick [.t 5,.t 7,.c (bv false)],oq 2 .mov [.t 8]] [0,3,4,5,6,7,8] []) .ret))
def r_lexer_letter:List ResA:=[.t 2]
theorem t_lexer_letter:transl Try.prog F_lexer_letter=some (bare c_lexer_letter,r_lexer_letter,9):=by kernel_rfl
def c_lexer_run_l0:ACode:=(.seq (.seq (rgN [oq 9 .mov [.t 7],oq 10 .mov [.t 0],oq 11 (.len true) [.t 10],oq 12 (.bin .lss T_int (.tmp 9) (.tmp 11)) [.t 9,.t 11],oq 13 .mov [.t 12],⟨some 14,.mov,[.t 2],some (13,true)⟩,⟨some 15,.mov,[.t 0],some (13,true)⟩,⟨some 16,.mov,[.t 7],some (13,true)⟩,⟨some 17,.idxV T_string,[.t 15,.t 16],some (13,true)⟩,⟨some 18,.conv T_uint8 T_int32,[.t 17],some (13,true)⟩,⟨some 19,.callv,[.t 14,.t 18],some (13,true)⟩,oq 20 .pick [.t 13,.t 19,.c (bv false)]] [9,10,11,12,13,14,15,16,17,18,19] []) (.cond (.t 20) .skip (.exit 0))) (.block 1 (rgN [oq 21 .mov [.t 7],oq 22 (.bin .add T_int (.tmp 21) (kc 1)) [.t 21,.c (iv 1)],oq 7 .mov [.t 22]] [20,21,22] [])))
def c_lexer_run_k1:ACode:=(.seq (rgN [oq 23 .mov [.t 0],oq 24 .mov [.t 1],oq 25 .mov [.t 7],oq 26 (.sliceV T_string true true false) [.t 23,.t 24,.t 25],oq 6 .mov [.t 26]] [0,1,2,7,20,23,24,25,26] []) .ret)
def c_lexer_run:ACode:=(.seq (rgN [⟨some 6,.mov,[.c (.val (.string ⟨#[]⟩))],none⟩] [6] []) (.seq (rgN [oq 8 .mov [.t 1],oq 7 .mov [.t 8]] [8] []) (.seq (.block 0 (.loop c_lexer_run_l0)) c_lexer_run_k1)))
def r_lexer_run:List ResA:=[.t 6]
theorem t_lexer_run:transl Try.prog F_lexer_run=some (bare c_lexer_run,r_lexer_run,27):=by kernel_rfl
def c_lexer_inner:ACode:=(.seq (rgN [oq 2 .mov [.c (bv false)]] [2] []) (.seq (rgN [oq 3 .mov [.t 0],oq 4 (.call F_lexer_letter) [.t 3],oq 5 .mov [.t 4],⟨some 6,.mov,[.t 0],some (5,false)⟩,⟨some 7,.call F_lexer_digit,[.t 6],some (5,false)⟩,oq 8 .pick [.t 5,.c (bv true),.t 7],oq 9 .mov [.t 8],⟨some 10,.mov,[.t 0],some (9,false)⟩,⟨some 11,.bin .eql T_int32 (.tmp 10) (.const (.int .i32 95)),[.t 10,.c (.val (.int .i32 95))],some (9,false)⟩,oq 12 .pick [.t 9,.c (bv true),.t 11],oq 2 .mov [.t 12]] [0,3,4,5,6,7,8,9,10,11,12] []) .ret))
def r_lexer_inner:List ResA:=[.t 2]
theorem t_lexer_inner:transl Try.prog F_lexer_inner=some (bare c_lexer_inner,r_lexer_inner,13):=by kernel_rfl
def c_ref06_letter:ACode:=(.seq (rgN [oq 2 .mov [.c (bv false)]] [2] []) (.seq (rgN [oq 3 .mov [.t 0],oq 4 (.bin .geq T_uint8 (.tmp 3) (.const (.int .u8 97))) [.t 3,.c (.val (.int .u8 97))],oq 5 .mov [.t 4],⟨some 6,.mov,[.t 0],some (5,true)⟩,⟨some 7,.bin .leq T_uint8 (.tmp 6) (.const (.int .u8 122)),[.t 6,.c (.val (.int .u8 122))],some (5,true)⟩,oq 8 .pick [.t 5,.t 7,.c (bv false)],oq 2 .mov [.t 8]] [0,3,4,5,6,7,8] []) .ret))
def r_ref06_letter:List ResA:=[.t 2]
theorem t_ref06_letter:transl Try.prog F_ref06_letter=some (bare c_ref06_letter,r_ref06_letter,9):=by kernel_rfl
def c_ref06_One_l0:ACode:=(.seq (.seq (rgN [oq 11 .mov [.t 4],oq 12 .mov [.t 0],oq 13 (.len true) [.t 12],oq 14 (.bin .lss T_int (.tmp 11) (.tmp 13)) [.t 11,.t 13],oq 15 .mov [.t 14],⟨some 16,.mov,[.t 0],some (15,true)⟩,⟨some 17,.mov,[.t 4],some (15,true)⟩,⟨some 18,.idxV T_string,[.t 16,.t 17],some (15,true)⟩,⟨some 19,.call F_ref06_letter,[.t 18],some (15,true)⟩,⟨some 20,.mov,[.t 19],some (15,true)⟩,⟨some 21,.mov,[.t 0],some (20,false)⟩,⟨some 22,.mov,[.t 4],some (20,false)⟩,⟨some 23,.idxV T_string,[.t 21,.t 22],some (20,false)⟩,⟨some 24,.call F_ref06_digit,[.t 23],some (20,false)⟩,⟨some 25,.pick,[.t 20,.c (bv true),.t 24],some (15,true)⟩,⟨some 26,.mov,[.t 25],some (15,true)⟩,⟨some 27,.mov,[.t 0],some (26,false)⟩,⟨some 28,.mov,[.t 4],some (26,false)⟩,⟨some 29,.idxV T_string,[.t 27,.t 28],some (26,false)⟩,⟨some 30,.bin .eql T_uint8 (.tmp 29) (.const (.int .u8 95)),[.t 29,.c (.val (.int .u8 95))],some (26,false)⟩,⟨some 31,.pick,[.t 26,.c (bv true),.t 30],some (15,true)⟩,oq 32 .pick [.t 15,.t 31,.c (bv false)]] [7,11,12,13,14,15,16,17,18,19,20,21,22,23,24,25,26,27,28,29,30,31] []) (.cond (.t 32) .skip (.exit 1))) (.block 2 (rgN [oq 33 .mov [.t 4],oq 34 (.bin .add T_int (.tmp 33) (kc 1)) [.t 33,.c (iv 1)],oq 4 .mov [.t 34]] [32,33,34] [])))
def c_ref06_One_k1:ACode:=(.seq (.seq (rgN [oq 35 .mov [.t 4],oq 36 (.bin .gtr T_int (.tmp 35) (kc 12)) [.t 35,.c (iv 12)]] [32,35] []) (.cond (.t 36) (.seq (rgN [⟨some 37,.build [iv 0,.val (.string ⟨#[]⟩),iv 0,iv 0] [],[],none⟩,ox (.store 4) [.t 2,.t 37],oq 3 .mov [.c (iv 3)]] [0,4,36,37] []) .ret) .skip)) (.seq (rgN [oq 38 .mov [.t 0],oq 39 .mov [.t 4],oq 40 (.sliceV T_string false true false) [.t 38,.t 39],⟨some 41,.build [iv 0,.val (.string ⟨#[]⟩),iv 0,iv 0] [(0,1),(1,1)],[.c (iv 1),.t 40],none⟩,ox (.store 4) [.t 2,.t 41],oq 3 .mov [.c (iv 0)]] [0,4,36,38,39,40,41] []) .ret))
def c_ref06_One_l2:ACode:=(.seq (.seq (rgN [oq 46 .mov [.t 4],oq 47 .mov [.t 0],oq 48 (.len true) [.t 47],oq 49 (.bin .lss T_int (.tmp 46) (.tmp 48)) [.t 46,.t 48],oq 50 .mov [.t 49],⟨some 51,.mov,[.t 0],some (50,true)⟩,⟨some 52,.mov,[.t 4],some (50,true)⟩,⟨some 53,.idxV T_string,[.t 51,.t 52],some (50,true)⟩,⟨some 54,.call F_ref06_digit,[.t 53],some (50,true)⟩,oq 55 .pick [.t 50,.t 54,.c (bv false)]] [42,46,47,48,49,50,51,52,53,54] []) (.cond (.t 55) .skip (.exit 3))) (.block 4 (rgN [oq 56 .mov [.t 4],oq 57 (.bin .add T_int (.tmp 56) (kc 1)) [.t 56,.c (iv 1)],oq 4 .mov [.t 57]] [55,56,57] [])))
def c_ref06_One_l3:ACode:=(.seq (.seq (rgN [oq 69 .mov [.t 6],oq 70 .mov [.t 4],oq 71 (.bin .lss T_int (.tmp 69) (.tmp 70)) [.t 69,.t 70]] [69,70] []) (.cond (.t 71) .skip (.exit 5))) (.seq (.block 6 (rgN [oq 74 .mov [.t 5],oq 75 (.bin .mul T_int64 (.tmp 74) (kc 10)) [.t 74,.c (iv 10)],oq 76 .mov [.t 0],oq 77 .mov [.t 6],oq 78 (.idxV T_string) [.t 76,.t 77],oq 79 (.bin .sub T_uint8 (.tmp 78) (.const (.int .u8 48))) [.t 78,.c (.val (.int .u8 48))],oq 80 (.conv T_uint8 T_int64) [.t 79],oq 81 (.bin .add T_int64 (.tmp 75) (.tmp 80)) [.t 75,.t 80],oq 5 .mov [.t 81]] [71,74,75,76,77,78,79,80,81] [])) (rgN [oq 72 .mov [.t 6],oq 73 (.bin .add T_int (.tmp 72) (kc 1)) [.t 72,.c (iv 1)],oq 6 .mov [.t 73]] [72,73] [])))
def c_ref06_One_k4:ACode:=(.seq (rgN [oq 82 .mov [.t 0],oq 83 .mov [.t 4],oq 84 (.sliceV T_string false true false) [.t 82,.t 83],oq 85 .mov [.t 5],⟨some 86,.build [iv 0,.val (.string ⟨#[]⟩),iv 0,iv 0] [(0,1),(1,1),(2,1)],[.c (iv 2),.t 84,.t 85],none⟩,ox (.store 4) [.t 2,.t 86],oq 3 .mov [.c (iv 0)]] [0,4,5,6,71,82,83,84,85,86] []) .ret)
def c_ref06_One_k5:ACode:=(.seq (.seq (rgN [oq 58 .mov [.t 4],oq 59 (.bin .gtr T_int (.tmp 58) (kc 1)) [.t 58,.c (iv 1)],oq 60 .mov [.t 59],⟨some 61,.mov,[.t 0],some (60,true)⟩,⟨some 62,.idxV T_string,[.t 61,.c (iv 0)],some (60,true)⟩,⟨some 63,.bin .eql T_uint8 (.tmp 62) (.const (.int .u8 48)),[.t 62,.c (.val (.int .u8 48))],some (60,true)⟩,oq 64 .pick [.t 60,.t 63,.c (bv false)]] [55,58,59,60,61,62,63] []) (.cond (.t 64) (.seq (rgN [⟨some 65,.build [iv 0,.val (.string ⟨#[]⟩),iv 0,iv 0] [],[],none⟩,ox (.store 4) [.t 2,.t 65],oq 3 .mov [.c (iv 2)]] [0,4,64,65] []) .ret) .skip)) (.seq (.seq (rgN [oq 66 .mov [.t 4],oq 67 (.bin .gtr T_int (.tmp 66) (kc 9)) [.t 66,.c (iv 9)]] [64,66] []) (.cond (.t 67) (.seq (rgN [⟨some 68,.build [iv 0,.val (.string ⟨#[]⟩),iv 0,iv 0] [],[],none⟩,ox (.store 4) [.t 2,.t 68],oq 3 .mov [.c (iv 4)]] [0,4,67,68] []) .ret) .skip)) (.seq (rgN [oq 5 .mov [.c (iv 0)]] [67] []) (.seq (.seq (rgN [oq 6 .mov [.c (iv 0)]] [] []) (.block 5 (.loop c_ref06_One_l3))) c_ref06_One_k4))))
def c_ref06_One_k6:ACode:=(.seq (rgN [⟨some 94,.build [iv 0,.val (.string ⟨#[]⟩),iv 0,iv 0] [],[],none⟩,ox (.store 4) [.t 2,.t 94],oq 3 .mov [.c (iv 2)]] [0,87,94] []) .ret)
def c_ref06_One:ACode:=(.seq (rgN [⟨some 2,.alloc [iv 0,.val (.string ⟨#[]⟩),iv 0,iv 0],[],none⟩,oq 3 .mov [.c (iv 0)]] [3] []) (.seq (rgN [oq 4 .mov [.c (iv 1)]] [] []) (.seq (.block 0 (.seq (rgN [oq 8 .mov [.t 0],oq 9 (.idxV T_string) [.t 8,.c (iv 0)],oq 10 (.call F_ref06_letter) [.t 9],oq 7 .mov [.t 10]] [8,9,10] []) (.cond (.t 7) (.seq (.block 1 (.loop c_ref06_One_l0)) c_ref06_One_k1) (.seq (rgN [oq 43 .mov [.t 0],oq 44 (.idxV T_string) [.t 43,.c (iv 0)],oq 45 (.call F_ref06_digit) [.t 44],oq 42 .mov [.t 45]] [7,43,44,45] []) (.cond (.t 42) (.seq (.block 3 (.loop c_ref06_One_l2)) c_ref06_One_k5) (.seq (rgN [oq 88 .mov [.t 0],oq 89 (.idxV T_string) [.t 88,.c (iv 0)],oq 90 (.call F_ref06_mark) [.t 89],oq 87 .mov [.t 90]] [4,42,88,89,90] []) (.cond (.t 87) (.seq (rgN [oq 91 .mov [.t 0],oq 92 (.sliceV T_string false true false) [.t 91,.c (iv 1)],⟨some 93,.build [iv 0,.val (.string ⟨#[]⟩),iv 0,iv 0] [(0,1),(1,1)],[.c (iv 3),.t 92],none⟩,ox (.store 4) [.t 2,.t 93],oq 3 .mov [.c (iv 0)]] [0,87,91,92,93] []) .ret) .skip))))))) c_ref06_One_k6)))
def r_ref06_One:List ResA:=[.cell 2 (some 4),.t 3]
theorem t_ref06_One:transl Try.prog F_ref06_One=some (bare c_ref06_One,r_ref06_One,95):=by kernel_rfl
def c_n_GCD_l0:ACode:=(.seq (.seq (rgN [oq 12 .mov [.t 1],oq 13 (.len false) [.t 12],oq 14 (.bin .gtr T_int (.tmp 13) (kc 0)) [.t 13,.c (iv 0)]] [12,13] []) (.cond (.t 14) .skip (.exit 0))) (.block 1 (.seq (rgN [oq 16 .mov [.t 0],oq 17 .mov [.t 1],oq 18 (.call F_n_DivMod) [.t 16,.t 17],oq 15 .mov [.t 18],oq 19 (.extract 0) [.t 15],oq 20 (.extract 1) [.t 15],oq 21 (.extract 2) [.t 15],oq 5 .mov [.t 19],oq 6 .mov [.t 20],oq 7 .mov [.t 21]] [14,16,17,18,15,19,20,21,5] []) (.seq (.seq (rgN [oq 22 .mov [.t 7],oq 23 (.bin .neq T_api_Errno (.tmp 22) (kc 0)) [.t 22,.c (iv 0)]] [7,22] []) (.cond (.t 23) (.exit 0) .skip)) (rgN [oq 24 .mov [.t 1],oq 25 .mov [.t 6],oq 0 .mov [.t 24],oq 1 .mov [.t 25]] [6,23,24,25] [])))))
def c_n_GCD_k1:ACode:=(.seq (rgN [oq 26 .mov [.t 0],oq 4 .mov [.t 26]] [0,1,6,23,14,26] []) .ret)
def c_n_GCD:ACode:=(.seq (rgN [oq 4 .mov [.c (.list 0 .full [])]] [4] []) (.seq (rgN [oq 8 .mov [.t 0],oq 9 (.call F_n_Add) [.t 8,.c (.list 0 .full [])],oq 10 .mov [.t 1],oq 11 (.call F_n_Add) [.t 10,.c (.list 0 .full [])],oq 0 .mov [.t 9],oq 1 .mov [.t 11]] [8,9,10,11] []) (.seq (.block 0 (.loop c_n_GCD_l0)) c_n_GCD_k1)))
def r_n_GCD:List ResA:=[.t 4]
theorem t_n_GCD:transl Try.prog F_n_GCD=some (bare c_n_GCD,r_n_GCD,27):=by kernel_rfl
def c_n_DivMod_l0:ACode:=(.seq (.seq (rgN [oq 45 .mov [.t 1],oq 46 .mov [.t 1],oq 47 (.len false) [.t 46],oq 48 (.bin .sub T_int (.tmp 47) (kc 1)) [.t 47,.c (iv 1)],oq 49 (.iaddrS 1) [.t 45,.t 48],oq 50 (.load none) [.t 49],oq 51 .mov [.t 9],oq 52 (.bin .shl T_uint32 (.tmp 50) (.tmp 51)) [.t 50,.t 51],oq 53 (.bin .lss T_uint32 (.tmp 52) (.const (.int .u32 2147483648))) [.t 52,.c (.val (.int .u32 2147483648))]] [45,46,47,48,49,50,51,52] []) (.cond (.t 53) .skip (.exit 0))) (.block 1 (rgN [oq 54 .mov [.t 9],oq 55 (.bin .add T_uint (.tmp 54) (.const (.int .u64 1))) [.t 54,.c (.val (.int .u64 1))],oq 9 .mov [.t 55]] [53,54,55] [])))
def c_n_DivMod_l1:ACode:=(.seq (rgN [oq 76 (.bin .lss T_int (.tmp 75) (.tmp 74)) [.t 75,.t 74]] [] []) (.seq (.cond (.t 76) .skip (.exit 2)) (.seq (.block 3 (.seq (rgN [oq 77 .mov [.t 75],oq 14 .mov [.t 77]] [76,77] []) (.seq (rgN [oq 78 .mov [.t 13],oq 79 .mov [.t 14],oq 80 (.bin .sub T_int (.tmp 78) (.tmp 79)) [.t 78,.t 79],oq 15 .mov [.t 80]] [14,78,79,80] []) (rgN [oq 81 .mov [.t 4],oq 82 .mov [.t 15],oq 83 .mov [.t 10],oq 84 .mov [.t 15],oq 85 .mov [.t 15],oq 86 .mov [.t 12],oq 87 (.bin .add T_int (.tmp 85) (.tmp 86)) [.t 85,.t 86],oq 88 (.bin .add T_int (.tmp 87) (kc 1)) [.t 87,.c (iv 1)],oq 89 .mov [.t 15],oq 90 .mov [.t 12],oq 91 (.bin .add T_int (.tmp 89) (.tmp 90)) [.t 89,.t 90],oq 92 (.bin .add T_int (.tmp 91) (kc 1)) [.t 91,.c (iv 1)],oq 93 (.slice 1 true true true) [.t 83,.t 84,.t 88,.t 92],oq 94 .mov [.t 11],oq 95 (.callI F_n_digit) [.t 93,.t 94],oq 96 (.iaddrS 1) [.t 81,.t 82],ox (.store 1) [.t 96,.t 95]] [15,81,82,83,84,85,86,87,88,89,90,91,92,93,94,95,96] [])))) (rgN [oq 97 (.bin .add T_int (.tmp 75) (kc 1)) [.t 75,.c (iv 1)],oq 75 .mov [.t 97]] [97] []))))
def c_n_DivMod_l2:ACode:=(.seq (rgN [oq 102 (.bin .lss T_int (.tmp 101) (.tmp 100)) [.t 101,.t 100]] [] []) (.seq (.cond (.t 102) .skip (.exit 4)) (.seq (.block 5 (.seq (rgN [oq 103 .mov [.t 101],oq 16 .mov [.t 103]] [102,103] []) (.seq (rgN [oq 104 .mov [.t 5],oq 105 .mov [.t 16],oq 106 .mov [.t 10],oq 107 .mov [.t 16],oq 108 (.iaddrS 1) [.t 106,.t 107],oq 109 (.load none) [.t 108],oq 110 .mov [.t 9],oq 111 (.bin .shr T_uint32 (.tmp 109) (.tmp 110)) [.t 109,.t 110],oq 112 (.iaddrS 1) [.t 104,.t 105],ox (.store 1) [.t 112,.t 111]] [104,105,106,107,108,109,110,111,112] []) (.seq (rgN [oq 113 .mov [.t 9],oq 114 (.bin .gtr T_uint (.tmp 113) (.const (.int .u64 0))) [.t 113,.c (.val (.int .u64 0))]] [113] []) (.cond (.t 114) (rgD [oq 115 .mov [.t 5],oq 116 .mov [.t 16],oq 117 (.iaddrS 1) [.t 115,.t 116],oq 118 (.load none) [.t 117],oq 119 .mov [.t 10],oq 120 .mov [.t 16],oq 121 (.bin .add T_int (.tmp 120) (kc 1)) [.t 120,.c (iv 1)],oq 122 (.iaddrS 1) [.t 119,.t 121],oq 123 (.load none) [.t 122],oq 124 .mov [.t 9],oq 125 (.bin .sub T_uint (.const (.int .u64 32)) (.tmp 124)) [.c (.val (.int .u64 32)),.t 124],oq 126 (.bin .shl T_uint32 (.tmp 123) (.tmp 125)) [.t 123,.t 125],oq 127 (.bin .or T_uint32 (.tmp 118) (.tmp 126)) [.t 118,.t 126],oq 128 (.iaddrS 1) [.t 115,.t 116],ox (.store 1) [.t 128,.t 127]] [16,114,115,116,117,118,119,120,121,122,123,124,125,126,127,128] []) .skip))))) (rgN [oq 129 (.bin .add T_int (.tmp 101) (kc 1)) [.t 101,.c (iv 1)],oq 101 .mov [.t 129]] [16,114,129] []))))
def c_n_DivMod_k3:ACode:=(.seq (.region false [72,99] [oq 130 .mov [.t 4],oq 131 (.call F_n_trim) [.t 130],oq 132 .mov [.t 5],oq 133 (.call F_n_trim) [.t 132],oq 4 .mov [.t 131],oq 5 .mov [.t 133],oq 6 .mov [.c (iv 0)]] [9,10,100,101,102,130,131,132,133] []) .ret)
def c_n_DivMod_k4:ACode:=(.seq (rgN [oq 98 .mov [.t 12],oq 99 (.mk 1 4 [.val (.int .u32 0)]) [.t 98,.t 98],oq 5 .mov [.t 99]] [11,13,74,75,76,98,99] []) (.seq (.seq (rgN [oq 100 .mov [.t 12],oq 101 .mov [.c (iv 0)]] [12] []) (.block 4 (.loop c_n_DivMod_l2))) c_n_DivMod_k3))
def c_n_DivMod_k5:ACode:=(.seq (rgN [oq 56 .mov [.t 0],oq 57 .mov [.t 9],oq 58 (.callI F_n_shifted) [.t 56,.t 57],oq 10 .mov [.t 58]] [53,56,57,58] []) (.seq (rgN [oq 59 .mov [.t 1],oq 60 .mov [.t 9],oq 61 (.call F_n_shifted) [.t 59,.t 60],oq 62 (.call F_n_trim) [.t 61],oq 11 .mov [.t 62]] [59,60,61,62] []) (.seq (rgN [oq 63 .mov [.t 11],oq 64 (.len false) [.t 63],oq 65 .mov [.t 0],oq 66 (.len false) [.t 65],oq 67 .mov [.t 1],oq 68 (.len false) [.t 67],oq 69 (.bin .sub T_int (.tmp 66) (.tmp 68)) [.t 66,.t 68],oq 12 .mov [.t 64],oq 13 .mov [.t 69]] [0,1,63,64,65,66,67,68,69] []) (.seq (rgN [oq 70 .mov [.t 13],oq 71 (.bin .add T_int (.tmp 70) (kc 1)) [.t 70,.c (iv 1)],oq 72 (.mk 1 4 [.val (.int .u32 0)]) [.t 71,.t 71],oq 4 .mov [.t 72]] [70,71,72] []) (.seq (.seq (rgN [oq 73 .mov [.t 13],oq 74 (.bin .add T_int (.tmp 73) (kc 1)) [.t 73,.c (iv 1)],oq 75 .mov [.c (iv 0)]] [73] []) (.block 2 (.loop c_n_DivMod_l1))) c_n_DivMod_k4)))))
def c_n_DivMod:ACode:=(.seq (rgN [oq 4 .mov [.c (.list 0 .full [])],oq 5 .mov [.c (.list 0 .full [])],oq 6 .mov [.c (iv 0)]] [4,5,6] []) (.seq (rgN [oq 17 .mov [.t 0],oq 18 (.call F_n_trim) [.t 17],oq 19 .mov [.t 1],oq 20 (.call F_n_trim) [.t 19],oq 0 .mov [.t 18],oq 1 .mov [.t 20]] [17,18,19,20] []) (.seq (.seq (rgN [oq 21 .mov [.t 1],oq 22 (.len false) [.t 21],oq 23 (.bin .eql T_int (.tmp 22) (kc 0)) [.t 22,.c (iv 0)]] [21,22] []) (.cond (.t 23) (.seq (rgN [oq 4 .mov [.c (.list 0 .full [])],oq 5 .mov [.c (.list 0 .full [])],oq 6 .mov [.c (iv 8)]] [0,1,23] []) .ret) .skip)) (.seq (.seq (rgN [oq 24 .mov [.t 0],oq 25 .mov [.t 1],oq 26 (.call F_n_Cmp) [.t 24,.t 25],oq 27 (.bin .lss T_int (.tmp 26) (kc 0)) [.t 26,.c (iv 0)]] [23,24,25,26] []) (.cond (.t 27) (.seq (rgN [oq 28 .mov [.t 0],oq 29 (.call F_n_Add) [.t 28,.c (.list 0 .full [])],oq 4 .mov [.c (.list 0 .full [])],oq 5 .mov [.t 29],oq 6 .mov [.c (iv 0)]] [0,1,27,28,29] []) .ret) .skip)) (.seq (.seq (rgN [oq 30 .mov [.t 1],oq 31 (.len false) [.t 30],oq 32 (.bin .eql T_int (.tmp 31) (kc 1)) [.t 31,.c (iv 1)]] [27,30,31] []) (.cond (.t 32) (.seq (rgN [oq 34 .mov [.t 0],oq 35 .mov [.t 1],oq 36 (.iaddrS 1) [.t 35,.c (iv 0)],oq 37 (.load none) [.t 36],oq 38 (.call F_n_small) [.t 34,.t 37],oq 33 .mov [.t 38],oq 39 (.extract 0) [.t 33],oq 40 (.extract 1) [.t 33],oq 7 .mov [.t 39],oq 8 .mov [.t 40]] [0,1,32,34,35,36,37,38,33,39,40] []) (.seq (rgN [oq 41 .mov [.t 7],oq 42 .mov [.t 8],oq 43 (.conv T_uint32 T_uint64) [.t 42],oq 44 (.call F_n_FromUint) [.t 43],oq 4 .mov [.t 41],oq 5 .mov [.t 44],oq 6 .mov [.c (iv 0)]] [7,8,41,42,43,44] []) .ret)) .skip)) (.seq (rgN [oq 9 .mov [.c (.val (.int .u64 0))]] [32] []) (.seq (.block 0 (.loop c_n_DivMod_l0)) c_n_DivMod_k5)))))))
def r_n_DivMod:List ResA:=[.t 4,.t 5,.t 6]
theorem t_n_DivMod:transl Try.prog F_n_DivMod=some (bare c_n_DivMod,r_n_DivMod,134):=by kernel_rfl
def c_lexer_digit:ACode:=(.seq (rgN [oq 2 .mov [.c (bv false)]] [2] []) (.seq (rgN [oq 3 .mov [.t 0],oq 4 (.bin .geq T_int32 (.tmp 3) (.const (.int .i32 48))) [.t 3,.c (.val (.int .i32 48))],oq 5 .mov [.t 4],⟨some 6,.mov,[.t 0],some (5,true)⟩,⟨some 7,.bin .leq T_int32 (.tmp 6) (.const (.int .i32 57)),[.t 6,.c (.val (.int .i32 57))],some (5,true)⟩,oq 8 .pick [.t 5,.t 7,.c (bv false)],oq 2 .mov [.t 8]] [0,3,4,5,6,7,8] []) .ret))
def r_lexer_digit:List ResA:=[.t 2]
theorem t_lexer_digit:transl Try.prog F_lexer_digit=some (bare c_lexer_digit,r_lexer_digit,9):=by kernel_rfl
def c_ref06_digit:ACode:=(.seq (rgN [oq 2 .mov [.c (bv false)]] [2] []) (.seq (rgN [oq 3 .mov [.t 0],oq 4 (.bin .geq T_uint8 (.tmp 3) (.const (.int .u8 48))) [.t 3,.c (.val (.int .u8 48))],oq 5 .mov [.t 4],⟨some 6,.mov,[.t 0],some (5,true)⟩,⟨some 7,.bin .leq T_uint8 (.tmp 6) (.const (.int .u8 57)),[.t 6,.c (.val (.int .u8 57))],some (5,true)⟩,oq 8 .pick [.t 5,.t 7,.c (bv false)],oq 2 .mov [.t 8]] [0,3,4,5,6,7,8] []) .ret))
def r_ref06_digit:List ResA:=[.t 2]
theorem t_ref06_digit:transl Try.prog F_ref06_digit=some (bare c_ref06_digit,r_ref06_digit,9):=by kernel_rfl
def c_ref06_mark_l0:ACode:=(.seq (.seq (rgN [oq 5 .mov [.t 4],oq 6 .mov [.t 3],oq 7 (.len true) [.t 6],oq 8 (.bin .lss T_int (.tmp 5) (.tmp 7)) [.t 5,.t 7]] [5,6,7] []) (.cond (.t 8) .skip (.exit 0))) (.seq (.block 1 (.seq (rgN [oq 11 .mov [.t 3],oq 12 .mov [.t 4],oq 13 (.idxV T_string) [.t 11,.t 12],oq 14 .mov [.t 0],oq 15 (.bin .eql T_uint8 (.tmp 13) (.tmp 14)) [.t 13,.t 14]] [8,11,12,13,14] []) (.cond (.t 15) (.seq (rgN [oq 2 .mov [.c (bv true)]] [0,3,4,15] []) .ret) .skip))) (rgN [oq 9 .mov [.t 4],oq 10 (.bin .add T_int (.tmp 9) (kc 1)) [.t 9,.c (iv 1)],oq 4 .mov [.t 10]] [15,9,10] [])))
def c_ref06_mark_k1:ACode:=(.seq (rgN [oq 2 .mov [.c (bv false)]] [0,3,4,8] []) .ret)
def c_ref06_mark:ACode:=(.seq (rgN [oq 2 .mov [.c (bv false)]] [2] []) (.seq (rgN [⟨some 3,.mov,[.c (.val (.string ⟨#[123,125,40,41,58,44,64,43,45,61]⟩))],none⟩] [] []) (.seq (.seq (rgN [oq 4 .mov [.c (iv 0)]] [] []) (.block 0 (.loop c_ref06_mark_l0))) c_ref06_mark_k1)))
def r_ref06_mark:List ResA:=[.t 2]
theorem t_ref06_mark:transl Try.prog F_ref06_mark=some (bare c_ref06_mark,r_ref06_mark,16):=by kernel_rfl
def c_n_Add_l0:ACode:=(.seq (rgN [oq 23 (.bin .lss T_int (.tmp 22) (.tmp 21)) [.t 22,.t 21]] [] []) (.seq (.cond (.t 23) .skip (.exit 0)) (.seq (.block 1 (.seq (rgN [oq 24 .mov [.t 22],oq 7 .mov [.t 24]] [23,24] []) (.seq (rgN [oq 25 .mov [.t 0],oq 26 .mov [.t 7],oq 27 (.iaddrS 1) [.t 25,.t 26],oq 28 (.load none) [.t 27],oq 29 (.conv T_uint32 T_uint64) [.t 28],oq 30 .mov [.t 6],oq 31 (.bin .add T_uint64 (.tmp 29) (.tmp 30)) [.t 29,.t 30],oq 8 .mov [.t 31]] [6,25,26,27,28,29,30,31] []) (.seq (.seq (rgN [oq 32 .mov [.t 7],oq 33 .mov [.t 1],oq 34 (.len false) [.t 33],oq 35 (.bin .lss T_int (.tmp 32) (.tmp 34)) [.t 32,.t 34]] [32,33,34] []) (.cond (.t 35) (rgN [oq 36 .mov [.t 8],oq 37 .mov [.t 1],oq 38 .mov [.t 7],oq 39 (.iaddrS 1) [.t 37,.t 38],oq 40 (.load none) [.t 39],oq 41 (.conv T_uint32 T_uint64) [.t 40],oq 42 (.bin .add T_uint64 (.tmp 36) (.tmp 41)) [.t 36,.t 41],oq 8 .mov [.t 42]] [35,36,37,38,39,40,41,42] []) .skip)) (rgN [oq 43 .mov [.t 5],oq 44 .mov [.t 7],oq 45 .mov [.t 8],oq 46 (.conv T_uint64 T_uint32) [.t 45],oq 47 .mov [.t 8],oq 48 (.bin .shr T_uint64 (.tmp 47) (.const (.int .u64 32))) [.t 47,.c (.val (.int .u64 32))],oq 49 (.iaddrS 1) [.t 43,.t 44],ox (.store 1) [.t 49,.t 46],oq 6 .mov [.t 48]] [7,8,35,43,44,45,46,47,48,49] []))))) (rgN [oq 50 (.bin .add T_int (.tmp 22) (kc 1)) [.t 22,.c (iv 1)],oq 22 .mov [.t 50]] [50] []))))
def c_n_Add_k1:ACode:=(.seq (rgN [oq 51 .mov [.t 5],oq 52 .mov [.t 0],oq 53 (.len false) [.t 52],oq 54 .mov [.t 6],oq 55 (.conv T_uint64 T_uint32) [.t 54],oq 56 (.iaddrS 1) [.t 51,.t 53],ox (.store 1) [.t 56,.t 55]] [0,1,6,21,22,23,51,52,53,54,55,56] []) (.seq (.region false [19] [oq 57 .mov [.t 5],oq 58 (.call F_n_trim) [.t 57],oq 4 .mov [.t 58]] [5,57,58] []) .ret))
def c_n_Add:ACode:=(.seq (rgN [oq 4 .mov [.c (.list 0 .full [])]] [4] []) (.seq (.seq (rgN [oq 9 .mov [.t 0],oq 10 (.len false) [.t 9],oq 11 .mov [.t 1],oq 12 (.len false) [.t 11],oq 13 (.bin .lss T_int (.tmp 10) (.tmp 12)) [.t 10,.t 12]] [9,10,11,12] []) (.cond (.t 13) (rgN [oq 14 .mov [.t 1],oq 15 .mov [.t 0],oq 0 .mov [.t 14],oq 1 .mov [.t 15]] [13,14,15] []) .skip)) (.seq (rgN [oq 16 .mov [.t 0],oq 17 (.len false) [.t 16],oq 18 (.bin .add T_int (.tmp 17) (kc 1)) [.t 17,.c (iv 1)],oq 19 (.mk 1 4 [.val (.int .u32 0)]) [.t 18,.t 18],oq 5 .mov [.t 19]] [13,16,17,18,19] []) (.seq (rgN [oq 6 .mov [.c (.val (.int .u64 0))]] [] []) (.seq (.seq (rgN [oq 20 .mov [.t 0],oq 21 (.len false) [.t 20],oq 22 .mov [.c (iv 0)]] [20] []) (.block 0 (.loop c_n_Add_l0))) c_n_Add_k1)))))
def r_n_Add:List ResA:=[.t 4]
theorem t_n_Add:transl Try.prog F_n_Add=some (bare c_n_Add,r_n_Add,59):=by kernel_rfl
def c_n_Cmp_l0:ACode:=(.seq (rgN [oq 24 (.bin .lss T_int (.tmp 23) (.tmp 22)) [.t 23,.t 22]] [] []) (.seq (.cond (.t 24) .skip (.exit 0)) (.seq (.block 1 (.seq (rgN [oq 25 .mov [.t 23],oq 5 .mov [.t 25]] [24,25] []) (.seq (rgN [oq 26 .mov [.t 0],oq 27 (.len false) [.t 26],oq 28 (.bin .sub T_int (.tmp 27) (kc 1)) [.t 27,.c (iv 1)],oq 29 .mov [.t 5],oq 30 (.bin .sub T_int (.tmp 28) (.tmp 29)) [.t 28,.t 29],oq 6 .mov [.t 30]] [5,26,27,28,29,30] []) (.seq (.seq (rgD [oq 31 .mov [.t 0],oq 32 .mov [.t 6],oq 33 (.iaddrS 1) [.t 31,.t 32],oq 34 (.load none) [.t 33],oq 35 .mov [.t 1],oq 36 .mov [.t 6],oq 37 (.iaddrS 1) [.t 35,.t 36],oq 38 (.load none) [.t 37],oq 39 (.bin .lss T_uint32 (.tmp 34) (.tmp 38)) [.t 34,.t 38]] [31,32,33,34,35,36,37,38] []) (.cond (.t 39) (.seq (rgN [oq 4 .mov [.c (iv (-1))]] [0,1,22,23,6,39] []) .ret) .skip)) (.seq (rgD [oq 40 .mov [.t 0],oq 41 .mov [.t 6],oq 42 (.iaddrS 1) [.t 40,.t 41],oq 43 (.load none) [.t 42],oq 44 .mov [.t 1],oq 45 .mov [.t 6],oq 46 (.iaddrS 1) [.t 44,.t 45],oq 47 (.load none) [.t 46],oq 48 (.bin .gtr T_uint32 (.tmp 43) (.tmp 47)) [.t 43,.t 47]] [6,39,40,41,42,43,44,45,46,47] []) (.cond (.t 48) (.seq (rgN [oq 4 .mov [.c (iv 1)]] [0,1,22,23,48] []) .ret) .skip)))))) (rgN [oq 49 (.bin .add T_int (.tmp 23) (kc 1)) [.t 23,.c (iv 1)],oq 23 .mov [.t 49]] [48,49] []))))
def c_n_Cmp_k1:ACode:=(.seq (rgN [oq 4 .mov [.c (iv 0)]] [0,1,22,23,24] []) .ret)
def c_n_Cmp:ACode:=(.seq (rgN [oq 4 .mov [.c (iv 0)]] [4] []) (.seq (rgN [oq 7 .mov [.t 0],oq 8 (.call F_n_trim) [.t 7],oq 9 .mov [.t 1],oq 10 (.call F_n_trim) [.t 9],oq 0 .mov [.t 8],oq 1 .mov [.t 10]] [7,8,9,10] []) (.seq (.seq (rgN [oq 11 .mov [.t 0],oq 12 (.len false) [.t 11],oq 13 .mov [.t 1],oq 14 (.len false) [.t 13],oq 15 (.bin .neq T_int (.tmp 12) (.tmp 14)) [.t 12,.t 14]] [11,12,13,14] []) (.cond (.t 15) (.seq (.seq (rgN [oq 16 .mov [.t 0],oq 17 (.len false) [.t 16],oq 18 .mov [.t 1],oq 19 (.len false) [.t 18],oq 20 (.bin .lss T_int (.tmp 17) (.tmp 19)) [.t 17,.t 19]] [0,1,15,16,17,18,19] []) (.cond (.t 20) (.seq (rgN [oq 4 .mov [.c (iv (-1))]] [20] []) .ret) .skip)) (.seq (rgN [oq 4 .mov [.c (iv 1)]] [20] []) .ret)) .skip)) (.seq (.seq (rgN [oq 21 .mov [.t 0],oq 22 (.len false) [.t 21],oq 23 .mov [.c (iv 0)]] [15,21] []) (.block 0 (.loop c_n_Cmp_l0))) c_n_Cmp_k1))))
def r_n_Cmp:List ResA:=[.t 4]
theorem t_n_Cmp:transl Try.prog F_n_Cmp=some (bare c_n_Cmp,r_n_Cmp,50):=by kernel_rfl
def c_n_small_l0:ACode:=(.seq (rgN [oq 17 (.bin .lss T_int (.tmp 16) (.tmp 15)) [.t 16,.t 15]] [] []) (.seq (.cond (.t 17) .skip (.exit 0)) (.seq (.block 1 (.seq (rgN [oq 18 .mov [.t 16],oq 8 .mov [.t 18]] [17,18] []) (.seq (rgN [oq 19 .mov [.t 0],oq 20 (.len false) [.t 19],oq 21 (.bin .sub T_int (.tmp 20) (kc 1)) [.t 20,.c (iv 1)],oq 22 .mov [.t 8],oq 23 (.bin .sub T_int (.tmp 21) (.tmp 22)) [.t 21,.t 22],oq 9 .mov [.t 23]] [8,19,20,21,22,23] []) (.seq (rgN [oq 24 .mov [.t 7],oq 25 (.bin .shl T_uint64 (.tmp 24) (.const (.int .u64 32))) [.t 24,.c (.val (.int .u64 32))],oq 26 .mov [.t 0],oq 27 .mov [.t 9],oq 28 (.iaddrS 1) [.t 26,.t 27],oq 29 (.load none) [.t 28],oq 30 (.conv T_uint32 T_uint64) [.t 29],oq 31 (.bin .or T_uint64 (.tmp 25) (.tmp 30)) [.t 25,.t 30],oq 10 .mov [.t 31]] [7,24,25,26,27,28,29,30,31] []) (rgD [ox (.start [32,33,34,35,36,37,38,39,40,41,42,43]) [],oq 32 .mov [.t 6],oq 33 .mov [.t 9],oq 34 .mov [.t 10],oq 35 .mov [.t 1],oq 36 (.conv T_uint32 T_uint64) [.t 35],oq 37 (.bin .quo T_uint64 (.tmp 34) (.tmp 36)) [.t 34,.t 36],oq 38 (.conv T_uint64 T_uint32) [.t 37],oq 39 .mov [.t 10],oq 40 .mov [.t 1],oq 41 (.conv T_uint32 T_uint64) [.t 40],oq 42 (.bin .rem T_uint64 (.tmp 39) (.tmp 41)) [.t 39,.t 41],oq 43 (.iaddrS 1) [.t 32,.t 33],ox (.store 1) [.t 43,.t 38],oq 39 (.chk (.mov)) [.t 10],oq 40 (.chk (.mov)) [.t 1],oq 41 (.chk (.conv T_uint32 T_uint64)) [.t 40],oq 42 (.chk (.bin .rem T_uint64 (.tmp 39) (.tmp 41))) [.t 39,.t 41],oq 7 .mov [.t 42]] [9,10,32,33,34,35,36,37,38,39,40,41,42,43] []))))) (rgN [oq 44 (.bin .add T_int (.tmp 16) (kc 1)) [.t 16,.c (iv 1)],oq 16 .mov [.t 44]] [44] []))))
def c_n_small_k1:ACode:=(.seq (.region false [13] [oq 45 .mov [.t 6],oq 46 (.call F_n_trim) [.t 45],oq 47 .mov [.t 7],oq 48 (.conv T_uint64 T_uint32) [.t 47],oq 4 .mov [.t 46],oq 5 .mov [.t 48]] [0,1,6,7,15,16,17,45,46,47,48] []) .ret)
def c_n_small:ACode:=(.seq (rgN [oq 4 .mov [.c (.list 0 .full [])],oq 5 .mov [.c (.val (.int .u32 0))]] [4,5] []) (.seq (rgN [oq 11 .mov [.t 0],oq 12 (.len false) [.t 11],oq 13 (.mk 1 4 [.val (.int .u32 0)]) [.t 12,.t 12],oq 6 .mov [.t 13]] [11,12,13] []) (.seq (rgN [oq 7 .mov [.c (.val (.int .u64 0))]] [] []) (.seq (.seq (rgN [oq 14 .mov [.t 0],oq 15 (.len false) [.t 14],oq 16 .mov [.c (iv 0)]] [14] []) (.block 0 (.loop c_n_small_l0))) c_n_small_k1))))
def r_n_small:List ResA:=[.t 4,.t 5]
theorem t_n_small:transl Try.prog F_n_small=some (bare c_n_small,r_n_small,49):=by kernel_rfl
def c_n_shifted_l0:ACode:=(.seq (rgN [oq 15 (.bin .lss T_int (.tmp 14) (.tmp 13)) [.t 14,.t 13]] [] []) (.seq (.cond (.t 15) .skip (.exit 0)) (.seq (.block 1 (.seq (rgN [oq 16 .mov [.t 14],oq 6 .mov [.t 16]] [15,16] []) (.seq (rgN [oq 17 .mov [.t 0],oq 18 .mov [.t 6],oq 19 (.iaddrS 1) [.t 17,.t 18],oq 20 (.load none) [.t 19],oq 21 (.conv T_uint32 T_uint64) [.t 20],oq 22 .mov [.t 1],oq 23 (.bin .shl T_uint64 (.tmp 21) (.tmp 22)) [.t 21,.t 22],oq 7 .mov [.t 23]] [17,18,19,20,21,22,23] []) (.seq (rgN [oq 24 .mov [.t 5],oq 25 .mov [.t 6],oq 26 (.iaddrS 1) [.t 24,.t 25],oq 27 (.load none) [.t 26],oq 28 .mov [.t 7],oq 29 (.conv T_uint64 T_uint32) [.t 28],oq 30 (.bin .or T_uint32 (.tmp 27) (.tmp 29)) [.t 27,.t 29],oq 31 (.iaddrS 1) [.t 24,.t 25],ox (.store 1) [.t 31,.t 30]] [24,25,26,27,28,29,30,31] []) (rgN [oq 32 .mov [.t 5],oq 33 .mov [.t 6],oq 34 (.bin .add T_int (.tmp 33) (kc 1)) [.t 33,.c (iv 1)],oq 35 .mov [.t 7],oq 36 (.bin .shr T_uint64 (.tmp 35) (.const (.int .u64 32))) [.t 35,.c (.val (.int .u64 32))],oq 37 (.conv T_uint64 T_uint32) [.t 36],oq 38 (.iaddrS 1) [.t 32,.t 34],ox (.store 1) [.t 38,.t 37]] [6,7,32,33,34,35,36,37,38] []))))) (rgN [oq 39 (.bin .add T_int (.tmp 14) (kc 1)) [.t 14,.c (iv 1)],oq 14 .mov [.t 39]] [39] []))))
def c_n_shifted_k1:ACode:=(.seq (rgN [oq 40 .mov [.t 5],oq 4 .mov [.t 40]] [0,1,5,13,14,15,40] []) .ret)
def c_n_shifted:ACode:=(.seq (rgN [oq 4 .mov [.c (.list 0 .full [])]] [4] []) (.seq (rgN [oq 8 .mov [.t 0],oq 9 (.len false) [.t 8],oq 10 (.bin .add T_int (.tmp 9) (kc 1)) [.t 9,.c (iv 1)],oq 11 (.mk 1 4 [.val (.int .u32 0)]) [.t 10,.t 10],oq 5 .mov [.t 11]] [8,9,10,11] []) (.seq (.seq (rgN [oq 12 .mov [.t 0],oq 13 (.len false) [.t 12],oq 14 .mov [.c (iv 0)]] [12] []) (.block 0 (.loop c_n_shifted_l0))) c_n_shifted_k1)))
def r_n_shifted:List ResA:=[.t 4]
theorem t_n_shifted:transl Try.prog F_n_shifted=some (bare c_n_shifted,r_n_shifted,41):=by kernel_rfl
def c_n_digit_l0:ACode:=(.seq (.seq (rgD [oq 48 .mov [.t 7],oq 49 (.bin .geq T_uint64 (.tmp 48) (.const (.int .u64 4294967296))) [.t 48,.c (.val (.int .u64 4294967296))],oq 50 .mov [.t 49],⟨some 51,.mov,[.t 7],some (50,false)⟩,⟨some 52,.mov,[.t 1],some (50,false)⟩,⟨some 53,.mov,[.t 5],some (50,false)⟩,⟨some 54,.bin .sub T_int (.tmp 53) (kc 2),[.t 53,.c (iv 2)],some (50,false)⟩,⟨some 55,.iaddrS 1,[.t 52,.t 54],some (50,false)⟩,⟨some 56,.load none,[.t 55],some (50,false)⟩,⟨some 57,.conv T_uint32 T_uint64,[.t 56],some (50,false)⟩,⟨some 58,.bin .mul T_uint64 (.tmp 51) (.tmp 57),[.t 51,.t 57],some (50,false)⟩,⟨some 59,.mov,[.t 8],some (50,false)⟩,⟨some 60,.bin .shl T_uint64 (.tmp 59) (.const (.int .u64 32)),[.t 59,.c (.val (.int .u64 32))],some (50,false)⟩,⟨some 61,.mov,[.t 0],some (50,false)⟩,⟨some 62,.mov,[.t 5],some (50,false)⟩,⟨some 63,.bin .sub T_int (.tmp 62) (kc 2),[.t 62,.c (iv 2)],some (50,false)⟩,⟨some 64,.iaddrS 1,[.t 61,.t 63],some (50,false)⟩,⟨some 65,.load none,[.t 64],some (50,false)⟩,⟨some 66,.conv T_uint32 T_uint64,[.t 65],some (50,false)⟩,⟨some 67,.bin .or T_uint64 (.tmp 60) (.tmp 66),[.t 60,.t 66],some (50,false)⟩,⟨some 68,.bin .gtr T_uint64 (.tmp 58) (.tmp 67),[.t 58,.t 67],some (50,false)⟩,oq 69 .pick [.t 50,.c (bv true),.t 68]] [48,49,50,51,52,53,54,55,56,57,58,59,60,61,62,63,64,65,66,67,68] []) (.cond (.t 69) .skip (.exit 0))) (.block 1 (.seq (rgN [oq 70 .mov [.t 7],oq 71 (.bin .sub T_uint64 (.tmp 70) (.const (.int .u64 1))) [.t 70,.c (.val (.int .u64 1))],oq 7 .mov [.t 71]] [69,70,71] []) (.seq (rgN [oq 72 .mov [.t 8],oq 73 .mov [.t 1],oq 74 .mov [.t 5],oq 75 (.bin .sub T_int (.tmp 74) (kc 1)) [.t 74,.c (iv 1)],oq 76 (.iaddrS 1) [.t 73,.t 75],oq 77 (.load none) [.t 76],oq 78 (.conv T_uint32 T_uint64) [.t 77],oq 79 (.bin .add T_uint64 (.tmp 72) (.tmp 78)) [.t 72,.t 78],oq 8 .mov [.t 79]] [72,73,74,75,76,77,78,79] []) (.seq (rgN [oq 80 .mov [.t 8],oq 81 (.bin .geq T_uint64 (.tmp 80) (.const (.int .u64 4294967296))) [.t 80,.c (.val (.int .u64 4294967296))]] [80] []) (.cond (.t 81) (.exit 0) .skip))))))
def c_n_digit_l1:ACode:=(.seq (rgN [oq 84 (.bin .lss T_int (.tmp 83) (.tmp 82)) [.t 83,.t 82]] [] []) (.seq (.cond (.t 84) .skip (.exit 2)) (.seq (.block 3 (.seq (rgN [oq 85 .mov [.t 83],oq 11 .mov [.t 85]] [84,85] []) (.seq (rgN [oq 86 .mov [.t 7],oq 87 .mov [.t 1],oq 88 .mov [.t 11],oq 89 (.iaddrS 1) [.t 87,.t 88],oq 90 (.load none) [.t 89],oq 91 (.conv T_uint32 T_uint64) [.t 90],oq 92 (.bin .mul T_uint64 (.tmp 86) (.tmp 91)) [.t 86,.t 91],oq 93 .mov [.t 9],oq 94 (.bin .add T_uint64 (.tmp 92) (.tmp 93)) [.t 92,.t 93],oq 12 .mov [.t 94]] [9,86,87,88,89,90,91,92,93,94] []) (.seq (rgN [oq 95 .mov [.t 12],oq 96 (.bin .shr T_uint64 (.tmp 95) (.const (.int .u64 32))) [.t 95,.c (.val (.int .u64 32))],oq 9 .mov [.t 96]] [95,96] []) (.seq (rgN [oq 97 .mov [.t 0],oq 98 .mov [.t 11],oq 99 (.iaddrS 1) [.t 97,.t 98],oq 100 (.load none) [.t 99],oq 101 (.conv T_uint32 T_uint64) [.t 100],oq 102 .mov [.t 12],oq 103 (.bin .and T_uint64 (.tmp 102) (.const (.int .u64 4294967295))) [.t 102,.c (.val (.int .u64 4294967295))],oq 104 (.bin .sub T_uint64 (.tmp 101) (.tmp 103)) [.t 101,.t 103],oq 105 .mov [.t 10],oq 106 (.bin .sub T_uint64 (.tmp 104) (.tmp 105)) [.t 104,.t 105],oq 13 .mov [.t 106]] [10,12,97,98,99,100,101,102,103,104,105,106] []) (rgN [oq 107 .mov [.t 0],oq 108 .mov [.t 11],oq 109 .mov [.t 13],oq 110 (.conv T_uint64 T_uint32) [.t 109],oq 111 .mov [.t 13],oq 112 (.bin .shr T_uint64 (.tmp 111) (.const (.int .u64 63))) [.t 111,.c (.val (.int .u64 63))],oq 113 (.iaddrS 1) [.t 107,.t 108],ox (.store 1) [.t 113,.t 110],oq 10 .mov [.t 112]] [11,13,107,108,109,110,111,112,113] [])))))) (rgN [oq 114 (.bin .add T_int (.tmp 83) (kc 1)) [.t 83,.c (iv 1)],oq 83 .mov [.t 114]] [114] []))))
def c_n_digit_l2:ACode:=(.seq (rgN [oq 136 (.bin .lss T_int (.tmp 135) (.tmp 134)) [.t 135,.t 134]] [] []) (.seq (.cond (.t 136) .skip (.exit 4)) (.seq (.block 5 (.seq (rgN [oq 137 .mov [.t 135],oq 15 .mov [.t 137]] [136,137] []) (.seq (rgD [oq 138 .mov [.t 0],oq 139 .mov [.t 15],oq 140 (.iaddrS 1) [.t 138,.t 139],oq 141 (.load none) [.t 140],oq 142 (.conv T_uint32 T_uint64) [.t 141],oq 143 .mov [.t 1],oq 144 .mov [.t 15],oq 145 (.iaddrS 1) [.t 143,.t 144],oq 146 (.load none) [.t 145],oq 147 (.conv T_uint32 T_uint64) [.t 146],oq 148 (.bin .add T_uint64 (.tmp 142) (.tmp 147)) [.t 142,.t 147],oq 149 .mov [.t 9],oq 150 (.bin .add T_uint64 (.tmp 148) (.tmp 149)) [.t 148,.t 149],oq 16 .mov [.t 150]] [9,138,139,140,141,142,143,144,145,146,147,148,149,150] []) (rgN [oq 151 .mov [.t 0],oq 152 .mov [.t 15],oq 153 .mov [.t 16],oq 154 (.conv T_uint64 T_uint32) [.t 153],oq 155 .mov [.t 16],oq 156 (.bin .shr T_uint64 (.tmp 155) (.const (.int .u64 32))) [.t 155,.c (.val (.int .u64 32))],oq 157 (.iaddrS 1) [.t 151,.t 152],ox (.store 1) [.t 157,.t 154],oq 9 .mov [.t 156]] [15,16,151,152,153,154,155,156,157] [])))) (rgN [oq 158 (.bin .add T_int (.tmp 135) (kc 1)) [.t 135,.c (iv 1)],oq 135 .mov [.t 158]] [158] []))))
def c_n_digit_k3:ACode:=(.seq (rgN [oq 159 .mov [.t 0],oq 160 .mov [.t 5],oq 161 (.iaddrS 1) [.t 159,.t 160],oq 162 (.load none) [.t 161],oq 163 .mov [.t 9],oq 164 (.conv T_uint64 T_uint32) [.t 163],oq 165 (.bin .add T_uint32 (.tmp 162) (.tmp 164)) [.t 162,.t 164],oq 166 (.iaddrS 1) [.t 159,.t 160],ox (.store 1) [.t 166,.t 165]] [0,1,5,9,134,135,136,159,160,161,162,163,164,165,166] []) (.seq (rgN [oq 167 .mov [.t 7],oq 168 (.bin .sub T_uint64 (.tmp 167) (.const (.int .u64 1))) [.t 167,.c (.val (.int .u64 1))],oq 169 (.conv T_uint64 T_uint32) [.t 168],oq 4 .mov [.t 169]] [7,167,168,169] []) .ret))
def c_n_digit_k4:ACode:=(.seq (rgN [oq 115 .mov [.t 0],oq 116 .mov [.t 5],oq 117 (.iaddrS 1) [.t 115,.t 116],oq 118 (.load none) [.t 117],oq 119 (.conv T_uint32 T_uint64) [.t 118],oq 120 .mov [.t 9],oq 121 (.bin .sub T_uint64 (.tmp 119) (.tmp 120)) [.t 119,.t 120],oq 122 .mov [.t 10],oq 123 (.bin .sub T_uint64 (.tmp 121) (.tmp 122)) [.t 121,.t 122],oq 14 .mov [.t 123]] [9,10,82,83,84,115,116,117,118,119,120,121,122,123] []) (.seq (rgN [oq 124 .mov [.t 0],oq 125 .mov [.t 5],oq 126 .mov [.t 14],oq 127 (.conv T_uint64 T_uint32) [.t 126],oq 128 (.iaddrS 1) [.t 124,.t 125],ox (.store 1) [.t 128,.t 127]] [124,125,126,127,128] []) (.seq (.seq (rgN [oq 129 .mov [.t 14],oq 130 (.bin .shr T_uint64 (.tmp 129) (.const (.int .u64 63))) [.t 129,.c (.val (.int .u64 63))],oq 131 (.bin .eql T_uint64 (.tmp 130) (.const (.int .u64 0))) [.t 130,.c (.val (.int .u64 0))]] [14,129,130] []) (.cond (.t 131) (.seq (rgN [oq 132 .mov [.t 7],oq 133 (.conv T_uint64 T_uint32) [.t 132],oq 4 .mov [.t 133]] [0,1,5,7,131,132,133] []) .ret) .skip)) (.seq (rgN [oq 9 .mov [.c (.val (.int .u64 0))]] [131] []) (.seq (.seq (rgN [oq 134 .mov [.t 5],oq 135 .mov [.c (iv 0)]] [] []) (.block 4 (.loop c_n_digit_l2))) c_n_digit_k3)))))
def c_n_digit_k5:ACode:=(.seq (rgN [oq 9 .mov [.c (.val (.int .u64 0))],oq 10 .mov [.c (.val (.int .u64 0))]] [8,81,69] []) (.seq (.seq (rgN [oq 82 .mov [.t 5],oq 83 .mov [.c (iv 0)]] [] []) (.block 2 (.loop c_n_digit_l1))) c_n_digit_k4))
def c_n_digit:ACode:=(.seq (rgN [oq 4 .mov [.c (.val (.int .u32 0))]] [4] []) (.seq (rgN [oq 17 .mov [.t 1],oq 18 (.len false) [.t 17],oq 5 .mov [.t 18]] [17,18] []) (.seq (rgD [oq 19 .mov [.t 0],oq 20 .mov [.t 5],oq 21 (.iaddrS 1) [.t 19,.t 20],oq 22 (.load none) [.t 21],oq 23 (.conv T_uint32 T_uint64) [.t 22],oq 24 (.bin .shl T_uint64 (.tmp 23) (.const (.int .u64 32))) [.t 23,.c (.val (.int .u64 32))],oq 25 .mov [.t 0],oq 26 .mov [.t 5],oq 27 (.bin .sub T_int (.tmp 26) (kc 1)) [.t 26,.c (iv 1)],oq 28 (.iaddrS 1) [.t 25,.t 27],oq 29 (.load none) [.t 28],oq 30 (.conv T_uint32 T_uint64) [.t 29],oq 31 (.bin .or T_uint64 (.tmp 24) (.tmp 30)) [.t 24,.t 30],oq 6 .mov [.t 31]] [19,20,21,22,23,24,25,26,27,28,29,30,31] []) (.seq (rgD [oq 32 .mov [.t 6],oq 33 .mov [.t 1],oq 34 .mov [.t 5],oq 35 (.bin .sub T_int (.tmp 34) (kc 1)) [.t 34,.c (iv 1)],oq 36 (.iaddrS 1) [.t 33,.t 35],oq 37 (.load none) [.t 36],oq 38 (.conv T_uint32 T_uint64) [.t 37],oq 39 (.bin .quo T_uint64 (.tmp 32) (.tmp 38)) [.t 32,.t 38],oq 40 .mov [.t 6],oq 41 .mov [.t 1],oq 42 .mov [.t 5],oq 43 (.bin .sub T_int (.tmp 42) (kc 1)) [.t 42,.c (iv 1)],oq 44 (.iaddrS 1) [.t 41,.t 43],oq 45 (.load none) [.t 44],oq 46 (.conv T_uint32 T_uint64) [.t 45],oq 47 (.bin .rem T_uint64 (.tmp 40) (.tmp 46)) [.t 40,.t 46],oq 7 .mov [.t 39],oq 8 .mov [.t 47]] [6,32,33,34,35,36,37,38,39,40,41,42,43,44,45,46,47] []) (.seq (.block 0 (.loop c_n_digit_l0)) c_n_digit_k5)))))
def r_n_digit:List ResA:=[.t 4]
theorem t_n_digit:transl Try.prog F_n_digit=some (bare c_n_digit,r_n_digit,170):=by kernel_rfl
def tabL:List (Nat × (ACode × List ResA × Nat)):=[(F_law20_ProblemChecks,(c_law20_ProblemChecks,r_law20_ProblemChecks,21)),(F_law20_ProblemBuilds,(c_law20_ProblemBuilds,r_law20_ProblemBuilds,70)),(F_law20_ProblemRows,(c_law20_ProblemRows,r_law20_ProblemRows,36)),(F_law20_ProblemRelaxed,(c_law20_ProblemRelaxed,r_law20_ProblemRelaxed,153)),(F_law20_ProblemWithout,(c_law20_ProblemWithout,r_law20_ProblemWithout,33)),(F_law20_ProblemCompares,(c_law20_ProblemCompares,r_law20_ProblemCompares,61)),(F_law20_ProblemRelaxes,(c_law20_ProblemRelaxes,r_law20_ProblemRelaxes,118)),(F_law20_ProblemSells,(c_law20_ProblemSells,r_law20_ProblemSells,122)),(F_law20_great,(c_law20_great,r_law20_great,13)),(F_law20_awake,(c_law20_awake,r_law20_awake,129)),(F_problem_Check,(c_problem_Check,r_problem_Check,42)),(F_ref20_Check,(c_ref20_Check,r_ref20_Check,168)),(F_problem_Rows,(c_problem_Rows,r_problem_Rows,9)),(F_ref20_Rows,(c_ref20_Rows,r_ref20_Rows,10)),(F_problem_Build,(c_problem_Build,r_problem_Build,163)),(F_ref20_Build,(c_ref20_Build,r_ref20_Build,245)),(F_ref20_Same,(c_ref20_Same,r_ref20_Same,60)),(F_ref20_Compare,(c_ref20_Compare,r_ref20_Compare,48)),(F_problem_Row,(c_problem_Row,r_problem_Row,38)),(F_ref20_Row,(c_ref20_Row,r_ref20_Row,51)),(F_problem_Relax,(c_problem_Relax,r_problem_Relax,144)),(F_ref20_Relax,(c_ref20_Relax,r_ref20_Relax,131)),(F_law20_is,(c_law20_is,r_law20_is,68)),(F_problem_Without,(c_problem_Without,r_problem_Without,39)),(F_ref20_Without,(c_ref20_Without,r_ref20_Without,42)),(F_problem_Compare,(c_problem_Compare,r_problem_Compare,8)),(F_problem_Feasible,(c_problem_Feasible,r_problem_Feasible,28)),(F_problem_Value,(c_problem_Value,r_problem_Value,35)),(F_setup_Feasible,(c_setup_Feasible,r_setup_Feasible,108)),(F_law20_three,(c_law20_three,r_law20_three,14)),(F_law20_sale,(c_law20_sale,r_law20_sale,6)),(F__problem_view__frame,(c__problem_view__frame,r__problem_view__frame,89)),(F__problem_view__offer,(c__problem_view__offer,r__problem_view__offer,26)),(F_ref08_Valid,(c_ref08_Valid,r_ref08_Valid,18)),(F_ref20_fits,(c_ref20_fits,r_ref20_fits,49)),(F__problem_view__rows,(c__problem_view__rows,r__problem_view__rows,8)),(F_setup_Check,(c_setup_Check,r_setup_Check,25)),(F_problem_simple,(c_problem_simple,r_problem_simple,27)),(F_catalog_Supply,(c_catalog_Supply,r_catalog_Supply,21)),(F_setup_Open,(c_setup_Open,r_setup_Open,13)),(F_catalog_Reserve,(c_catalog_Reserve,r_catalog_Reserve,12)),(F_setup_Allowed,(c_setup_Allowed,r_setup_Allowed,17)),(F_ref10_Check,(c_ref10_Check,r_ref10_Check,157)),(F_ref08_Supply,(c_ref08_Supply,r_ref08_Supply,23)),(F_ref10_Open,(c_ref10_Open,r_ref10_Open,58)),(F_ref08_Sums,(c_ref08_Sums,r_ref08_Sums,61)),(F_ref10_Allowed,(c_ref10_Allowed,r_ref10_Allowed,117)),(F__problem_view__coef,(c__problem_view__coef,r__problem_view__coef,60)),(F__problem_view__bound,(c__problem_view__bound,r__problem_view__bound,29)),(F_ref20_coef,(c_ref20_coef,r_ref20_coef,80)),(F__problem_view__fits,(c__problem_view__fits,r__problem_view__fits,35)),(F_f_FromInt,(c_f_FromInt,r_f_FromInt,9)),(F_slices_Cloneasl_int_int_,(c_slices_Cloneasl_int_int_,r_slices_Cloneasl_int_int_,8)),(F_slices_Compareasl_int_int_,(c_slices_Compareasl_int_int_,r_slices_Compareasl_int_int_,36)),(F_problem_picked,(c_problem_picked,r_problem_picked,37)),(F_setup_allowed,(c_setup_allowed,r_setup_allowed,75)),(F_setup_shares,(c_setup_shares,r_setup_shares,32)),(F_setup_outside,(c_setup_outside,r_setup_outside,33)),(F_bundle_Check,(c_bundle_Check,r_bundle_Check,16)),(F_catalog_Check,(c_catalog_Check,r_catalog_Check,63)),(F_roster_Check,(c_roster_Check,r_roster_Check,65)),(F_setup_checkCaps,(c_setup_checkCaps,r_setup_checkCaps,71)),(F_setup_checkAsides,(c_setup_checkAsides,r_setup_checkAsides,71)),(F__catalog_units__sum,(c__catalog_units__sum,r__catalog_units__sum,38)),(F_catalog_Reserve_1,(c_catalog_Reserve_1,r_catalog_Reserve_1,5)),(F_ref08_Check,(c_ref08_Check,r_ref08_Check,101)),(F_ref09_Check,(c_ref09_Check,r_ref09_Check,84)),(F_f_made,(c_f_made,r_f_made,17)),(F_f_size,(c_f_size,r_f_size,14)),(F_n_FromUint,(c_n_FromUint,r_n_FromUint,10)),(F_cmp_Compareaint_,(c_cmp_Compareaint_,r_cmp_Compareaint_,20)),(F_bundle_Within,(c_bundle_Within,r_bundle_Within,10)),(F_catalog_Units,(c_catalog_Units,r_catalog_Units,15)),(F_lexer_IsName,(c_lexer_IsName,r_lexer_IsName,22)),(F_catalog_Find,(c_catalog_Find,r_catalog_Find,21)),(F_catalog_between,(c_catalog_between,r_catalog_between,15)),(F_bundle_Count,(c_bundle_Count,r_bundle_Count,21)),(F_roster_Find,(c_roster_Find,r_roster_Find,21)),(F_ref08_IsName,(c_ref08_IsName,r_ref08_IsName,53)),(F_ref06_IsName,(c_ref06_IsName,r_ref06_IsName,31)),(F_ref09_Find,(c_ref09_Find,r_ref09_Find,21)),(F_f_Make,(c_f_Make,r_f_Make,52)),(F_n_trim,(c_n_trim,r_n_trim,22)),(F_cmp_isNaNaint_,(c_cmp_isNaNaint_,r_cmp_isNaNaint_,6)),(F_bundle_Meet,(c_bundle_Meet,r_bundle_Meet,20)),(F_catalog_Units_1,(c_catalog_Units_1,r_catalog_Units_1,8)),(F_lexer_letter,(c_lexer_letter,r_lexer_letter,9)),(F_lexer_run,(c_lexer_run,r_lexer_run,27)),(F_lexer_inner,(c_lexer_inner,r_lexer_inner,13)),(F_ref06_letter,(c_ref06_letter,r_ref06_letter,9)),(F_ref06_One,(c_ref06_One,r_ref06_One,95)),(F_n_GCD,(c_n_GCD,r_n_GCD,27)),(F_n_DivMod,(c_n_DivMod,r_n_DivMod,134)),(F_lexer_digit,(c_lexer_digit,r_lexer_digit,9)),(F_ref06_digit,(c_ref06_digit,r_ref06_digit,9)),(F_ref06_mark,(c_ref06_mark,r_ref06_mark,16)),(F_n_Add,(c_n_Add,r_n_Add,59)),(F_n_Cmp,(c_n_Cmp,r_n_Cmp,50)),(F_n_small,(c_n_small,r_n_small,49)),(F_n_shifted,(c_n_shifted,r_n_shifted,41)),(F_n_digit,(c_n_digit,r_n_digit,170))]
abbrev tab:FTab:=lk tabL
theorem tab_ok:TabOk Try.prog tab:=(.cons t_law20_ProblemChecks (.cons t_law20_ProblemBuilds (.cons t_law20_ProblemRows (.cons t_law20_ProblemRelaxed (.cons t_law20_ProblemWithout (.cons t_law20_ProblemCompares (.cons t_law20_ProblemRelaxes (.cons t_law20_ProblemSells (.cons t_law20_great (.cons t_law20_awake (.cons t_problem_Check (.cons t_ref20_Check (.cons t_problem_Rows (.cons t_ref20_Rows (.cons t_problem_Build (.cons t_ref20_Build (.cons t_ref20_Same (.cons t_ref20_Compare (.cons t_problem_Row (.cons t_ref20_Row (.cons t_problem_Relax (.cons t_ref20_Relax (.cons t_law20_is (.cons t_problem_Without (.cons t_ref20_Without (.cons t_problem_Compare (.cons t_problem_Feasible (.cons t_problem_Value (.cons t_setup_Feasible (.cons t_law20_three (.cons t_law20_sale (.cons t__problem_view__frame (.cons t__problem_view__offer (.cons t_ref08_Valid (.cons t_ref20_fits (.cons t__problem_view__rows (.cons t_setup_Check (.cons t_problem_simple (.cons t_catalog_Supply (.cons t_setup_Open (.cons t_catalog_Reserve (.cons t_setup_Allowed (.cons t_ref10_Check (.cons t_ref08_Supply (.cons t_ref10_Open (.cons t_ref08_Sums (.cons t_ref10_Allowed (.cons t__problem_view__coef (.cons t__problem_view__bound (.cons t_ref20_coef (.cons t__problem_view__fits (.cons t_f_FromInt (.cons t_slices_Cloneasl_int_int_ (.cons t_slices_Compareasl_int_int_ (.cons t_problem_picked (.cons t_setup_allowed (.cons t_setup_shares (.cons t_setup_outside (.cons t_bundle_Check (.cons t_catalog_Check (.cons t_roster_Check (.cons t_setup_checkCaps (.cons t_setup_checkAsides (.cons t__catalog_units__sum (.cons t_catalog_Reserve_1 (.cons t_ref08_Check (.cons t_ref09_Check (.cons t_f_made (.cons t_f_size (.cons t_n_FromUint (.cons t_cmp_Compareaint_ (.cons t_bundle_Within (.cons t_catalog_Units (.cons t_lexer_IsName (.cons t_catalog_Find (.cons t_catalog_between (.cons t_bundle_Count (.cons t_roster_Find (.cons t_ref08_IsName (.cons t_ref06_IsName (.cons t_ref09_Find (.cons t_f_Make (.cons t_n_trim (.cons t_cmp_isNaNaint_ (.cons t_bundle_Meet (.cons t_catalog_Units_1 (.cons t_lexer_letter (.cons t_lexer_run (.cons t_lexer_inner (.cons t_ref06_letter (.cons t_ref06_One (.cons t_n_GCD (.cons t_n_DivMod (.cons t_lexer_digit (.cons t_ref06_digit (.cons t_ref06_mark (.cons t_n_Add (.cons t_n_Cmp (.cons t_n_small (.cons t_n_shifted (.cons t_n_digit .nil)))))))))))))))))))))))))))))))))))))))))))))))))))))))))))))))))))))))))))))))))))))))))))))))))))))
end Go.Proofs.Ytbmhibiljjnfiaa

namespace Go.Dig
def B:Nat:=4294967296
theorem B_eq:B=4294967296:=rfl
theorem B_pos:0<B:=by decide
theorem pw_pos (k:Nat):0<B^k:=Nat.pow_pos B_pos
def val:List Nat→Nat
 | []=>0
 | d::l=>d+B*val l
def ok (l:List Nat):Prop:=∀ d∈l,d<B
def digs (x:Nat):List Nat:=if x=0 then [] else x%B::digs (x/B)
termination_by x
decreasing_by exact Nat.div_lt_self (by omega) (by decide)
theorem digs_zero:digs 0=[]:=by rw[digs]; rfl
theorem digs_pos {x:Nat} (h:x≠0):digs x=x%B::digs (x/B):=by rw[digs,if_neg h]
theorem val_digs (x:Nat):val (digs x)=x:=by
 induction x using Nat.strongRecOn with
 | ind x ih =>
  by_cases h:x=0
  ·subst h; rw[digs_zero]; rfl
  ·rw[digs_pos h,val,ih _ (Nat.div_lt_self (by omega) (by decide))]
   exact Nat.mod_add_div x B
theorem ok_digs (x:Nat):ok (digs x):=by
 induction x using Nat.strongRecOn with
 | ind x ih =>
  by_cases h:x=0
  ·subst h; rw[digs_zero]; intro d hd; cases hd
  ·rw[digs_pos h]
   intro d hd
   rcases List.mem_cons.1 hd with rfl | hd
   ·exact Nat.mod_lt _ B_pos
   ·exact ih _ (Nat.div_lt_self (by omega) (by decide)) d hd
theorem digs_eq_nil {x:Nat}:digs x=[]↔x=0:=by
 constructor
 ·intro h; have:=val_digs x; rw[h] at this; exact this.symm
 ·rintro rfl; exact digs_zero
theorem digs_inj {x y:Nat} (h:digs x=digs y):x=y:=by rw[← val_digs x,h,val_digs]
theorem ok_nil:ok []:=fun _ h=>by cases h
theorem ok_cons {d:Nat} {l:List Nat}:ok (d::l)↔d<B∧ok l:=by simp[ok]
theorem ok_append {a b:List Nat}:ok (a++b)↔ok a∧ok b:=by
 constructor
 ·intro h; exact ⟨fun d hd=>h d (by simp[hd]),fun d hd=>h d (by simp[hd])⟩
 ·rintro ⟨h1,h2⟩ d hd
  rcases List.mem_append.1 hd with hd | hd
  ·exact h1 d hd
  ·exact h2 d hd
theorem ok_take {a:List Nat} (h:ok a) (k:Nat):ok (a.take k):=fun d hd=>h d (List.mem_of_mem_take hd)
theorem ok_drop {a:List Nat} (h:ok a) (k:Nat):ok (a.drop k):=fun d hd=>h d (List.mem_of_mem_drop hd)
theorem ok_set {a:List Nat} (h:ok a) {k x:Nat} (hx:x<B):ok (a.set k x):=fun d hd=>by
 rcases List.mem_or_eq_of_mem_set hd with hd | rfl
 ·exact h d hd
 ·exact hx
theorem ok_rep (n:Nat):ok (List.replicate n 0):=fun d hd=>by
 rw[List.eq_of_mem_replicate hd]; exact B_pos
theorem ok_get {a:List Nat} (h:ok a) {k:Nat} (hk:k<a.length):a[k]<B:=h _ (List.getElem_mem hk)
theorem val_append (a b:List Nat):val (a++b)=val a+B^a.length*val b:=by
 induction a with
 | nil=>simp[val]
 | cons d a ih=>simp only[List.cons_append,val,ih,List.length_cons,Nat.pow_succ,Nat.mul_add]; rw[Nat.mul_comm (B^a.length) B,Nat.mul_assoc]; omega
theorem val_rep (n:Nat):val (List.replicate n 0)=0:=by
 induction n with
 | zero=>rfl
 | succ n ih=>simp[List.replicate_succ,val,ih]
theorem val_lt {a:List Nat} (h:ok a):val a<B^a.length:=by
 induction a with
 | nil=>simp[val]
 | cons d a ih =>
  have h1:=(ok_cons.1 h).1
  have h2:=ih (ok_cons.1 h).2
  simp only[val,List.length_cons,Nat.pow_succ]
  have:B*(val a+1)≤B*B^a.length:=Nat.mul_le_mul_left _ h2
  rw[Nat.mul_add] at this
  rw[Nat.mul_comm (B^a.length)]
  omega
theorem val_lt_of {a:List Nat} (h:ok a) {n:Nat} (hn:a.length≤n):val a<B^n :=
 Nat.lt_of_lt_of_le (val_lt h) (Nat.pow_le_pow_right B_pos hn)
theorem val_split (a:List Nat) (k:Nat):val a=val (a.take k)+B^(min k a.length)*val (a.drop k):=by
 have:=val_append (a.take k) (a.drop k)
 rwa [List.take_append_drop,List.length_take] at this
theorem val_take_succ {a:List Nat} {k:Nat} (hk:k<a.length):val (a.take (k+1))=val (a.take k)+B^k*a[k]:=by
 rw[List.take_succ_eq_append_getElem hk,val_append,List.length_take,Nat.min_eq_left (by omega)]
 simp[val]
theorem val_take {a:List Nat} (h:ok a) {k:Nat} (hk:k≤a.length):val (a.take k)=val a%B^k:=by
 have h1:=val_split a k
 have h2:=val_lt (ok_take h k)
 rw[List.length_take,Nat.min_eq_left hk] at h2
 rw[Nat.min_eq_left hk] at h1
 rw[h1,Nat.add_mul_mod_self_left,Nat.mod_eq_of_lt h2]
theorem val_drop {a:List Nat} (h:ok a) {k:Nat} (hk:k≤a.length):val (a.drop k)=val a/B^k:=by
 have h1:=val_split a k
 have h2:=val_lt (ok_take h k)
 rw[List.length_take,Nat.min_eq_left hk] at h2
 rw[Nat.min_eq_left hk] at h1
 rw[h1,Nat.add_mul_div_left _ _ (pw_pos k),Nat.div_eq_of_lt h2,Nat.zero_add]
theorem get_val {a:List Nat} (h:ok a) {k:Nat} (hk:k<a.length):a[k]=val a/B^k%B:=by
 rw[← val_drop h (by omega),List.drop_eq_getElem_cons hk,val,Nat.add_mul_mod_self_left,Nat.mod_eq_of_lt (ok_get h hk)]
def digsN (n x:Nat):List Nat:=(List.range n).map fun i=>x/B^i%B
theorem digsN_len {n x:Nat}:(digsN n x).length=n:=by simp[digsN]
theorem digsN_get {n x k:Nat} (hk:k<(digsN n x).length):(digsN n x)[k]=x/B^k%B:=by simp[digsN]
theorem ok_digsN {n x:Nat}:ok (digsN n x):=fun d hd=>by
 simp only[digsN,List.mem_map] at hd
 obtain ⟨i,_,rfl⟩:=hd
 exact Nat.mod_lt _ B_pos
theorem digsN_val {a:List Nat} (h:ok a):digsN a.length (val a)=a:=by
 apply List.ext_getElem
 ·simp[digsN]
 ·intro i h1 h2
  rw[digsN_get,← get_val h h2]
theorem digsN_succ {n x:Nat}:digsN (n+1) x=digsN n x++[x/B^n%B]:=by
 simp[digsN,List.range_succ]
theorem val_digsN {n x:Nat}:val (digsN n x)=x%B^n:=by
 induction n with
 | zero=>simp[digsN,val,Nat.mod_one]
 | succ n ih =>
  rw[digsN_succ,val_append,ih,digsN_len,Nat.pow_succ,Nat.mod_mul]
  simp[val]
theorem val_inj {a b:List Nat} (ha:ok a) (hb:ok b) (hl:a.length=b.length) (hv:val a=val b):a=b:=by
 rw[← digsN_val ha,← digsN_val hb,hl,hv]
def fillN (n k S:Nat):List Nat:=digsN k S++List.replicate (n-k) 0
theorem fillN_zero {n S:Nat}:fillN n 0 S=List.replicate n 0:=by simp[fillN,digsN]
theorem fillN_len {n k S:Nat} (hk:k≤n):(fillN n k S).length=n:=by simp[fillN,digsN_len]; omega
theorem fillN_all {n S:Nat}:fillN n n S=digsN n S:=by simp[fillN]
theorem fillN_set {n k S:Nat} (hk:k<n):(fillN n k S).set k (S/B^k%B)=fillN n (k+1) S:=by
 unfold fillN
 obtain ⟨m,hm⟩:∃ m,n-k=m+1:=⟨n-k-1,by omega⟩
 have hm2:n-(k+1)=m:=by omega
 rw[hm,hm2,digsN_succ,List.set_append_right _ _ (by rw[digsN_len]; exact Nat.le_refl _),digsN_len,Nat.sub_self,List.replicate_succ,List.set_cons_zero]
 simp
theorem val_digsN_lt {n x:Nat} (h:x<B^n):val (digsN n x)=x:=by rw[val_digsN,Nat.mod_eq_of_lt h]
theorem digs_of {a:List Nat} (h:ok a) (hn:∀ hk:0<a.length,a[a.length-1]≠0):digs (val a)=a:=by
 induction a with
 | nil=>exact digs_zero
 | cons d a ih =>
  have h1:=ok_cons.1 h
  by_cases ha:a=[]
  ·subst ha
   have:d≠0:=hn (by simp)
   have h2:(d+B*0)=d:=by omega
   simp only[val,h2]
   rw[digs_pos this,Nat.mod_eq_of_lt h1.1,Nat.div_eq_of_lt h1.1,digs_zero]
  ·have hpos:0<a.length:=by
    rcases a with _ | ⟨x,a⟩
    ·exact absurd rfl ha
    ·simp
   have hlast:∀ hk:0<a.length,a[a.length-1]≠0:=fun _=>by
    have:=hn (by simp)
    simp only[List.length_cons,Nat.add_sub_cancel] at this
    rw[List.getElem_cons] at this
    rw[dif_neg (by omega)] at this
    exact this
   have ih:=ih h1.2 hlast
   have hne:val a≠0:=by
    intro h0
    rw[h0,digs_zero] at ih
    exact ha ih.symm
   have h0:d+B*val a≠0:=by
    have:0<B*val a:=Nat.mul_pos B_pos (by omega)
    omega
   simp only[val]
   rw[digs_pos h0,Nat.add_mul_mod_self_left,Nat.mod_eq_of_lt h1.1,Nat.add_mul_div_left _ _ B_pos,Nat.div_eq_of_lt h1.1,Nat.zero_add,ih]
theorem digs_last {x:Nat} (h:0<(digs x).length):(digs x)[(digs x).length-1]≠0:=by
 induction x using Nat.strongRecOn with
 | ind x ih =>
  by_cases h0:x=0
  ·subst h0; rw[digs_zero] at h; simp at h
  ·have e:=digs_pos h0
   by_cases h1:x/B=0
   ·have e2:digs x=[x%B]:=by rw[e,h1,digs_zero]
    simp only[e2,List.length_singleton,Nat.sub_self,List.getElem_cons_zero]
    have:x<B:=by
     rcases Nat.lt_or_ge x B with h | h
     ·exact h
     ·have:=Nat.div_pos h B_pos; omega
    rw[Nat.mod_eq_of_lt this]; exact h0
   ·have hp:0<(digs (x/B)).length:=by
     rw[digs_pos h1]; simp
    have:=ih _ (Nat.div_lt_self (by omega) (by decide)) hp
    simp only[e,List.length_cons,Nat.add_sub_cancel]
    rw[List.getElem_cons,dif_neg (by omega)]
    exact this
theorem digs_len_le {x n:Nat}:(digs x).length≤n↔x<B^n:=by
 constructor
 ·intro h
  have:=val_lt_of (ok_digs x) h
  rwa [val_digs] at this
 ·intro h
  rcases Nat.lt_or_ge n (digs x).length with hlt | hge
  ·exfalso
   have hp:0<(digs x).length:=by omega
   have h1:=digs_last hp
   have h2:=get_val (ok_digs x) (k:=(digs x).length-1) (by omega)
   rw[val_digs] at h2
   have h3:x/B^((digs x).length-1)=0:=by
    apply Nat.div_eq_of_lt
    exact Nat.lt_of_lt_of_le h (Nat.pow_le_pow_right B_pos (by omega))
   rw[h3] at h2
   exact h1 h2
  ·exact hge
theorem digs_len_lt {x n:Nat}:n<(digs x).length↔B^n≤x:=by
 have:=@digs_len_le x n
 omega
theorem take_digs {a:List Nat} (h:ok a) {n:Nat} (hn:n≤a.length) (h0:∀ k (hk:k<a.length),n≤k→a[k]=0) (h1:∀ hk:0<n,a[n-1]'(by omega)≠0):a.take n=digs (val a):=by
 have hz:a.drop n=List.replicate (a.length-n) 0:=by
  apply List.ext_getElem
  ·simp
  ·intro i hi hj
   simp only[List.getElem_drop,List.getElem_replicate]
   exact h0 _ _ (by omega)
 have hv:val a=val (a.take n):=by
  rw[val_split a n,hz,val_rep]; omega
 rw[hv]
 refine (digs_of (ok_take h n) fun hk=>?_).symm
 simp only[List.length_take,Nat.min_eq_left hn] at hk ⊢
 simp only[List.getElem_take]
 exact h1 hk
theorem digs_digs_norm {a:List Nat} (h:ok a):(digs (val a)).length≤a.length:=digs_len_le.2 (val_lt h)
theorem get_digs {x i:Nat} (h:i<(digs x).length):(digs x)[i]=x/B^i%B:=by
 rw[get_val (ok_digs x) h,val_digs]
theorem len_facts {a:List Nat} (h:ok a):(digs (val a)).length≤a.length∧(∀ i (hi:i<a.length),(digs (val a)).length≤i→a[i]=0) ∧
  (∀ (_h0:0<(digs (val a)).length) (h1:(digs (val a)).length-1<a.length),a[(digs (val a)).length-1]≠0)∧a.take (digs (val a)).length=digs (val a):=by
 have h1:=digs_digs_norm h
 have h2:∀ i (hi:i<a.length),(digs (val a)).length≤i→a[i]=0:=fun i hi hle=>by
  rw[get_val h hi]
  have h3:=digs_len_le.1 hle
  rw[Nat.div_eq_of_lt h3]
  rfl
 have h3:∀ (h0:0<(digs (val a)).length) (h1:(digs (val a)).length-1<a.length),a[(digs (val a)).length-1]≠0:=fun h0 h4=>by
  rw[get_val h h4,← get_digs (by omega)]
  exact digs_last h0
 exact ⟨h1,h2,h3,take_digs h h1 (fun k hk hle=>h2 k hk hle) (fun h0=>h3 h0 (by omega))⟩
theorem cmp_of_high {a b:List Nat} (ha:ok a) (_hb:ok b) (hl:a.length=b.length) {k:Nat} (hk:k<a.length) (heq:a.drop (k+1)=b.drop (k+1)) (hlt:a[k]<b[k]'(by omega)):val a<val b:=by
 have e1:=val_split a (k+1)
 have e2:=val_split b (k+1)
 rw[heq] at e1
 rw[Nat.min_eq_left (by omega)] at e1 e2
 have t1:=val_take_succ hk
 have t2:=val_take_succ (a:=b) (k:=k) (by omega)
 have l1:=val_lt (ok_take ha k)
 rw[List.length_take,Nat.min_eq_left (by omega)] at l1
 have:B^k*(a[k]+1)≤B^k*b[k]'(by omega):=Nat.mul_le_mul_left _ hlt
 rw[Nat.mul_add] at this
 omega
theorem lt_of_len {x y:Nat} (h:(digs x).length<(digs y).length):x<y:=by
 have h1:=digs_len_le.1 (Nat.le_refl (digs x).length)
 have h2:=digs_len_lt.1 h
 omega
theorem col_digit {L t R k:Nat}:(L+B^k*t+B^(k+1)*R)/B^k%B=(L/B^k+t)%B:=by
 have:L+B^k*t+B^(k+1)*R=L+B^k*(t+B*R):=by rw[Nat.pow_succ,Nat.mul_add,Nat.mul_assoc]; omega
 rw[this,Nat.add_mul_div_left _ _ (pw_pos k),← Nat.add_assoc,Nat.add_mul_mod_self_left]
theorem col_carry {L t k:Nat}:(L+B^k*t)/B^(k+1)=(L/B^k+t)/B:=by
 rw[Nat.pow_succ,← Nat.div_div_eq_div_mul,Nat.add_mul_div_left _ _ (pw_pos k)]
def bor (x y k:Nat):Nat:=if x%B^k<y%B^k then 1 else 0
theorem bor_le {x y k:Nat}:bor x y k≤1:=by unfold bor; split<;>omega
theorem bor_zero {x y:Nat}:bor x y 0=0:=by simp[bor,Nat.mod_one]
theorem sub_div {x y P:Nat} (hP:0<P) (h:y≤x):(x-y)/P=x/P-y/P-(if x%P<y%P then 1 else 0)∧y/P+(if x%P<y%P then 1 else 0)≤x/P:=by
 have e1:=Nat.div_add_mod x P
 have e2:=Nat.div_add_mod y P
 have l1:=Nat.mod_lt x hP
 have l2:=Nat.mod_lt y hP
 have hq:y/P≤x/P:=Nat.div_le_div_right h
 generalize x/P=a at *
 generalize y/P=b at *
 generalize x%P=r at *
 generalize y%P=s at *
 obtain ⟨c,rfl⟩:∃ c,a=b+c:=⟨a-b,by omega⟩
 rw[Nat.mul_add] at e1
 by_cases hlt:r<s
 ·simp only[hlt,if_true]
  rcases c with _ | c
  ·simp at e1; omega
  ·rw[Nat.mul_add,Nat.mul_one] at e1
   have:x-y=P*c+(P+r-s):=by omega
   rw[this,Nat.mul_add_div hP,Nat.div_eq_of_lt (by omega)]
   omega
 ·simp only[hlt,if_false]
  have:x-y=P*c+(r-s):=by omega
  rw[this,Nat.mul_add_div hP,Nat.div_eq_of_lt (by omega)]
  omega
theorem sub_digit {x y k:Nat} (h:y≤x):(((x-y)/B^k%B:Nat):Int)=((x/B^k%B:Nat)-(y/B^k%B:Nat)-(bor x y k:Nat):Int)%4294967296:=by
 obtain ⟨h1,h2⟩:=sub_div (pw_pos k) h
 have e:(if x%B^k<y%B^k then 1 else 0)=bor x y k:=rfl
 rw[e] at h1 h2
 rw[h1]
 generalize x/B^k=a at *
 generalize y/B^k=b at *
 generalize bor x y k=c at *
 rw[B_eq]
 omega
theorem bor_succ {x y k:Nat}:bor x y (k+1)=if x/B^k%B<y/B^k%B+bor x y k then 1 else 0:=by
 unfold bor
 rw[Nat.pow_succ,Nat.mod_mul,Nat.mod_mul]
 have l1:=Nat.mod_lt x (pw_pos k)
 have l2:=Nat.mod_lt y (pw_pos k)
 generalize x/B^k%B=a
 generalize y/B^k%B=b
 generalize x%B^k=r at *
 generalize y%B^k=s at *
 generalize B^k=P at *
 rcases Nat.lt_trichotomy a b with h | h | h
 ·have:P*(a+1)≤P*b:=Nat.mul_le_mul_left _ h
  rw[Nat.mul_add] at this
  rw[if_pos (by omega),if_pos (by omega)]
 ·subst h
  by_cases hrs:r<s
  ·rw[if_pos (by omega),if_pos (by rw[if_pos hrs]; omega)]
  ·rw[if_neg (by omega),if_neg (by rw[if_neg hrs]; omega)]
 ·have:P*(b+1)≤P*a:=Nat.mul_le_mul_left _ h
  rw[Nat.mul_add] at this
  rw[if_neg (by omega),if_neg (by split<;>omega)]
end Go.Dig

namespace Go.Proofs.Ytbmhibiljjnfiaa
open Go Go.Am Go.Dig
theorem wrap_succ {k:Nat} (h:k<4611686018427387904):IntKind.i64.wrap ((k:Int)+1)=((k+1:Nat):Int):=by
 rw[wrap64]<;>omega
abbrev uv (n:Nat):AV:=.val (.int .u32 (n:Int))
abbrev drows (a:List Nat):List (List AV):=a.map fun d=>[uv d]
abbrev nl (m:Am.Mode) (a:List Nat):AV:=.list 1 m (drows a)
abbrev nD (x:Nat):AV:=nl .plain (digs x)
theorem imp_full {sz:Nat} {rows:List (List AV)}:AV.imp (.list sz .full rows) (.list sz .plain rows):=fun I w v h=>by
 cases h with
 | listNil _ _ a cap hm ho=>exact .listNil _ _ a cap (by simp) (by simp)
 | list _ _ _ b o cap g hcap hm ho hrow hcell hc=>exact .list _ _ _ b o cap g hcap (by simp) (by simp) hrow hcell hc
theorem w32 (n:Nat):IntKind.u32.wrap (n:Int)=((n%B:Nat):Int):=by
 rw[IntKind.wrap_u32,B_eq]; omega
theorem w64 {n:Nat} (h:n<18446744073709551616):IntKind.u64.wrap (n:Int)=n:=IntWalk.u64_in n (by omega)
theorem w64' {n:Int} (h:0≤n) (h2:n<18446744073709551616):IntKind.u64.wrap n=n:=IntWalk.u64_in n (by omega)
end Go.Proofs.Ytbmhibiljjnfiaa

namespace Go.Pb
structure Of where
 b:Int
 w:Nat→Int
 v:Int
structure Pb where
 sup:Nat→Int
 opn:Nat→Int
 cls:Nat→Int
 cl:List Int
 of:List Of
def preS {α:Type} (f:α→Int) (l:List α) (k:Nat):Int:=((l.take k).map f).sum
section
variable {α:Type} {f g:α→Int} {l:List α} {k:Nat} {o:α}
theorem preS_zero:preS f l 0=0:=rfl
theorem take_succ' (h:l[k]?=some o):l.take (k+1)=l.take k++[o]:=by rw[List.take_add_one,h]; rfl
theorem preS_succ (h:l[k]?=some o):preS f l (k+1)=preS f l k+f o:=by
 unfold preS
 rw[take_succ' h,List.map_append,List.sum_append]
 simp
theorem preS_all:preS f l l.length=(l.map f).sum:=by simp[preS]
theorem preS_bound {a b:Int} (h:∀ o∈l,a≤f o∧f o≤b):∀ k,k≤l.length→a*k≤preS f l k∧preS f l k≤b*k
 | 0,_=>by simp[preS]
 | k+1,hk=>by
  have hk':k<l.length:=by omega
  have hg:l[k]?=some l[k]:=by simp[hk']
  obtain ⟨h1,h2⟩:=preS_bound h k (by omega)
  obtain ⟨h3,h4⟩:=h l[k] (List.getElem_mem hk')
  rw[preS_succ hg,Int.natCast_add,Int.mul_add,Int.mul_add]
  omega
theorem sum_bound {a b:Int} (h:∀ o∈l,a≤f o∧f o≤b):a*l.length≤(l.map f).sum∧(l.map f).sum≤b*l.length:=by
 have:=preS_bound h l.length (Nat.le_refl _)
 rwa [preS_all] at this
end
def okB (w:Nat→Int):Prop:=∀ j,j<6→0≤w j∧w j≤4
instance (w:Nat→Int):Decidable (okB w):=by unfold okB; exact inferInstance
def zeroB (w:Nat→Int):Prop:=∀ j,j<6→w j=0
instance (w:Nat→Int):Decidable (zeroB w):=by unfold zeroB; exact inferInstance
def eqB (w u:Nat→Int):Prop:=∀ j,j<6→w j=u j
instance (w u:Nat→Int):Decidable (eqB w u):=by unfold eqB; exact inferInstance
def leB (w u:Nat→Int):Prop:=∀ j,j<6→w j≤u j
instance (w u:Nat→Int):Decidable (leB w u):=by unfold leB; exact inferInstance
def Pb.clOf (P:Pb) (b:Int):Int:=P.cl.getD b.toNat 0
def Pb.rows (P:Pb):Nat:=P.cl.length+12
def Pb.coef (P:Pb) (r:Nat) (o:Of):Int :=
 if r<P.cl.length then (if o.b=r then 1 else 0)
 else if r<P.cl.length+6 then o.w (r-P.cl.length)
 else if P.cls (r-P.cl.length-6)=0∨P.cls (r-P.cl.length-6)=P.clOf o.b then 0 else o.w (r-P.cl.length-6)
def Pb.bnd (P:Pb) (r:Nat):Int :=
 if r<P.cl.length then 1 else if r<P.cl.length+6 then P.sup (r-P.cl.length) else P.opn (r-P.cl.length-6)
def Pb.fits (P:Pb) (l:List Of):Prop:=∀ r,r<P.rows→(l.map (P.coef r)).sum≤P.bnd r
instance (P:Pb) (l:List Of):Decidable (P.fits l):=by unfold Pb.fits; exact inferInstance
def Pb.okC (P:Pb) (j:Nat):Prop:=0≤P.cls j∧P.cls j≤4∧0≤P.opn j∧P.opn j≤P.sup j∧(P.cls j=0→P.opn j=P.sup j)
instance (P:Pb) (j:Nat):Decidable (P.okC j):=by unfold Pb.okC; exact inferInstance
def Pb.okCs (P:Pb):Prop:=∀ j,j<6→P.okC j
instance (P:Pb):Decidable P.okCs:=Nat.decidableBallLT 6 fun j _=>P.okC j
def okCl (c:Int):Prop:=0≤c∧c≤4
instance (c:Int):Decidable (okCl c):=by unfold okCl; exact inferInstance
def Pb.frameE (P:Pb):Int :=
 if ¬ okB P.sup then 4 else if ¬ P.okCs then 4 else if 8<P.cl.length∨160<P.of.length then 3 else if ∀ c∈P.cl,okCl c then 0 else 4
def fldE (n:Nat) (o:Of):Int:=if o.b<0∨(n:Int)≤o.b then 6 else if o.v<1∨1000000<o.v then 4 else if okB o.w then 0 else 4
def Pb.offE (P:Pb) (o:Of):Int:=if fldE P.cl.length o≠0 then fldE P.cl.length o else if zeroB o.w then 4 else if P.fits [o] then 0 else 14
def sameO (o o':Of):Prop:=o.b=o'.b∧eqB o.w o'.w
instance (o o':Of):Decidable (sameO o o'):=by unfold sameO; exact inferInstance
def Pb.offI (P:Pb) (i:Nat) (o:Of):Int:=if P.offE o≠0 then P.offE o else if ∃ o'∈P.of.take i,sameO o' o then 7 else 0
def Pb.chkL (P:Pb):Nat→Int
 | 0=>0
 | i+1=>if P.chkL i=0 then (match P.of[i]? with | some o=>P.offI i o | none=>0) else P.chkL i
def Pb.chk (P:Pb):Int:=if P.frameE=0 then P.chkL P.of.length else P.frameE
section
variable {P:Pb}
theorem chkL_stay {i:Nat} (h:P.chkL i≠0):∀ d,P.chkL (i+d)=P.chkL i
 | 0=>rfl
 | d+1=>by
  have:=chkL_stay h d
  rw[← Nat.add_assoc,Pb.chkL,this,if_neg h]
theorem chkL_first {i k:Nat} {o:Of} (h0:P.chkL i=0) (hi:P.of[i]?=some o) (he:P.offI i o≠0) (hk:i<k):P.chkL k=P.offI i o:=by
 have h1:P.chkL (i+1)=P.offI i o:=by rw[Pb.chkL,if_pos h0,hi]
 have h2:=chkL_stay (P:=P) (i:=i+1) (by rw[h1]; exact he) (k-(i+1))
 rw[show i+1+(k-(i+1))=k by omega] at h2
 rw[h2,h1]
theorem chkL_next {i:Nat} {o:Of} (h0:P.chkL i=0) (hi:P.of[i]?=some o) (he:P.offI i o=0):P.chkL (i+1)=0:=by rw[Pb.chkL,if_pos h0,hi]; exact he
theorem chkL_zero {k:Nat} (h:P.chkL k=0):∀ i o,i<k→P.of[i]?=some o→P.offI i o=0:=by
 induction k with
 | zero=>intro i o hi; omega
 | succ k ih =>
  have hk:P.chkL k=0:=by
   rw[Pb.chkL] at h
   split at h
   ·rename_i h0; exact h0
   ·exact h
  intro i o hi ho
  by_cases e:i=k
  ·subst e
   rw[Pb.chkL,if_pos hk,ho] at h
   exact h
  ·exact ih hk i o (by omega) ho
structure Pb.Good (P:Pb):Prop where
 sup:okB P.sup
 set:P.okCs
 n:P.cl.length≤8
 k:P.of.length≤160
 cl:∀ c∈P.cl,okCl c
 off:∀ o∈P.of,P.offE o=0
 new:∀ (i l:Nat) o o',l<i→P.of[i]?=some o→P.of[l]?=some o'→¬ sameO o' o
theorem chk_good (h:P.chk=0):P.Good:=by
 unfold Pb.chk at h
 split at h
 ·rename_i hf
  unfold Pb.frameE at hf
  split at hf
  ·cases hf
  ·rename_i h1
   split at hf
   ·cases hf
   ·rename_i h2
    split at hf
    ·cases hf
    ·rename_i h3
     split at hf
     ·rename_i h4
      have hz:=chkL_zero h
      refine ⟨Decidable.not_not.1 h1,Decidable.not_not.1 h2,by omega,by omega,h4,fun o ho=>?_,fun i l o o' hl hi hlo hs=>?_⟩
      ·obtain ⟨i,hi,rfl⟩:=List.getElem_of_mem ho
       have:=hz i P.of[i] hi (by simp[hi])
       unfold Pb.offI at this
       split at this
       ·exact this
       ·rename_i h5; exact Decidable.not_not.1 h5
      ·have hi':i<P.of.length:=(List.getElem?_eq_some_iff.1 hi).1
       have:=hz i o hi' hi
       unfold Pb.offI at this
       split at this
       ·rename_i h5; exact h5 this
       ·rw[if_pos ⟨o',List.mem_of_getElem? (i:=l) (by rw[List.getElem?_take,if_pos hl]; exact hlo),hs⟩] at this
        cases this
     ·cases hf
 ·rename_i hf; exact absurd h hf
theorem off_sim {o:Of} (h:P.offE o=0):fldE P.cl.length o=0∧¬ zeroB o.w∧P.fits [o]:=by
 unfold Pb.offE at h
 split at h
 ·rename_i h1; exact absurd h h1
 ·rename_i h1
  split at h
  ·cases h
  ·rename_i h2
   split at h
   ·rename_i h3; exact ⟨Decidable.not_not.1 h1,h2,h3⟩
   ·cases h
theorem sim_ok {n:Nat} {o:Of} (h:fldE n o=0):(0≤o.b∧o.b<n)∧(1≤o.v∧o.v≤1000000)∧okB o.w:=by
 unfold fldE at h
 split at h
 ·cases h
 ·rename_i h1
  split at h
  ·cases h
  ·rename_i h2
   split at h
   ·rename_i h3; exact ⟨by omega,by omega,h3⟩
   ·cases h
theorem coef_ok {r:Nat} {o:Of} (hw:okB o.w) (hr:r<P.rows):0≤P.coef r o∧P.coef r o≤4:=by
 unfold Pb.rows at hr
 unfold Pb.coef
 split
 ·split<;>omega
 ·split
  ·exact hw _ (by omega)
  ·split
   ·omega
   ·exact hw _ (by omega)
end
end Go.Pb

namespace Go.Proofs.Ytbmhibiljjnfiaa
open Go Go.Am Go.Pb
def bI (w:Nat→Int):List Int:=[w 0,w 1,w 2,w 3,w 4,w 5]
@[irreducible] def bC (w:Nat→Int):List AV:=(bI w).map iv
theorem bC_eq (w:Nat→Int):bC w=[iv (w 0),iv (w 1),iv (w 2),iv (w 3),iv (w 4),iv (w 5)]:=by unfold bC; rfl
section
variable {w u:Nat→Int} {k l a b M:Nat} {e:Entry}
@[simp] theorem bC_len:(bC w).length=6:=by rw[bC_eq]; rfl
@[simp] theorem bC_rf:(bC w).all rf=true:=by rw[bC_eq]; rfl
theorem bC_mem {x:AV} (h:x∈bC w):∃ n,x=iv n:=by
 unfold bC at h
 obtain ⟨n,_,rfl⟩:=List.mem_map.1 h
 exact ⟨n,rfl⟩
@[simp] theorem bC_mem_rf:(∀ x,x∈bC w→rf x=true)=True:=eq_true fun x h=>by obtain ⟨n,rfl⟩:=bC_mem h; rfl
@[simp] theorem bC_strip:(bC w).map strip=bC w:=by rw[bC_eq]; rfl
@[simp] theorem bC_dg:(bC w).map (dg l)=bC w:=by rw[bC_eq]; simp
@[simp] theorem bC_ref:anyRef k (bC w)=false:=by rw[bC_eq]; simp
theorem bC_get (h:k<6):(bC w)[k]?=some (iv (w k)):=by
 rw[bC_eq]
 match k,h with
 | 0,_=>rfl
 | 1,_=>rfl
 | 2,_=>rfl
 | 3,_=>rfl
 | 4,_=>rfl
 | 5,_=>rfl
 | n+6,h=>omega
@[simp] theorem bC_getE {h:k<(bC w).length}:(bC w)[k]=iv (w k):=by
 have h2:k<6:=by simpa using h
 have:=bC_get (w:=w) h2
 rw[List.getElem?_eq_getElem h] at this
 exact Option.some.inj this
@[simp] theorem goLoad_bC:goLoad (bC w) 0 (some 6)=some (.agg (bC w)):=by rw[goLoad_all bC_len bC_rf,bC_strip]
theorem goLoad_bk (h:k<6):goLoad (bC w) k none=some (iv (w k)):=by
 simp[goLoad,bC_get h]
theorem partA_bk (h:k<6):partA (bC w) k none=some (iv (w k)):=by
 simp[partA,bC_get h]
@[simp] theorem isInts_bC:isInts 6 (bC w)=true:=by unfold bC; rw[isInts_map]; rfl
@[simp] theorem intsA_bC:intsA (bC w)=bI w:=by unfold bC; exact intsA_map _
theorem bI_eq:(bI w=bI u)↔eqB w u:=by
 unfold bI eqB
 constructor
 ·intro h j hj
  simp only[List.cons.injEq,and_true] at h
  obtain ⟨h0,h1,h2,h3,h4,h5⟩:=h
  match j,hj with
  | 0,_=>exact h0
  | 1,_=>exact h1
  | 2,_=>exact h2
  | 3,_=>exact h3
  | 4,_=>exact h4
  | 5,_=>exact h5
  | n+6,h=>omega
 ·intro h
  rw[h 0 (by omega),h 1 (by omega),h 2 (by omega),h 3 (by omega),h 4 (by omega),h 5 (by omega)]
end
@[irreducible] def oC (o:Of):List AV:=iv o.b::(bC o.w++[iv o.v])
theorem oC_eq (o:Of):oC o=[iv o.b,iv (o.w 0),iv (o.w 1),iv (o.w 2),iv (o.w 3),iv (o.w 4),iv (o.w 5),iv o.v]:=by unfold oC; rw[bC_eq]; rfl
section
variable {o:Of} {k l:Nat}
@[simp] theorem oC_len:(oC o).length=8:=by rw[oC_eq]; rfl
@[simp] theorem oC_rf:(oC o).all rf=true:=by rw[oC_eq]; rfl
@[simp] theorem oC_mem_rf:(∀ x,x∈oC o→rf x=true)=True:=eq_true fun x h=>List.all_eq_true.1 oC_rf x h
@[simp] theorem oC_strip:(oC o).map strip=oC o:=by rw[oC_eq]; rfl
@[simp] theorem oC_dg:(oC o).map (dg l)=oC o:=by rw[oC_eq]; simp
@[simp] theorem oC_ref:anyRef k (oC o)=false:=by rw[oC_eq]; simp
@[simp] theorem oC_0:(oC o)[0]?=some (iv o.b):=by rw[oC_eq]; rfl
@[simp] theorem oC_7:(oC o)[7]?=some (iv o.v):=by rw[oC_eq]; rfl
@[simp] theorem oC_0E {h:0<(oC o).length}:(oC o)[0]=iv o.b:=by have:=oC_0 (o:=o); rw[List.getElem?_eq_getElem h] at this; exact Option.some.inj this
@[simp] theorem oC_7E {h:7<(oC o).length}:(oC o)[7]=iv o.v:=by have:=oC_7 (o:=o); rw[List.getElem?_eq_getElem h] at this; exact Option.some.inj this
theorem oC_get (h:k<6):(oC o)[1+k]?=some (iv (o.w k)):=by
 rw[oC_eq]
 match k,h with
 | 0,_=>rfl
 | 1,_=>rfl
 | 2,_=>rfl
 | 3,_=>rfl
 | 4,_=>rfl
 | 5,_=>rfl
 | n+6,h=>omega
@[simp] theorem goLoad_oC:goLoad (oC o) 0 (some 8)=some (.agg (oC o)):=by rw[goLoad_all oC_len oC_rf,oC_strip]
@[simp] theorem goLoad_oC0:goLoad (oC o) 0 none=some (iv o.b):=by simp[goLoad]
@[simp] theorem goLoad_oC7:goLoad (oC o) 7 none=some (iv o.v):=by simp[goLoad]
@[simp] theorem goLoad_oCw:goLoad (oC o) 1 (some 6)=some (.agg (bC o.w)):=by rw[oC_eq,bC_eq]; rfl
theorem goLoad_oCk (h:k<6):goLoad (oC o) (1+k) none=some (iv (o.w k)):=by simp[goLoad,oC_get h]
theorem oC_splice {r:List AV} (h:r.length=8):splice r 0 (oC o)=oC o:=by
 unfold splice
 rw[List.take_zero,List.nil_append,Nat.zero_add,oC_len,List.drop_of_length_le (by omega),List.append_nil]
end
def clR (l:List Int):List (List AV):=l.map fun c=>[iv c]
abbrev clA (l:List Int):AV:=.list 1 .plain (clR l)
def ofR (l:List Of):List (List AV):=l.map oC
abbrev ofA (l:List Of):AV:=.list 8 .plain (ofR l)
section
variable {l:List Int} {L:List Of} {k:Nat} {c:Int} {o:Of}
@[simp] theorem clR_len:(clR l).length=l.length:=by simp[clR]
@[simp] theorem clR_rf:rowsRf (clR l)=true:=by simp[clR,rowsRf]
@[simp] theorem clR_st:rowsSt (clR l)=clR l:=by simp[clR,rowsSt]
@[simp] theorem ofR_len:(ofR L).length=L.length:=by simp[ofR]
@[simp] theorem ofR_rf:rowsRf (ofR L)=true:=by simp[ofR,rowsRf]
@[simp] theorem ofR_st:rowsSt (ofR L)=ofR L:=by simp[ofR,rowsSt]
end
@[irreducible] def pbX (P:Pb) (c o:AV):List AV:=bC P.sup++bC P.opn++bC P.cls++[c,o]
theorem pbX_eq (P:Pb) (c o:AV):pbX P c o=[iv (P.sup 0),iv (P.sup 1),iv (P.sup 2),iv (P.sup 3),iv (P.sup 4),iv (P.sup 5),iv (P.opn 0),iv (P.opn 1),iv (P.opn 2),iv (P.opn 3),iv (P.opn 4),iv (P.opn 5),
  iv (P.cls 0),iv (P.cls 1),iv (P.cls 2),iv (P.cls 3),iv (P.cls 4),iv (P.cls 5),c,o]:=by unfold pbX; rw[bC_eq,bC_eq,bC_eq]; rfl
abbrev pbC (P:Pb):List AV:=pbX P (clA P.cl) (ofA P.of)
section
variable {P:Pb} {c o:AV} {k l:Nat}
@[simp] theorem pbX_len:(pbX P c o).length=20:=by rw[pbX_eq]; rfl
theorem pbX_rf (hc:rf c=true) (ho:rf o=true):(pbX P c o).all rf=true:=by rw[pbX_eq]; simp[hc,ho]
@[simp] theorem pbC_rf:(pbC P).all rf=true:=pbX_rf rfl rfl
@[simp] theorem pbC_mem_rf:(∀ x,x∈pbC P→rf x=true)=True:=eq_true fun x h=>List.all_eq_true.1 pbC_rf x h
@[simp] theorem pbX_strip:(pbX P c o).map strip=pbX P (strip c) (strip o):=by rw[pbX_eq,pbX_eq]; rfl
@[simp] theorem pbX_dg:(pbX P c o).map (dg l)=pbX P (dg l c) (dg l o):=by rw[pbX_eq,pbX_eq]; simp
@[simp] theorem pbX_ref:anyRef k (pbX P c o)=(refsTo k c||refsTo k o):=by rw[pbX_eq]; simp[anyRef]
@[simp] theorem goLoad_pbC:goLoad (pbC P) 0 (some 20)=some (.agg (pbC P)):=by rw[goLoad_all pbX_len pbC_rf,pbX_strip]; rfl
@[simp] theorem goLoad_sup:goLoad (pbX P c o) 0 (some 6)=some (.agg (bC P.sup)):=by rw[pbX_eq,bC_eq]; rfl
@[simp] theorem goLoad_opn:goLoad (pbX P c o) 6 (some 6)=some (.agg (bC P.opn)):=by rw[pbX_eq,bC_eq]; rfl
@[simp] theorem goLoad_cls:goLoad (pbX P c o) 12 (some 6)=some (.agg (bC P.cls)):=by rw[pbX_eq,bC_eq]; rfl
@[simp] theorem pbX_18:(pbX P c o)[18]?=some c:=by rw[pbX_eq]; rfl
@[simp] theorem pbX_19:(pbX P c o)[19]?=some o:=by rw[pbX_eq]; rfl
@[simp] theorem goLoad_18:goLoad (pbX P c o) 18 none=some c:=by rw[pbX_eq]; rfl
@[simp] theorem goLoad_19:goLoad (pbX P c o) 19 none=some o:=by rw[pbX_eq]; rfl
@[simp] theorem pbX_18E {h:18<(pbX P c o).length}:(pbX P c o)[18]=c:=by have:=pbX_18 (P:=P) (c:=c) (o:=o); rw[List.getElem?_eq_getElem h] at this; exact Option.some.inj this
@[simp] theorem pbX_19E {h:19<(pbX P c o).length}:(pbX P c o)[19]=o:=by have:=pbX_19 (P:=P) (c:=c) (o:=o); rw[List.getElem?_eq_getElem h] at this; exact Option.some.inj this
theorem goLoad_supk (h:k<6):goLoad (pbX P c o) k none=some (iv (P.sup k)):=by
 rw[pbX_eq]
 match k,h with
 | 0,_=>rfl
 | 1,_=>rfl
 | 2,_=>rfl
 | 3,_=>rfl
 | 4,_=>rfl
 | 5,_=>rfl
 | n+6,h=>omega
theorem goLoad_opnk (h:k<6):goLoad (pbX P c o) (6+k) none=some (iv (P.opn k)):=by
 rw[pbX_eq]
 match k,h with
 | 0,_=>rfl
 | 1,_=>rfl
 | 2,_=>rfl
 | 3,_=>rfl
 | 4,_=>rfl
 | 5,_=>rfl
 | n+6,h=>omega
theorem goLoad_clsk (h:k<6):goLoad (pbX P c o) (12+k) none=some (iv (P.cls k)):=by
 rw[pbX_eq]
 match k,h with
 | 0,_=>rfl
 | 1,_=>rfl
 | 2,_=>rfl
 | 3,_=>rfl
 | 4,_=>rfl
 | 5,_=>rfl
 | n+6,h=>omega
theorem pbX_supk (h:k<6):(pbX P c o)[k]?=some (iv (P.sup k)):=by have:=goLoad_supk (P:=P) (c:=c) (o:=o) h; simpa [goLoad] using this
theorem pbX_opnk (h:k<6):(pbX P c o)[6+k]?=some (iv (P.opn k)):=by have:=goLoad_opnk (P:=P) (c:=c) (o:=o) h; simpa [goLoad] using this
theorem pbX_clsk (h:k<6):(pbX P c o)[12+k]?=some (iv (P.cls k)):=by have:=goLoad_clsk (P:=P) (c:=c) (o:=o) h; simpa [goLoad] using this
theorem pbX_splice {r:List AV} (h:r.length=20):splice r 0 (pbX P c o)=pbX P c o:=by
 unfold splice
 rw[List.take_zero,List.nil_append,Nat.zero_add,pbX_len,List.drop_of_length_le (by omega),List.append_nil]
@[simp] theorem pbX_set18 {x:AV}:splice (pbX P c o) 18 [x]=pbX P x o:=by rw[pbX_eq,pbX_eq]; rfl
@[simp] theorem pbX_set19 {x:AV}:splice (pbX P c o) 19 [x]=pbX P c x:=by rw[pbX_eq,pbX_eq]; rfl
end
end Go.Proofs.Ytbmhibiljjnfiaa

namespace Go.Proofs.Ytbmhibiljjnfiaa
open Go Go.Am Go.Pb
def stBc (w:Nat→Int) (k:Nat):St:={env:=[(5,.agg (bC w)),(6,iv k)],sto:=[]}
theorem bcheck_s {w:Nat→Int}:SoundCall Try.prog F_bundle_Check [.agg (bC w)] (iv (if okB w then 0 else 4)):=by
 refine sound' t_bundle_Check (by simp) ?_
 simp[c_bundle_Check]
 refine awp_forW (stBc w) (fun i=>∀ j,j<i→0≤w j∧w j≤4) 6 (by simp[stBc]) (fun j hj=>by omega) (fun i hi hI=>?_) (fun hI=>?_)
 ·have e:(i:Int)<6:=by omega
  have w1:=wrap_succ (k:=i) (by omega)
  by_cases c1:w i<0
  ·rw[if_neg fun h=>by have:=h i hi; omega]
   simp[c_bundle_Check_l0,stBc,e,partA_bk hi,c1,r_bundle_Check]
  ·by_cases c2:4<w i
   ·rw[if_neg fun h=>by have:=h i hi; omega]
    simp[c_bundle_Check_l0,stBc,e,partA_bk hi,c1,c2,r_bundle_Check]
   ·simp[c_bundle_Check_l0,stBc,e,partA_bk hi,c1,c2,w1]
    exact fun j hj=>by
     by_cases e:j=i
     ·subst e; omega
     ·exact hI j (by omega)
 ·rw[if_pos (show okB w from hI)]
  simp[c_bundle_Check_l0,stBc,c_bundle_Check_k1,r_bundle_Check]
end Go.Proofs.Ytbmhibiljjnfiaa

namespace Go.Proofs.Ytbmhibiljjnfiaa
open Go Go.Am Go.Pb
section
variable {P:Pb} {r n:Nat} {o:Of}
theorem clOf_get (h:0≤o.b∧o.b<P.cl.length):∃ b:Nat,o.b=b∧b<P.cl.length∧P.cl[b]?=some (P.clOf o.b):=by
 refine ⟨o.b.toNat,by omega,by omega,?_⟩
 unfold Pb.clOf
 have h2:o.b.toNat<P.cl.length:=by omega
 rw[List.getD_eq_getElem?_getD,List.getElem?_eq_getElem h2]
 rfl
@[simp] theorem clR_getE {l:List Int} {b:Nat} {h:b<(clR l).length}:(clR l)[b]=[iv (l[b]'(by simpa using h))]:=by simp[clR]
theorem coef_s (hn:P.cl.length≤1000) (hb:0≤o.b∧o.b<P.cl.length) (hr:r<P.rows):SoundCall Try.prog F__problem_view__coef [.agg (pbC P),iv r,.agg (oC o)] (iv (P.coef r o)):=by
 unfold Pb.rows at hr
 obtain ⟨n,hn'⟩:∃ n,P.cl.length=n:=⟨_,rfl⟩
 have w1:IntKind.i64.wrap ((r:Int)-n)=(r:Int)-n:=by rw[wrap64]<;>omega
 refine sound' t__problem_view__coef (by simp) ?_
 unfold Pb.coef
 rw[hn'] at hr hb hn ⊢
 by_cases h1:r<n
 ·rw[if_pos h1]
  have c1:((r:Int)-n)<0:=by omega
  by_cases h2:o.b=r
  ·rw[if_pos h2]
   simp[c__problem_view__coef,hn',w1,c1,h2,r__problem_view__coef]
  ·rw[if_neg h2]
   simp[c__problem_view__coef,hn',w1,c1,h2,r__problem_view__coef]
 ·rw[if_neg h1]
  have c1:¬ ((r:Int)-n)<0:=by omega
  obtain ⟨k,hk⟩:∃ k,r=n+k:=⟨r-n,by omega⟩
  have e1:(r:Int)-n=k:=by omega
  have e2:r-n=k:=by omega
  rw[e1] at w1 c1
  by_cases h2:k<6
  ·rw[if_pos (by omega),e2]
   have c2:(k:Int)<6:=by omega
   simp[c__problem_view__coef,hn',e1,w1,c1,c2,oC_get h2,r__problem_view__coef]
  ·obtain ⟨j,hj0⟩:∃ j,k=6+j:=⟨k-6,by omega⟩
   rw[if_neg (by omega),e2,show k-6=j by omega]
   have c2:¬ (k:Int)<6:=by omega
   have hj:j<6:=by omega
   have hj':(j:Int)<6:=by omega
   have e3:(k:Int)-6=j:=by omega
   have w2:IntKind.i64.wrap (j:Int)=j:=by rw[wrap64]<;>omega
   obtain ⟨b,hb1,hb2,hb3⟩:=clOf_get (P:=P) (o:=o) (by rw[hn']; exact hb)
   have hbn:(b:Int)<n:=by omega
   have hbn':b<n:=by omega
   have hc:P.cl[b]?=some (P.clOf (b:Int)):=by rw[← hb1]; exact hb3
   have hE:P.cl[b]=P.clOf (b:Int):=by rw[List.getElem?_eq_getElem hb2] at hc; exact Option.some.inj hc
   rw[hb1]
   by_cases h3:P.cls j=0
   ·rw[if_pos (.inl h3)]
    simp[c__problem_view__coef,hn',e1,w1,c1,c2,e3,w2,hj',pbX_clsk hj,h3,r__problem_view__coef]
   ·by_cases h4:P.cls j=P.clOf (b:Int)
    ·rw[if_pos (.inr h4)]
     rw[h4] at h3
     simp[c__problem_view__coef,hn',e1,w1,c1,c2,e3,w2,hj',pbX_clsk hj,h3,hb1,hbn,hbn',hE,h4,r__problem_view__coef]
    ·rw[if_neg (by intro h; exact h.elim h3 h4)]
     simp[c__problem_view__coef,hn',e1,w1,c1,c2,e3,w2,hj',pbX_clsk hj,h3,hb1,hbn,hbn',hE,h4,goLoad_oCk hj,r__problem_view__coef]
end
end Go.Proofs.Ytbmhibiljjnfiaa

namespace Go.Proofs.Ytbmhibiljjnfiaa
open Go Go.Am Go.Pb
section
variable {P:Pb} {r n:Nat} {o:Of} {L:List Of}
theorem rows_s (hn:P.cl.length≤1000):SoundCall Try.prog F__problem_view__rows [.agg (pbC P)] (iv P.rows):=by
 refine sound' t__problem_view__rows (by simp) ?_
 have w1:IntKind.i64.wrap ((P.cl.length:Int)+12)=(P.cl.length:Int)+12:=by rw[wrap64]<;>omega
 have e:((P.rows:Nat):Int)=(P.cl.length:Int)+12:=by unfold Pb.rows; omega
 rw[e]
 simp[c__problem_view__rows,w1,r__problem_view__rows]
theorem bound_s (hn:P.cl.length≤1000) (hr:r<P.rows):SoundCall Try.prog F__problem_view__bound [.agg (pbC P),iv r] (iv (P.bnd r)):=by
 unfold Pb.rows at hr
 obtain ⟨n,hn'⟩:∃ n,P.cl.length=n:=⟨_,rfl⟩
 have w1:IntKind.i64.wrap ((r:Int)-n)=(r:Int)-n:=by rw[wrap64]<;>omega
 refine sound' t__problem_view__bound (by simp) ?_
 unfold Pb.bnd
 rw[hn'] at hr hn ⊢
 by_cases h1:r<n
 ·rw[if_pos h1]
  have c1:((r:Int)-n)<0:=by omega
  simp[c__problem_view__bound,hn',w1,c1,r__problem_view__bound]
 ·rw[if_neg h1]
  have c1:¬ ((r:Int)-n)<0:=by omega
  obtain ⟨k,hk⟩:∃ k,r=n+k:=⟨r-n,by omega⟩
  have e1:(r:Int)-n=k:=by omega
  have e2:r-n=k:=by omega
  rw[e1] at w1 c1
  by_cases h2:k<6
  ·rw[if_pos (by omega),e2]
   have c2:(k:Int)<6:=by omega
   simp[c__problem_view__bound,hn',e1,w1,c1,c2,pbX_supk h2,r__problem_view__bound]
  ·obtain ⟨j,hj0⟩:∃ j,k=6+j:=⟨k-6,by omega⟩
   rw[if_neg (by omega),e2,show k-6=j by omega]
   have c2:¬ (k:Int)<6:=by omega
   have hj:j<6:=by omega
   have hj':(j:Int)<6:=by omega
   have e3:(k:Int)-6=j:=by omega
   have w2:IntKind.i64.wrap (j:Int)=j:=by rw[wrap64]<;>omega
   simp[c__problem_view__bound,hn',e1,w1,c1,c2,e3,w2,hj',pbX_opnk hj,r__problem_view__bound]
end
end Go.Proofs.Ytbmhibiljjnfiaa

namespace Go.Proofs.Ytbmhibiljjnfiaa
open Go Go.Am Go.Pb
def stFt (P:Pb) (L:List Of) (r:Nat):St:={env:=[(1,ofA L),(2,.ptr 2 0),(5,.fn (.func F__problem_view__coef) []),(11,iv P.rows),(12,iv r)],sto:=[(2,.var (pbC P))]}
def stFi (P:Pb) (L:List Of) (r k:Nat):St :=
 {env:=[(1,ofA L),(2,.ptr 2 0),(5,.fn (.func F__problem_view__coef) []),(6,iv r),(7,iv (preS (P.coef r) L k)),(11,iv P.rows),(12,iv r),(15,ofA L),(16,iv L.length),(17,iv k)],sto:=[(2,.var (pbC P))]}
@[simp] theorem ofR_getE {l:List Of} {b:Nat} {h:b<(ofR l).length}:(ofR l)[b]=oC (l[b]'(by simpa using h)):=by simp[ofR]
section
variable {P:Pb} {r n:Nat} {o:Of} {L:List Of}
theorem fits_s (hn:P.cl.length≤1000) (hL:L.length≤1000) (hb:∀ o∈L,0≤o.b∧o.b<P.cl.length) (hw:∀ o∈L,okB o.w):SoundCall Try.prog F__problem_view__fits [.agg (pbC P),ofA L] (bv (decide (P.fits L))):=by
 have hok:okFn Try.prog F__problem_view__coef=true:=by kernel_rfl
 have hR:P.rows≤1012:=by unfold Pb.rows; omega
 refine sound' t__problem_view__fits (by simp) ?_
 simp[c__problem_view__fits]
 refine eCall_i (rows_s hn) (by simp) (by simp) ?_
 simp
 refine awp_forW (stFt P L) (fun r=>∀ q,q<r→(L.map (P.coef q)).sum≤P.bnd q) P.rows (by simp[stFt]) (fun q hq=>by omega) (fun r hr hI=>?_) (fun hI=>?_)
 ·have e:(r:Int)<P.rows:=by omega
  have w1:=wrap_succ (k:=r) (by omega)
  simp[c__problem_view__fits_l3,stFt,e]
  refine awp_forW (stFi P L r) (fun _=>True) L.length (by simp[stFi,preS_zero]) trivial (fun k hk _=>?_) (fun _=>?_)
  ·have e':(k:Int)<L.length:=by omega
   have hg:L[k]?=some L[k]:=by simp[hk]
   have hm:L[k]∈L:=List.getElem_mem hk
   have w2:=wrap_succ (k:=k) (by omega)
   obtain ⟨p1,p2⟩:=preS_bound (f:=P.coef r) (fun o ho=>coef_ok (P:=P) (hw o ho) hr) k (by omega)
   obtain ⟨p3,p4⟩:=coef_ok (P:=P) (hw _ hm) hr
   have w3:IntKind.i64.wrap (preS (P.coef r) L k+P.coef r L[k])=preS (P.coef r) L k+P.coef r L[k]:=by rw[wrap64]<;>omega
   have hs:=preS_succ (f:=P.coef r) hg
   simp[c__problem_view__fits_l0,stFi,e',hk,hok]
   refine eCall_i (coef_s hn (hb _ hm) hr) (by simp) (by simp) ?_
   simp[w2,w3,hs,stFi]
  ·have hall:preS (P.coef r) L L.length=(L.map (P.coef r)).sum:=preS_all
   simp[c__problem_view__fits_l0,stFi,c__problem_view__fits_k1]
   refine eCall_i (bound_s hn hr) (by simp) (by simp) ?_
   by_cases hc:P.bnd r<(L.map (P.coef r)).sum
   ·have hf:¬ P.fits L:=fun h=>by have:=h r hr; omega
    simp[hall,hc,hf,r__problem_view__fits]
   ·simp[hall,hc,c__problem_view__fits_k2,w1,stFt]
    exact fun q hq=>by
     by_cases eq:q=r
     ·subst eq; omega
     ·exact hI q (by omega)
 ·have hf:P.fits L:=hI
  simp[c__problem_view__fits_l3,stFt,hf,c__problem_view__fits_k4,r__problem_view__fits]
end
end Go.Proofs.Ytbmhibiljjnfiaa

namespace Go.Proofs.Ytbmhibiljjnfiaa
open Go Go.Am Go.Pb
section
variable {P:Pb} {r n:Nat} {o:Of} {L:List Of}
theorem simple_s:SoundCall Try.prog F_problem_simple [iv n,.agg (oC o)] (iv (fldE n o)):=by
 refine sound' t_problem_simple (by simp) ?_
 unfold fldE
 by_cases c1:o.b<0
 ·rw[if_pos (.inl c1)]
  simp[c_problem_simple,c1,r_problem_simple]
 ·by_cases c2:(n:Int)≤o.b
  ·rw[if_pos (.inr c2)]
   simp[c_problem_simple,c1,c2,r_problem_simple]
  ·rw[if_neg (by omega)]
   by_cases c3:o.v<1
   ·rw[if_pos (.inl c3)]
    simp[c_problem_simple,c1,c2,c3,r_problem_simple]
   ·by_cases c4:1000000<o.v
    ·rw[if_pos (.inr c4)]
     simp[c_problem_simple,c1,c2,c3,c4,r_problem_simple]
    ·rw[if_neg (by omega)]
     simp[c_problem_simple,c1,c2,c3,c4]
     refine eCall_i (bcheck_s (w:=o.w)) (by simp) (by simp) ?_
     simp[r_problem_simple]
theorem imp_q2 {f:FuncId} {x y y' r:AV} (h:SoundCall Try.prog f [x,y'] r) (hy:AV.imp y y'):SoundCall Try.prog f [x,y] r:=fun I vs w h1 h2 h3 =>
 h I vs w h1 h2 fun i a hi=>by
  match i,hi with
  | 0,hi=>exact h3 0 a hi
  | 1,hi=>simp at hi; subst hi; exact hy _ _ _ (h3 1 y rfl)
  | i+2,hi=>simp at hi
theorem bC_zero:[iv 0,iv 0,iv 0,iv 0,iv 0,iv 0]=bC (fun _=>0):=by rw[bC_eq]
theorem offer_s (hn:P.cl.length≤1000):SoundCall Try.prog F__problem_view__offer [.agg (pbC P),.agg (oC o)] (iv (P.offE o)):=by
 have hk:kds Try.prog Op.maxDepth T_api_Bundle=some (List.replicate 6 (.i .i64)):=by kernel_rfl
 have hg:Try.prog.eqGuardType Try.prog.depth T_api_Bundle=false:=by kernel_rfl
 have hA:agT Try.prog T_api_Bundle=true:=by kernel_rfl
 have hz:decide (bI o.w=bI (fun _=>0))=decide (zeroB o.w):=by
  rw[decide_eq_decide,bI_eq]
  exact Iff.rfl
 refine sound' t__problem_view__offer (by simp) ?_
 simp[c__problem_view__offer]
 refine eCall_i (simple_s (n:=P.cl.length) (o:=o)) (by simp) (by simp) ?_
 unfold Pb.offE
 by_cases c1:fldE P.cl.length o=0
 ·obtain ⟨hb,_,hw⟩:=sim_ok c1
  rw[if_neg (fun h=>h c1)]
  simp[c1,bC_zero]
  rw[eBin_eql_ints hk hg hA isInts_bC isInts_bC]
  by_cases c2:zeroB o.w
  ·rw[if_pos c2]
   simp[hz,c2,r__problem_view__offer]
  ·rw[if_neg c2]
   simp[hz,c2]
   have hf:=fits_s (P:=P) (L:=[o]) hn (by simp) (fun x hx=>by rw[List.mem_singleton.1 hx]; exact hb) (fun x hx=>by rw[List.mem_singleton.1 hx]; exact hw)
   refine eCall_i (imp_q2 hf (imp_full (rows:=[oC o]))) (by simp) (by simp) ?_
   by_cases c3:P.fits [o]
   ·simp[c3,r__problem_view__offer]
   ·simp[c3,r__problem_view__offer]
 ·rw[if_pos c1]
  simp[c1,r__problem_view__offer]
end
end Go.Proofs.Ytbmhibiljjnfiaa

namespace Go.Proofs.Ytbmhibiljjnfiaa
open Go Go.Am Go.Pb
section
variable {P:Pb} {r n:Nat} {o:Of} {L:List Of}
def stFr0 (P:Pb) (k:Nat):St:={env:=[(1,.ptr 1 0),(16,iv k)],sto:=[(1,.var (pbC P))]}
def stFr1 (P:Pb) (k:Nat):St:={env:=[(76,clA P.cl),(77,iv P.cl.length),(78,iv k)],sto:=[]}
theorem frC (P:Pb) (h:∀ i,(hi:i<P.cl.length)→okCl P.cl[i]):∀ c∈P.cl,okCl c:=fun c hc=>by
 obtain ⟨i,hi,rfl⟩:=List.getElem_of_mem hc
 exact h i hi
theorem frame_s:SoundCall Try.prog F__problem_view__frame [.agg (pbC P)] (iv P.frameE):=by
 refine sound' t__problem_view__frame (by simp) ?_
 simp[c__problem_view__frame]
 refine eCall_i (bcheck_s (w:=P.sup)) (by simp) (by simp) ?_
 unfold Pb.frameE
 by_cases c1:okB P.sup
 ·rw[if_neg (fun h=>h c1)]
  simp[c1]
  refine awp_forW (stFr0 P) (fun r=>∀ q,q<r→P.okC q) 6 (by simp[stFr0]) (fun q hq=>by omega) (fun k hk hI=>?_) (fun hI=>?_)
  ·have e:(k:Int)<6:=by omega
   have w1:=wrap_succ (k:=k) (by omega)
   by_cases d:P.okC k
   ·have d':=d
    unfold Pb.okC at d'
    obtain ⟨d1,d2,d3,d4,d5⟩:=d'
    have b1:¬ P.cls k<0:=by omega
    have b2:¬ 4<P.cls k:=by omega
    have b3:¬ P.opn k<0:=by omega
    have b4:¬ P.sup k<P.opn k:=by omega
    have hx:∀ q,q<k+1→P.okC q:=fun q hq=>by
     by_cases eq:q=k
     ·subst eq; exact d
     ·exact hI q (by omega)
    by_cases b5:P.cls k=0
    ·have b6:=d5 b5
     rw[b5] at b1 b2
     rw[b6] at b3 b4
     simp[c__problem_view__frame_l0,stFr0,e,goLoad_opnk hk,goLoad_clsk hk,goLoad_supk hk,b3,b5,b6,w1]
     exact hx
    ·simp[c__problem_view__frame_l0,stFr0,e,goLoad_opnk hk,goLoad_clsk hk,goLoad_supk hk,b1,b2,b3,b4,b5,w1]
     exact hx
   ·rw[if_neg (show ¬ P.okCs from fun h=>d (h k hk))]
    by_cases b1:P.cls k<0
    ·simp[c__problem_view__frame_l0,stFr0,e,goLoad_opnk hk,goLoad_clsk hk,b1,r__problem_view__frame]
    ·by_cases b2:4<P.cls k
     ·simp[c__problem_view__frame_l0,stFr0,e,goLoad_opnk hk,goLoad_clsk hk,b1,b2,r__problem_view__frame]
     ·by_cases b3:P.opn k<0
      ·simp[c__problem_view__frame_l0,stFr0,e,goLoad_opnk hk,goLoad_clsk hk,b1,b2,b3,r__problem_view__frame]
      ·by_cases b4:P.sup k<P.opn k
       ·simp[c__problem_view__frame_l0,stFr0,e,goLoad_opnk hk,goLoad_clsk hk,goLoad_supk hk,b1,b2,b3,b4,r__problem_view__frame]
       ·have b5:P.cls k=0∧¬ P.opn k=P.sup k:=by
         unfold Pb.okC at d
         by_cases b5:P.cls k=0
         ·exact ⟨b5,fun h=>d ⟨by omega,by omega,by omega,by omega,fun _=>h⟩⟩
         ·exact absurd (⟨by omega,by omega,by omega,by omega,fun h=>absurd h b5⟩) d
        simp[c__problem_view__frame_l0,stFr0,e,goLoad_opnk hk,goLoad_clsk hk,goLoad_supk hk,b3,b4,b5,r__problem_view__frame]
  ·have hs:P.okCs:=hI
   rw[if_pos hs]
   by_cases f1:8<P.cl.length
   ·have f1':(8:Int)<P.cl.length:=by omega
    rw[if_pos (.inl f1)]
    simp[c__problem_view__frame_l0,stFr0,c__problem_view__frame_k3,f1',r__problem_view__frame]
   ·have f1':¬ (8:Int)<P.cl.length:=by omega
    by_cases f2:160<P.of.length
    ·have f2':(160:Int)<P.of.length:=by omega
     rw[if_pos (.inr f2)]
     simp[c__problem_view__frame_l0,stFr0,c__problem_view__frame_k3,f1',f2',r__problem_view__frame]
    ·have f2':¬ (160:Int)<P.of.length:=by omega
     rw[if_neg (by omega)]
     simp[c__problem_view__frame_l0,stFr0,c__problem_view__frame_k3,f1',f2']
     refine awp_forW (stFr1 P) (fun r=>∀ q,q<r→(hq:q<P.cl.length)→okCl P.cl[q]) P.cl.length (by simp[stFr1]) (fun q hq=>by omega) (fun k hk hI=>?_) (fun hI=>?_)
     ·have e:(k:Int)<P.cl.length:=by omega
      have w1:=wrap_succ (k:=k) (by omega)
      by_cases d:okCl P.cl[k]
      ·have d':=d
       unfold okCl at d'
       have b1:¬ P.cl[k]<0:=by omega
       have b2:¬ 4<P.cl[k]:=by omega
       simp[c__problem_view__frame_l1,stFr1,e,hk,b1,b2,w1]
       exact fun q hq hl=>by
        by_cases eq:q=k
        ·subst eq; exact d
        ·exact hI q (by omega) hl
      ·rw[if_neg (fun h=>d (h _ (List.getElem_mem hk)))]
       unfold okCl at d
       by_cases b1:P.cl[k]<0
       ·simp[c__problem_view__frame_l1,stFr1,e,hk,b1,r__problem_view__frame]
       ·have b2:4<P.cl[k]:=by omega
        simp[c__problem_view__frame_l1,stFr1,e,hk,b1,b2,r__problem_view__frame]
     ·have hc:=frC P fun i hi=>hI i hi hi
      rw[if_pos hc]
      simp[c__problem_view__frame_l1,stFr1,c__problem_view__frame_k2,r__problem_view__frame]
 ·rw[if_pos c1]
  simp[c1,r__problem_view__frame]
end
end Go.Proofs.Ytbmhibiljjnfiaa
