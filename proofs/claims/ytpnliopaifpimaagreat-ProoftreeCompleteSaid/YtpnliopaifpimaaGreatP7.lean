/- What the proof rests on, part 7: Ca C WA Dig N0 IM N1. -/
import Derived.Test.YtpnliopaifpimaaGreatP6
import Derived.Test.YtpnliopaifpimaaGreatProg
set_option maxRecDepth 100000
set_option maxHeartbeats 4000000
namespace Go.Proofs.YtpnliopaifpimaaGreat
open Go Go.Am
abbrev oq (d:Nat) (op:AOp) (xs:List Opd):zi:=⟨some d,op,xs,none⟩
abbrev ox (op:AOp) (xs:List Opd):zi:=⟨none,op,xs,none⟩
abbrev rgN (o:List zi) (a b:List Nat):zd:=.region false [] o a b
abbrev rgD (o:List zi) (a b:List Nat):zd:=.region true [] o a b
abbrev kc (n:Int):Operand:=.const (.int .i64 n)
abbrev zA:AV:=.list 0 .full []
abbrev zF:List AV:=[bv false,zA,zA]
abbrev Oz (n x y:Nat):zi:=⟨none,.store n,[.t x,.t y],none⟩
abbrev Om (d:Nat) (x:Nat):zi:=⟨some d,.mov,[.t x],none⟩
abbrev Wm (d:Nat) (x:Nat) (g:Nat):zi:=⟨some d,.mov,[.t x],some (g,false)⟩
abbrev Vm (d:Nat) (x:Nat) (g:Nat):zi:=⟨some d,.mov,[.t x],some (g,true)⟩
abbrev Ol (d:Nat) (x:Nat):zi:=⟨some d,.load none,[.t x],none⟩
abbrev Wl (d:Nat) (x:Nat) (g:Nat):zi:=⟨some d,.load none,[.t x],some (g,false)⟩
abbrev Vl (d:Nat) (x:Nat) (g:Nat):zi:=⟨some d,.load none,[.t x],some (g,true)⟩
abbrev On (d:Nat) (n x:Nat):zi:=⟨some d,.load (some n),[.t x],none⟩
abbrev Wn (d:Nat) (n x:Nat) (g:Nat):zi:=⟨some d,.load (some n),[.t x],some (g,false)⟩
abbrev Vn (d:Nat) (n x:Nat) (g:Nat):zi:=⟨some d,.load (some n),[.t x],some (g,true)⟩
abbrev OF (d:Nat) (n x:Nat):zi:=⟨some d,.faddr n,[.t x],none⟩
abbrev WF (d:Nat) (n x:Nat) (g:Nat):zi:=⟨some d,.faddr n,[.t x],some (g,false)⟩
abbrev VF (d:Nat) (n x:Nat) (g:Nat):zi:=⟨some d,.faddr n,[.t x],some (g,true)⟩
abbrev Oi (d:Nat) (n x y:Nat):zi:=⟨some d,.iaddrS n,[.t x,.t y],none⟩
abbrev Wi (d:Nat) (n x y:Nat) (g:Nat):zi:=⟨some d,.iaddrS n,[.t x,.t y],some (g,false)⟩
abbrev Vi (d:Nat) (n x y:Nat) (g:Nat):zi:=⟨some d,.iaddrS n,[.t x,.t y],some (g,true)⟩
abbrev ON (d:Nat) (x:Nat):zi:=⟨some d,.nilChk,[.t x],none⟩
abbrev WN (d:Nat) (x:Nat) (g:Nat):zi:=⟨some d,.nilChk,[.t x],some (g,false)⟩
abbrev VN (d:Nat) (x:Nat) (g:Nat):zi:=⟨some d,.nilChk,[.t x],some (g,true)⟩
abbrev OL (d:Nat) (x:Nat):zi:=⟨some d,.len false,[.t x],none⟩
abbrev WL (d:Nat) (x:Nat) (g:Nat):zi:=⟨some d,.len false,[.t x],some (g,false)⟩
abbrev VL (d:Nat) (x:Nat) (g:Nat):zi:=⟨some d,.len false,[.t x],some (g,true)⟩
abbrev Oe (d:Nat) (n x:Nat):zi:=⟨some d,.extract n,[.t x],none⟩
abbrev We (d:Nat) (n x:Nat) (g:Nat):zi:=⟨some d,.extract n,[.t x],some (g,false)⟩
abbrev Ve (d:Nat) (n x:Nat) (g:Nat):zi:=⟨some d,.extract n,[.t x],some (g,true)⟩
abbrev Oc (d:Nat) (n:Int):zi:=⟨some d,.mov,[.c (iv n)],none⟩
abbrev Wc (d:Nat) (n:Int) (g:Nat):zi:=⟨some d,.mov,[.c (iv n)],some (g,false)⟩
abbrev Vc (d:Nat) (n:Int) (g:Nat):zi:=⟨some d,.mov,[.c (iv n)],some (g,true)⟩
abbrev Ob (d:Nat) (o:BinOp) (t:TypeId) (x y:Nat):zi:=⟨some d,.bin o t (.tmp x) (.tmp y),[.t x,.t y],none⟩
abbrev Wb (d:Nat) (o:BinOp) (t:TypeId) (x y:Nat) (g:Nat):zi:=⟨some d,.bin o t (.tmp x) (.tmp y),[.t x,.t y],some (g,false)⟩
abbrev Vb (d:Nat) (o:BinOp) (t:TypeId) (x y:Nat) (g:Nat):zi:=⟨some d,.bin o t (.tmp x) (.tmp y),[.t x,.t y],some (g,true)⟩
abbrev Oj (d:Nat) (o:BinOp) (t:TypeId) (x:Nat) (n:Int):zi:=⟨some d,.bin o t (.tmp x) (kc n),[.t x,.c (iv n)],none⟩
abbrev Wj (d:Nat) (o:BinOp) (t:TypeId) (x:Nat) (n:Int) (g:Nat):zi:=⟨some d,.bin o t (.tmp x) (kc n),[.t x,.c (iv n)],some (g,false)⟩
abbrev Vj (d:Nat) (o:BinOp) (t:TypeId) (x:Nat) (n:Int) (g:Nat):zi:=⟨some d,.bin o t (.tmp x) (kc n),[.t x,.c (iv n)],some (g,true)⟩
abbrev Op (d:Nat) (x y:Nat):zi:=⟨some d,.pick,[.t x,.c (bv true),.t y],none⟩
abbrev Wp (d:Nat) (x y:Nat) (g:Nat):zi:=⟨some d,.pick,[.t x,.c (bv true),.t y],some (g,false)⟩
abbrev Vp (d:Nat) (x y:Nat) (g:Nat):zi:=⟨some d,.pick,[.t x,.c (bv true),.t y],some (g,true)⟩
abbrev Oq (d:Nat) (x y:Nat):zi:=⟨some d,.pick,[.t x,.t y,.c (bv false)],none⟩
abbrev Wq (d:Nat) (x y:Nat) (g:Nat):zi:=⟨some d,.pick,[.t x,.t y,.c (bv false)],some (g,false)⟩
abbrev Vq (d:Nat) (x y:Nat) (g:Nat):zi:=⟨some d,.pick,[.t x,.t y,.c (bv false)],some (g,true)⟩
abbrev Ok (d:Nat) (f:FuncId) (x:Nat):zi:=⟨some d,.call f,[.t x],none⟩
abbrev Wk (d:Nat) (f:FuncId) (x:Nat) (g:Nat):zi:=⟨some d,.call f,[.t x],some (g,false)⟩
abbrev Vk (d:Nat) (f:FuncId) (x:Nat) (g:Nat):zi:=⟨some d,.call f,[.t x],some (g,true)⟩
abbrev OK (d:Nat) (f:FuncId) (x y:Nat):zi:=⟨some d,.call f,[.t x,.t y],none⟩
abbrev WK (d:Nat) (f:FuncId) (x y:Nat) (g:Nat):zi:=⟨some d,.call f,[.t x,.t y],some (g,false)⟩
abbrev VK (d:Nat) (f:FuncId) (x y:Nat) (g:Nat):zi:=⟨some d,.call f,[.t x,.t y],some (g,true)⟩
abbrev OB (d:Nat) (x:Nat):zi:=⟨some d,.box,[.t x],none⟩
abbrev WB (d:Nat) (x:Nat) (g:Nat):zi:=⟨some d,.box,[.t x],some (g,false)⟩
abbrev VB (d:Nat) (x:Nat) (g:Nat):zi:=⟨some d,.box,[.t x],some (g,true)⟩
abbrev Oa (d:Nat) :zi:=⟨some d,.alloc zF,[],none⟩
abbrev Wa (d:Nat)  (g:Nat):zi:=⟨some d,.alloc zF,[],some (g,false)⟩
abbrev Va (d:Nat)  (g:Nat):zi:=⟨some d,.alloc zF,[],some (g,true)⟩
abbrev A8:FuncId:=2
abbrev amC:FuncId:=9
abbrev yG:FuncId:=11
abbrev x5:FuncId:=13
abbrev Yj:FuncId:=14
abbrev wK:FuncId:=15
abbrev xV:FuncId:=16
abbrev sD:FuncId:=17
abbrev tf:FuncId:=19
abbrev lS:FuncId:=22
abbrev vB:FuncId:=24
abbrev amE:FuncId:=25
abbrev vf:FuncId:=26
abbrev ul:FuncId:=27
abbrev rq:FuncId:=28
abbrev pq:FuncId:=29
abbrev pr:FuncId:=31
abbrev lN:FuncId:=34
abbrev nY:FuncId:=35
abbrev tJ:FuncId:=36
abbrev x6:FuncId:=37
abbrev tF:FuncId:=38
abbrev qa:FuncId:=39
abbrev z7:FuncId:=40
abbrev wJ:FuncId:=41
abbrev v6:FuncId:=42
abbrev uD:FuncId:=43
abbrev fO:FuncId:=48
abbrev nX:FuncId:=54
abbrev lP:FuncId:=55
abbrev mq:FuncId:=56
abbrev xi:FuncId:=57
abbrev sV:FuncId:=58
abbrev sW:FuncId:=59
abbrev uF:FuncId:=60
abbrev ru:FuncId:=64
abbrev xr:FuncId:=65
abbrev yj:FuncId:=66
abbrev wC:FuncId:=67
abbrev Tl:FuncId:=71
abbrev rx:FuncId:=74
abbrev Qn:FuncId:=75
abbrev pW:FuncId:=76
abbrev mn:FuncId:=77
abbrev uE:FuncId:=78
abbrev mj:FuncId:=85
abbrev pZ:FuncId:=86
abbrev bF:FuncId:=87
abbrev x8:FuncId:=88
abbrev mT:FuncId:=89
abbrev bE:FuncId:=91
abbrev aB:FuncId:=94
abbrev xO:FuncId:=95
abbrev vZ:FuncId:=96
abbrev lO:FuncId:=100
abbrev wm:FuncId:=101
abbrev r9:FuncId:=102
abbrev XX:FuncId:=103
abbrev dC:FuncId:=104
abbrev aA:FuncId:=105
abbrev mU:FuncId:=106
abbrev XS:FuncId:=107
abbrev tI:FuncId:=108
abbrev rt:FuncId:=110
abbrev aC:FuncId:=111
abbrev Tm:FuncId:=112
abbrev XW:FuncId:=113
abbrev xU:FuncId:=114
abbrev fw:FuncId:=115
abbrev pX:FuncId:=116
abbrev Yl:FuncId:=117
abbrev nI:FuncId:=118
abbrev Yk:FuncId:=119
abbrev xL:FuncId:=138
abbrev x9:FuncId:=139
abbrev xM:FuncId:=140
abbrev y7:FuncId:=141
abbrev lU:FuncId:=142
abbrev pm:FuncId:=143
abbrev mS:FuncId:=144
abbrev vc:FuncId:=145
abbrev XP:FuncId:=146
abbrev rc:FuncId:=147
abbrev nZ:FuncId:=148
abbrev lM:FuncId:=149
abbrev jd:FuncId:=150
abbrev mi:FuncId:=151
abbrev gq:FuncId:=152
abbrev XR:FuncId:=153
abbrev fu:FuncId:=154
abbrev dB:FuncId:=155
abbrev je:FuncId:=156
abbrev pn:FuncId:=157
abbrev XT:FuncId:=158
abbrev Tk:FuncId:=159
abbrev XQ:FuncId:=160
abbrev Tj:FuncId:=161
abbrev xz:FuncId:=162
abbrev xT:FuncId:=163
abbrev xA:FuncId:=164
abbrev yW:FuncId:=165
abbrev xg:FuncId:=166
abbrev xB:FuncId:=167
abbrev xh:FuncId:=168
abbrev yI:FuncId:=169
abbrev po:FuncId:=170
abbrev ml:FuncId:=171
abbrev wa:FuncId:=173
abbrev y8:FuncId:=175
abbrev xE:TypeId:=2
abbrev zb:TypeId:=3
abbrev nJ:TypeId:=4
abbrev rz:TypeId:=5
abbrev yi:TypeId:=9
abbrev vg:TypeId:=23
abbrev zC:TypeId:=31
abbrev p8:TypeId:=62
abbrev zg:TypeId:=64
abbrev qZ:TypeId:=69
abbrev xF:TypeId:=91
abbrev bG:TypeId:=106
abbrev xP:TypeId:=108
abbrev xG:TypeId:=109
abbrev xa:TypeId:=110
abbrev uG:TypeId:=112
abbrev zB:TypeId:=135
abbrev sF:TypeId:=151
abbrev apy:TypeId:=94
theorem QQ:kds Tryz.prog Op.maxDepth apy=some (List.replicate 7 (.i .i64)):=by kernel_rfl
theorem sC:Tryz.prog.underlying nJ=some .bool:=by kernel_rfl
theorem TN:kds Tryz.prog Op.maxDepth sF=some [.b,.b]:=by kernel_rfl
theorem TG:Tryz.prog.eqGuardType Tryz.prog.depth sF=false:=by kernel_rfl
theorem To:agT Tryz.prog sF=true:=by kernel_rfl
@[simp] theorem ahM:Tryz.prog.underlying zC=some (.int .i64):=by kernel_rfl
@[simp] theorem akM:Tryz.prog.underlying xE=some (.int .i64):=by kernel_rfl
@[simp] theorem alS:Tryz.prog.underlying zb=some (.int .i64):=by kernel_rfl
@[simp] theorem NU:Tryz.prog.underlying yi=some .string:=by kernel_rfl
@[simp] theorem aj6:Tryz.prog.underlying zg=some (.int .u64):=by kernel_rfl
@[simp] theorem akN:Tryz.prog.underlying rz=some (.int .u8):=by kernel_rfl
@[simp] theorem ala:Tryz.prog.underlying bG=some (.int .u64):=by kernel_rfl
@[simp] theorem ak9:Tryz.prog.underlying nJ=some .bool:=by kernel_rfl
@[simp] theorem aj5:Tryz.prog.underlying zB=some (.int .u32):=by kernel_rfl
def amD:zd:=(.seq (rgN [OB 2 0,oq 4 .mov [.c (bv false)]] [0,4] []) (.seq (.seq (rgN [OF 8 19 2,Ol 9 8,OL 10 9,Oj 11 .gtr zb 10 6,Om 12 11,Wn 13 20 2 12,Wk 14 vB 13 12,Wj 15 .neq zC 14 0 12,Op 16 12 15,Om 17 16,Wm 18 1 17,Wj 19 .lss xE 18 0 17,Op 20 17 19,Om 21 20,Wm 22 1 21,Wj 23 .gtr xE 22 1099511627776 21,Op 24 21 23] [8,9,10,11,12,13,14,15,16,17,18,19,20,21,22,23] []) (.cond (.t 24) (.seq (rgN [oq 25 (.call x5) [],Om 4 25] [1,2,24,25] [2]) .ret) .skip)) (.seq (rgD [ox (.start [26,27,28]) [],On 26 20 2,On 28 20 2,oq 27 (.callM amE [26,27,28]) [.t 26,.c zA,.c zA],oq 28 (.chk (.load (some 20))) [.t 2],Ok 29 Yj 28,Om 5 27,Om 6 29] [24,26,28,27,29] []) (.seq (rgN [Oc 7 0] [] []) (.seq (.seq (rgN [Om 30 1,Oj 31 .gtr xE 30 0] [30] []) (.cond (.t 31) (rgN [Oc 7 13] [31] []) .skip)) (.seq (rgD [On 32 20 2,Om 33 6,Om 34 5,oq 35 (.call yG) [.t 32,.t 33,.t 34],Oj 36 .eql zC 35 0,Om 37 36,Vn 38 20 2 37,Vm 39 6 37,Vm 40 1 37,Vb 41 .sub xE 39 40 37,Vm 42 5 37,⟨some 43,.call yG,[.t 38,.t 41,.t 42],some (37,true)⟩,Vm 44 7 37,Vb 45 .eql zC 43 44 37,Oq 46 37 45,Om 47 46,Vn 48 20 2 47,Vm 49 6 47,Vm 50 1 47,Vb 51 .add xE 49 50 47,Vm 52 5 47,⟨some 53,.call yG,[.t 48,.t 51,.t 52],some (47,true)⟩,Vj 54 .eql zC 53 0 47,Oq 55 47 54,Om 56 55,Vm 57 5 56,Vk 58 sD 57 56,VF 59 19 2 56,Vl 60 59 56,VL 61 60 56,⟨some 62,.bin .shl zb (kc 1) (.tmp 61),[.c (iv 1),.t 61],some (56,true)⟩,Vb 63 .eql zb 58 62 56,Oq 64 56 63,Om 65 64,Vm 66 5 65,Vk 67 tf 66 65,VF 68 19 2 65,Vl 69 68 65,VL 70 69 65,Vj 71 .add zb 70 1 65,Vb 72 .eql zb 67 71 65,Oq 73 65 72,Om 74 73,⟨some 75,.call x5,[],some (74,true)⟩,Oq 76 74 75,Om 4 76] [1,2,5,6,7,31,32,33,34,35,36,37,38,39,40,41,42,43,44,45,46,47,48,49,50,51,52,53,54,55,56,57,58,59,60,61,62,63,64,65,66,67,68,69,70,71,72,73,74,75,76] [2]) .ret))))))
def wo:List zq:=[.t 4]
theorem am0:zj Tryz.prog amC=some (bare amD,wo,77):=by kernel_rfl
def vm:zd:=(.seq (rgN [Ob 33 .lss zb 32 31] [] []) (.seq (.cond (.t 33) .skip (.exit 1)) (.seq (.block 2 (.seq (rgN [Oi 34 5 30 32,On 35 5 34,⟨some 10,.alloc [iv 0,iv 0,iv 0,iv 0,zA],[],none⟩,Oz 5 10 35] [33,34,35] []) (.seq (rgN [OF 36 0 10,Ol 37 36,Oj 38 .eql zb 37 1,Om 39 38,VF 40 4 10 39,Vl 41 40 39,VL 42 41 39,Vm 43 8 39,Vb 44 .neq zb 42 43 39,Oq 45 39 44] [10,36,37,38,39,40,41,42,43,44] [10]) (.cond (.t 45) (.seq (rgN [Oc 6 2] [1,2,3,8,30,31,32,45] [3]) .ret) .skip)))) (rgN [Oj 46 .add zb 32 1,Om 32 46] [45,46] []))))
def l8:zd:=(.seq (rgN [On 47 20 3,Om 48 1,Om 49 2,oq 50 (.call pq) [.t 47,.t 48,.t 49],Om 6 50] [1,2,3,8,30,31,32,33,47,48,49,50] [3]) .ret)
def gP:zd:=(.seq (rgN [OB 3 0,Oc 6 0] [0,6] []) (.seq (.seq (rgN [On 11 20 3,Ok 12 vf 11,Om 7 12] [11,12] []) (.seq (rgN [Om 13 7,Oj 14 .neq zC 13 0] [13] []) (.cond (.t 14) (.seq (rgN [Om 15 7,Om 6 15] [1,2,3,7,14,15] [3]) .ret) .skip))) (.seq (.block 0 (.seq (rgN [Om 17 2,OL 18 17,Oj 19 .eql zb 18 0,Om 16 19] [7,14,17,18,19] []) (.cond (.t 16) (.seq (rgN [Oc 6 1] [1,2,3,16] [3]) .ret) (.seq (rgN [Om 21 2,OL 22 21,Oj 23 .gtr zb 22 65536,Om 20 23] [16,21,22,23] []) (.cond (.t 20) (.seq (rgN [Oc 6 3] [1,2,3,20] [3]) .ret) (.seq (rgN [Om 25 2,Ok 26 ul 25,oq 27 (.un .not) [.t 26],Om 24 27] [20,25,26,27] []) (.cond (.t 24) (.seq (rgN [Oc 6 2] [1,2,3,24] [3]) .ret) .skip))))))) (.seq (rgN [On 28 20 3,Ok 29 rq 28,Om 8 29] [24,28,29] []) (.seq (.seq (rgN [Om 30 2,OL 31 30,Oc 32 0] [] []) (.block 1 (.loop vm))) l8)))))
def wk:List zq:=[.t 6]
theorem UG:zj Tryz.prog yG=some (bare gP,wk,51):=by kernel_rfl
def Z2:zd:=(.seq (rgN [oq 0 .mov [.c (bv false)]] [0] []) (.seq (rgN [oq 12 (.call lN) [.c (iv 9)],Om 11 12,Oe 13 0 11,Oe 14 1 11,⟨some 1,.alloc [iv 0,iv 0,iv 0,iv 0,iv 0,iv 0,iv 0,iv 0,iv 0,iv 0,iv 0,iv 0,iv 0,iv 0,iv 0,iv 0,iv 0,iv 0,zA,zA],[],none⟩,Oz 20 1 13,Om 2 14] [12,11,13,14] []) (.seq (rgN [Om 15 2,⟨some 16,.build [iv 0,iv 0,iv 0,iv 0,zA] [(0,1),(4,1)],[.c (iv 1),.t 15],none⟩,⟨some 17,.mkslice 5 1 [iv 0,iv 0,iv 0,iv 0,zA] [0],[.t 16],none⟩,Om 3 17] [2,15,16,17] []) (.seq (rgN [⟨some 18,.build [iv 0,iv 0,iv 0,iv 0,zA] [(0,1),(2,1),(3,1)],[.c (iv 2),.c (iv 1),.c (iv 2)],none⟩,⟨some 19,.build [iv 0,iv 0,iv 0,iv 0,zA] [(0,1)],[.c (iv 3)],none⟩,⟨some 20,.build [iv 0,iv 0,iv 0,iv 0,zA] [(0,1)],[.c (iv 3)],none⟩,⟨some 21,.mkslice 5 3 [iv 0,iv 0,iv 0,iv 0,zA] [0,1,2],[.t 18,.t 19,.t 20],none⟩,Om 4 21] [18,19,20,21] []) (.seq (rgN [Om 23 4,Ok 24 wK 23,Om 22 24,Oe 25 0 22,Oe 26 1 22,Om 5 25,Om 6 26] [23,24,22,25,26] []) (.seq (rgN [Om 28 5,Ok 29 xV 28,Om 27 29,Oe 30 0 27,Oe 31 1 27,Om 7 30,Om 8 31] [28,29,27,30,31] []) (.seq (rgN [⟨some 33,.call xV,[.c (.val (.string ⟨#[0]⟩))],none⟩,Om 32 33,Oe 34 0 32,Oe 35 1 32,Om 9 34,Om 10 35] [33,32,34,35] []) (.seq (rgD [On 36 20 1,Om 37 3,oq 38 (.call yG) [.t 36,.c (iv 9),.t 37],Oj 39 .eql zC 38 0,Om 40 39,Vn 41 20 1 40,Vm 42 3 40,⟨some 43,.call yG,[.t 41,.c (iv 8),.t 42],some (40,true)⟩,Vj 44 .eql zC 43 13 40,Oq 45 40 44,Om 46 45,Vn 47 20 1 46,⟨some 48,.call yG,[.t 47,.c (iv 9),.c zA],some (46,true)⟩,Vj 49 .eql zC 48 1 46,Oq 50 46 49,Om 51 50,Vn 52 20 1 51,Vm 53 4 51,⟨some 54,.slice 5 false true false,[.t 53,.c (iv 2)],some (51,true)⟩,⟨some 55,.call yG,[.t 52,.c (iv 9),.t 54],some (51,true)⟩,Vj 56 .eql zC 55 2 51,Oq 57 51 56,Om 58 57,Vm 59 4 58,Vk 60 sD 59 58,Vj 61 .eql zb 60 2 58,Oq 62 58 61,Om 63 62,Vm 64 4 63,Vk 65 tf 64 63,Vj 66 .eql zb 65 2 63,Oq 67 63 66,Om 68 67,Vm 69 4 68,⟨some 70,.slice 5 true false false,[.t 69,.c (iv 1)],some (68,true)⟩,Vk 71 tf 70 68,Vj 72 .eql zb 71 0 68,Oq 73 68 72,Om 74 73,Vm 75 6 74,Vj 76 .eql zC 75 0 74,Oq 77 74 76,Om 78 77,Vm 79 5 78,⟨some 80,.bin .eql yi (.tmp 79) (.const (.string ⟨#[3,2,0,1,2,3,3]⟩)),[.t 79,.c (.val (.string ⟨#[3,2,0,1,2,3,3]⟩))],some (78,true)⟩,Oq 81 78 80,Om 82 81,Vm 83 8 82,Vj 84 .eql zC 83 0 82,Oq 85 82 84,Om 86 85,Vm 87 7 86,Vm 88 4 86,VK 89 lS 87 88 86,Oq 90 86 89,Om 91 90,Vm 92 9 91,VL 93 92 91,Vj 94 .eql zb 93 0 91,Oq 95 91 94,Om 96 95,Vm 97 10 96,Vj 98 .eql zC 97 0 96,Oq 99 96 98,Om 0 99] [1,3,4,5,6,7,8,9,10,36,37,38,39,40,41,42,43,44,45,46,47,48,49,50,51,52,53,54,55,56,57,58,59,60,61,62,63,64,65,66,67,68,69,70,71,72,73,74,75,76,77,78,79,80,81,82,83,84,85,86,87,88,89,90,91,92,93,94,95,96,97,98,99] [1]) .ret))))))))
def Yd:List zq:=[.t 0]
theorem Ma:zj Tryz.prog x5=some (bare Z2,Yd,100):=by kernel_rfl
def SP:zd:=(.seq (rgN [Ob 19 .lss zb 18 17] [] []) (.seq (.cond (.t 19) .skip (.exit 2)) (.seq (.block 3 (.seq (rgN [Om 20 18,Om 6 20] [19,20] []) (.seq (rgN [Om 21 4,Om 22 6,Ob 23 .shr zb 21 22,Oj 24 .and zb 23 1,Oj 25 .eql zb 24 1] [21,22,23,24] []) (.cond (.t 25) (rgN [Om 26 5,Om 27 6,oq 28 (.mkslice 1 1 [iv 0] [0]) [.t 27],oq 29 (.append 1 8) [.t 26,.t 28],Om 5 29] [6,25,26,27,28,29] []) .skip)))) (rgN [Oj 30 .add zb 18 1,Om 18 30] [6,25,30] []))))
def SM:zd:=(.seq (rgN [On 31 20 1,Om 32 5,OK 33 nY 31 32,Om 7 33] [4,17,18,19,31,32,33] []) (.seq (rgN [Om 34 7,Om 35 3,Ob 36 .gtr xE 34 35,Om 37 36,Vn 38 20 1 37,Vm 39 5 37,VK 40 tJ 38 39 37,Vj 41 .eql zC 40 0 37,Oq 42 37 41] [5,34,35,36,37,38,39,40,41] []) (.cond (.t 42) (rgN [Om 43 7,Om 3 43] [7,42,43] []) .skip)))
def SN:zd:=(rgN [Oj 44 .add zb 12 1,Om 12 44] [7,42,44] [])
def SQ:zd:=(.seq (rgN [Ob 13 .lss zb 12 11] [] []) (.seq (.cond (.t 13) .skip (.exit 0)) (.seq (.block 1 (.seq (rgN [Om 14 12,Om 4 14] [13,14] []) (.seq (rgN [oq 5 .mov [.c zA]] [] []) (.seq (.seq (rgN [OF 15 19 1,Ol 16 15,OL 17 16,Oc 18 0] [15,16] []) (.block 2 (.loop SP))) SM)))) SN)))
def SO:zd:=(.seq (rgN [Om 45 3,Om 2 45] [1,3,11,12,13,45] [1]) .ret)
def M0:zd:=(.seq (rgN [OB 1 0,Oc 2 0] [0,2] []) (.seq (rgN [Oc 3 0] [] []) (.seq (.seq (rgN [OF 8 19 1,Ol 9 8,OL 10 9,oq 11 (.bin .shl zb (kc 1) (.tmp 10)) [.c (iv 1),.t 10],Oc 12 0] [8,9,10] []) (.block 0 (.loop SQ))) SO)))
def KE:List zq:=[.t 2]
theorem ahG:zj Tryz.prog Yj=some (bare M0,KE,46):=by kernel_rfl
def wO : zd := (.seq (rgN [Ob 19 .lss zb 18 17] [] []) (.seq (.cond (.t 19) .skip (.exit 0)) (.seq (.block 1 (.seq (rgN [Oi 20 5 16 18,On 21 5 20,⟨some 6,.alloc [iv 0,iv 0,iv 0,iv 0,zA],[],none⟩,Oz 5 6 21] [19,20,21] []) (.seq (rgN [On 22 5 6,Ok 23 tF 22,Om 7 23] [22,23] []) (.seq (.seq (rgN [Om 24 7,oq 25 (.callm "saleroom/prooftree.wellFormed") [.t 24],oq 26 (.un .not) [.t 25]] [24,25] []) (.cond (.t 26) (.seq (rgN [⟨some 2,.mov,[.c (.val (.string ⟨#[]⟩))],none⟩,Oc 3 2] [4,16,17,18,6,7,26] [6]) .ret) .skip)) (.seq (rgN [Om 27 4,OF 28 0 6,Ol 29 28,oq 30 (.conv zb zg) [.t 29],Ok 31 x6 30,oq 32 (.append 1 1) [.t 27,.t 31],Om 4 32] [6,26,27,28,29,30,31,32] [6]) (rgN [Om 33 4,Om 34 7,oq 35 (.callm "saleroom/prooftree.encode") [.t 34],oq 36 (.append 1 1) [.t 33,.t 35],Om 4 36] [7,33,34,35,36] [])))))) (rgN [Oj 37 .add zb 18 1,Om 18 37] [37] []))))
def m8:zd:=(.seq (rgN [Om 38 4,oq 39 (.conv p8 yi) [.t 38],Om 2 39,Oc 3 0] [4,16,17,18,19,38,39] []) .ret)
def pD:zd:=(.seq (rgN [⟨some 2,.mov,[.c (.val (.string ⟨#[]⟩))],none⟩,Oc 3 0] [2,3] []) (.seq (.seq (rgN [Om 8 0,OL 9 8,Oj 10 .gtr zb 9 65536] [8,9] []) (.cond (.t 10) (.seq (rgN [⟨some 2,.mov,[.c (.val (.string ⟨#[]⟩))],none⟩,Oc 3 3] [0,10] []) .ret) .skip)) (.seq (rgN [Om 11 0,OL 12 11,oq 13 (.conv zb zg) [.t 12],Ok 14 x6 13,oq 15 (.append 0 0) [.t 14],Om 4 15] [10,11,12,13,14,15] []) (.seq (.seq (rgN [Om 16 0,OL 17 16,Oc 18 0] [0] []) (.block 0 (.loop wO))) m8))))
def pO:List zq:=[.t 2,.t 3]
theorem go:zj Tryz.prog wK=some (bare pD,pO,40):=by kernel_rfl
def wN:zd:=(.seq (.seq (rgN [Om 14 7,Om 15 5,Ob 16 .lss zb 14 15,Om 17 16,Vm 18 4 17,Vk 19 wJ 18 17,Vj 20 .eql zC 19 0 17,Oq 21 17 20] [14,15,16,17,18,19,20] []) (.cond (.t 21) .skip (.exit 0))) (.seq (.block 1 (rgN [Om 24 6,Om 25 4,oq 26 (.callI v6) [.t 25],⟨some 27,.mkslice 5 1 [iv 0,iv 0,iv 0,iv 0,zA] [0],[.t 26],none⟩,oq 28 (.append 5 56) [.t 24,.t 27],Om 6 28] [21,24,25,26,27,28] [])) (rgN [Om 22 7,Oj 23 .add zb 22 1,Om 7 23] [22,23] [])))
def m7:zd:=(.seq (.seq (rgN [Om 29 4,oq 30 (.callI uD) [.t 29],Om 8 30] [4,5,7,21,29,30] []) (.seq (rgN [Om 31 8,Oj 32 .neq zC 31 0] [31] []) (.cond (.t 32) (.seq (rgN [Om 33 8,oq 2 .mov [.c zA],Om 3 33] [6,8,32,33] []) .ret) .skip))) (.seq (rgN [Om 34 6,Om 2 34,Oc 3 0] [6,8,32,34] []) .ret))
def j4:zd:=(.seq (rgN [oq 2 .mov [.c zA],Oc 3 0] [2,3] []) (.seq (rgN [Om 9 0,oq 10 (.callI qa) [.t 9],Om 4 10] [0,9,10] []) (.seq (rgN [Om 11 4,oq 12 (.callI z7) [.t 11,.c (.val (.int .u64 65536))],oq 13 (.conv zg zb) [.t 12],Om 5 13] [11,12,13] []) (.seq (rgN [oq 6 .mov [.c zA]] [] []) (.seq (.seq (rgN [Oc 7 0] [] []) (.block 0 (.loop wN))) m7)))))
def pN:List zq:=[.t 2,.t 3]
theorem XH:zj Tryz.prog xV=some (bare j4,pN,35):=by kernel_rfl
def uL:zd:=(.seq (rgN [Ob 12 .lss zb 11 10] [] []) (.seq (.cond (.t 12) .skip (.exit 0)) (.seq (.block 1 (.seq (rgN [Oi 13 5 9 11,On 14 5 13,⟨some 5,.alloc [iv 0,iv 0,iv 0,iv 0,zA],[],none⟩,Oz 5 5 14] [12,13,14] []) (.seq (rgN [OF 15 0 5,Ol 16 15,Oj 17 .neq zb 16 2] [5,15,16] [5]) (.cond (.t 17) (rgN [Om 18 3,Oj 19 .add zb 18 1,Om 3 19] [17,18,19] []) .skip)))) (rgN [Oj 20 .add zb 11 1,Om 11 20] [17,20] []))))
def m9:zd:=(.seq (rgN [Om 21 3,Om 2 21] [3,9,10,11,12,21] []) .ret)
def j5:zd:=(.seq (rgN [Oc 2 0] [2] []) (.seq (.seq (rgN [Om 6 0,Ok 7 ul 6,oq 8 (.un .not) [.t 7]] [6,7] []) (.cond (.t 8) (.seq (rgN [Oc 2 0] [0,8] []) .ret) .skip)) (.seq (rgN [Oc 3 0] [8] []) (.seq (.seq (rgN [Om 9 0,OL 10 9,Oc 11 0] [0] []) (.block 0 (.loop uL))) m9))))
def pP:List zq:=[.t 2]
theorem XI:zj Tryz.prog sD=some (bare j5,pP,22):=by kernel_rfl
def vn:zd:=(.seq (rgN [Ob 39 .lss zb 38 37] [] []) (.seq (.cond (.t 39) .skip (.exit 2)) (.seq (.block 3 (.seq (rgN [Oi 40 1 36 38,Ol 41 40,Om 8 41] [39,40,41] []) (rgN [Om 42 3,Om 43 8,Om 44 3,Om 45 5,Oi 46 1 44 45,Ol 47 46,Oi 48 1 42 43,Oz 1 48 47] [8,42,43,44,45,46,47,48] []))) (rgN [Oj 49 .add zb 38 1,Om 38 49] [49] []))))
def qc:zd:=(rgN [Oj 50 .add zb 17 1,Om 17 50] [5,36,37,38,39,50] [])
def qd : zd := (.seq (rgN [Ob 18 .lss zb 17 16] [] []) (.seq (.cond (.t 18) .skip (.exit 0)) (.seq (.block 1 (.seq (rgN [Om 19 17,Oi 20 5 15 17,On 21 5 20,⟨some 6,.alloc [iv 0,iv 0,iv 0,iv 0,zA],[],none⟩,Om 5 19,Oz 5 6 21] [18,19,20,21] []) (.seq (rgN [Om 22 3,Om 23 5,Oi 24 1 22 23,Ol 25 24,Oj 26 .add zb 25 1,Oi 27 1 22 23,Oz 1 27 26] [22,23,24,25,26,27] []) (.seq (rgN [Om 28 4,Om 29 3,Om 30 5,Oi 31 1 29 30,Ol 32 31,⟨some 33,.mm .max #[zb,zb] zb,[.t 28,.t 32],none⟩,Om 4 33] [28,29,30,31,32,33] []) (.seq (rgN [On 34 5 6,Ok 35 tF 34,oq 36 (.callm "saleroom/prooftree.next") [.t 35],OL 37 36,Oc 38 0] [6,34,35] [6]) (.block 2 (.loop vn))))))) qc)))
def l9:zd:=(.seq (rgN [Om 51 4,Om 2 51] [3,4,15,16,17,18,51] [14]) .ret)
def gQ:zd:=(.seq (rgN [Oc 2 0] [2] []) (.seq (.seq (rgN [Om 9 0,Ok 10 ul 9,oq 11 (.un .not) [.t 10]] [9,10] []) (.cond (.t 11) (.seq (rgN [Oc 2 0] [0,11] []) .ret) .skip)) (.seq (rgN [Om 12 0,OL 13 12,oq 14 (.mk 1 8 [iv 0]) [.t 13,.t 13],Om 3 14] [11,12,13,14] []) (.seq (rgN [Oc 4 0] [] []) (.seq (.seq (rgN [Om 15 0,OL 16 15,Oc 17 0] [0] []) (.block 0 (.loop qd))) l9)))))
def nE:List zq:=[.t 2]
theorem UH:zj Tryz.prog tf=some (bare gQ,nE,52):=by kernel_rfl
def n0:zd:=(.seq (.seq (rgN [Om 13 5,Om 14 0,OL 15 14,Ob 16 .lss zb 13 15] [13,14,15] []) (.cond (.t 16) .skip (.exit 0))) (.seq (.block 1 (.seq (rgD [ox (.start [19,20,21,22,23,24,25,26,6,7]) [],Om 19 0,Om 20 5,Oi 21 5 19 20,On 22 5 21,Om 23 1,Om 24 5,Oi 25 5 23 24,On 26 5 25,⟨some 6,.alloc [iv 0,iv 0,iv 0,iv 0,zA],[],none⟩,⟨some 7,.alloc [iv 0,iv 0,iv 0,iv 0,zA],[],none⟩,Oz 5 6 22,oq 23 (.chk (.mov)) [.t 1],oq 24 (.chk (.mov)) [.t 5],oq 25 (.chk (.iaddrS 5)) [.t 23,.t 24],oq 26 (.chk (.load (some 5))) [.t 25],Oz 5 7 26] [16,19,20,21,22,23,24,25,26] []) (.seq (rgN [OF 27 0 6,Ol 28 27,OF 29 0 7,Ol 30 29,Ob 31 .neq zb 28 30,Om 32 31,WF 33 1 6 32,Wl 34 33 32,WF 35 1 7 32,Wl 36 35 32,Wb 37 .neq zb 34 36 32,Op 38 32 37,Om 39 38,WF 40 2 6 39,Wl 41 40 39,WF 42 2 7 39,Wl 43 42 39,Wb 44 .neq zb 41 43 39,Op 45 39 44,Om 46 45,WF 47 3 6 46,Wl 48 47 46,WF 49 3 7 46,Wl 50 49 46,Wb 51 .neq zb 48 50 46,Op 52 46 51,Om 53 52,WF 54 4 6 53,Wl 55 54 53,WF 56 4 7 53,Wl 57 56 53,WK 58 fO 55 57 53,⟨some 59,.un .not,[.t 58],some (53,false)⟩,Op 60 53 59] [6,7,27,28,29,30,31,32,33,34,35,36,37,38,39,40,41,42,43,44,45,46,47,48,49,50,51,52,53,54,55,56,57,58,59] [6,7]) (.cond (.t 60) (.seq (rgN [oq 4 .mov [.c (bv false)]] [0,1,5,60] []) .ret) .skip)))) (rgN [Om 17 5,Oj 18 .add zb 17 1,Om 5 18] [60,17,18] [])))
def dS:zd:=(.seq (rgN [oq 4 .mov [.c (bv true)]] [0,1,5,16] []) .ret)
def YG:zd:=(.seq (rgN [oq 4 .mov [.c (bv false)]] [4] []) (.seq (.seq (rgN [Om 8 0,OL 9 8,Om 10 1,OL 11 10,Ob 12 .neq zb 9 11] [8,9,10,11] []) (.cond (.t 12) (.seq (rgN [oq 4 .mov [.c (bv false)]] [0,1,12] []) .ret) .skip)) (.seq (.seq (rgN [Oc 5 0] [12] []) (.block 0 (.loop n0))) dS)))
def Xi:List zq:=[.t 4]
theorem Jp:zj Tryz.prog lS=some (bare YG,Xi,61):=by kernel_rfl
def yT:zd:=(.seq (.seq (rgN [Om 12 3,Oj 13 .lss zb 12 6] [12] []) (.cond (.t 13) .skip (.exit 0))) (.seq (.block 1 (.seq (rgD [Om 16 3,OF 17 12 1,oq 18 (.iaddrA 6 1) [.t 17,.t 16],Ol 19 18,Oj 20 .lss zb 19 0,Om 21 20,Wm 22 3 21,WF 23 12 1 21,⟨some 24,.iaddrA 6 1,[.t 23,.t 22],some (21,false)⟩,Wl 25 24 21,Wj 26 .gtr zb 25 4 21,Op 27 21 26,Om 28 27,Wm 29 3 28,WF 30 6 1 28,⟨some 31,.iaddrA 6 1,[.t 30,.t 29],some (28,false)⟩,Wl 32 31 28,Wj 33 .lss zb 32 0 28,Op 34 28 33,Om 35 34,Wm 36 3 35,WF 37 6 1 35,⟨some 38,.iaddrA 6 1,[.t 37,.t 36],some (35,false)⟩,Wl 39 38 35,Wm 40 3 35,WF 41 0 1 35,⟨some 42,.iaddrA 6 1,[.t 41,.t 40],some (35,false)⟩,Wl 43 42 35,Wb 44 .gtr zb 39 43 35,Op 45 35 44,Om 46 45,Wm 47 3 46,WF 48 12 1 46,⟨some 49,.iaddrA 6 1,[.t 48,.t 47],some (46,false)⟩,Wl 50 49 46,Wj 51 .eql zb 50 0 46,Wm 52 51 46,Vm 53 3 52,VF 54 6 1 52,⟨some 55,.iaddrA 6 1,[.t 54,.t 53],some (52,true)⟩,Vl 56 55 52,Vm 57 3 52,VF 58 0 1 52,⟨some 59,.iaddrA 6 1,[.t 58,.t 57],some (52,true)⟩,Vl 60 59 52,Vb 61 .neq zb 56 60 52,Wq 62 52 61 46,Op 63 46 62] [13,16,17,18,19,20,21,22,23,24,25,26,27,28,29,30,31,32,33,34,35,36,37,38,39,40,41,42,43,44,45,46,47,48,49,50,51,52,53,54,55,56,57,58,59,60,61,62] []) (.cond (.t 63) (.seq (rgN [Oc 2 4] [1,3,63] [1]) .ret) .skip))) (rgN [Om 14 3,Oj 15 .add zb 14 1,Om 3 15] [63,14,15] [])))
def vO:zd:=(.seq (.seq (rgN [Om 74 4,OF 75 18 1,Ol 76 75,OL 77 76,Ob 78 .lss zb 74 77] [74,75,76,77] []) (.cond (.t 78) .skip (.exit 2))) (.seq (.block 3 (.seq (rgN [OF 81 18 1,Ol 82 81,Om 83 4,Oi 84 1 82 83,Ol 85 84,Oj 86 .lss zb 85 0,Om 87 86,WF 88 18 1 87,Wl 89 88 87,Wm 90 4 87,Wi 91 1 89 90 87,Wl 92 91 87,Wj 93 .gtr zb 92 4 87,Op 94 87 93] [78,81,82,83,84,85,86,87,88,89,90,91,92,93] []) (.cond (.t 94) (.seq (rgN [Oc 2 4] [1,4,94] [1]) .ret) .skip))) (rgN [Om 79 4,Oj 80 .add zb 79 1,Om 4 80] [94,79,80] [])))
def tO:zd:=(.seq (.seq (rgN [Om 143 7,Om 144 5,Ob 145 .lss zb 143 144] [143,144] []) (.cond (.t 145) .skip (.exit 6))) (.seq (.block 7 (.seq (rgD [OF 148 19 1,Ol 149 148,Om 150 7,Oi 151 8 149 150,OF 152 0 151,Ol 153 152,OF 154 0 6,Ol 155 154,Ob 156 .eql zb 153 155,Om 157 156,VF 158 19 1 157,Vl 159 158 157,Vm 160 7 157,Vi 161 8 159 160 157,VF 162 1 161 157,Vn 163 6 162 157,VF 164 1 6 157,Vn 165 6 164 157,Vb 166 .eql vg 163 165 157,Oq 167 157 166] [145,148,149,150,151,152,153,154,155,156,157,158,159,160,161,162,163,164,165,166] []) (.cond (.t 167) (.seq (rgN [Oc 2 7] [1,5,6,7,167] [1,6]) .ret) .skip))) (rgN [Om 146 7,Oj 147 .add zb 146 1,Om 7 147] [167,146,147] [])))
def eo:zd:=(rgN [Om 100 5,Oj 101 .add zb 100 1,Om 5 101] [6,7,145,100,101] [6])
def xW:zd:=(.seq (.seq (rgN [Om 95 5,OF 96 19 1,Ol 97 96,OL 98 97,Ob 99 .lss zb 95 98] [95,96,97,98] []) (.cond (.t 99) .skip (.exit 4))) (.seq (.block 5 (.seq (rgN [OF 102 19 1,Ol 103 102,Om 104 5,Oi 105 8 103 104,On 106 8 105,oq 6 (.alloc [iv 0,iv 0,iv 0,iv 0,iv 0,iv 0,iv 0,iv 0]) [],Oz 8 6 106] [99,102,103,104,105,106] []) (.seq (.seq (rgN [OF 107 0 6,Ol 108 107,Oj 109 .lss zb 108 0,Om 110 109,WF 111 0 6 110,Wl 112 111 110,WF 113 18 1 110,Wl 114 113 110,WL 115 114 110,Wb 116 .geq zb 112 115 110,Op 117 110 116] [107,108,109,110,111,112,113,114,115,116] []) (.cond (.t 117) (.seq (rgN [Oc 2 6] [1,5,6,117] [1,6]) .ret) .skip)) (.seq (.seq (rgN [OF 118 7 6,Ol 119 118,Oj 120 .lss xE 119 1,Om 121 120,WF 122 7 6 121,Wl 123 122 121,Wj 124 .gtr xE 123 1000000 121,Op 125 121 124,Om 126 125,WF 127 1 6 126,Wn 128 6 127 126,Wk 129 nX 128 126,⟨some 130,.un .not,[.t 129],some (126,false)⟩,Op 131 126 130,Om 132 131,WF 133 1 6 132,Wn 134 6 133 132,⟨some 135,.build [iv 0,iv 0,iv 0,iv 0,iv 0,iv 0] [],[],some (132,false)⟩,Wb 136 .eql vg 134 135 132,Op 137 132 136] [117,118,119,120,121,122,123,124,125,126,127,128,129,130,131,132,133,134,135,136] []) (.cond (.t 137) (.seq (rgN [Oc 2 4] [1,5,6,137] [1,6]) .ret) .skip)) (.seq (.seq (rgN [On 138 20 1,On 139 8 6,oq 140 (.mkslice 8 1 [iv 0,iv 0,iv 0,iv 0,iv 0,iv 0,iv 0,iv 0] [0]) [.t 139],OK 141 lP 138 140,oq 142 (.un .not) [.t 141]] [137,138,139,140,141] []) (.cond (.t 142) (.seq (rgN [Oc 2 14] [1,5,6,142] [1,6]) .ret) .skip)) (.seq (rgN [Oc 7 0] [142] []) (.block 6 (.loop tO)))))))) eo))
def ep:zd:=(.seq (rgN [Oc 2 0] [1,5,99] [1]) .ret)
def er:zd:=(.seq (.seq (rgN [Oc 5 0] [4,78] []) (.block 4 (.loop xW))) ep)
def qe:zd:=(.seq (.seq (rgN [OF 64 18 1,Ol 65 64,OL 66 65,Oj 67 .gtr zb 66 8,Om 68 67,WF 69 19 1 68,Wl 70 69 68,WL 71 70 68,Wj 72 .gtr zb 71 160 68,Op 73 68 72] [3,13,64,65,66,67,68,69,70,71,72] []) (.cond (.t 73) (.seq (rgN [Oc 2 3] [1,73] [1]) .ret) .skip)) (.seq (.seq (rgN [Oc 4 0] [73] []) (.block 2 (.loop vO))) er))
def Z5:zd:=(.seq (rgN [OB 1 0,Oc 2 0] [0,2] []) (.seq (.seq (rgN [OF 8 0 1,On 9 6 8,Ok 10 nX 9,oq 11 (.un .not) [.t 10]] [8,9,10] []) (.cond (.t 11) (.seq (rgN [Oc 2 4] [1,11] [1]) .ret) .skip)) (.seq (.seq (rgN [Oc 3 0] [11] []) (.block 0 (.loop yT))) qe)))
def yb:List zq:=[.t 2]
theorem Me:zj Tryz.prog vB=some (bare Z5,yb,168):=by kernel_rfl
def amF:zd:=(.seq (rgN [Ob 33 .lss zb 32 31] [] []) (.seq (.cond (.t 33) .skip (.exit 0)) (.seq (.block 1 (.seq (rgN [Om 34 32,Om 9 34] [33,34] []) (rgN [Om 35 8,Om 36 9,oq 37 (.call xi) [.c (iv 0)],Oi 38 3 35 36,Oz 3 38 37] [9,35,36,37,38] []))) (rgN [Oj 39 .add zb 32 1,Om 32 39] [39] []))))
def amQ:zd:=(.seq (.region false [29] [Om 40 2,Om 41 8,⟨some 42,.build [iv 0,iv 0,iv 0,iv 0,zA] [(0,1),(4,1)],[.c (iv 1),.t 41],none⟩,⟨some 43,.mkslice 5 1 [iv 0,iv 0,iv 0,iv 0,zA] [0],[.t 42],none⟩,oq 44 (.appendU 5 56) [.t 40,.t 43],Om 6 44] [2,8,31,32,33,40,41,42,43,44] []) .ret)
def amR:zd:=(.seq (rgN [Om 45 2,OL 46 45,Om 10 46] [17,45,46] []) (.seq (rgN [Om 47 2,Om 48 7,Om 49 10,Oj 50 .add zb 49 1,⟨some 51,.build [iv 0,iv 0,iv 0,iv 0,zA] [(0,1),(1,1),(2,1)],[.c (iv 2),.t 48,.t 50],none⟩,⟨some 52,.mkslice 5 1 [iv 0,iv 0,iv 0,iv 0,zA] [0],[.t 51],none⟩,oq 53 (.appendU 5 56) [.t 47,.t 52],Om 2 53] [7,47,48,49,50,51,52,53] []) (.seq (rgD [ox (.start [54,55,56,57,58,59,60]) [],On 54 20 3,oq 55 (.mkslice 1 0 [iv 0] []) [],Om 56 1,oq 58 (.mkslice 1 1 [iv 0] [0]) [.c (iv (-1))],Om 60 2,oq 57 (.append 1 8) [.t 55,.t 56],oq 54 (.chk (.load (some 20))) [.t 3],oq 58 (.chk (.mkslice 1 1 [iv 0] [0])) [.c (iv (-1))],oq 60 (.chk (.mov)) [.t 2],oq 59 (.append 1 8) [.t 57,.t 58],oq 54 (.chk (.load (some 20))) [.t 3],oq 60 (.chk (.mov)) [.t 2],oq 61 (.callM amE [54,55,56,57,58,59,60]) [.t 54,.t 59,.t 60],Om 2 61] [54,55,56,58,60,57,59,61] []) (.seq (rgN [Om 62 2,Om 63 10,Om 64 2,OL 65 64,Oi 66 5 62 63,OF 67 3 66,Oz 1 67 65] [10,62,63,64,65,66,67] []) (.seq (rgD [ox (.start [68,69,70,71,72,73,74]) [],On 68 20 3,oq 69 (.mkslice 1 0 [iv 0] []) [],Om 70 1,oq 72 (.mkslice 1 1 [iv 0] [0]) [.c (iv 1)],Om 74 2,oq 71 (.append 1 8) [.t 69,.t 70],oq 68 (.chk (.load (some 20))) [.t 3],oq 72 (.chk (.mkslice 1 1 [iv 0] [0])) [.c (iv 1)],oq 74 (.chk (.mov)) [.t 2],oq 73 (.append 1 8) [.t 71,.t 72],oq 68 (.chk (.load (some 20))) [.t 3],oq 74 (.chk (.mov)) [.t 2],oq 75 (.callM amE [68,69,70,71,72,73,74]) [.t 68,.t 73,.t 74],Om 6 75] [1,2,3,68,69,70,72,74,71,73,75] [3]) .ret)))))
def amK:zd:=(.seq (rgN [OB 3 0,oq 6 .mov [.c zA]] [0,6] []) (.seq (rgN [Om 11 1,OL 12 11,Om 7 12] [11,12] []) (.seq (.seq (rgN [Om 13 7,OF 14 19 3,Ol 15 14,OL 16 15,Ob 17 .eql zb 13 16] [13,14,15,16] []) (.cond (.t 17) (.seq (.seq (rgD [On 18 20 3,Om 19 1,Ok 20 mq 19,OK 21 tJ 18 20,Oj 22 .neq zC 21 0] [1,7,17,18,19,20,21] []) (.cond (.t 22) (.seq (rgN [Om 23 2,⟨some 24,.build [iv 0,iv 0,iv 0,iv 0,zA] [(0,1)],[.c (iv 3)],none⟩,⟨some 25,.mkslice 5 1 [iv 0,iv 0,iv 0,iv 0,zA] [0],[.t 24],none⟩,oq 26 (.appendU 5 56) [.t 23,.t 25],Om 6 26] [2,3,22,23,24,25,26] [3]) .ret) .skip)) (.seq (rgN [On 27 20 3,Ok 28 pr 27,⟨some 29,.mk 3 56 zF,[.t 28,.t 28],none⟩,Om 8 29] [3,22,27,28,29] [3]) (.seq (.seq (rgN [Om 30 8,OL 31 30,Oc 32 0] [30] []) (.block 0 (.loop amF))) amQ))) .skip)) amR)))
def amH:List zq:=[.t 6]
theorem am7:zj Tryz.prog amE=some (bare amK,amH,76):=by kernel_rfl
def pC:zd:=(.seq (rgN [Ob 22 .lss zb 21 20] [] []) (.seq (.cond (.t 22) .skip (.exit 0)) (.seq (.block 1 (.seq (rgN [Oi 23 8 19 21,On 24 8 23,oq 7 (.alloc [iv 0,iv 0,iv 0,iv 0,iv 0,iv 0,iv 0,iv 0]) [],Oz 8 7 24] [22,23,24] []) (.seq (.seq (rgN [On 25 20 3,On 26 8 7,OK 27 sW 25 26,Om 8 27] [25,26,27] []) (.seq (rgN [Om 28 8,Oj 29 .neq zC 28 0] [28] []) (.cond (.t 29) (.seq (rgN [Om 30 8,Om 2 30] [3,5,19,20,21,7,8,29,30] [3,7]) .ret) .skip))) (.seq (rgN [OF 31 0 7,Ol 32 31,OF 33 1 7,On 34 6 33,oq 35 (.build [iv 0,iv 0,iv 0,iv 0,iv 0,iv 0,iv 0] [(0,1),(1,6)]) [.t 32,.t 34],oq 9 (.alloc [iv 0,iv 0,iv 0,iv 0,iv 0,iv 0,iv 0]) [],Oz 7 9 35] [7,8,29,31,32,33,34,35] [7]) (.seq (.seq (rgN [Om 36 5,On 37 7 9,oq 38 (.lookup xF false) [.t 36,.t 37]] [36,37] []) (.cond (.t 38) (.seq (rgN [Oc 2 7] [3,5,19,20,21,9,38] [3,9]) .ret) .skip)) (rgN [Om 39 5,On 40 7 9,ox (.mapset xF) [.t 39,.t 40,.c (bv true)]] [9,38,39,40] [9])))))) (rgN [Oj 41 .add zb 21 1,Om 21 41] [41] []))))
def j2:zd:=(.seq (rgN [Oc 2 0] [3,5,19,20,21,22] [3]) .ret)
def dO:zd:=(.seq (rgN [OB 1 0,Oc 2 0] [0,2] []) (.seq (rgN [On 10 20 1,⟨some 11,.build [iv 0,iv 0,iv 0,iv 0,iv 0,iv 0,iv 0,iv 0,iv 0,iv 0,iv 0,iv 0,iv 0,iv 0,iv 0,iv 0,iv 0,iv 0,zA,zA] [(0,20)],[.t 10],none⟩,⟨some 3,.alloc [iv 0,iv 0,iv 0,iv 0,iv 0,iv 0,iv 0,iv 0,iv 0,iv 0,iv 0,iv 0,iv 0,iv 0,iv 0,iv 0,iv 0,iv 0,zA,zA],[],none⟩,Oz 20 3 11] [10,11] []) (.seq (.seq (rgN [On 12 20 3,Ok 13 sV 12,Om 4 13] [12,13] []) (.seq (rgN [Om 14 4,Oj 15 .neq zC 14 0] [14] []) (.cond (.t 15) (.seq (rgN [Om 16 4,Om 2 16] [1,3,4,15,16] [1,3]) .ret) .skip))) (.seq (rgN [oq 17 .mkmap [],Om 5 17] [4,15,17] []) (.seq (.seq (rgN [OF 18 19 1,Ol 19 18,OL 20 19,Oc 21 0] [1,18] [1]) (.block 0 (.loop pC))) j2)))))
def sO:List zq:=[.t 2]
theorem Qd:zj Tryz.prog vf=some (bare dO,sO,42):=by kernel_rfl
def z4:zd:=(.seq (rgN [Ob 38 .lss zb 37 36] [] []) (.seq (.cond (.t 38) .skip (.exit 2)) (.seq (.block 3 (.seq (rgN [Oi 39 1 35 37,Ol 40 39,Om 8 40] [38,39,40] []) (.seq (.seq (rgN [Om 41 8,Om 42 4,Ob 43 .leq zb 41 42,Om 44 43,Wm 45 8 44,Wm 46 0 44,WL 47 46 44,Wb 48 .geq zb 45 47 44,Op 49 44 48,Om 50 49,Wm 51 3 50,Wm 52 8 50,Wi 53 1 51 52 50,Wl 54 53 50,Wj 55 .gtr zb 54 0 50,Op 56 50 55] [41,42,43,44,45,46,47,48,49,50,51,52,53,54,55] []) (.cond (.t 56) (.seq (rgN [oq 2 .mov [.c (bv false)]] [0,3,22,23,24,4,35,36,37,8,56] [21]) .ret) .skip)) (rgN [Om 57 3,Om 58 8,Oi 59 1 57 58,Ol 60 59,Oj 61 .add zb 60 1,Oi 62 1 57 58,Oz 1 62 61] [8,56,57,58,59,60,61,62] [])))) (rgN [Oj 63 .add zb 37 1,Om 37 63] [63] []))))
def rJ:zd:=(rgN [Oj 64 .add zb 24 1,Om 24 64] [4,35,36,37,38,64] [])
def uM : zd := (.seq (rgN [Ob 25 .lss zb 24 23] [] []) (.seq (.cond (.t 25) .skip (.exit 0)) (.seq (.block 1 (.seq (rgN [Om 26 24,Oi 27 5 22 24,On 28 5 27,⟨some 5,.alloc [iv 0,iv 0,iv 0,iv 0,zA],[],none⟩,Om 4 26,Oz 5 5 28] [25,26,27,28] []) (.seq (rgN [On 29 5 5,Ok 30 tF 29,Om 6 30] [5,29,30] [5]) (.seq (.seq (rgN [Om 31 6,oq 32 (.callm "saleroom/prooftree.wellFormed") [.t 31],oq 33 (.un .not) [.t 32]] [31,32] []) (.cond (.t 33) (.seq (rgN [oq 2 .mov [.c (bv false)]] [0,3,22,23,24,4,6,33] [21]) .ret) .skip)) (.seq (rgN [Om 34 6,oq 35 (.callm "saleroom/prooftree.next") [.t 34],OL 36 35,Oc 37 0] [6,33,34] []) (.block 2 (.loop z4))))))) rJ)))
def uN:zd:=(.seq (rgN [Ob 69 .lss zb 68 67] [] []) (.seq (.cond (.t 69) .skip (.exit 4)) (.seq (.block 5 (.seq (rgN [Oi 70 1 66 68,Ol 71 70,Om 10 71] [69,70,71] []) (.seq (rgN [Om 72 10,Oj 73 .eql zb 72 0] [10,72] []) (.cond (.t 73) (.seq (rgN [oq 2 .mov [.c (bv false)]] [66,67,68,73] [21]) .ret) .skip)))) (rgN [Oj 74 .add zb 68 1,Om 68 74] [73,74] []))))
def lc:zd:=(.seq (rgN [oq 2 .mov [.c (bv true)]] [66,67,68,69] [21]) .ret)
def lf:zd:=(.seq (.seq (rgN [Om 65 3,oq 66 (.slice 1 true false false) [.t 65,.c (iv 1)],OL 67 66,Oc 68 0] [0,3,22,23,24,25,65] []) (.block 4 (.loop uN))) lc)
def sI:zd:=(.seq (rgN [oq 2 .mov [.c (bv false)]] [2] []) (.seq (.seq (rgN [Om 11 0,OL 12 11,Oj 13 .lss zb 12 1,Om 14 13,Wm 15 0 14,WL 16 15 14,Wj 17 .gtr zb 16 65536 14,Op 18 14 17] [11,12,13,14,15,16,17] []) (.cond (.t 18) (.seq (rgN [oq 2 .mov [.c (bv false)]] [0,18] []) .ret) .skip)) (.seq (rgN [Om 19 0,OL 20 19,oq 21 (.mk 1 8 [iv 0]) [.t 20,.t 20],Om 3 21] [18,19,20,21] []) (.seq (.seq (rgN [Om 22 0,OL 23 22,Oc 24 0] [] []) (.block 0 (.loop uM))) lf))))
def wU:List zq:=[.t 2]
theorem XK:zj Tryz.prog ul=some (bare sI,wU,75):=by kernel_rfl
def bM:zd:=(.seq (rgN [OB 1 0,Oc 2 0] [0,2] []) (.seq (.seq (rgN [On 3 20 1,Ok 4 vf 3,Oj 5 .neq zC 4 0] [3,4] []) (.cond (.t 5) (.seq (rgN [Oc 2 0] [1,5] [1]) .ret) .skip)) (.seq (rgN [On 6 20 1,⟨some 7,.build [iv 0,iv 0,iv 0,iv 0,iv 0,iv 0,iv 0,iv 0,iv 0,iv 0,iv 0,iv 0,iv 0,iv 0,iv 0,iv 0,iv 0,iv 0,zA,zA] [(0,20)],[.t 6],none⟩,Ok 8 uF 7,Om 2 8] [1,5,6,7,8] [1]) .ret)))
def jA:List zq:=[.t 2]
theorem PM:zj Tryz.prog rq=some (bare bM,jA,9):=by kernel_rfl
def xS:zd:=(.seq (.seq (rgN [Om 28 11,Oj 29 .gtr zb 28 0] [28] []) (.cond (.t 29) .skip (.exit 2))) (.seq (.block 3 (.seq (rgN [Om 35 2,Om 36 7,Om 37 11,Oi 38 2 36 37,OF 39 0 38,Ol 40 39,Oi 41 5 35 40,OF 42 1 41,Ol 43 42,Om 12 43] [29,35,36,37,38,39,40,41,42,43] []) (.seq (rgN [Om 44 12,Om 45 10,OL 46 45,Ob 47 .lss zb 44 46] [44,45,46] []) (.cond (.t 47) (.seq (rgN [Om 48 10,Om 49 12,Oi 50 1 48 49,ox (.store 1) [.t 50,.c (iv (-1))]] [47,48,49,50] []) (.seq (rgN [Om 51 7,Om 52 11,Oi 53 2 51 52,OF 54 1 53,Ol 55 54] [51,52,53,54] []) (.cond (.t 55) (rgN [Om 56 10,Om 57 12,Oi 58 1 56 57,ox (.store 1) [.t 58,.c (iv 1)]] [12,55,56,57,58] []) .skip))) .skip)))) (rgN [Om 30 7,Om 31 11,Oi 32 2 30 31,OF 33 0 32,Ol 34 33,Om 11 34] [12,55,47,30,31,32,33,34] [])))
def la : zd := (.seq (.seq (rgD [On 59 5 9,Ok 60 tF 59,On 61 20 3,Om 62 1,Om 63 10,oq 64 (.callm "saleroom/prooftree.proves") [.t 60,.t 61,.t 62,.t 63],oq 65 (.un .not) [.t 64]] [10,11,29,59,60,61,62,63,64] [26]) (.cond (.t 65) (.seq (rgN [Oc 6 13] [1,2,3,7,16,17,18,9,8,65] [3,9,15]) .ret) .skip)) (.seq (rgN [OF 66 0 9,Ol 67 66,Oj 68 .eql zb 67 2] [65,66,67] []) (.cond (.t 68) (.seq (rgN [Om 69 7,OF 70 2 9,Ol 71 70,Om 72 8,oq 73 (.build [iv 0,bv false] [(0,1)]) [.t 72],Oi 74 2 69 71,Oz 2 74 73] [68,69,70,71,72,73,74] []) (rgN [Om 75 7,OF 76 3 9,Ol 77 76,Om 78 8,oq 79 (.build [iv 0,bv false] [(0,1),(1,1)]) [.t 78,.c (bv true)],Oi 80 2 75 77,Oz 2 80 79] [9,8,75,76,77,78,79,80] [9])) .skip)))
def rH:zd:=(rgN [Oj 81 .add zb 18 1,Om 18 81] [9,8,68,81] [9])
def rI:zd:=(.seq (rgN [Ob 19 .lss zb 18 17] [] []) (.seq (.cond (.t 19) .skip (.exit 0)) (.seq (.block 1 (.seq (rgN [Om 20 18,Oi 21 5 16 18,On 22 5 21,⟨some 9,.alloc [iv 0,iv 0,iv 0,iv 0,zA],[],none⟩,Om 8 20,Oz 5 9 22] [19,20,21,22] []) (.seq (rgN [OF 23 19 3,Ol 24 23,OL 25 24,oq 26 (.mk 1 8 [iv 0]) [.t 25,.t 25],Om 10 26] [23,24,25,26] []) (.seq (.seq (rgN [Om 27 8,Om 11 27] [27] []) (.block 2 (.loop xS))) la)))) rH)))
def lb:zd:=(.seq (rgN [Oc 6 0] [1,2,3,7,16,17,18,19] [3,15]) .ret)
def j6:zd:=(.seq (rgN [OB 3 0,Oc 6 0] [0,6] []) (.seq (rgN [Om 13 2,OL 14 13,oq 15 (.mk 2 16 [iv 0,bv false]) [.t 14,.t 14],Om 7 15] [13,14,15] []) (.seq (.seq (rgN [Om 16 2,OL 17 16,Oc 18 0] [] []) (.block 0 (.loop rI))) lb)))
def pQ:List zq:=[.t 6]
theorem XJ:zj Tryz.prog pq=some (bare j6,pQ,82):=by kernel_rfl
def YE:zd:=(.seq (rgN [OB 1 0,Oc 2 0] [0,2] []) (.seq (.seq (rgN [On 3 20 1,Ok 4 vB 3,Oj 5 .neq zC 4 0] [3,4] []) (.cond (.t 5) (.seq (rgN [Oc 2 0] [1,5] [1]) .ret) .skip)) (.seq (rgN [OF 6 18 1,Ol 7 6,OL 8 7,Oj 9 .add zb 8 12,Om 2 9] [1,5,6,7,8,9] [1]) .ret)))
def dd:List zq:=[.t 2]
theorem Jn:zj Tryz.prog pr=some (bare YE,dd,10):=by kernel_rfl
def lW:zd:=(.seq (rgN [Ob 22 .lss zb 21 20] [] []) (.seq (.cond (.t 22) .skip (.exit 0)) (.seq (.block 1 (.seq (rgN [Om 23 21,Om 7 23] [22,23] []) (rgN [Om 24 6,Om 25 7,oq 26 (.call xi) [.c (iv 0)],Oi 27 3 24 25,Oz 3 27 26] [7,24,25,26,27] []))) (rgN [Oj 28 .add zb 21 1,Om 21 28] [28] []))))
def dM:zd:=(.seq (rgN [Om 29 6,Om 30 0,Ok 31 xi 30,oq 32 (.iaddrS 3) [.t 29,.c (iv 2)],Oz 3 32 31] [0,20,21,22,29,30,31,32] []) (.seq (rgN [On 33 20 5,Om 34 6,Oz 20 2 33,Om 3 34] [5,6,33,34] [5]) .ret))
def Yv:zd:=(.seq (rgN [⟨some 2,.alloc [iv 0,iv 0,iv 0,iv 0,iv 0,iv 0,iv 0,iv 0,iv 0,iv 0,iv 0,iv 0,iv 0,iv 0,iv 0,iv 0,iv 0,iv 0,zA,zA],[],none⟩,oq 3 .mov [.c zA]] [3] []) (.seq (rgN [oq 8 (.build [iv 0,iv 0,iv 0,iv 0,iv 0,iv 0] [(0,1)]) [.c (iv 1)],oq 4 (.alloc [iv 0,iv 0,iv 0,iv 0,iv 0,iv 0]) [],Oz 6 4 8] [8] []) (.seq (rgN [On 9 6 4,On 10 6 4,oq 11 (.mkslice 1 2 [iv 0] [0,1]) [.c (iv 0),.c (iv 0)],On 12 6 4,oq 13 (.build [iv 0,iv 0,iv 0,iv 0,iv 0,iv 0,iv 0,iv 0] [(1,6),(7,1)]) [.t 12,.c (iv 9)],On 14 6 4,oq 15 (.build [iv 0,iv 0,iv 0,iv 0,iv 0,iv 0,iv 0,iv 0] [(0,1),(1,6),(7,1)]) [.c (iv 1),.t 14,.c (iv 7)],oq 16 (.mkslice 8 2 [iv 0,iv 0,iv 0,iv 0,iv 0,iv 0,iv 0,iv 0] [0,1]) [.t 13,.t 15],⟨some 17,.build [iv 0,iv 0,iv 0,iv 0,iv 0,iv 0,iv 0,iv 0,iv 0,iv 0,iv 0,iv 0,iv 0,iv 0,iv 0,iv 0,iv 0,iv 0,zA,zA] [(0,6),(6,6),(18,1),(19,1)],[.t 9,.t 10,.t 11,.t 16],none⟩,⟨some 5,.alloc [iv 0,iv 0,iv 0,iv 0,iv 0,iv 0,iv 0,iv 0,iv 0,iv 0,iv 0,iv 0,iv 0,iv 0,iv 0,iv 0,iv 0,iv 0,zA,zA],[],none⟩,Oz 20 5 17] [4,9,10,11,12,13,14,15,16,17] [4]) (.seq (rgN [⟨some 18,.mk 3 56 zF,[.c (iv 14),.c (iv 14)],none⟩,Om 6 18] [18] []) (.seq (.seq (rgN [Om 19 6,OL 20 19,Oc 21 0] [19] []) (.block 0 (.loop lW))) dM)))))
def Xc:List zq:=[.cell 2 (some 20),.t 3]
theorem Jj:zj Tryz.prog lN=some (bare Yv,Xc,35):=by kernel_rfl
def qg:zd:=(.seq (.seq (rgN [Om 18 8,Om 19 5,OL 20 19,Ob 21 .lss zb 18 20] [18,19,20] []) (.cond (.t 21) .skip (.exit 0))) (.seq (.block 1 (rgN [Om 24 7,Om 25 5,Om 26 8,Oi 27 8 25 26,OF 28 7 27,Ol 29 28,Ob 30 .add xE 24 29,Om 7 30] [21,24,25,26,27,28,29,30] [])) (rgN [Om 22 8,Oj 23 .add zb 22 1,Om 8 23] [22,23] [])))
def mw:zd:=(.seq (rgN [Om 31 7,Om 4 31] [5,7,8,21,31] []) .ret)
def n6:zd:=(.seq (rgN [OB 2 0,Oc 4 0] [0,4] []) (.seq (.seq (rgN [On 9 20 2,Ok 10 vB 9,Oj 11 .neq zC 10 0] [9,10] []) (.cond (.t 11) (.seq (rgN [Oc 4 0] [1,2,11] [2]) .ret) .skip)) (.seq (rgN [On 13 20 2,Om 14 1,OK 15 ru 13 14,Om 12 15,Oe 16 0 12,Oe 17 1 12,Om 5 16,Om 6 17] [1,2,11,13,14,15,12,16,17,6] [2]) (.seq (rgN [Oc 7 0] [] []) (.seq (.seq (rgN [Oc 8 0] [] []) (.block 0 (.loop qg))) mw)))))
def mc:List zq:=[.t 4]
theorem gN:zj Tryz.prog nY=some (bare n6,mc,32):=by kernel_rfl
def qf:zd:=(.seq (rgN [OB 2 0,Oc 4 0] [0,4] []) (.seq (rgN [On 8 20 2,Ok 9 vB 8,Om 5 9] [8,9] []) (.seq (.seq (rgN [Om 10 5,Oj 11 .neq zC 10 0] [10] []) (.cond (.t 11) (.seq (rgN [Om 12 5,Om 4 12] [1,2,5,11,12] [2]) .ret) .skip)) (.seq (rgN [On 14 20 2,Om 15 1,OK 16 ru 14 15,Om 13 16,Oe 17 0 13,Oe 18 1 13,Om 6 17,Om 7 18] [1,5,11,14,15,16,13,17,18] []) (.seq (.seq (rgN [Om 19 7,oq 20 (.un .not) [.t 19]] [7,19] []) (.cond (.t 20) (.seq (rgN [Oc 4 4] [2,6,20] [2]) .ret) .skip)) (.seq (.seq (rgN [On 21 20 2,Om 22 6,OK 23 lP 21 22,oq 24 (.un .not) [.t 23]] [2,6,20,21,22,23] [2]) (.cond (.t 24) (.seq (rgN [Oc 4 14] [24] []) .ret) .skip)) (.seq (rgN [Oc 4 0] [24] []) .ret)))))))
def tY:List zq:=[.t 4]
theorem mO:zj Tryz.prog tJ=some (bare qf,tY,25):=by kernel_rfl
def jl:zd:=(.seq (.seq (rgN [Om 4 0,oq 5 (.bin .geq zg (.tmp 4) (.const (.int .u64 128))) [.t 4,.c (.val (.int .u64 128))]] [4] []) (.cond (.t 5) .skip (.exit 0))) (.block 1 (.seq (rgN [Om 6 3,Om 7 0,oq 8 (.conv zg rz) [.t 7],oq 9 (.bin .or rz (.tmp 8) (.const (.int .u8 128))) [.t 8,.c (.val (.int .u8 128))],oq 10 (.mkslice 1 1 [.val (.int .u8 0)] [0]) [.t 9],oq 11 (.append 1 1) [.t 6,.t 10],Om 3 11] [5,6,7,8,9,10,11] []) (rgN [Om 12 0,oq 13 (.bin .shr zg (.tmp 12) (.const (.int .u64 7))) [.t 12,.c (.val (.int .u64 7))],Om 0 13] [12,13] []))))
def bR:zd:=(.seq (rgN [Om 14 3,Om 15 0,oq 16 (.conv zg rz) [.t 15],oq 17 (.mkslice 1 1 [.val (.int .u8 0)] [0]) [.t 16],oq 18 (.append 1 1) [.t 14,.t 17],oq 19 (.conv p8 yi) [.t 18],Om 2 19] [0,3,5,14,15,16,17,18,19] []) .ret)
def UR:zd:=(.seq (rgN [⟨some 2,.mov,[.c (.val (.string ⟨#[]⟩))],none⟩] [2] []) (.seq (rgN [oq 3 .mov [.c zA]] [] []) (.seq (.block 0 (.loop jl)) bR)))
def Ta:List zq:=[.t 2]
theorem Gt:zj Tryz.prog x6=some (bare UR,Ta,20):=by kernel_rfl
def rL:zd:=(.seq (rgN [OB 1 0,oq 2 .mov [.c (.val (.nilIface))]] [0,2] []) (.seq (.seq (rgN [OF 3 0 1,Ol 4 3] [3] []) (.block 0 (.seq (rgN [Oj 6 .eql zb 4 1,Om 5 6] [6] []) (.cond (.t 5) (.seq (rgN [On 7 5 1,⟨some 8,.build [iv 0,iv 0,iv 0,iv 0,zA] [(0,5)],[.t 7],none⟩,oq 9 (.mkif xP) [.t 8],Om 2 9] [1,4,5,7,8,9] [1]) .ret) (.seq (rgN [Oj 11 .eql zb 4 2,Om 10 11] [5,11] []) (.cond (.t 10) (.seq (rgN [On 12 5 1,⟨some 13,.build [iv 0,iv 0,iv 0,iv 0,zA] [(0,5)],[.t 12],none⟩,oq 14 (.mkif xG) [.t 13],Om 2 14] [1,4,10,12,13,14] [1]) .ret) (.seq (rgN [Oj 16 .eql zb 4 3,Om 15 16] [4,10,16] []) (.cond (.t 15) (.seq (rgN [On 17 5 1,⟨some 18,.build [iv 0,iv 0,iv 0,iv 0,zA] [(0,5)],[.t 17],none⟩,oq 19 (.mkif xa) [.t 18],Om 2 19] [1,15,17,18,19] [1]) .ret) .skip)))))))) (.seq (rgN [oq 20 (.build [] []) [],oq 21 (.mkif uG) [.t 20],Om 2 21] [1,15,20,21] [1]) .ret)))
def rY:List zq:=[.t 2]
theorem PN:zj Tryz.prog tF=some (bare rL,rY,22):=by kernel_rfl
def eD:zd:=(.seq (rgN [oq 2 .mov [.c (.val (.pointer none))]] [2] []) (.seq (rgN [Om 3 0,⟨some 4,.build [.val (.string ⟨#[]⟩),iv 0] [(0,1)],[.t 3],none⟩,OB 5 4,Om 2 5] [0,3,4,5] []) .ret))
def dh:List zq:=[.t 2]
theorem Ss:zj Tryz.prog qa=some (bare eD,dh,6):=by kernel_rfl
def yh:zd:=(.seq (.block 1 (.seq (.seq (rgN [Om 13 6,Om 14 0,ON 15 14,OF 16 0 15,Ol 17 16,oq 18 (.len true) [.t 17],Ob 19 .eql zb 13 18] [13,14,15,16,17,18] []) (.cond (.t 19) (.seq (rgN [Om 20 0,oq 21 (.callI yj) [.t 20,.c (iv 1)]] [0,1,5,6,19,20,21] []) (.seq (rgN [oq 4 .mov [.c (.val (.int .u64 0))]] [] []) .ret)) .skip)) (.seq (rgN [Om 22 0,ON 23 22,OF 24 0 23,Ol 25 24,Om 26 6,oq 27 (.idxV yi) [.t 25,.t 26],Om 7 27] [19,22,23,24,25,26,27] []) (.seq (.seq (rgN [Om 28 6,Oj 29 .eql zb 28 9,Om 30 29,Vm 31 7 30,⟨some 32,.bin .gtr rz (.tmp 31) (.const (.int .u8 1)),[.t 31,.c (.val (.int .u8 1))],some (30,true)⟩,Oq 33 30 32] [28,29,30,31,32] []) (.cond (.t 33) (.seq (rgN [Om 34 0,oq 35 (.callI yj) [.t 34,.c (iv 2)]] [0,1,5,6,7,33,34,35] []) (.seq (rgN [oq 4 .mov [.c (.val (.int .u64 0))]] [] []) .ret)) .skip)) (.seq (rgN [Om 36 5,Om 37 7,oq 38 (.bin .and rz (.tmp 37) (.const (.int .u8 127))) [.t 37,.c (.val (.int .u8 127))],oq 39 (.conv rz zg) [.t 38],Om 40 6,oq 41 (.conv zb bG) [.t 40],oq 42 (.bin .mul bG (.const (.int .u64 7)) (.tmp 41)) [.c (.val (.int .u64 7)),.t 41],Ob 43 .shl zg 39 42,Ob 44 .or zg 36 43,Om 5 44] [33,36,37,38,39,40,41,42,43,44] []) (.seq (.seq (rgN [Om 45 7,oq 46 (.bin .geq rz (.tmp 45) (.const (.int .u8 128))) [.t 45,.c (.val (.int .u8 128))]] [45] []) (.cond (.t 46) (.exit 1) .skip)) (.seq (.seq (rgN [Om 47 7,oq 48 (.bin .eql rz (.tmp 47) (.const (.int .u8 0))) [.t 47,.c (.val (.int .u8 0))],Om 49 48,Vm 50 6 49,Vj 51 .gtr zb 50 0 49,Oq 52 49 51] [7,46,47,48,49,50,51] []) (.cond (.t 52) (.seq (rgN [Om 53 0,oq 54 (.callI yj) [.t 53,.c (iv 2)]] [0,1,5,6,52,53,54] []) (.seq (rgN [oq 4 .mov [.c (.val (.int .u64 0))]] [] []) .ret)) .skip)) (.seq (.seq (rgN [Om 55 5,Om 56 1,Ob 57 .gtr zg 55 56] [1,52,55,56] []) (.cond (.t 57) (.seq (rgN [Om 58 0,oq 59 (.callI yj) [.t 58,.c (iv 4)]] [0,5,6,57,58,59] []) (.seq (rgN [oq 4 .mov [.c (.val (.int .u64 0))]] [] []) .ret)) .skip)) (.seq (rgN [Om 60 0,Om 61 0,ON 62 61,OF 63 0 62,Ol 64 63,Om 65 6,Oj 66 .add zb 65 1,oq 67 (.sliceV yi true false false) [.t 64,.t 66],ON 68 60,OF 69 0 68,Oz 1 69 67] [0,6,57,60,61,62,63,64,65,66,67,68,69] []) (.seq (rgN [Om 70 5,Om 4 70] [5,70] []) .ret)))))))))) (rgN [Om 11 6,Oj 12 .add zb 11 1,Om 6 12] [7,46,11,12] []))
def nK:zd:=(.seq (rgN [oq 4 .mov [.c (.val (.int .u64 0))]] [4] []) (.seq (.seq (rgN [Om 8 0,Ok 9 xr 8,oq 10 (.un .not) [.t 9]] [8,9] []) (.cond (.t 10) (.seq (rgN [oq 4 .mov [.c (.val (.int .u64 0))]] [0,1,10] []) .ret) .skip)) (.seq (rgN [oq 5 .mov [.c (.val (.int .u64 0))]] [10] []) (.seq (rgN [Oc 6 0] [] []) (.block 0 (.loop yh))))))
def yo:List zq:=[.t 4]
theorem bu:zj Tryz.prog z7=some (bare nK,yo,71):=by kernel_rfl
def mW:zd:=(.seq (rgN [Oc 2 0] [2] []) (.seq (.seq (rgN [Om 3 0,oq 4 (.bin .eql qZ (.tmp 3) (.const (.pointer none))) [.t 3,.c (.val (.pointer none))]] [3] []) (.cond (.t 4) (.seq (rgN [Oc 2 6] [0,4] []) .ret) .skip)) (.seq (rgN [Om 5 0,ON 6 5,OF 7 1 6,Ol 8 7,Om 2 8] [0,4,5,6,7,8] []) .ret)))
def lF:List zq:=[.t 2]
theorem ai:zj Tryz.prog wJ=some (bare mW,lF,9):=by kernel_rfl
def yX:zd:=(.seq (.seq (rgN [Om 31 5,Om 32 4,Ob 33 .lss zb 31 32,Om 34 33,Vm 35 0 34,Vk 36 wJ 35 34,Vj 37 .eql zC 36 0 34,Oq 38 34 37] [31,32,33,34,35,36,37] []) (.cond (.t 38) .skip (.exit 1))) (.seq (.block 2 (rgD [ox (.start [41,42,43,44,45]) [],OF 41 4 3,Ol 42 41,Om 43 0,oq 44 (.callM wC [41,42,43,44,45]) [.t 43],oq 41 (.chk (.faddr 4)) [.t 3],oq 42 (.chk (.load none)) [.t 41],⟨some 45,.mkslice 3 1 zF [0],[.t 44],none⟩,oq 46 (.append 3 56) [.t 42,.t 45],OF 47 4 3,Oz 1 47 46] [38,41,42,43,44,45,46,47] [])) (rgN [Om 39 5,Oj 40 .add zb 39 1,Om 5 40] [39,40] [])))
def ym:zd:=(.seq (rgN [On 52 5 3,Oz 5 2 52] [3,0,4,5,38,48,52] [3]) .ret)
def nO:zd:=(.seq (rgN [⟨some 2,.alloc [iv 0,iv 0,iv 0,iv 0,zA],[],none⟩] [] []) (.seq (rgN [Om 6 0,oq 7 (.callI z7) [.t 6,.c (.val (.int .u64 3))],oq 8 (.conv zg zb) [.t 7],⟨some 9,.build [iv 0,iv 0,iv 0,iv 0,zA] [(0,1)],[.t 8],none⟩,⟨some 3,.alloc [iv 0,iv 0,iv 0,iv 0,zA],[],none⟩,Oz 5 3 9] [6,7,8,9] []) (.seq (.seq (rgN [OF 10 0 3,Ol 11 10] [10] []) (.block 0 (.seq (rgN [Oj 13 .eql zb 11 2,Om 12 13] [13] []) (.cond (.t 12) (rgN [Om 14 0,oq 15 (.callI z7) [.t 14,.c (.val (.int .u64 65536))],oq 16 (.conv zg zb) [.t 15],Om 17 0,oq 18 (.callI z7) [.t 17,.c (.val (.int .u64 65536))],oq 19 (.conv zg zb) [.t 18],Om 20 0,oq 21 (.callI z7) [.t 20,.c (.val (.int .u64 65536))],oq 22 (.conv zg zb) [.t 21],OF 23 1 3,Oz 1 23 16,OF 24 2 3,Oz 1 24 19,OF 25 3 3,Oz 1 25 22] [0,11,12,14,15,16,17,18,19,20,21,22,23,24,25] []) (.seq (rgN [Oj 27 .eql zb 11 1,Om 26 27] [12,27] []) (.cond (.t 26) (.seq (rgN [Om 28 0,oq 29 (.callI z7) [.t 28,.c (.val (.int .u64 40))],oq 30 (.conv zg zb) [.t 29],Om 4 30] [11,26,28,29,30] []) (.seq (rgN [Oc 5 0] [] []) (.block 1 (.loop yX)))) (.seq (rgN [Oj 49 .eql zb 11 0,Om 48 49] [11,26,49] []) (.cond (.t 48) (rgN [Om 50 0,oq 51 (.callI yj) [.t 50,.c (iv 2)]] [0,48,50,51] []) .skip)))))))) ym)))
def yB:List zq:=[.cell 2 (some 5)]
theorem bB:zj Tryz.prog v6=some (bare nO,yB,53):=by kernel_rfl
def mV:zd:=(.seq (rgN [Oc 2 0] [2] []) (.seq (.seq (rgN [Om 3 0,Ok 4 xr 3,Om 5 4,Vm 6 0 5,VN 7 6 5,VF 8 0 7 5,Vl 9 8 5,⟨some 10,.bin .neq yi (.tmp 9) (.const (.string ⟨#[]⟩)),[.t 9,.c (.val (.string ⟨#[]⟩))],some (5,true)⟩,Oq 11 5 10] [3,4,5,6,7,8,9,10] []) (.cond (.t 11) (rgN [Om 12 0,oq 13 (.callI yj) [.t 12,.c (iv 3)]] [11,12,13] []) .skip)) (.seq (rgN [Om 14 0,Ok 15 wJ 14,Om 2 15] [0,11,14,15] []) .ret)))
def uU:List zq:=[.t 2]
theorem ah:zj Tryz.prog uD=some (bare mV,uU,16):=by kernel_rfl
def l7:zd:=(.seq (.seq (rgN [Om 11 5,Om 12 0,OL 13 12,Ob 14 .lss zb 11 13] [11,12,13] []) (.cond (.t 14) .skip (.exit 0))) (.seq (.block 1 (.seq (rgD [Om 17 0,Om 18 5,Oi 19 3 17 18,On 20 3 19,Om 21 1,Om 22 5,Oi 23 3 21 22,On 24 3 23,OK 25 Tl 20 24,oq 26 (.un .not) [.t 25]] [14,17,18,19,20,21,22,23,24,25] []) (.cond (.t 26) (.seq (rgN [oq 4 .mov [.c (bv false)]] [0,1,5,26] []) .ret) .skip))) (rgN [Om 15 5,Oj 16 .add zb 15 1,Om 5 16] [26,15,16] [])))
def dN:zd:=(.seq (rgN [oq 4 .mov [.c (bv true)]] [0,1,5,14] []) .ret)
def Yy:zd:=(.seq (rgN [oq 4 .mov [.c (bv false)]] [4] []) (.seq (.seq (rgN [Om 6 0,OL 7 6,Om 8 1,OL 9 8,Ob 10 .neq zb 7 9] [6,7,8,9] []) (.cond (.t 10) (.seq (rgN [oq 4 .mov [.c (bv false)]] [0,1,10] []) .ret) .skip)) (.seq (.seq (rgN [Oc 5 0] [10] []) (.block 0 (.loop l7))) dN)))
def Xe:List zq:=[.t 4]
theorem Jl:zj Tryz.prog fO=some (bare Yy,Xe,27):=by kernel_rfl
def tN:zd:=(.seq (.seq (rgN [Om 4 3,Oj 5 .lss zb 4 6] [4] []) (.cond (.t 5) .skip (.exit 0))) (.seq (.block 1 (.seq (rgN [Om 8 3,oq 9 (.iaddrA 6 1) [.t 1,.t 8],Ol 10 9,Oj 11 .lss zb 10 0,Om 12 11,Wm 13 3 12,⟨some 14,.iaddrA 6 1,[.t 1,.t 13],some (12,false)⟩,Wl 15 14 12,Wj 16 .gtr zb 15 4 12,Op 17 12 16] [5,8,9,10,11,12,13,14,15,16] []) (.cond (.t 17) (.seq (rgN [oq 2 .mov [.c (bv false)]] [1,3,17] [1]) .ret) .skip))) (rgN [Om 6 3,Oj 7 .add zb 6 1,Om 3 7] [17,6,7] [])))
def eh:zd:=(.seq (rgN [oq 2 .mov [.c (bv true)]] [1,3,5] [1]) .ret)
def Z4:zd:=(.seq (rgN [OB 1 0,oq 2 .mov [.c (bv false)]] [0,2] []) (.seq (.seq (rgN [Oc 3 0] [] []) (.block 0 (.loop tN))) eh))
def amM:List zq:=[.t 2]
theorem Md:zj Tryz.prog nX=some (bare Z4,amM,18):=by kernel_rfl
def q9:zd:=(.seq (.seq (rgN [Om 20 7,Om 21 1,OL 22 21,Ob 23 .lss zb 20 22] [20,21,22] []) (.cond (.t 23) .skip (.exit 2))) (.seq (.block 3 (.seq (rgD [On 27 20 2,Om 28 5,Om 29 1,Om 30 7,Oi 31 8 29 30,On 32 8 31,oq 33 (.call rx) [.t 27,.t 28,.t 32],Om 26 33,Oe 34 0 26,Oe 35 1 26,Om 8 34,Om 9 35] [23,27,28,29,30,31,32,33,26,34,35,9] []) (rgN [Om 36 6,Om 37 8,Ob 38 .add zb 36 37,Om 6 38] [8,36,37,38] []))) (rgN [Om 24 7,Oj 25 .add zb 24 1,Om 7 25] [24,25] [])))
def dP:zd:=(.seq (rgN [On 40 20 2,Om 41 5,oq 42 (.build [iv 0,iv 0,iv 0,iv 0,iv 0,iv 0,iv 0,iv 0] []) [],oq 43 (.call rx) [.t 40,.t 41,.t 42],Om 39 43,Oe 44 0 39,Oe 45 1 39,Om 10 44,Om 11 45] [7,23,40,41,42,43,39,44,45,10] []) (.seq (rgN [Om 46 6,Om 47 11,Ob 48 .gtr zb 46 47] [6,11,46,47] []) (.cond (.t 48) (.seq (rgN [oq 4 .mov [.c (bv false)]] [1,2,5,48] [2]) .ret) .skip)))
def dQ:zd:=(rgN [Om 18 5,Oj 19 .add zb 18 1,Om 5 19] [48,18,19] [])
def amS:zd:=(.seq (.seq (rgN [Om 12 5,OF 13 18 2,Ol 14 13,OL 15 14,Oj 16 .add zb 15 12,Ob 17 .lss zb 12 16] [12,13,14,15,16] []) (.cond (.t 17) .skip (.exit 0))) (.seq (.block 1 (.seq (rgN [Oc 6 0] [17] []) (.seq (.seq (rgN [Oc 7 0] [] []) (.block 2 (.loop q9))) dP))) dQ))
def dR:zd:=(.seq (rgN [oq 4 .mov [.c (bv true)]] [1,2,5,17] [2]) .ret)
def YF:zd:=(.seq (rgN [OB 2 0,oq 4 .mov [.c (bv false)]] [0,4] []) (.seq (.seq (rgN [Oc 5 0] [] []) (.block 0 (.loop amS))) dR))
def de:List zq:=[.t 4]
theorem Jo:zj Tryz.prog lP=some (bare YF,de,49):=by kernel_rfl
def t6:zd:=(.seq (.seq (rgN [Om 5 4,Om 6 0,OL 7 6,Ob 8 .lss zb 5 7] [5,6,7] []) (.cond (.t 8) .skip (.exit 0))) (.seq (.block 1 (.seq (rgN [Om 11 0,Om 12 4,Oi 13 1 11 12,Ol 14 13,Oj 15 .eql zb 14 1] [8,11,12,13,14] []) (.cond (.t 15) (rgN [Om 16 3,Om 17 4,oq 18 (.mkslice 1 1 [iv 0] [0]) [.t 17],oq 19 (.append 1 8) [.t 16,.t 18],Om 3 19] [15,16,17,18,19] []) .skip))) (rgN [Om 9 4,Oj 10 .add zb 9 1,Om 4 10] [15,9,10] [])))
def jb:zd:=(.seq (rgN [Om 20 3,Om 2 20] [0,3,4,8,20] []) .ret)
def ew:zd:=(.seq (rgN [oq 2 .mov [.c zA]] [2] []) (.seq (rgN [oq 3 .mov [.c zA]] [] []) (.seq (.seq (rgN [Oc 4 0] [] []) (.block 0 (.loop t6))) jb)))
def df:List zq:=[.t 2]
theorem Sr:zj Tryz.prog mq=some (bare ew,df,21):=by kernel_rfl
def UN:zd:=(.seq (rgN [Oa 2] [] []) (.seq (rgN [Om 6 0,oq 7 (.call Qn) [.t 6,.c (iv 1)],Om 5 7,Oe 8 0 5,Oe 9 1 5,Oa 3,Oz 3 3 8,Om 4 9] [0,6,7,5,8,9,4] []) (.seq (rgN [On 10 3 3,Oz 3 2 10] [3,10] [3]) .ret)))
def U9:List zq:=[.cell 2 (some 3)]
theorem Gr:zj Tryz.prog xi=some (bare UN,U9,11):=by kernel_rfl
def zZ:zd:=(.seq (rgN [Oj 17 .lss zb 16 6] [] []) (.seq (.cond (.t 17) .skip (.exit 0)) (.seq (.block 1 (.seq (rgN [Om 18 16,Om 4 18] [17,18] []) (.seq (rgD [Om 19 4,OF 20 0 1,OF 21 6 20,oq 22 (.iaddrA 6 1) [.t 21,.t 19],Ol 23 22,Om 24 4,OF 25 0 1,OF 26 12 25,oq 27 (.iaddrA 6 1) [.t 26,.t 24],Ol 28 27,Om 5 23,Om 6 28] [19,20,21,22,23,24,25,26,27,28] []) (.seq (rgN [Om 29 6,Oj 30 .lss zb 29 0,Om 31 30,Wm 32 6 31,Wj 33 .gtr zb 32 4 31,Op 34 31 33,Om 35 34,Wm 36 5 35,Wj 37 .lss zb 36 0 35,Op 38 35 37,Om 39 38,Wm 40 5 39,Wm 41 4 39,WF 42 0 1 39,WF 43 0 42 39,⟨some 44,.iaddrA 6 1,[.t 43,.t 41],some (39,false)⟩,Wl 45 44 39,Wb 46 .gtr zb 40 45 39,Op 47 39 46,Om 48 47,Wm 49 6 48,Wj 50 .eql zb 49 0 48,Wm 51 50 48,Vm 52 5 51,Vm 53 4 51,VF 54 0 1 51,VF 55 0 54 51,⟨some 56,.iaddrA 6 1,[.t 55,.t 53],some (51,true)⟩,Vl 57 56 51,Vb 58 .neq zb 52 57 51,Wq 59 51 58 48,Op 60 48 59] [4,5,6,29,30,31,32,33,34,35,36,37,38,39,40,41,42,43,44,45,46,47,48,49,50,51,52,53,54,55,56,57,58,59] []) (.cond (.t 60) (.seq (rgN [Oc 2 4] [1,16,60] [1]) .ret) .skip))))) (rgN [Oj 61 .add zb 16 1,Om 16 61] [60,61] []))))
def xN:zd:=(.seq (rgN [Ob 79 .lss zb 78 77] [] []) (.seq (.cond (.t 79) .skip (.exit 2)) (.seq (.block 3 (.seq (rgN [Oi 80 1 76 78,Ol 81 80,Om 8 81] [79,80,81] []) (.seq (rgN [Om 82 8,Oj 83 .lss zb 82 0,Om 84 83,Wm 85 8 84,Wj 86 .gtr zb 85 4 84,Op 87 84 86] [8,82,83,84,85,86] []) (.cond (.t 87) (.seq (rgN [Oc 2 4] [76,77,78,87] []) .ret) .skip)))) (rgN [Oj 88 .add zb 78 1,Om 78 88] [87,88] []))))
def q8:zd:=(.seq (rgN [Oc 2 0] [76,77,78,79] []) .ret)
def wY:zd:=(.seq (.seq (rgN [OF 62 0 1,OF 63 18 62,Ol 64 63,OL 65 64,Oj 66 .gtr zb 65 8,Om 67 66,WF 68 0 1 67,WF 69 19 68 67,Wl 70 69 67,WL 71 70 67,Wj 72 .gtr zb 71 160 67,Op 73 67 72] [16,17,62,63,64,65,66,67,68,69,70,71,72] []) (.cond (.t 73) (.seq (rgN [Oc 2 3] [1,73] [1]) .ret) .skip)) (.seq (.seq (rgN [OF 74 0 1,OF 75 18 74,Ol 76 75,OL 77 76,Oc 78 0] [1,73,74,75] [1]) (.block 2 (.loop xN))) q8))
def nL:zd:=(.seq (rgN [OB 1 0,Oc 2 0] [0,2] []) (.seq (.seq (rgN [OF 9 0 1,OF 10 0 9,On 11 6 10,Ok 12 pW 11,Om 3 12] [9,10,11,12] []) (.seq (rgN [Om 13 3,Oj 14 .neq zC 13 0] [13] []) (.cond (.t 14) (.seq (rgN [Om 15 3,Om 2 15] [1,3,14,15] [1]) .ret) .skip))) (.seq (.seq (rgN [Oc 16 0] [3,14] []) (.block 0 (.loop zZ))) wY)))
def z8:List zq:=[.t 2]
theorem bz:zj Tryz.prog sV=some (bare nL,z8,89):=by kernel_rfl
def nM:zd:=(.seq (rgN [OB 2 0,OB 3 1,Oc 4 0] [0,1,4] []) (.seq (.seq (rgN [OF 6 0 2,OF 7 18 6,Ol 8 7,OL 9 8,On 10 8 3,OK 11 mn 9 10,Om 5 11] [6,7,8,9,10,11] []) (.seq (rgN [Om 12 5,Oj 13 .neq zC 12 0] [12] []) (.cond (.t 13) (.seq (rgN [Om 14 5,Om 4 14] [2,3,5,13,14] [2,3]) .ret) .skip))) (.seq (.block 0 (.seq (rgN [OF 16 1 3,On 17 6 16,oq 18 (.build [iv 0,iv 0,iv 0,iv 0,iv 0,iv 0] []) [],Ob 19 .eql vg 17 18,Om 15 19] [5,13,16,17,18,19] []) (.cond (.t 15) (.seq (rgN [Oc 4 4] [2,3,15] [2,3]) .ret) (.seq (rgN [On 21 20 2,On 22 8 3,oq 23 (.mkslice 8 1 [iv 0,iv 0,iv 0,iv 0,iv 0,iv 0,iv 0,iv 0] [0]) [.t 22],OK 24 uE 21 23,oq 25 (.un .not) [.t 24],Om 20 25] [2,3,15,21,22,23,24,25] [2,3]) (.cond (.t 20) (.seq (rgN [Oc 4 14] [20] []) .ret) .skip))))) (.seq (rgN [Oc 4 0] [20] []) .ret))))
def wB:List zq:=[.t 4]
theorem bA:zj Tryz.prog sW=some (bare nM,wB,26):=by kernel_rfl
def mY:zd:=(.seq (rgN [OB 1 0,Oc 2 0] [0,2] []) (.seq (rgN [OF 3 0 1,OF 4 18 3,Ol 5 4,OL 6 5,Oj 7 .add zb 6 12,Om 2 7] [1,3,4,5,6,7] [1]) .ret))
def lG:List zq:=[.t 2]
theorem al:zj Tryz.prog uF=some (bare mY,lG,8):=by kernel_rfl
def y9:zd:=(.seq (.seq (rgN [Om 8 7,Om 9 1,OL 10 9,Ob 11 .lss zb 8 10] [8,9,10] []) (.cond (.t 11) .skip (.exit 0))) (.seq (.block 1 (.seq (.seq (rgD [Om 14 1,Om 15 7,Oi 16 1 14 15,Ol 17 16,Oj 18 .lss zb 17 0,Om 19 18,Wm 20 1 19,Wm 21 7 19,Wi 22 1 20 21 19,Wl 23 22 19,WF 24 19 2 19,Wl 25 24 19,WL 26 25 19,Wb 27 .geq zb 23 26 19,Op 28 19 27,Om 29 28,Wm 30 7 29,Wj 31 .gtr zb 30 0 29,Wm 32 31 29,Vm 33 1 32,Vm 34 7 32,Vi 35 1 33 34 32,Vl 36 35 32,Vm 37 1 32,Vm 38 7 32,Vj 39 .sub zb 38 1 32,Vi 40 1 37 39 32,Vl 41 40 32,Vb 42 .leq zb 36 41 32,Wq 43 32 42 29,Op 44 29 43] [11,14,15,16,17,18,19,20,21,22,23,24,25,26,27,28,29,30,31,32,33,34,35,36,37,38,39,40,41,42,43] []) (.cond (.t 44) (.seq (rgN [oq 4 .mov [.c zA],oq 5 .mov [.c (bv false)]] [1,2,6,7,44] [2]) .ret) .skip)) (rgD [Om 45 6,OF 46 19 2,Ol 47 46,Om 48 1,Om 49 7,Oi 50 1 48 49,Ol 51 50,Oi 52 8 47 51,On 53 8 52,oq 54 (.mkslice 8 1 [iv 0,iv 0,iv 0,iv 0,iv 0,iv 0,iv 0,iv 0] [0]) [.t 53],oq 55 (.append 8 64) [.t 45,.t 54],Om 6 55] [44,45,46,47,48,49,50,51,52,53,54,55] []))) (rgN [Om 12 7,Oj 13 .add zb 12 1,Om 7 13] [12,13] [])))
def gT:zd:=(.seq (rgN [Om 56 6,Om 4 56,oq 5 .mov [.c (bv true)]] [1,2,6,7,11,56] [2]) .ret)
def ji:zd:=(.seq (rgN [OB 2 0,oq 4 .mov [.c zA],oq 5 .mov [.c (bv false)]] [0,4,5] []) (.seq (rgN [oq 6 .mov [.c zA]] [] []) (.seq (.seq (rgN [Oc 7 0] [] []) (.block 0 (.loop y9))) gT)))
def rZ:List zq:=[.t 4,.t 5]
theorem am:zj Tryz.prog ru=some (bare ji,rZ,57):=by kernel_rfl
def lV:zd:=(.seq (rgN [oq 2 .mov [.c (bv false)]] [2] []) (.seq (rgN [Om 3 0,oq 4 (.bin .neq qZ (.tmp 3) (.const (.pointer none))) [.t 3,.c (.val (.pointer none))],Om 5 4,Vm 6 0 5,VN 7 6 5,VF 8 1 7 5,Vl 9 8 5,Vj 10 .eql zC 9 0 5,Oq 11 5 10,Om 2 11] [0,3,4,5,6,7,8,9,10,11] []) .ret))
def kL:List zq:=[.t 2]
theorem ZT:zj Tryz.prog xr=some (bare lV,kL,12):=by kernel_rfl
def sY:zd:=(.seq (rgN [Om 4 0,oq 5 (.bin .neq qZ (.tmp 4) (.const (.pointer none))) [.t 4,.c (.val (.pointer none))],Om 6 5,Vm 7 0 6,VN 8 7 6,VF 9 1 8 6,Vl 10 9 6,Vj 11 .eql zC 10 0 6,Oq 12 6 11] [4,5,6,7,8,9,10,11] []) (.cond (.t 12) (rgN [Om 13 0,Om 14 1,ON 15 13,OF 16 1 15,Oz 1 16 14] [0,1,12,13,14,15,16] []) .skip))
def s7:List zq:=[]
theorem bt:zj Tryz.prog yj=some (bare sY,s7,17):=by kernel_rfl
def qC:zd:=(.seq (rgN [OB 1 0,Oa 2] [0] []) (.seq (rgN [oq 5 (.mkfn x8) [.t 1],Om 3 5] [5] []) (.seq (rgN [Ol 6 1,oq 7 (.callI z7) [.t 6,.c (.val (.int .u64 1))],oq 8 (.bin .eql zg (.tmp 7) (.const (.int .u64 1))) [.t 7,.c (.val (.int .u64 1))],⟨some 9,.build zF [(0,1)],[.t 8],none⟩,Oa 4,Oz 3 4 9] [6,7,8,9] []) (.seq (rgN [Om 10 3,oq 11 .callvI [.t 10],OF 12 1 4,Oz 1 12 11] [10,11,12] []) (.seq (rgN [Om 13 3,oq 14 .callvI [.t 13],OF 15 2 4,Oz 1 15 14] [3,13,14,15] []) (.seq (.seq (rgN [Ol 16 1,Ok 17 xr 16,Om 18 17,Vn 19 3 4 18,Vk 20 mT 19 18,⟨some 21,.un .not,[.t 20],some (18,true)⟩,Oq 22 18 21] [16,17,18,19,20,21] []) (.cond (.t 22) (rgN [Ol 23 1,oq 24 (.callI yj) [.t 23,.c (iv 2)]] [22,23,24] []) .skip)) (.seq (.seq (rgN [Ol 25 1,Ok 26 xr 25,oq 27 (.un .not) [.t 26]] [1,22,25,26] [1]) (.cond (.t 27) (.seq (rgN [⟨some 28,.build zF [],[],none⟩,Oz 3 2 28] [4,27,28] [4]) .ret) .skip)) (.seq (rgN [On 29 3 4,Oz 3 2 29] [4,27,29] [4]) .ret))))))))
def wE:List zq:=[.cell 2 (some 3)]
theorem gM:zj Tryz.prog wC=some (bare qC,wE,30):=by kernel_rfl
def jM:zd:=(.seq (.seq (rgN [Om 30 5,OF 31 1 2,Ol 32 31,OL 33 32,Ob 34 .lss zb 30 33] [30,31,32,33] []) (.cond (.t 34) .skip (.exit 0))) (.seq (.block 1 (.seq (rgD [OF 37 1 2,Ol 38 37,Om 39 5,Oi 40 1 38 39,Ol 41 40,OF 42 1 3,Ol 43 42,Om 44 5,Oi 45 1 43 44,Ol 46 45,Ob 47 .neq zB 41 46] [34,37,38,39,40,41,42,43,44,45,46] []) (.cond (.t 47) (.seq (rgN [oq 4 .mov [.c (bv false)]] [2,3,5,47] [2,3]) .ret) .skip))) (rgN [Om 35 5,Oj 36 .add zb 35 1,Om 5 36] [47,35,36] [])))
def jN:zd:=(.seq (.seq (rgN [Om 48 6,OF 49 2 2,Ol 50 49,OL 51 50,Ob 52 .lss zb 48 51] [48,49,50,51] []) (.cond (.t 52) .skip (.exit 2))) (.seq (.block 3 (.seq (rgD [OF 55 2 2,Ol 56 55,Om 57 6,Oi 58 1 56 57,Ol 59 58,OF 60 2 3,Ol 61 60,Om 62 6,Oi 63 1 61 62,Ol 64 63,Ob 65 .neq zB 59 64] [52,55,56,57,58,59,60,61,62,63,64] []) (.cond (.t 65) (.seq (rgN [oq 4 .mov [.c (bv false)]] [2,3,6,65] [2,3]) .ret) .skip))) (rgN [Om 53 6,Oj 54 .add zb 53 1,Om 6 54] [65,53,54] [])))
def UO:zd:=(.seq (rgN [oq 4 .mov [.c (bv true)]] [2,3,6,52] [2,3]) .ret)
def UP:zd:=(.seq (.seq (rgN [Oc 6 0] [5,34] []) (.block 2 (.loop jN))) UO)
def apL:zd:=(.seq (rgN [OB 2 0,OB 3 1,oq 4 .mov [.c (bv false)]] [0,1,4] []) (.seq (.seq (rgN [OF 7 0 2,Ol 8 7,OF 9 0 3,Ol 10 9,Ob 11 .neq nJ 8 10,Om 12 11,WF 13 1 2 12,Wl 14 13 12,WL 15 14 12,WF 16 1 3 12,Wl 17 16 12,WL 18 17 12,Wb 19 .neq zb 15 18 12,Op 20 12 19,Om 21 20,WF 22 2 2 21,Wl 23 22 21,WL 24 23 21,WF 25 2 3 21,Wl 26 25 21,WL 27 26 21,Wb 28 .neq zb 24 27 21,Op 29 21 28] [7,8,9,10,11,12,13,14,15,16,17,18,19,20,21,22,23,24,25,26,27,28] []) (.cond (.t 29) (.seq (rgN [oq 4 .mov [.c (bv false)]] [2,3,29] [2,3]) .ret) .skip)) (.seq (.seq (rgN [Oc 5 0] [29] []) (.block 0 (.loop jM))) UP)))
def mJ:List zq:=[.t 4]
theorem ac9:zj Tryz.prog Tl=some (bare apL,mJ,66):=by kernel_rfl
def ur:zd:=(.seq (rgN [OB 3 0,OB 5 2,Oc 6 0,Oc 7 0] [0,2,6,7] []) (.seq (rgN [OF 10 18 3,Ol 11 10,OL 12 11,Om 8 12] [10,11,12] []) (.seq (.block 0 (.seq (rgN [Om 14 1,Om 15 8,Ob 16 .lss zb 14 15,Om 13 16] [14,15,16] []) (.cond (.t 13) (.seq (.seq (rgN [OF 17 0 5,Ol 18 17,Om 19 1,Ob 20 .eql zb 18 19] [1,3,5,8,13,17,18,19] [3,5]) (.cond (.t 20) (.seq (rgN [Oc 6 1,Oc 7 1] [20] []) .ret) .skip)) (.seq (rgN [Oc 6 0,Oc 7 1] [20] []) .ret)) (.seq (rgN [Om 22 1,Om 23 8,Oj 24 .add zb 23 6,Ob 25 .lss zb 22 24,Om 21 25] [13,22,23,24,25] []) (.cond (.t 21) (.seq (rgD [Om 26 1,Om 27 8,Ob 28 .sub zb 26 27,OF 29 1 5,oq 30 (.iaddrA 6 1) [.t 29,.t 28],Ol 31 30,Om 32 1,Om 33 8,Ob 34 .sub zb 32 33,OF 35 0 3,oq 36 (.iaddrA 6 1) [.t 35,.t 34],Ol 37 36,Om 6 31,Om 7 37] [1,3,5,8,21,26,27,28,29,30,31,32,33,34,35,36,37] [3,5]) .ret) .skip))))) (.seq (rgN [Om 38 1,Om 39 8,Ob 40 .sub zb 38 39,Oj 41 .sub zb 40 6,Om 9 41] [1,8,21,38,39,40,41] []) (.seq (.seq (rgD [Om 42 9,OF 43 12 3,oq 44 (.iaddrA 6 1) [.t 43,.t 42],Ol 45 44,Oj 46 .neq zb 45 0,Om 47 46,VF 48 0 5 47,Vl 49 48 47,VF 50 18 3 47,Vl 51 50 47,VL 52 51 47,Vb 53 .lss zb 49 52 47,Oq 54 47 53,Om 55 54,Vm 56 9 55,VF 57 12 3 55,⟨some 58,.iaddrA 6 1,[.t 57,.t 56],some (55,true)⟩,Vl 59 58 55,VF 60 18 3 55,Vl 61 60 55,VF 62 0 5 55,Vl 63 62 55,Vi 64 1 61 63 55,Vl 65 64 55,Vb 66 .neq zb 59 65 55,Oq 67 55 66] [42,43,44,45,46,47,48,49,50,51,52,53,54,55,56,57,58,59,60,61,62,63,64,65,66] []) (.cond (.t 67) (.seq (rgD [Om 68 9,OF 69 1 5,oq 70 (.iaddrA 6 1) [.t 69,.t 68],Ol 71 70,Om 72 9,OF 73 6 3,oq 74 (.iaddrA 6 1) [.t 73,.t 72],Ol 75 74,Om 6 71,Om 7 75] [3,5,9,67,68,69,70,71,72,73,74,75] [3,5]) .ret) .skip)) (.seq (rgD [Om 76 9,OF 77 6 3,oq 78 (.iaddrA 6 1) [.t 77,.t 76],Ol 79 78,Oc 6 0,Om 7 79] [3,5,9,67,76,77,78,79] [3,5]) .ret))))))
def uA:List zq:=[.t 6,.t 7]
theorem r8:zj Tryz.prog rx=some (bare ur,uA,80):=by kernel_rfl
def GM:zd:=(.seq (rgN [Oa 4,Oc 5 0] [5] []) (.seq (rgN [Om 6 0,Oj 7 .lss xE 6 0,Om 8 1,Oj 9 .lss xE 8 0,Ob 10 .neq nJ 7 9,Om 11 0,Ok 12 aB 11,Om 13 1,Ok 14 aB 13,oq 15 (.call mj) [.t 10,.t 12,.t 14],Oe 16 0 15,Oe 17 1 15,Oz 3 4 16,Om 5 17] [0,1,6,7,8,9,10,11,12,13,14,15,16,17] []) .ret))
def FO:List zq:=[.cell 4 (some 3),.t 5]
theorem afT:zj Tryz.prog Qn=some (bare GM,FO,18):=by kernel_rfl
def ti:zd:=(.seq (rgN [Oj 7 .lss zb 6 6] [] []) (.seq (.cond (.t 7) .skip (.exit 0)) (.seq (.block 1 (.seq (rgN [oq 8 (.idxA 6 1 none) [.t 5,.t 6],Om 4 8] [7,8] []) (.seq (rgN [Om 9 4,Oj 10 .lss zb 9 0,Om 11 10,Wm 12 4 11,Wj 13 .gtr zb 12 4 11,Op 14 11 13] [4,9,10,11,12,13] []) (.cond (.t 14) (.seq (rgN [Oc 2 4] [5,6,14] []) .ret) .skip)))) (rgN [Oj 15 .add zb 6 1,Om 6 15] [14,15] []))))
def amY:zd:=(.seq (rgN [Oc 2 0] [5,6,7] []) .ret)
def bL:zd:=(.seq (rgN [OB 1 0,Oc 2 0] [0,2] []) (.seq (.seq (rgN [On 5 6 1,Oc 6 0] [1] [1]) (.block 0 (.loop ti))) amY))
def nk:List zq:=[.t 2]
theorem PL:zj Tryz.prog pW=some (bare bL,nk,16):=by kernel_rfl
def vN:zd:=(.seq (rgN [OB 3 1,Oc 4 0] [1,4] []) (.seq (.block 0 (.seq (rgN [OF 6 0 3,Ol 7 6,Oj 8 .lss zb 7 0,Om 9 8,WF 10 0 3 9,Wl 11 10 9,Wm 12 0 9,Wb 13 .geq zb 11 12 9,Op 14 9 13,Om 5 14] [0,6,7,8,9,10,11,12,13,14] []) (.cond (.t 5) (.seq (rgN [Oc 4 6] [3,5] [3]) .ret) (.seq (rgN [OF 16 7 3,Ol 17 16,Oj 18 .lss xE 17 1,Om 19 18,WF 20 7 3 19,Wl 21 20 19,Wj 22 .gtr xE 21 1000000 19,Op 23 19 22,Om 15 23] [5,16,17,18,19,20,21,22,23] []) (.cond (.t 15) (.seq (rgN [Oc 4 4] [3,15] [3]) .ret) .skip))))) (.seq (rgN [OF 24 1 3,On 25 6 24,Ok 26 pW 25,Om 4 26] [3,15,24,25,26] [3]) .ret)))
def vV:List zq:=[.t 4]
theorem Sp:zj Tryz.prog mn=some (bare vN,vV,27):=by kernel_rfl
def tK:zd:=(.seq (rgN [Ob 18 .lss zb 17 16] [] []) (.seq (.cond (.t 18) .skip (.exit 2)) (.seq (.block 3 (.seq (rgN [Oi 19 8 15 17,On 20 8 19,oq 9 (.alloc [iv 0,iv 0,iv 0,iv 0,iv 0,iv 0,iv 0,iv 0]) [],Oz 8 9 20] [18,19,20] []) (rgN [Om 21 7,Om 22 5,On 23 20 2,Om 24 6,On 25 8 9,oq 26 .callv [.t 22,.t 23,.t 24,.t 25],Ob 27 .add zb 21 26,Om 7 27] [9,21,22,23,24,25,26,27] [9]))) (rgN [Oj 28 .add zb 17 1,Om 17 28] [28] []))))
def py:zd:=(.seq (rgN [Om 29 7,On 30 20 2,Om 31 6,OK 32 vZ 30 31,Ob 33 .gtr zb 29 32] [6,7,15,16,17,18,29,30,31,32] []) (.cond (.t 33) (.seq (rgN [oq 4 .mov [.c (bv false)]] [1,2,5,11,12,33] [2]) .ret) .skip))
def pz:zd:=(rgN [Oj 34 .add zb 12 1,Om 12 34] [33,34] [])
def tL:zd:=(.seq (rgN [Ob 13 .lss zb 12 11] [] []) (.seq (.cond (.t 13) .skip (.exit 0)) (.seq (.block 1 (.seq (rgN [Om 14 12,Om 6 14] [13,14] []) (.seq (rgN [Oc 7 0] [] []) (.seq (.seq (rgN [Om 15 1,OL 16 15,Oc 17 0] [] []) (.block 2 (.loop tK))) py)))) pz)))
def pA:zd:=(.seq (rgN [oq 4 .mov [.c (bv true)]] [1,2,5,11,12,13] [2]) .ret)
def mX:zd:=(.seq (rgN [OB 2 0,oq 4 .mov [.c (bv false)]] [0,4] []) (.seq (rgN [oq 5 .mov [.c (.fn (.func 95) [])]] [] []) (.seq (.seq (rgN [On 10 20 2,Ok 11 uF 10,Oc 12 0] [10] []) (.block 0 (.loop tL))) pA)))
def rV:List zq:=[.t 4]
theorem ak:zj Tryz.prog uE=some (bare mX,rV,35):=by kernel_rfl
def M2:zd:=(.seq (rgN [Oa 6,Oc 7 0] [7] []) (.seq (.seq (rgN [Om 15 2,OL 16 15,Oj 17 .eql zb 16 0] [15,16] []) (.cond (.t 17) (.seq (rgN [⟨some 18,.build zF [],[],none⟩,Oz 3 6 18,Oc 7 8] [0,1,2,17,18] []) .ret) .skip)) (.seq (rgN [Om 19 1,Om 20 2,OK 21 bE 19 20,Om 8 21] [17,19,20,21] []) (.seq (rgN [Om 23 1,Om 24 8,OK 25 lO 23 24,Om 22 25,Oe 26 0 22,Oe 27 1 22,Oe 28 2 22,Om 9 26,Om 10 27,Om 11 28] [23,24,25,22,26,27,28,10,11] []) (.seq (rgN [Om 30 2,Om 31 8,OK 32 lO 30 31,Om 29 32,Oe 33 0 29,Oe 34 1 29,Oe 35 2 29,Om 12 33,Om 13 34,Om 14 35] [2,8,30,31,32,29,33,34,35,13,14] []) (.seq (rgN [Om 36 0,Om 37 36,Vm 38 1 37,VL 39 38 37,Vj 40 .gtr zb 39 0 37,Oq 41 37 40,Om 42 9,Om 43 12,⟨some 44,.build zF [(0,1),(1,1),(2,1)],[.t 41,.t 42,.t 43],none⟩,Oz 3 6 44,Oc 7 0] [0,1,9,12,36,37,38,39,40,41,42,43,44] []) .ret))))))
def Zz:List zq:=[.cell 6 (some 3),.t 7]
theorem ac8:zj Tryz.prog mj=some (bare M2,Zz,45):=by kernel_rfl
def aO:zd:=(.seq (.seq (rgN [Om 9 7,Om 10 0,OL 11 10,Om 12 1,OL 13 12,⟨some 14,.mm .max #[zb,zb] zb,[.t 11,.t 13],none⟩,Ob 15 .leq zb 9 14] [9,10,11,12,13,14] []) (.cond (.t 15) .skip (.exit 0))) (.seq (.block 1 (.seq (rgN [Om 18 0,Om 19 7,OK 20 wm 18 19,Om 21 1,Om 22 7,OK 23 wm 21 22,Ob 24 .add zg 20 23,Om 25 6,Ob 26 .add zg 24 25,Om 8 26] [6,15,18,19,20,21,22,23,24,25,26] []) (.seq (rgN [Om 27 5,Om 28 8,oq 29 (.bin .rem zg (.tmp 28) (.const (.int .u64 4294967296))) [.t 28,.c (.val (.int .u64 4294967296))],oq 30 (.conv zg zB) [.t 29],oq 31 (.mkslice 1 1 [.val (.int .u32 0)] [0]) [.t 30],oq 32 (.append 1 4) [.t 27,.t 31],Om 5 32] [27,28,29,30,31,32] []) (rgN [Om 33 8,oq 34 (.bin .quo zg (.tmp 33) (.const (.int .u64 4294967296))) [.t 33,.c (.val (.int .u64 4294967296))],Om 6 34] [8,33,34] [])))) (rgN [Om 16 7,Oj 17 .add zb 16 1,Om 7 17] [16,17] [])))
def SZ:zd:=(.seq (rgN [Om 35 5,Ok 36 r9 35,Om 4 36] [0,1,5,6,7,15,35,36] []) .ret)
def GO:zd:=(.seq (rgN [oq 4 .mov [.c zA]] [4] []) (.seq (rgN [oq 5 .mov [.c zA]] [] []) (.seq (rgN [oq 6 .mov [.c (.val (.int .u64 0))]] [] []) (.seq (.seq (rgN [Oc 7 0] [] []) (.block 0 (.loop aO))) SZ))))
def FQ:List zq:=[.t 4]
theorem afV:zj Tryz.prog pZ=some (bare GO,FQ,37):=by kernel_rfl
def aS:zd:=(.seq (.seq (rgN [Om 14 8,Om 15 0,OL 16 15,Ob 17 .lss zb 14 16] [14,15,16] []) (.cond (.t 17) .skip (.exit 0))) (.seq (.block 1 (.seq (rgN [Om 20 0,Om 21 8,OK 22 wm 20 21,oq 23 (.bin .add zg (.const (.int .u64 4294967296)) (.tmp 22)) [.c (.val (.int .u64 4294967296)),.t 22],Om 24 1,Om 25 8,OK 26 wm 24 25,Ob 27 .sub zg 23 26,Om 28 7,Ob 29 .sub zg 27 28,Om 9 29] [7,17,20,21,22,23,24,25,26,27,28,29] []) (.seq (rgN [Om 30 6,Om 31 9,oq 32 (.bin .rem zg (.tmp 31) (.const (.int .u64 4294967296))) [.t 31,.c (.val (.int .u64 4294967296))],oq 33 (.conv zg zB) [.t 32],oq 34 (.mkslice 1 1 [.val (.int .u32 0)] [0]) [.t 33],oq 35 (.append 1 4) [.t 30,.t 34],Om 6 35] [30,31,32,33,34,35] []) (rgN [Om 36 9,oq 37 (.bin .quo zg (.tmp 36) (.const (.int .u64 4294967296))) [.t 36,.c (.val (.int .u64 4294967296))],oq 38 (.bin .sub zg (.const (.int .u64 1)) (.tmp 37)) [.c (.val (.int .u64 1)),.t 37],Om 7 38] [9,36,37,38] [])))) (rgN [Om 18 8,Oj 19 .add zb 18 1,Om 8 19] [18,19] [])))
def S3:zd:=(.seq (rgN [Om 39 6,Ok 40 r9 39,Om 4 40,oq 5 .mov [.c (bv true)]] [0,1,6,7,8,17,39,40] []) .ret)
def GT:zd:=(.seq (rgN [oq 4 .mov [.c zA],oq 5 .mov [.c (bv false)]] [4,5] []) (.seq (.seq (rgN [Om 10 0,Om 11 1,OK 12 XX 10 11,Oj 13 .lss zb 12 0] [10,11,12] []) (.cond (.t 13) (.seq (rgN [oq 4 .mov [.c zA],oq 5 .mov [.c (bv false)]] [0,1,13] []) .ret) .skip)) (.seq (rgN [oq 6 .mov [.c zA]] [13] []) (.seq (rgN [oq 7 .mov [.c (.val (.int .u64 0))]] [] []) (.seq (.seq (rgN [Oc 8 0] [] []) (.block 0 (.loop aS))) S3)))))
def Q7:List zq:=[.t 4,.t 5]
theorem af0:zj Tryz.prog bF=some (bare GT,Q7,41):=by kernel_rfl
def xC:zd:=(.seq (.seq (rgN [Om 6 3,oq 7 (.bin .gtr zg (.tmp 6) (.const (.int .u64 0))) [.t 6,.c (.val (.int .u64 0))],Om 8 7,Vl 9 0 8,Vk 10 xr 9 8,Oq 11 8 10] [6,7,8,9,10] []) (.cond (.t 11) .skip (.exit 0))) (.seq (.block 1 (rgN [Om 14 2,Ol 15 0,oq 16 (.callI z7) [.t 15,.c (.val (.int .u64 4294967295))],oq 17 (.conv zg zB) [.t 16],oq 18 (.mkslice 1 1 [.val (.int .u32 0)] [0]) [.t 17],oq 19 (.append 1 4) [.t 14,.t 18],Om 2 19] [11,14,15,16,17,18,19] [])) (rgN [Om 12 3,oq 13 (.bin .sub zg (.tmp 12) (.const (.int .u64 1))) [.t 12,.c (.val (.int .u64 1))],Om 3 13] [12,13] [])))
def wZ:zd:=(.seq (rgN [Om 20 2,Om 1 20] [2,3,0,11,20] []) .ret)
def rA:zd:=(.seq (rgN [oq 1 .mov [.c zA]] [1] []) (.seq (rgN [oq 2 .mov [.c zA]] [] []) (.seq (.seq (rgN [Ol 4 0,oq 5 (.callI z7) [.t 4,.c (.val (.int .u64 2000))],Om 3 5] [4,5] []) (.block 0 (.loop xC))) wZ)))
def vU:List zq:=[.t 1]
theorem jG:zj Tryz.prog x8=some (bare rA,vU,21):=by kernel_rfl
def PV:zd:=(.seq (rgN [OB 1 0,oq 2 .mov [.c (bv false)]] [0,2] []) (.seq (.seq (rgN [OF 3 1 1,Ol 4 3,Ok 5 dC 4,oq 6 (.un .not) [.t 5],Om 7 6,WF 8 2 1 7,Wl 9 8 7,Wk 10 dC 9 7,⟨some 11,.un .not,[.t 10],some (7,false)⟩,Op 12 7 11,Om 13 12,WF 14 2 1 13,Wl 15 14 13,WL 16 15 13,Wj 17 .eql zb 16 0 13,Op 18 13 17,Om 19 18,Wn 20 3 1 19,Wk 21 aA 20 19,⟨some 22,.build [bv false,bv false] [(0,1),(1,1)],[.c (bv true),.c (bv true)],some (19,false)⟩,Wb 23 .eql sF 21 22 19,Op 24 19 23] [3,4,5,6,7,8,9,10,11,12,13,14,15,16,17,18,19,20,21,22,23] []) (.cond (.t 24) (.seq (rgN [oq 2 .mov [.c (bv false)]] [1,24] [1]) .ret) .skip)) (.seq (rgN [OF 25 1 1,Ol 26 25,OF 27 2 1,Ol 28 27,OK 29 XS 26 28,oq 30 (.call tI) [.c (.val (.int .u64 1))],OK 31 mU 29 30,Oj 32 .eql zb 31 0,Om 2 32] [1,24,25,26,27,28,29,30,31,32] [1]) .ret)))
def gk:List zq:=[.t 2]
theorem AK:zj Tryz.prog mT=some (bare PV,gk,33):=by kernel_rfl
def aQ:zd:=(.seq (.seq (rgN [Om 8 1,OL 9 8,Oj 10 .gtr zb 9 0] [8,9] []) (.cond (.t 10) .skip (.exit 0))) (.block 1 (.seq (rgN [Om 12 0,Om 13 1,OK 14 lO 12 13,Om 11 14,Oe 15 0 11,Oe 16 1 11,Oe 17 2 11,Om 5 15,Om 6 16,Om 7 17] [0,10,12,13,14,11,15,16,17,5,7] []) (.seq (rgN [Om 18 1,Om 0 18] [1,18] []) (rgN [Om 19 6,Om 1 19] [6,19] [])))))
def S2:zd:=(.seq (rgN [Om 20 0,Ok 21 r9 20,Om 4 21] [0,1,10,20,21] []) .ret)
def GR:zd:=(.seq (rgN [oq 4 .mov [.c zA]] [4] []) (.seq (.block 0 (.loop aQ)) S2))
def FS:List zq:=[.t 4]
theorem afY:zj Tryz.prog bE=some (bare GR,FS,22):=by kernel_rfl
def Ts:zd:=(.seq (rgN [oq 2 .mov [.c zA]] [2] []) (.seq (.seq (rgN [Om 3 0,Oj 4 .lss xE 3 0] [3] []) (.cond (.t 4) (.seq (rgN [Om 5 0,Oj 6 .add xE 5 1,oq 7 (.un .neg) [.t 6],oq 8 (.conv xE zg) [.t 7],oq 9 (.bin .add zg (.tmp 8) (.const (.int .u64 1))) [.t 8,.c (.val (.int .u64 1))],Ok 10 rt 9,Om 2 10] [0,4,5,6,7,8,9,10] []) .ret) .skip)) (.seq (rgN [Om 11 0,oq 12 (.conv xE zg) [.t 11],Ok 13 rt 12,Om 2 13] [0,4,11,12,13] []) .ret)))
def T6:List zq:=[.t 2]
theorem adb:zj Tryz.prog aB=some (bare Ts,T6,14):=by kernel_rfl
def xc:zd:=(.seq (rgN [OB 3 0,OB 5 2,Oc 6 0] [0,2,6] []) (.seq (rgN [Om 8 1,OF 9 0 3,OF 10 18 9,Ol 11 10,OL 12 11,Ob 13 .sub zb 8 12,Om 7 13] [8,9,10,11,12,13] []) (.block 0 (.seq (rgN [Om 42 7,Oj 43 .lss zb 42 0,Om 44 43,VF 45 0 5 44,Vl 46 45 44,Vm 47 1 44,Vb 48 .eql zb 46 47 44,Oq 49 44 48,Om 41 49] [1,42,43,44,45,46,47,48,49] []) (.cond (.t 41) (.seq (rgN [Oc 6 1] [3,5,7,41] [3,5]) .ret) (.seq (rgN [Om 51 7,Oj 52 .lss zb 51 0,Om 50 52] [41,51,52] []) (.cond (.t 50) (.seq (rgN [Oc 6 0] [3,5,7,50] [3,5]) .ret) (.seq (rgN [Om 54 7,Oj 55 .lss zb 54 6,Om 53 55] [50,54,55] []) (.cond (.t 53) (.seq (rgN [Om 56 7,OF 57 1 5,oq 58 (.iaddrA 6 1) [.t 57,.t 56],Ol 59 58,Om 6 59] [3,5,7,53,56,57,58,59] [3,5]) .ret) (.seq (rgN [Om 14 7,Oj 15 .sub zb 14 6,Om 7 15] [53,14,15] []) (.seq (.seq (rgD [Om 16 7,OF 17 0 3,OF 18 12 17,oq 19 (.iaddrA 6 1) [.t 18,.t 16],Ol 20 19,Oj 21 .eql zb 20 0,Om 22 21,Wm 23 7 22,WF 24 0 3 22,WF 25 12 24 22,⟨some 26,.iaddrA 6 1,[.t 25,.t 23],some (22,false)⟩,Wl 27 26 22,WF 28 0 3 22,WF 29 18 28 22,Wl 30 29 22,WF 31 0 5 22,Wl 32 31 22,Wi 33 1 30 32 22,Wl 34 33 22,Wb 35 .eql zb 27 34 22,Op 36 22 35] [3,16,17,18,19,20,21,22,23,24,25,26,27,28,29,30,31,32,33,34,35] [3]) (.cond (.t 36) (.seq (rgN [Oc 6 0] [5,7,36] [5]) .ret) .skip)) (.seq (rgN [Om 37 7,OF 38 1 5,oq 39 (.iaddrA 6 1) [.t 38,.t 37],Ol 40 39,Om 6 40] [5,7,36,37,38,39,40] [5]) .ret))))))))))))
def xe:List zq:=[.t 6]
theorem aj:zj Tryz.prog xO=some (bare xc,xe,60):=by kernel_rfl
def v7:zd:=(.seq (rgN [OB 2 0,Oc 4 0] [0,4] []) (.seq (rgN [Om 6 1,OF 7 0 2,OF 8 18 7,Ol 9 8,OL 10 9,Ob 11 .sub zb 6 10,Om 5 11] [1,6,7,8,9,10,11] []) (.block 0 (.seq (rgN [Om 19 5,Oj 20 .lss zb 19 0,Om 18 20] [19,20] []) (.cond (.t 18) (.seq (rgN [Oc 4 1] [2,5,18] [2]) .ret) (.seq (rgN [Om 22 5,Oj 23 .lss zb 22 6,Om 21 23] [18,22,23] []) (.cond (.t 21) (.seq (rgN [Om 24 5,OF 25 0 2,OF 26 0 25,oq 27 (.iaddrA 6 1) [.t 26,.t 24],Ol 28 27,Om 4 28] [2,5,21,24,25,26,27,28] [2]) .ret) (.seq (rgN [Om 12 5,Oj 13 .sub zb 12 6,OF 14 0 2,OF 15 6 14,oq 16 (.iaddrA 6 1) [.t 15,.t 13],Ol 17 16,Om 4 17] [2,5,21,12,13,14,15,16,17] [2]) .ret))))))))
def uf:List zq:=[.t 4]
theorem bw:zj Tryz.prog vZ=some (bare v7,uf,29):=by kernel_rfl
def gD:zd:=(.seq (.seq (rgN [Om 27 10,Oj 28 .geq zb 27 0] [27] []) (.cond (.t 28) .skip (.exit 0))) (.seq (.block 1 (.seq (rgN [Om 31 8,Om 32 8,OK 33 pZ 31 32,Om 8 33] [28,31,32,33] []) (.seq (rgN [Om 34 9,Om 35 9,OK 36 pZ 34 35,Om 37 0,Om 38 10,OK 39 XW 37 38,Ok 40 rt 39,OK 41 pZ 36 40,Om 9 41] [34,35,36,37,38,39,40,41] []) (.seq (rgN [Om 42 9,Om 43 1,OK 44 XX 42 43,Oj 45 .geq zb 44 0] [42,43,44] []) (.cond (.t 45) (.seq (rgN [Om 47 9,Om 48 1,OK 49 bF 47 48,Om 46 49,Oe 50 0 46,Oe 51 1 46,Om 9 50] [45,47,48,49,46,50,51] []) (rgN [Om 52 8,oq 53 (.call rt) [.c (.val (.int .u64 1))],OK 54 pZ 52 53,Om 8 54] [52,53,54] [])) .skip))))) (rgN [Om 29 10,Oj 30 .sub zb 29 1,Om 10 30] [45,29,30] [])))
def Z3:zd:=(.seq (rgN [Om 55 8,Om 56 9,Om 4 55,Om 5 56,Oc 6 0] [0,1,8,9,10,28,55,56] []) .ret)
def S1:zd:=(.seq (rgN [oq 4 .mov [.c zA],oq 5 .mov [.c zA],Oc 6 0] [4,5,6] []) (.seq (.seq (rgN [Om 11 1,OL 12 11,Oj 13 .eql zb 12 0] [11,12] []) (.cond (.t 13) (.seq (rgN [oq 4 .mov [.c zA],oq 5 .mov [.c zA],Oc 6 8] [0,1,13] []) .ret) .skip)) (.seq (rgN [Om 14 0,Ok 15 aC 14,Om 16 1,Ok 17 aC 16,⟨some 18,.mm .max #[zb,zb] zb,[.c (iv 1),.t 17],none⟩,Ob 19 .sub zb 15 18,Oj 20 .add zb 19 1,⟨some 21,.mm .max #[zb,zb] zb,[.c (iv 0),.t 20],none⟩,Om 7 21] [13,14,15,16,17,18,19,20,21] []) (.seq (rgN [oq 8 .mov [.c zA]] [] []) (.seq (rgN [Om 22 0,Om 23 7,OK 24 Tm 22 23,Om 9 24] [22,23,24] []) (.seq (.seq (rgN [Om 25 7,Oj 26 .sub zb 25 1,Om 10 26] [7,25,26] []) (.block 0 (.loop gD))) Z3))))))
def RN:List zq:=[.t 4,.t 5,.t 6]
theorem Dz:zj Tryz.prog lO=some (bare S1,RN,57):=by kernel_rfl
def YB:zd:=(.seq (rgN [oq 4 .mov [.c (.val (.int .u64 0))]] [4] []) (.seq (.seq (rgN [Om 5 1,Om 6 0,OL 7 6,Ob 8 .lss zb 5 7] [5,6,7] []) (.cond (.t 8) (.seq (rgN [Om 9 0,Om 10 1,Oi 11 1 9 10,Ol 12 11,oq 13 (.conv zB zg) [.t 12],Om 4 13] [0,1,8,9,10,11,12,13] []) .ret) .skip)) (.seq (rgN [oq 4 .mov [.c (.val (.int .u64 0))]] [0,1,8] []) .ret)))
def Xh:List zq:=[.t 4]
theorem AR:zj Tryz.prog wm=some (bare YB,Xh,14):=by kernel_rfl
def jP:zd:=(.seq (.seq (rgN [Om 3 0,OL 4 3,Oj 5 .gtr zb 4 0,Om 6 5,Vm 7 0 6,Vm 8 0 6,VL 9 8 6,Vj 10 .sub zb 9 1 6,Vi 11 1 7 10 6,Vl 12 11 6,⟨some 13,.bin .eql zB (.tmp 12) (.const (.int .u32 0)),[.t 12,.c (.val (.int .u32 0))],some (6,true)⟩,Oq 14 6 13] [3,4,5,6,7,8,9,10,11,12,13] []) (.cond (.t 14) .skip (.exit 0))) (.block 1 (rgN [Om 15 0,Om 16 0,OL 17 16,Oj 18 .sub zb 17 1,oq 19 (.slice 1 false true false) [.t 15,.t 18],Om 0 19] [14,15,16,17,18,19] [])))
def cZ:zd:=(.seq (rgN [oq 20 (.mkslice 1 0 [.val (.int .u32 0)] []) [],Om 21 0,oq 22 (.append 1 4) [.t 20,.t 21],Om 2 22] [0,14,20,21,22] []) .ret)
def M5:zd:=(.seq (rgN [oq 2 .mov [.c zA]] [2] []) (.seq (.block 0 (.loop jP)) cZ))
def T8:List zq:=[.t 2]
theorem adf:zj Tryz.prog r9=some (bare M5,T8,23):=by kernel_rfl
def aP:zd:=(.seq (.seq (rgN [Om 12 5,Oj 13 .geq zb 12 0] [12] []) (.cond (.t 13) .skip (.exit 0))) (.seq (.block 1 (.seq (.seq (rgN [Om 16 0,Om 17 5,OK 18 wm 16 17,Om 19 1,Om 20 5,OK 21 wm 19 20,Ob 22 .lss zg 18 21] [13,16,17,18,19,20,21] []) (.cond (.t 22) (.seq (rgN [Oc 4 (-1)] [0,1,5,22] []) .ret) .skip)) (.seq (rgN [Om 23 0,Om 24 5,OK 25 wm 23 24,Om 26 1,Om 27 5,OK 28 wm 26 27,Ob 29 .gtr zg 25 28] [22,23,24,25,26,27,28] []) (.cond (.t 29) (.seq (rgN [Oc 4 1] [0,1,5,29] []) .ret) .skip)))) (rgN [Om 14 5,Oj 15 .sub zb 14 1,Om 5 15] [29,14,15] [])))
def S0:zd:=(.seq (rgN [Oc 4 0] [0,1,5,13] []) .ret)
def GQ:zd:=(.seq (rgN [Oc 4 0] [4] []) (.seq (.seq (rgN [Om 6 0,OL 7 6,Om 8 1,OL 9 8,⟨some 10,.mm .max #[zb,zb] zb,[.t 7,.t 9],none⟩,Oj 11 .sub zb 10 1,Om 5 11] [6,7,8,9,10,11] []) (.block 0 (.loop aP))) S0))
def Un:List zq:=[.t 4]
theorem afX:zj Tryz.prog XX=some (bare GQ,Un,30):=by kernel_rfl
def PX:zd:=(.seq (rgN [oq 2 .mov [.c (bv false)]] [2] []) (.seq (rgN [Om 3 0,Ok 4 xU 3,OL 5 4,Om 6 0,OL 7 6,Ob 8 .eql zb 5 7,Om 2 8] [0,3,4,5,6,7,8] []) .ret))
def NB:List zq:=[.t 2]
theorem AM:zj Tryz.prog dC=some (bare PX,NB,9):=by kernel_rfl
def SL:zd:=(.seq (rgN [OB 1 0,oq 2 (.alloc [bv false,bv false]) []] [0] []) (.seq (rgN [OF 3 0 1,Ol 4 3,OF 5 1 1,Ol 6 5,OL 7 6,Oj 8 .eql zb 7 0,oq 9 (.build [bv false,bv false] [(0,1),(1,1)]) [.t 4,.t 8],Oz 2 2 9] [1,3,4,5,6,7,8,9] [1]) .ret))
def RM:List zq:=[.cell 2 (some 2)]
theorem Dx:zj Tryz.prog aA=some (bare SL,RM,10):=by kernel_rfl
def lY:zd:=(.seq (rgN [Ob 24 .lss zb 23 22] [] []) (.seq (.cond (.t 24) .skip (.exit 0)) (.seq (.block 1 (.seq (rgN [Om 25 23,Om 5 25] [24,25] []) (.seq (rgN [Om 26 0,OL 27 26,Oj 28 .sub zb 27 1,Om 29 5,Ob 30 .sub zb 28 29,Om 6 30] [5,26,27,28,29,30] []) (.seq (.seq (rgD [Om 31 0,Om 32 6,Oi 33 1 31 32,Ol 34 33,Om 35 1,Om 36 6,Oi 37 1 35 36,Ol 38 37,Ob 39 .lss zB 34 38] [31,32,33,34,35,36,37,38] []) (.cond (.t 39) (.seq (rgN [Oc 4 (-1)] [0,1,22,23,6,39] []) .ret) .skip)) (.seq (rgD [Om 40 0,Om 41 6,Oi 42 1 40 41,Ol 43 42,Om 44 1,Om 45 6,Oi 46 1 44 45,Ol 47 46,Ob 48 .gtr zB 43 47] [6,39,40,41,42,43,44,45,46,47] []) (.cond (.t 48) (.seq (rgN [Oc 4 1] [0,1,22,23,48] []) .ret) .skip)))))) (rgN [Oj 49 .add zb 23 1,Om 23 49] [48,49] []))))
def SR:zd:=(.seq (rgN [Oc 4 0] [0,1,22,23,24] []) .ret)
def GG:zd:=(.seq (rgN [Oc 4 0] [4] []) (.seq (rgN [Om 7 0,Ok 8 xU 7,Om 9 1,Ok 10 xU 9,Om 0 8,Om 1 10] [7,8,9,10] []) (.seq (.seq (rgN [Om 11 0,OL 12 11,Om 13 1,OL 14 13,Ob 15 .neq zb 12 14] [11,12,13,14] []) (.cond (.t 15) (.seq (.seq (rgN [Om 16 0,OL 17 16,Om 18 1,OL 19 18,Ob 20 .lss zb 17 19] [0,1,15,16,17,18,19] []) (.cond (.t 20) (.seq (rgN [Oc 4 (-1)] [20] []) .ret) .skip)) (.seq (rgN [Oc 4 1] [20] []) .ret)) .skip)) (.seq (.seq (rgN [Om 21 0,OL 22 21,Oc 23 0] [15,21] []) (.block 0 (.loop lY))) SR))))
def fK:List zq:=[.t 4]
theorem afL:zj Tryz.prog mU=some (bare GG,fK,50):=by kernel_rfl
def aK:zd:=(.seq (.seq (rgN [Om 12 1,OL 13 12,Oj 14 .gtr zb 13 0] [12,13] []) (.cond (.t 14) .skip (.exit 0))) (.block 1 (.seq (rgN [Om 16 0,Om 17 1,OK 18 pX 16 17,Om 15 18,Oe 19 0 15,Oe 20 1 15,Oe 21 2 15,Om 5 19,Om 6 20,Om 7 21] [14,16,17,18,15,19,20,21,5] []) (.seq (.seq (rgN [Om 22 7,Oj 23 .neq zC 22 0] [7,22] []) (.cond (.t 23) (.exit 0) .skip)) (rgN [Om 24 1,Om 25 6,Om 0 24,Om 1 25] [6,23,24,25] [])))))
def SU:zd:=(.seq (rgN [Om 26 0,Om 4 26] [0,1,6,23,14,26] []) .ret)
def GH:zd:=(.seq (rgN [oq 4 .mov [.c zA]] [4] []) (.seq (rgN [Om 8 0,oq 9 (.call fw) [.t 8,.c zA],Om 10 1,oq 11 (.call fw) [.t 10,.c zA],Om 0 9,Om 1 11] [8,9,10,11] []) (.seq (.block 0 (.loop aK)) SU)))
def FJ:List zq:=[.t 4]
theorem afM:zj Tryz.prog XS=some (bare GH,FJ,27):=by kernel_rfl
def Yw:zd:=(.seq (rgN [oq 2 .mov [.c zA]] [2] []) (.seq (rgN [Om 3 0,oq 4 (.conv zg zB) [.t 3],Om 5 0,oq 6 (.bin .shr zg (.tmp 5) (.const (.int .u64 32))) [.t 5,.c (.val (.int .u64 32))],oq 7 (.conv zg zB) [.t 6],oq 8 (.mkslice 1 2 [.val (.int .u32 0)] [0,1]) [.t 4,.t 7],Ok 9 xU 8,Om 2 9] [0,3,4,5,6,7,8,9] []) .ret))
def Xd:List zq:=[.t 2]
theorem Jk:zj Tryz.prog tI=some (bare Yw,Xd,10):=by kernel_rfl
def Yz:zd:=(.seq (rgN [oq 2 .mov [.c zA]] [2] []) (.seq (rgN [Om 3 0,oq 4 (.bin .rem zg (.tmp 3) (.const (.int .u64 4294967296))) [.t 3,.c (.val (.int .u64 4294967296))],oq 5 (.conv zg zB) [.t 4],Om 6 0,oq 7 (.bin .quo zg (.tmp 6) (.const (.int .u64 4294967296))) [.t 6,.c (.val (.int .u64 4294967296))],oq 8 (.conv zg zB) [.t 7],oq 9 (.mkslice 1 2 [.val (.int .u32 0)] [0,1]) [.t 5,.t 8],Ok 10 r9 9,Om 2 10] [0,3,4,5,6,7,8,9,10] []) .ret))
def Xf:List zq:=[.t 2]
theorem Jm:zj Tryz.prog rt=some (bare Yz,Xf,11):=by kernel_rfl
def jO:zd:=(.seq (.seq (rgN [Om 7 3,Oj 8 .gtr zb 7 0,Om 9 8,Vm 10 0 9,Vm 11 3 9,Vj 12 .sub zb 11 1 9,VK 13 XW 10 12 9,⟨some 14,.bin .eql zg (.tmp 13) (.const (.int .u64 0)),[.t 13,.c (.val (.int .u64 0))],some (9,true)⟩,Oq 15 9 14] [7,8,9,10,11,12,13,14] []) (.cond (.t 15) .skip (.exit 0))) (.block 1 (rgN [Om 16 3,Oj 17 .sub zb 16 1,Om 3 17] [15,16,17] [])))
def cX:zd:=(.seq (rgN [Om 18 3,Om 2 18] [0,3,15,18] []) .ret)
def M3:zd:=(.seq (rgN [Oc 2 0] [2] []) (.seq (rgN [Om 4 0,OL 5 4,oq 6 (.bin .mul zb (kc 32) (.tmp 5)) [.c (iv 32),.t 5],Om 3 6] [4,5,6] []) (.seq (.block 0 (.loop jO)) cX)))
def T7:List zq:=[.t 2]
theorem adc:zj Tryz.prog aC=some (bare M3,T7,19):=by kernel_rfl
def cY:zd:=(.seq (.seq (rgN [Om 10 6,Om 11 0,OL 12 11,Ob 13 .lss zb 10 12] [10,11,12] []) (.cond (.t 13) .skip (.exit 0))) (.seq (.block 1 (.seq (rgN [Om 16 0,Om 17 6,OK 18 wm 16 17,Om 19 0,Om 20 6,Oj 21 .add zb 20 1,OK 22 wm 19 21,oq 23 (.bin .mul zg (.tmp 22) (.const (.int .u64 4294967296))) [.t 22,.c (.val (.int .u64 4294967296))],Ob 24 .add zg 18 23,Om 7 24] [13,16,17,18,19,20,21,22,23,24] []) (rgN [Om 25 5,Om 26 7,Om 27 1,Oj 28 .rem zb 27 32,oq 29 (.bin .shl zg (.const (.int .u64 1)) (.tmp 28)) [.c (.val (.int .u64 1)),.t 28],Ob 30 .quo zg 26 29,oq 31 (.bin .rem zg (.tmp 30) (.const (.int .u64 4294967296))) [.t 30,.c (.val (.int .u64 4294967296))],oq 32 (.conv zg zB) [.t 31],oq 33 (.mkslice 1 1 [.val (.int .u32 0)] [0]) [.t 32],oq 34 (.append 1 4) [.t 25,.t 33],Om 5 34] [7,25,26,27,28,29,30,31,32,33,34] []))) (rgN [Om 14 6,Oj 15 .add zb 14 1,Om 6 15] [14,15] [])))
def UQ:zd:=(.seq (rgN [Om 35 5,Ok 36 r9 35,Om 4 36] [0,1,5,6,13,35,36] []) .ret)
def M4:zd:=(.seq (rgN [oq 4 .mov [.c zA]] [4] []) (.seq (rgN [oq 5 .mov [.c zA]] [] []) (.seq (.seq (rgN [Om 8 1,Oj 9 .quo zb 8 32,Om 6 9] [8,9] []) (.block 0 (.loop cY))) UQ)))
def KF:List zq:=[.t 4]
theorem ade:zj Tryz.prog Tm=some (bare M4,KF,37):=by kernel_rfl
def GP:zd:=(.seq (rgN [oq 4 .mov [.c (.val (.int .u64 0))]] [4] []) (.seq (rgD [Om 5 0,Om 6 1,Oj 7 .quo zb 6 32,OK 8 wm 5 7,Om 9 1,Oj 10 .rem zb 9 32,oq 11 (.bin .shl zg (.const (.int .u64 1)) (.tmp 10)) [.c (.val (.int .u64 1)),.t 10],Ob 12 .quo zg 8 11,oq 13 (.bin .rem zg (.tmp 12) (.const (.int .u64 2))) [.t 12,.c (.val (.int .u64 2))],Om 4 13] [0,1,5,6,7,8,9,10,11,12,13] []) .ret))
def FR:List zq:=[.t 4]
theorem afW:zj Tryz.prog XW=some (bare GP,FR,14):=by kernel_rfl
def jL:zd:=(.seq (.seq (rgN [Om 6 3,Oj 7 .gtr zb 6 0,Om 8 7,Vm 9 0 8,Vm 10 3 8,Vj 11 .sub zb 10 1 8,Vi 12 1 9 11 8,Vl 13 12 8,⟨some 14,.bin .eql zB (.tmp 13) (.const (.int .u32 0)),[.t 13,.c (.val (.int .u32 0))],some (8,true)⟩,Oq 15 8 14] [6,7,8,9,10,11,12,13,14] []) (.cond (.t 15) .skip (.exit 0))) (.block 1 (rgN [Om 16 3,Oj 17 .sub zb 16 1,Om 3 17] [15,16,17] [])))
def cW:zd:=(.seq (rgN [Om 18 0,Om 19 3,Om 20 3,oq 21 (.slice 1 false true true) [.t 18,.t 19,.t 20],Om 2 21] [0,3,15,18,19,20,21] []) .ret)
def M1:zd:=(.seq (rgN [oq 2 .mov [.c zA]] [2] []) (.seq (rgN [Om 4 0,OL 5 4,Om 3 5] [4,5] []) (.seq (.block 0 (.loop jL)) cW)))
def T5:List zq:=[.t 2]
theorem ac7:zj Tryz.prog xU=some (bare M1,T5,22):=by kernel_rfl
def lX:zd:=(.seq (rgN [Ob 23 .lss zb 22 21] [] []) (.seq (.cond (.t 23) .skip (.exit 0)) (.seq (.block 1 (.seq (rgN [Om 24 22,Om 7 24] [23,24] []) (.seq (rgN [Om 25 0,Om 26 7,Oi 27 1 25 26,Ol 28 27,oq 29 (.conv zB zg) [.t 28],Om 30 6,Ob 31 .add zg 29 30,Om 8 31] [6,25,26,27,28,29,30,31] []) (.seq (.seq (rgN [Om 32 7,Om 33 1,OL 34 33,Ob 35 .lss zb 32 34] [32,33,34] []) (.cond (.t 35) (rgN [Om 36 8,Om 37 1,Om 38 7,Oi 39 1 37 38,Ol 40 39,oq 41 (.conv zB zg) [.t 40],Ob 42 .add zg 36 41,Om 8 42] [35,36,37,38,39,40,41,42] []) .skip)) (rgN [Om 43 5,Om 44 7,Om 45 8,oq 46 (.conv zg zB) [.t 45],Om 47 8,oq 48 (.bin .shr zg (.tmp 47) (.const (.int .u64 32))) [.t 47,.c (.val (.int .u64 32))],Oi 49 1 43 44,Oz 1 49 46,Om 6 48] [7,8,35,43,44,45,46,47,48,49] []))))) (rgN [Oj 50 .add zb 22 1,Om 22 50] [50] []))))
def aJ:zd:=(.seq (rgN [Om 51 5,Om 52 0,OL 53 52,Om 54 6,oq 55 (.conv zg zB) [.t 54],Oi 56 1 51 53,Oz 1 56 55] [0,1,6,21,22,23,51,52,53,54,55,56] []) (.seq (.region false [19] [Om 57 5,Ok 58 xU 57,Om 4 58] [5,57,58] []) .ret))
def Qw:zd:=(.seq (rgN [oq 4 .mov [.c zA]] [4] []) (.seq (.seq (rgN [Om 9 0,OL 10 9,Om 11 1,OL 12 11,Ob 13 .lss zb 10 12] [9,10,11,12] []) (.cond (.t 13) (rgN [Om 14 1,Om 15 0,Om 0 14,Om 1 15] [13,14,15] []) .skip)) (.seq (rgN [Om 16 0,OL 17 16,Oj 18 .add zb 17 1,oq 19 (.mk 1 4 [.val (.int .u32 0)]) [.t 18,.t 18],Om 5 19] [13,16,17,18,19] []) (.seq (rgN [oq 6 .mov [.c (.val (.int .u64 0))]] [] []) (.seq (.seq (rgN [Om 20 0,OL 21 20,Oc 22 0] [20] []) (.block 0 (.loop lX))) aJ)))))
def Q4:List zq:=[.t 4]
theorem afK:zj Tryz.prog fw=some (bare Qw,Q4,59):=by kernel_rfl
def qD:zd:=(.seq (.seq (rgN [Om 45 1,Om 46 1,OL 47 46,Oj 48 .sub zb 47 1,Oi 49 1 45 48,Ol 50 49,Om 51 9,Ob 52 .shl zB 50 51,oq 53 (.bin .lss zB (.tmp 52) (.const (.int .u32 2147483648))) [.t 52,.c (.val (.int .u32 2147483648))]] [45,46,47,48,49,50,51,52] []) (.cond (.t 53) .skip (.exit 0))) (.block 1 (rgN [Om 54 9,oq 55 (.bin .add bG (.tmp 54) (.const (.int .u64 1))) [.t 54,.c (.val (.int .u64 1))],Om 9 55] [53,54,55] [])))
def qE:zd:=(.seq (rgN [Ob 76 .lss zb 75 74] [] []) (.seq (.cond (.t 76) .skip (.exit 2)) (.seq (.block 3 (.seq (rgN [Om 77 75,Om 14 77] [76,77] []) (.seq (rgN [Om 78 13,Om 79 14,Ob 80 .sub zb 78 79,Om 15 80] [14,78,79,80] []) (rgN [Om 81 4,Om 82 15,Om 83 10,Om 84 15,Om 85 15,Om 86 12,Ob 87 .add zb 85 86,Oj 88 .add zb 87 1,Om 89 15,Om 90 12,Ob 91 .add zb 89 90,Oj 92 .add zb 91 1,oq 93 (.slice 1 true true true) [.t 83,.t 84,.t 88,.t 92],Om 94 11,oq 95 (.callI Yk) [.t 93,.t 94],Oi 96 1 81 82,Oz 1 96 95] [15,81,82,83,84,85,86,87,88,89,90,91,92,93,94,95,96] [])))) (rgN [Oj 97 .add zb 75 1,Om 75 97] [97] []))))
def qF:zd:=(.seq (rgN [Ob 102 .lss zb 101 100] [] []) (.seq (.cond (.t 102) .skip (.exit 4)) (.seq (.block 5 (.seq (rgN [Om 103 101,Om 16 103] [102,103] []) (.seq (rgN [Om 104 5,Om 105 16,Om 106 10,Om 107 16,Oi 108 1 106 107,Ol 109 108,Om 110 9,Ob 111 .shr zB 109 110,Oi 112 1 104 105,Oz 1 112 111] [104,105,106,107,108,109,110,111,112] []) (.seq (rgN [Om 113 9,oq 114 (.bin .gtr bG (.tmp 113) (.const (.int .u64 0))) [.t 113,.c (.val (.int .u64 0))]] [113] []) (.cond (.t 114) (rgD [Om 115 5,Om 116 16,Oi 117 1 115 116,Ol 118 117,Om 119 10,Om 120 16,Oj 121 .add zb 120 1,Oi 122 1 119 121,Ol 123 122,Om 124 9,oq 125 (.bin .sub bG (.const (.int .u64 32)) (.tmp 124)) [.c (.val (.int .u64 32)),.t 124],Ob 126 .shl zB 123 125,Ob 127 .or zB 118 126,Oi 128 1 115 116,Oz 1 128 127] [16,114,115,116,117,118,119,120,121,122,123,124,125,126,127,128] []) .skip))))) (rgN [Oj 129 .add zb 101 1,Om 101 129] [16,114,129] []))))
def gB:zd:=(.seq (.region false [72,99] [Om 130 4,Ok 131 xU 130,Om 132 5,Ok 133 xU 132,Om 4 131,Om 5 133,Oc 6 0] [9,10,100,101,102,130,131,132,133] []) .ret)
def so:zd:=(.seq (rgN [Om 98 12,oq 99 (.mk 1 4 [.val (.int .u32 0)]) [.t 98,.t 98],Om 5 99] [11,13,74,75,76,98,99] []) (.seq (.seq (rgN [Om 100 12,Oc 101 0] [12] []) (.block 4 (.loop qF))) gB))
def sr:zd:=(.seq (rgN [Om 56 0,Om 57 9,oq 58 (.callI nI) [.t 56,.t 57],Om 10 58] [53,56,57,58] []) (.seq (rgN [Om 59 1,Om 60 9,OK 61 nI 59 60,Ok 62 xU 61,Om 11 62] [59,60,61,62] []) (.seq (rgN [Om 63 11,OL 64 63,Om 65 0,OL 66 65,Om 67 1,OL 68 67,Ob 69 .sub zb 66 68,Om 12 64,Om 13 69] [0,1,63,64,65,66,67,68,69] []) (.seq (rgN [Om 70 13,Oj 71 .add zb 70 1,oq 72 (.mk 1 4 [.val (.int .u32 0)]) [.t 71,.t 71],Om 4 72] [70,71,72] []) (.seq (.seq (rgN [Om 73 13,Oj 74 .add zb 73 1,Oc 75 0] [73] []) (.block 2 (.loop qE))) so)))))
def SS:zd:=(.seq (rgN [oq 4 .mov [.c zA],oq 5 .mov [.c zA],Oc 6 0] [4,5,6] []) (.seq (rgN [Om 17 0,Ok 18 xU 17,Om 19 1,Ok 20 xU 19,Om 0 18,Om 1 20] [17,18,19,20] []) (.seq (.seq (rgN [Om 21 1,OL 22 21,Oj 23 .eql zb 22 0] [21,22] []) (.cond (.t 23) (.seq (rgN [oq 4 .mov [.c zA],oq 5 .mov [.c zA],Oc 6 8] [0,1,23] []) .ret) .skip)) (.seq (.seq (rgN [Om 24 0,Om 25 1,OK 26 mU 24 25,Oj 27 .lss zb 26 0] [23,24,25,26] []) (.cond (.t 27) (.seq (rgN [Om 28 0,oq 29 (.call fw) [.t 28,.c zA],oq 4 .mov [.c zA],Om 5 29,Oc 6 0] [0,1,27,28,29] []) .ret) .skip)) (.seq (.seq (rgN [Om 30 1,OL 31 30,Oj 32 .eql zb 31 1] [27,30,31] []) (.cond (.t 32) (.seq (rgN [Om 34 0,Om 35 1,oq 36 (.iaddrS 1) [.t 35,.c (iv 0)],Ol 37 36,OK 38 Yl 34 37,Om 33 38,Oe 39 0 33,Oe 40 1 33,Om 7 39,Om 8 40] [0,1,32,34,35,36,37,38,33,39,40] []) (.seq (rgN [Om 41 7,Om 42 8,oq 43 (.conv zB zg) [.t 42],Ok 44 tI 43,Om 4 41,Om 5 44,Oc 6 0] [7,8,41,42,43,44] []) .ret)) .skip)) (.seq (rgN [oq 9 .mov [.c (.val (.int .u64 0))]] [32] []) (.seq (.block 0 (.loop qD)) sr)))))))
def qt:List zq:=[.t 4,.t 5,.t 6]
theorem Dy:zj Tryz.prog pX=some (bare SS,qt,134):=by kernel_rfl
def apK:zd:=(.seq (rgN [Ob 17 .lss zb 16 15] [] []) (.seq (.cond (.t 17) .skip (.exit 0)) (.seq (.block 1 (.seq (rgN [Om 18 16,Om 8 18] [17,18] []) (.seq (rgN [Om 19 0,OL 20 19,Oj 21 .sub zb 20 1,Om 22 8,Ob 23 .sub zb 21 22,Om 9 23] [8,19,20,21,22,23] []) (.seq (rgN [Om 24 7,oq 25 (.bin .shl zg (.tmp 24) (.const (.int .u64 32))) [.t 24,.c (.val (.int .u64 32))],Om 26 0,Om 27 9,Oi 28 1 26 27,Ol 29 28,oq 30 (.conv zB zg) [.t 29],Ob 31 .or zg 25 30,Om 10 31] [7,24,25,26,27,28,29,30,31] []) (rgD [ox (.start [32,33,34,35,36,37,38,39,40,41,42,43]) [],Om 32 6,Om 33 9,Om 34 10,Om 35 1,oq 36 (.conv zB zg) [.t 35],Ob 37 .quo zg 34 36,oq 38 (.conv zg zB) [.t 37],Om 39 10,Om 40 1,oq 41 (.conv zB zg) [.t 40],Ob 42 .rem zg 39 41,Oi 43 1 32 33,Oz 1 43 38,oq 39 (.chk (.mov)) [.t 10],oq 40 (.chk (.mov)) [.t 1],oq 41 (.chk (.conv zB zg)) [.t 40],oq 42 (.chk (.bin .rem zg (.tmp 39) (.tmp 41))) [.t 39,.t 41],Om 7 42] [9,10,32,33,34,35,36,37,38,39,40,41,42,43] []))))) (rgN [Oj 44 .add zb 16 1,Om 16 44] [44] []))))
def Yx:zd:=(.seq (.region false [13] [Om 45 6,Ok 46 xU 45,Om 47 7,oq 48 (.conv zg zB) [.t 47],Om 4 46,Om 5 48] [0,1,6,7,15,16,17,45,46,47,48] []) .ret)
def PZ:zd:=(.seq (rgN [oq 4 .mov [.c zA],oq 5 .mov [.c (.val (.int .u32 0))]] [4,5] []) (.seq (rgN [Om 11 0,OL 12 11,oq 13 (.mk 1 4 [.val (.int .u32 0)]) [.t 12,.t 12],Om 6 13] [11,12,13] []) (.seq (rgN [oq 7 .mov [.c (.val (.int .u64 0))]] [] []) (.seq (.seq (rgN [Om 14 0,OL 15 14,Oc 16 0] [14] []) (.block 0 (.loop apK))) Yx))))
def ND:List zq:=[.t 4,.t 5]
theorem AO:zj Tryz.prog Yl=some (bare PZ,ND,49):=by kernel_rfl
def rG:zd:=(.seq (rgN [Ob 15 .lss zb 14 13] [] []) (.seq (.cond (.t 15) .skip (.exit 0)) (.seq (.block 1 (.seq (rgN [Om 16 14,Om 6 16] [15,16] []) (.seq (rgN [Om 17 0,Om 18 6,Oi 19 1 17 18,Ol 20 19,oq 21 (.conv zB zg) [.t 20],Om 22 1,Ob 23 .shl zg 21 22,Om 7 23] [17,18,19,20,21,22,23] []) (.seq (rgN [Om 24 5,Om 25 6,Oi 26 1 24 25,Ol 27 26,Om 28 7,oq 29 (.conv zg zB) [.t 28],Ob 30 .or zB 27 29,Oi 31 1 24 25,Oz 1 31 30] [24,25,26,27,28,29,30,31] []) (rgN [Om 32 5,Om 33 6,Oj 34 .add zb 33 1,Om 35 7,oq 36 (.bin .shr zg (.tmp 35) (.const (.int .u64 32))) [.t 35,.c (.val (.int .u64 32))],oq 37 (.conv zg zB) [.t 36],Oi 38 1 32 34,Oz 1 38 37] [6,7,32,33,34,35,36,37,38] []))))) (rgN [Oj 39 .add zb 14 1,Om 14 39] [39] []))))
def jh:zd:=(.seq (rgN [Om 40 5,Om 4 40] [0,1,5,13,14,15,40] []) .ret)
def cV:zd:=(.seq (rgN [oq 4 .mov [.c zA]] [4] []) (.seq (rgN [Om 8 0,OL 9 8,Oj 10 .add zb 9 1,oq 11 (.mk 1 4 [.val (.int .u32 0)]) [.t 10,.t 10],Om 5 11] [8,9,10,11] []) (.seq (.seq (rgN [Om 12 0,OL 13 12,Oc 14 0] [12] []) (.block 0 (.loop rG))) jh)))
def bq:List zq:=[.t 4]
theorem Tf:zj Tryz.prog nI=some (bare cV,bq,41):=by kernel_rfl
def vj:zd:=(.seq (.seq (rgD [Om 48 7,oq 49 (.bin .geq zg (.tmp 48) (.const (.int .u64 4294967296))) [.t 48,.c (.val (.int .u64 4294967296))],Om 50 49,Wm 51 7 50,Wm 52 1 50,Wm 53 5 50,Wj 54 .sub zb 53 2 50,Wi 55 1 52 54 50,Wl 56 55 50,⟨some 57,.conv zB zg,[.t 56],some (50,false)⟩,Wb 58 .mul zg 51 57 50,Wm 59 8 50,⟨some 60,.bin .shl zg (.tmp 59) (.const (.int .u64 32)),[.t 59,.c (.val (.int .u64 32))],some (50,false)⟩,Wm 61 0 50,Wm 62 5 50,Wj 63 .sub zb 62 2 50,Wi 64 1 61 63 50,Wl 65 64 50,⟨some 66,.conv zB zg,[.t 65],some (50,false)⟩,Wb 67 .or zg 60 66 50,Wb 68 .gtr zg 58 67 50,Op 69 50 68] [48,49,50,51,52,53,54,55,56,57,58,59,60,61,62,63,64,65,66,67,68] []) (.cond (.t 69) .skip (.exit 0))) (.block 1 (.seq (rgN [Om 70 7,oq 71 (.bin .sub zg (.tmp 70) (.const (.int .u64 1))) [.t 70,.c (.val (.int .u64 1))],Om 7 71] [69,70,71] []) (.seq (rgN [Om 72 8,Om 73 1,Om 74 5,Oj 75 .sub zb 74 1,Oi 76 1 73 75,Ol 77 76,oq 78 (.conv zB zg) [.t 77],Ob 79 .add zg 72 78,Om 8 79] [72,73,74,75,76,77,78,79] []) (.seq (rgN [Om 80 8,oq 81 (.bin .geq zg (.tmp 80) (.const (.int .u64 4294967296))) [.t 80,.c (.val (.int .u64 4294967296))]] [80] []) (.cond (.t 81) (.exit 0) .skip))))))
def lZ:zd:=(.seq (rgN [Ob 84 .lss zb 83 82] [] []) (.seq (.cond (.t 84) .skip (.exit 2)) (.seq (.block 3 (.seq (rgN [Om 85 83,Om 11 85] [84,85] []) (.seq (rgN [Om 86 7,Om 87 1,Om 88 11,Oi 89 1 87 88,Ol 90 89,oq 91 (.conv zB zg) [.t 90],Ob 92 .mul zg 86 91,Om 93 9,Ob 94 .add zg 92 93,Om 12 94] [9,86,87,88,89,90,91,92,93,94] []) (.seq (rgN [Om 95 12,oq 96 (.bin .shr zg (.tmp 95) (.const (.int .u64 32))) [.t 95,.c (.val (.int .u64 32))],Om 9 96] [95,96] []) (.seq (rgN [Om 97 0,Om 98 11,Oi 99 1 97 98,Ol 100 99,oq 101 (.conv zB zg) [.t 100],Om 102 12,oq 103 (.bin .and zg (.tmp 102) (.const (.int .u64 4294967295))) [.t 102,.c (.val (.int .u64 4294967295))],Ob 104 .sub zg 101 103,Om 105 10,Ob 106 .sub zg 104 105,Om 13 106] [10,12,97,98,99,100,101,102,103,104,105,106] []) (rgN [Om 107 0,Om 108 11,Om 109 13,oq 110 (.conv zg zB) [.t 109],Om 111 13,oq 112 (.bin .shr zg (.tmp 111) (.const (.int .u64 63))) [.t 111,.c (.val (.int .u64 63))],Oi 113 1 107 108,Oz 1 113 110,Om 10 112] [11,13,107,108,109,110,111,112,113] [])))))) (rgN [Oj 114 .add zb 83 1,Om 83 114] [114] []))))
def l0:zd:=(.seq (rgN [Ob 136 .lss zb 135 134] [] []) (.seq (.cond (.t 136) .skip (.exit 4)) (.seq (.block 5 (.seq (rgN [Om 137 135,Om 15 137] [136,137] []) (.seq (rgD [Om 138 0,Om 139 15,Oi 140 1 138 139,Ol 141 140,oq 142 (.conv zB zg) [.t 141],Om 143 1,Om 144 15,Oi 145 1 143 144,Ol 146 145,oq 147 (.conv zB zg) [.t 146],Ob 148 .add zg 142 147,Om 149 9,Ob 150 .add zg 148 149,Om 16 150] [9,138,139,140,141,142,143,144,145,146,147,148,149,150] []) (rgN [Om 151 0,Om 152 15,Om 153 16,oq 154 (.conv zg zB) [.t 153],Om 155 16,oq 156 (.bin .shr zg (.tmp 155) (.const (.int .u64 32))) [.t 155,.c (.val (.int .u64 32))],Oi 157 1 151 152,Oz 1 157 154,Om 9 156] [15,16,151,152,153,154,155,156,157] [])))) (rgN [Oj 158 .add zb 135 1,Om 135 158] [158] []))))
def pB:zd:=(.seq (rgN [Om 159 0,Om 160 5,Oi 161 1 159 160,Ol 162 161,Om 163 9,oq 164 (.conv zg zB) [.t 163],Ob 165 .add zB 162 164,Oi 166 1 159 160,Oz 1 166 165] [0,1,5,9,134,135,136,159,160,161,162,163,164,165,166] []) (.seq (rgN [Om 167 7,oq 168 (.bin .sub zg (.tmp 167) (.const (.int .u64 1))) [.t 167,.c (.val (.int .u64 1))],oq 169 (.conv zg zB) [.t 168],Om 4 169] [7,167,168,169] []) .ret))
def rF:zd:=(.seq (rgN [Om 115 0,Om 116 5,Oi 117 1 115 116,Ol 118 117,oq 119 (.conv zB zg) [.t 118],Om 120 9,Ob 121 .sub zg 119 120,Om 122 10,Ob 123 .sub zg 121 122,Om 14 123] [9,10,82,83,84,115,116,117,118,119,120,121,122,123] []) (.seq (rgN [Om 124 0,Om 125 5,Om 126 14,oq 127 (.conv zg zB) [.t 126],Oi 128 1 124 125,Oz 1 128 127] [124,125,126,127,128] []) (.seq (.seq (rgN [Om 129 14,oq 130 (.bin .shr zg (.tmp 129) (.const (.int .u64 63))) [.t 129,.c (.val (.int .u64 63))],oq 131 (.bin .eql zg (.tmp 130) (.const (.int .u64 0))) [.t 130,.c (.val (.int .u64 0))]] [14,129,130] []) (.cond (.t 131) (.seq (rgN [Om 132 7,oq 133 (.conv zg zB) [.t 132],Om 4 133] [0,1,5,7,131,132,133] []) .ret) .skip)) (.seq (rgN [oq 9 .mov [.c (.val (.int .u64 0))]] [131] []) (.seq (.seq (rgN [Om 134 5,Oc 135 0] [] []) (.block 4 (.loop l0))) pB)))))
def uq:zd:=(.seq (rgN [oq 9 .mov [.c (.val (.int .u64 0))],oq 10 .mov [.c (.val (.int .u64 0))]] [8,81,69] []) (.seq (.seq (rgN [Om 82 5,Oc 83 0] [] []) (.block 2 (.loop lZ))) rF))
def PY:zd:=(.seq (rgN [oq 4 .mov [.c (.val (.int .u32 0))]] [4] []) (.seq (rgN [Om 17 1,OL 18 17,Om 5 18] [17,18] []) (.seq (rgD [Om 19 0,Om 20 5,Oi 21 1 19 20,Ol 22 21,oq 23 (.conv zB zg) [.t 22],oq 24 (.bin .shl zg (.tmp 23) (.const (.int .u64 32))) [.t 23,.c (.val (.int .u64 32))],Om 25 0,Om 26 5,Oj 27 .sub zb 26 1,Oi 28 1 25 27,Ol 29 28,oq 30 (.conv zB zg) [.t 29],Ob 31 .or zg 24 30,Om 6 31] [19,20,21,22,23,24,25,26,27,28,29,30,31] []) (.seq (rgD [Om 32 6,Om 33 1,Om 34 5,Oj 35 .sub zb 34 1,Oi 36 1 33 35,Ol 37 36,oq 38 (.conv zB zg) [.t 37],Ob 39 .quo zg 32 38,Om 40 6,Om 41 1,Om 42 5,Oj 43 .sub zb 42 1,Oi 44 1 41 43,Ol 45 44,oq 46 (.conv zB zg) [.t 45],Ob 47 .rem zg 40 46,Om 7 39,Om 8 47] [6,32,33,34,35,36,37,38,39,40,41,42,43,44,45,46,47] []) (.seq (.block 0 (.loop vj)) uq)))))
def NC:List zq:=[.t 4]
theorem AN:zj Tryz.prog Yk=some (bare PY,NC,170):=by kernel_rfl
def wz:zd:=(.seq (rgN [Ob 17 .lss zb 16 15] [] []) (.seq (.cond (.t 17) .skip (.exit 0)) (.seq (.block 1 (.seq (rgN [Oi 18 3 14 16,On 19 3 18,Oa 5,Oz 3 5 19] [17,18,19] []) (rgN [Om 20 3,On 21 3 5,Ok 22 lU 21,Ob 23 .add yi 20 22,Om 3 23] [5,20,21,22,23] [5]))) (rgN [Oj 24 .add zb 16 1,Om 16 24] [24] []))))
def tu:zd:=(.seq (rgN [Om 25 3,Om 2 25] [3,14,15,16,17,25] []) .ret)
def sG:zd:=(.seq (rgN [OB 1 0,⟨some 2,.mov,[.c (.val (.string ⟨#[]⟩))],none⟩] [0,2] []) (.seq (rgN [OF 6 0 1,OF 7 4 6,Ol 8 7,OL 9 8,oq 10 (.conv zb zg) [.t 9],Ok 11 x6 10,Om 3 11] [6,7,8,9,10,11] []) (.seq (.seq (rgN [OF 12 0 1,OF 13 4 12,Ol 14 13,OL 15 14,Oc 16 0] [1,12,13] [1]) (.block 0 (.loop wz))) tu)))
def amG:List zq:=[.t 2]
theorem kV:zj Tryz.prog xL=some (bare sG,amG,26):=by kernel_rfl
def rB:zd:=(.seq (rgN [OB 1 0,oq 2 .mov [.c zA]] [0,1,2] [1]) (.seq (rgN [oq 2 .mov [.c zA]] [] []) .ret))
def rW:List zq:=[.t 2]
theorem jH:zj Tryz.prog x9=some (bare rB,rW,3):=by kernel_rfl
def sH:zd:=(.seq (rgN [OB 4 0,OB 5 1,oq 8 .mov [.c (bv false)]] [0,1,8] []) (.seq (rgN [On 13 20 5,Om 14 3,OF 15 0 4,OF 16 4 15,Ol 17 16,oq 18 (.call pm) [.t 13,.t 14,.t 17],Om 12 18,Oe 19 0 12,Oe 20 1 12,Oa 9,Oz 3 9 19,Om 10 20] [3,4,5,13,14,15,16,17,18,12,19,20] [4,5]) (.seq (rgN [Om 21 2,Ok 22 vc 21,oq 23 (.call vc) [.c (iv 1)],OK 24 mS 22 23,Oa 11,Oz 3 11 24] [2,21,22,23,24] []) (.seq (rgN [Om 25 10,Oj 26 .eql zC 25 0,Om 27 26,Vn 28 3 9 27,Vn 29 3 11 27,VK 30 XP 28 29 27,Vj 31 .lss zb 30 0 27,Oq 32 27 31,Om 8 32] [9,10,11,25,26,27,28,29,30,31,32] [9,11]) .ret))))
def vr:List zq:=[.t 8]
theorem kW:zj Tryz.prog xM=some (bare sH,vr,33):=by kernel_rfl
def yK:zd:=(.seq (rgN [Ob 21 .lss zb 20 19] [] []) (.seq (.cond (.t 21) .skip (.exit 0)) (.seq (.block 1 (.seq (rgN [Oi 22 3 18 20,On 23 3 22,Oa 4,Oz 3 4 23] [21,22,23] []) (.seq (rgN [On 24 3 4,Ok 25 mT 24,oq 26 (.un .not) [.t 25]] [4,24,25] [4]) (.cond (.t 26) (.seq (rgN [oq 2 .mov [.c (bv false)]] [18,19,20,26] []) .ret) .skip)))) (rgN [Oj 27 .add zb 20 1,Om 20 27] [26,27] []))))
def vW:zd:=(.seq (rgN [oq 2 .mov [.c (bv true)]] [18,19,20,21] []) .ret)
def tg:zd:=(.seq (rgN [OB 1 0,oq 2 .mov [.c (bv false)]] [0,2] []) (.seq (.seq (rgN [OF 5 0 1,On 6 5 5,Ok 7 rc 6,oq 8 (.un .not) [.t 7],Om 9 8,WF 10 0 1 9,WF 11 4 10 9,Wl 12 11 9,WL 13 12 9,Wj 14 .gtr zb 13 40 9,Op 15 9 14] [5,6,7,8,9,10,11,12,13,14] []) (.cond (.t 15) (.seq (rgN [oq 2 .mov [.c (bv false)]] [1,15] [1]) .ret) .skip)) (.seq (.seq (rgN [OF 16 0 1,OF 17 4 16,Ol 18 17,OL 19 18,Oc 20 0] [1,15,16,17] [1]) (.block 0 (.loop yK))) vW)))
def yu:List zq:=[.t 2]
theorem nG:zj Tryz.prog y7=some (bare tg,yu,28):=by kernel_rfl
def dX:zd:=(.seq (rgN [OB 1 0,⟨some 2,.mov,[.c (.val (.string ⟨#[]⟩))],none⟩] [0,2] []) (.seq (rgN [oq 4 (.call x6) [.c (.val (.int .u64 0))],Om 3 4] [4] []) (.seq (.seq (rgN [OF 5 0 1,Ol 6 5] [5] []) (.cond (.t 6) (rgN [oq 7 (.call x6) [.c (.val (.int .u64 1))],Om 3 7] [6,7] []) .skip)) (.seq (rgD [Om 8 3,OF 9 1 1,Ol 10 9,Ok 11 nZ 10,Ob 12 .add yi 8 11,OF 13 2 1,Ol 14 13,Ok 15 nZ 14,Ob 16 .add yi 12 15,Om 2 16] [1,3,6,8,9,10,11,12,13,14,15,16] [1]) .ret))))
def kM:List zq:=[.t 2]
theorem Qg:zj Tryz.prog lU=some (bare dX,kM,17):=by kernel_rfl
def wL:zd:=(.seq (rgN [Ob 38 .lss zb 37 36] [] []) (.seq (.cond (.t 38) .skip (.exit 0)) (.seq (.block 1 (.seq (rgN [Oi 39 3 35 37,On 40 3 39,Oa 10,Oz 3 10 40] [38,39,40] []) (.seq (.seq (rgN [On 41 3 10,Ok 42 mT 41,oq 43 (.un .not) [.t 42]] [41,42] []) (.cond (.t 43) (.seq (rgN [⟨some 44,.build zF [],[],none⟩,Oz 3 6 44,Oc 7 2] [1,2,3,35,36,37,10,43,44] [3,10]) .ret) .skip)) (.seq (rgN [On 45 3 10,Ok 46 jd 45,Oj 47 .lss zb 46 0] [10,43,45,46] [10]) (.cond (.t 47) (.seq (rgN [⟨some 48,.build zF [],[],none⟩,Oz 3 6 48,Oc 7 4] [1,2,3,35,36,37,47,48] [3]) .ret) .skip))))) (rgN [Oj 49 .add zb 37 1,Om 37 49] [47,49] []))))
def rE:zd:=(.seq (rgN [Ob 59 .lss zb 58 57] [] []) (.seq (.cond (.t 59) .skip (.exit 2)) (.seq (.block 3 (.seq (rgN [Om 60 58,Om 13 60] [59,60] []) (rgN [Om 61 12,Om 62 13,OF 63 19 3,Ol 64 63,Om 65 13,Oi 66 8 64 65,OF 67 7 66,Ol 68 67,Ok 69 vc 68,Oi 70 3 61 62,Oz 3 70 69] [13,61,62,63,64,65,66,67,68,69,70] []))) (rgN [Oj 71 .add zb 58 1,Om 58 71] [71] []))))
def xR:zd:=(.seq (rgN [Ob 91 .lss zb 90 89] [] []) (.seq (.cond (.t 91) .skip (.exit 6)) (.seq (.block 7 (.seq (rgN [Om 92 90,Oi 93 1 88 90,Ol 94 93,Om 18 92,Om 19 94] [91,92,93,94] []) (.block 8 (.seq (rgN [Om 96 19,Oj 97 .eql zb 96 0,Om 95 97] [96,97] []) (.cond (.t 95) .skip (.seq (rgN [Om 99 1,Om 100 18,Oi 101 1 99 100,Ol 102 101,Oj 103 .eql zb 102 1,Om 98 103] [95,99,100,101,102,103] []) (.cond (.t 98) (rgN [Om 104 17,Om 105 19,Ob 106 .sub zb 104 105,Om 17 106] [18,19,98,104,105,106] []) (.seq (rgN [Om 108 1,Om 109 18,Oi 110 1 108 109,Ol 111 110,Oj 112 .eql zb 111 0,Om 107 112] [98,108,109,110,111,112] []) (.cond (.t 107) (rgD [Om 113 12,Om 114 18,Om 115 12,Om 116 18,Oi 117 3 115 116,On 118 3 117,On 119 3 15,Om 120 19,Ok 121 vc 120,OK 122 fu 119 121,OK 123 XR 118 122,Oi 124 3 113 114,Oz 3 124 123] [18,19,107,113,114,115,116,117,118,119,120,121,122,123,124] []) .skip))))))))) (rgN [Oj 125 .add zb 90 1,Om 90 125] [18,19,95,107,125] []))))
def mZ:zd:=(rgD [On 126 3 11,On 127 3 15,Om 128 17,Ok 129 vc 128,OK 130 fu 127 129,OK 131 mS 126 130,Oz 3 11 131] [15,17,88,89,90,91,126,127,128,129,130,131] [15])
def rD:zd:=(rgN [Oj 132 .add zb 74 1,Om 74 132] [15,14,81,132] [15])
def uK:zd:=(.seq (rgN [Ob 75 .lss zb 74 73] [] []) (.seq (.cond (.t 75) .skip (.exit 4)) (.seq (.block 5 (.seq (rgN [Om 76 74,Oi 77 3 72 74,On 78 3 77,Oa 15,Om 14 76,Oz 3 15 78] [75,76,77,78] []) (.seq (.seq (rgN [On 79 3 15,Ok 80 jd 79,Oj 81 .eql zb 80 0] [79,80] []) (.cond (.t 81) (.exit 5) .skip)) (.seq (rgN [On 83 20 3,Om 84 14,OK 85 gq 83 84,Om 82 85,Oe 86 0 82,Oe 87 1 82,Om 16 86,Om 17 87] [14,81,83,84,85,82,86,87] []) (.seq (.seq (rgN [Om 88 16,OL 89 88,Oc 90 0] [16] []) (.block 6 (.loop xR))) mZ))))) rD)))
def wM:zd:=(.seq (rgN [Ob 136 .lss zb 135 134] [] []) (.seq (.cond (.t 136) .skip (.exit 9)) (.seq (.block 10 (.seq (rgN [Om 137 135,Oi 138 1 133 135,Ol 139 138,Om 20 137,Om 21 139] [136,137,138,139] []) (.seq (rgN [Om 140 21,Oj 141 .eql zb 140 0,Om 142 141,Vm 143 12 142,Vm 144 20 142,Vi 145 3 143 144 142,Vn 146 3 145 142,Vk 147 jd 146 142,Vj 148 .gtr zb 147 0 142,Oq 149 142 148] [21,140,141,142,143,144,145,146,147,148] []) (.cond (.t 149) (rgD [On 150 3 11,Om 151 12,Om 152 20,Oi 153 3 151 152,On 154 3 153,OK 155 mS 150 154,Oz 3 11 155] [20,149,150,151,152,153,154,155] []) .skip)))) (rgN [Oj 156 .add zb 135 1,Om 135 156] [20,149,156] []))))
def m4:zd:=(.seq (rgN [On 157 3 11,Oz 3 6 157,Oc 7 0] [11,12,133,134,135,136,157] [11,55]) .ret)
def m5:zd:=(.seq (.seq (rgN [Om 133 1,OL 134 133,Oc 135 0] [1,3,72,73,74,75] [3]) (.block 9 (.loop wM))) m4)
def m6:zd:=(.seq .skip (.seq (.seq (rgN [Om 72 2,OL 73 72,Oc 74 0] [2,57,58,59] []) (.block 4 (.loop uK))) m5))
def nN:zd:=(.seq (rgN [On 50 20 3,Om 51 1,OK 52 mi 50 51,Oa 11,Oz 3 11 52] [35,36,37,38,50,51,52] []) (.seq (rgN [Om 53 1,OL 54 53,⟨some 55,.mk 3 56 zF,[.t 54,.t 54],none⟩,Om 12 55] [53,54,55] []) (.seq (.seq (rgN [Om 56 12,OL 57 56,Oc 58 0] [56] []) (.block 2 (.loop rE))) m6)))
def j0:zd:=(.seq (rgN [OB 3 0,Oa 6,Oc 7 0] [0,7] []) (.seq (.seq (rgN [On 22 20 3,Om 23 1,OK 24 lM 22 23,Om 8 24] [22,23,24] []) (.seq (rgN [Om 25 8,Oj 26 .neq zC 25 0] [25] []) (.cond (.t 26) (.seq (rgN [⟨some 27,.build zF [],[],none⟩,Om 28 8,Oz 3 6 27,Om 7 28] [1,2,3,8,26,27,28] [3]) .ret) .skip))) (.seq (.seq (rgN [Om 29 2,OL 30 29,On 31 20 3,Ok 32 rq 31,Ob 33 .neq zb 30 32] [8,26,29,30,31,32] []) (.cond (.t 33) (.seq (rgN [⟨some 34,.build zF [],[],none⟩,Oz 3 6 34,Oc 7 3] [1,2,3,33,34] [3]) .ret) .skip)) (.seq (.seq (rgN [Om 35 2,OL 36 35,Oc 37 0] [33] []) (.block 0 (.loop wL))) nN))))
def wT:List zq:=[.cell 6 (some 3),.t 7]
theorem XF:zj Tryz.prog pm=some (bare j0,wT,158):=by kernel_rfl
def Qu:zd:=(.seq (rgN [OB 2 0,OB 3 1,Oa 4] [0,1] []) (.seq (rgN [On 13 3 2,On 14 3 3,OK 15 dB 13 14,Om 12 15,Oe 16 0 12,Oe 17 1 12,Om 5 16,Om 6 17] [13,14,15,12,16,17] []) (.seq (rgN [OF 18 2 2,Ol 19 18,OF 20 2 3,Ol 21 20,OK 22 je 19 21,Om 7 22] [18,19,20,21,22] []) (.seq (.seq (rgN [OF 23 0 2,Ol 24 23,OF 25 0 3,Ol 26 25,Ob 27 .eql nJ 24 26] [23,24,25,26] []) (.cond (.t 27) (.seq (rgD [OF 28 0 2,Ol 29 28,Om 30 5,Om 31 6,OK 32 fw 30 31,Om 33 7,oq 34 (.call pn) [.t 29,.t 32,.t 33],Oz 3 4 34] [2,3,5,6,7,27,28,29,30,31,32,33,34] [2,3]) .ret) .skip)) (.seq (.seq (rgN [Om 36 5,Om 37 6,OK 38 XT 36 37,Om 35 38,Oe 39 0 35,Oe 40 1 35,Om 8 39,Om 9 40] [27,36,37,38,35,39,40] []) (.seq (rgN [Om 41 9] [9] []) (.cond (.t 41) (.seq (rgN [OF 42 0 2,Ol 43 42,Om 44 8,Om 45 7,oq 46 (.call pn) [.t 43,.t 44,.t 45],Oz 3 4 46] [2,3,5,6,7,8,41,42,43,44,45,46] [2,3]) .ret) .skip))) (.seq (rgN [Om 48 6,Om 49 5,OK 50 XT 48 49,Om 47 50,Oe 51 0 47,Oe 52 1 47,Om 10 51,Om 11 52] [2,5,6,8,41,48,49,50,47,51,52,11] [2]) (.seq (rgN [OF 53 0 3,Ol 54 53,Om 55 10,Om 56 7,oq 57 (.call pn) [.t 54,.t 55,.t 56],Oz 3 4 57] [3,7,10,53,54,55,56,57] [3]) .ret)))))))
def Uj:List zq:=[.cell 4 (some 3)]
theorem afF:zj Tryz.prog mS=some (bare Qu,Uj,58):=by kernel_rfl
def UM:zd:=(.seq (rgN [Oa 2] [] []) (.seq (rgN [Om 3 0,Oj 4 .lss xE 3 0,Om 5 0,Ok 6 Tk 5,oq 7 (.call tI) [.c (.val (.int .u64 1))],oq 8 (.call pn) [.t 4,.t 6,.t 7],Oz 3 2 8] [0,3,4,5,6,7,8] []) .ret))
def U8:List zq:=[.cell 2 (some 3)]
theorem Gn:zj Tryz.prog vc=some (bare UM,U8,9):=by kernel_rfl
def Qv:zd:=(.seq (rgN [OB 2 0,OB 3 1,Oc 4 0] [0,1,4] []) (.seq (.seq (rgN [OF 7 0 2,Ol 8 7,OF 9 0 3,Ol 10 9,Ob 11 .neq nJ 8 10] [7,8,9,10] []) (.cond (.t 11) (.seq (.seq (rgN [OF 12 0 2,Ol 13 12] [2,3,11,12] [2,3]) (.cond (.t 13) (.seq (rgN [Oc 4 (-1)] [13] []) .ret) .skip)) (.seq (rgN [Oc 4 1] [13] []) .ret)) .skip)) (.seq (rgN [On 15 3 2,On 16 3 3,OK 17 dB 15 16,Om 14 17,Oe 18 0 14,Oe 19 1 14,Om 5 18,Om 6 19] [3,11,15,16,17,14,18,19] [3]) (.seq (.seq (rgN [OF 20 0 2,Ol 21 20] [2,20] [2]) (.cond (.t 21) (.seq (rgN [Om 22 6,Om 23 5,OK 24 mU 22 23,Om 4 24] [5,6,21,22,23,24] []) .ret) .skip)) (.seq (rgN [Om 25 5,Om 26 6,OK 27 mU 25 26,Om 4 27] [5,6,21,25,26,27] []) .ret)))))
def Uk:List zq:=[.t 4]
theorem afG:zj Tryz.prog XP=some (bare Qv,Uk,28):=by kernel_rfl
def gR:zd:=(.seq (rgN [OB 1 0,oq 2 .mov [.c (bv false)]] [0,2] []) (.seq (rgN [OF 3 1 1,Ol 4 3,Oj 5 .eql zb 4 0,Om 6 5,VF 7 2 1 6,Vl 8 7 6,Vj 9 .eql zb 8 0 6,Oq 10 6 9,Om 11 10,VF 12 3 1 11,Vl 13 12 11,Vj 14 .eql zb 13 0 11,Oq 15 11 14,Om 2 15] [1,3,4,5,6,7,8,9,10,11,12,13,14,15] [1]) .ret))
def gV:List zq:=[.t 2]
theorem UI:zj Tryz.prog rc=some (bare gR,gV,16):=by kernel_rfl
def mB:zd:=(.seq (rgN [Ob 13 .lss zb 12 11] [] []) (.seq (.cond (.t 13) .skip (.exit 0)) (.seq (.block 1 (.seq (rgN [Oi 14 1 10 12,Ol 15 14,Om 5 15] [13,14,15] []) (rgN [Om 16 3,Om 17 5,oq 18 (.conv zB zg) [.t 17],Ok 19 x6 18,Ob 20 .add yi 16 19,Om 3 20] [5,16,17,18,19,20] []))) (rgN [Oj 21 .add zb 12 1,Om 12 21] [21] []))))
def eE:zd:=(.seq (rgN [Om 22 3,Om 2 22] [3,10,11,12,13,22] []) .ret)
def Ya:zd:=(.seq (rgN [⟨some 2,.mov,[.c (.val (.string ⟨#[]⟩))],none⟩] [2] []) (.seq (rgN [Om 6 0,OL 7 6,oq 8 (.conv zb zg) [.t 7],Ok 9 x6 8,Om 3 9] [6,7,8,9] []) (.seq (.seq (rgN [Om 10 0,OL 11 10,Oc 12 0] [0] []) (.block 0 (.loop mB))) eE)))
def Yf:List zq:=[.t 2]
theorem Mj:zj Tryz.prog nZ=some (bare Ya,Yf,23):=by kernel_rfl
def uo:zd:=(.seq (rgN [Ob 22 .lss zb 21 20] [] []) (.seq (.cond (.t 22) .skip (.exit 0)) (.seq (.block 1 (.seq (rgN [Oi 23 1 19 21,Ol 24 23,Om 7 24] [22,23,24] []) (.seq (rgN [Om 25 7,Oj 26 .lss zb 25 (-1),Om 27 26,Wm 28 7 27,Wj 29 .gtr zb 28 1 27,Op 30 27 29] [7,25,26,27,28,29] []) (.cond (.t 30) (.seq (rgN [Oc 4 4] [19,20,21,30] []) .ret) .skip)))) (rgN [Oj 31 .add zb 21 1,Om 21 31] [30,31] []))))
def j1:zd:=(.seq (rgN [Oc 4 0] [19,20,21,22] []) .ret)
def dL:zd:=(.seq (rgN [OB 2 0,Oc 4 0] [0,4] []) (.seq (.seq (rgN [On 8 20 2,Ok 9 vf 8,Om 5 9] [8,9] []) (.seq (rgN [Om 10 5,Oj 11 .neq zC 10 0] [10] []) (.cond (.t 11) (.seq (rgN [Om 12 5,Om 4 12] [1,2,5,11,12] [2]) .ret) .skip))) (.seq (.seq (rgN [Om 13 1,OL 14 13,OF 15 19 2,Ol 16 15,OL 17 16,Ob 18 .neq zb 14 17] [2,5,11,13,14,15,16,17] [2]) (.cond (.t 18) (.seq (rgN [Oc 4 3] [1,18] []) .ret) .skip)) (.seq (.seq (rgN [Om 19 1,OL 20 19,Oc 21 0] [1,18] []) (.block 0 (.loop uo))) j1))))
def uV:List zq:=[.t 4]
theorem Qc:zj Tryz.prog lM=some (bare dL,uV,32):=by kernel_rfl
def aI:zd:=(.seq (rgN [OB 1 0,Oc 2 0] [0,2] []) (.seq (.block 0 (.seq (rgN [OF 4 1 1,Ol 5 4,OL 6 5,Oj 7 .eql zb 6 0,Om 3 7] [4,5,6,7] []) (.cond (.t 3) (.seq (rgN [Oc 2 0] [1,3] [1]) .ret) (.seq (rgN [OF 9 0 1,Ol 10 9,Om 8 10] [1,3,9,10] [1]) (.cond (.t 8) (.seq (rgN [Oc 2 (-1)] [8] []) .ret) .skip))))) (.seq (rgN [Oc 2 1] [8] []) .ret)))
def Zy:List zq:=[.t 2]
theorem ac4:zj Tryz.prog jd=some (bare aI,Zy,11):=by kernel_rfl
def t5:zd:=(.seq (rgN [Ob 11 .lss zb 10 9] [] []) (.seq (.cond (.t 11) .skip (.exit 0)) (.seq (.block 1 (.seq (rgN [Om 12 10,Oi 13 1 8 10,Ol 14 13,Om 6 12,Om 7 14] [11,12,13,14] []) (.seq (rgN [Om 15 7,Oj 16 .eql zb 15 1] [7,15] []) (.cond (.t 16) (rgN [Om 17 5,OF 18 19 2,Ol 19 18,Om 20 6,Oi 21 8 19 20,OF 22 7 21,Ol 23 22,Ob 24 .add xE 17 23,Om 5 24] [6,16,17,18,19,20,21,22,23,24] []) .skip)))) (rgN [Oj 25 .add zb 10 1,Om 10 25] [6,16,25] []))))
def k8:zd:=(.seq (rgN [Om 26 5,Ok 27 vc 26,Oz 3 4 27] [2,5,8,9,10,11,26,27] [2]) .ret)
def fX:zd:=(.seq (rgN [OB 2 0,Oa 4] [0] []) (.seq (rgN [Oc 5 0] [] []) (.seq (.seq (rgN [Om 8 1,OL 9 8,Oc 10 0] [1] []) (.block 0 (.loop t5))) k8)))
def da:List zq:=[.cell 4 (some 3)]
theorem Sn:zj Tryz.prog mi=some (bare fX,da,28):=by kernel_rfl
def mu:zd:=(.seq (rgN [Ob 23 .lss zb 22 21] [] []) (.seq (.cond (.t 23) .skip (.exit 0)) (.seq (.block 1 (.seq (rgN [Oi 24 8 20 22,On 25 8 24,oq 8 (.alloc [iv 0,iv 0,iv 0,iv 0,iv 0,iv 0,iv 0,iv 0]) [],Oz 8 8 25] [23,24,25] []) (rgN [Om 26 4,On 27 20 6,Om 28 1,On 29 8 8,oq 30 (.call xO) [.t 27,.t 28,.t 29],oq 31 (.mkslice 1 1 [iv 0] [0]) [.t 30],oq 32 (.append 1 8) [.t 26,.t 31],Om 4 32] [8,26,27,28,29,30,31,32] [8]))) (rgN [Oj 33 .add zb 22 1,Om 22 33] [33] []))))
def am2:zd:=(.seq (rgN [Om 34 4,On 35 20 6,Om 36 1,OK 37 vZ 35 36,Om 4 34,Om 5 37] [1,6,20,21,22,23,34,35,36,37] [6]) .ret)
def gC:zd:=(.seq (rgN [OB 2 0,oq 4 .mov [.c zA],Oc 5 0] [0,5] []) (.seq (.seq (rgN [Om 9 1,Oj 10 .lss zb 9 0,Om 11 10,Wm 12 1 11,Wn 13 20 2 11,Wk 14 rq 13 11,Wb 15 .geq zb 12 14 11,Op 16 11 15] [9,10,11,12,13,14,15] []) (.cond (.t 16) (.seq (rgN [oq 4 .mov [.c zA],Oc 5 0] [1,2,16] [2]) .ret) .skip)) (.seq (rgN [On 17 20 2,⟨some 18,.build [iv 0,iv 0,iv 0,iv 0,iv 0,iv 0,iv 0,iv 0,iv 0,iv 0,iv 0,iv 0,iv 0,iv 0,iv 0,iv 0,iv 0,iv 0,zA,zA] [(0,20)],[.t 17],none⟩,⟨some 6,.alloc [iv 0,iv 0,iv 0,iv 0,iv 0,iv 0,iv 0,iv 0,iv 0,iv 0,iv 0,iv 0,iv 0,iv 0,iv 0,iv 0,iv 0,iv 0,zA,zA],[],none⟩,Oz 20 6 18] [16,17,18] []) (.seq (.seq (rgN [OF 19 19 2,Ol 20 19,OL 21 20,Oc 22 0] [2,19] [2]) (.block 0 (.loop mu))) am2))))
def ma:List zq:=[.t 4,.t 5]
theorem Mc:zj Tryz.prog gq=some (bare gC,ma,38):=by kernel_rfl
def GF:zd:=(.seq (rgN [OB 2 0,OB 3 1,Oa 4] [0,1] []) (.seq (rgD [On 5 3 2,On 6 3 3,Ok 7 XQ 6,OK 8 mS 5 7,Oz 3 4 8] [2,3,5,6,7,8] [2,3]) .ret))
def FI:List zq:=[.cell 4 (some 3)]
theorem afJ:zj Tryz.prog XR=some (bare GF,FI,9):=by kernel_rfl
def GD:zd:=(.seq (rgN [OB 2 0,OB 3 1,Oa 4] [0,1] []) (.seq (rgD [OF 5 0 2,Ol 6 5,OF 7 0 3,Ol 8 7,Ob 9 .neq nJ 6 8,OF 10 1 2,Ol 11 10,OF 12 1 3,Ol 13 12,OK 14 je 11 13,OF 15 2 2,Ol 16 15,OF 17 2 3,Ol 18 17,OK 19 je 16 18,oq 20 (.call pn) [.t 9,.t 14,.t 19],Oz 3 4 20] [2,3,5,6,7,8,9,10,11,12,13,14,15,16,17,18,19,20] [2,3]) .ret))
def FG:List zq:=[.cell 4 (some 3)]
theorem afH:zj Tryz.prog fu=some (bare GD,FG,21):=by kernel_rfl
def PW:zd:=(.seq (rgN [OB 2 0,OB 3 1,oq 4 .mov [.c zA],oq 5 .mov [.c zA]] [0,1,4,5] []) (.seq (rgD [OF 6 1 2,Ol 7 6,OF 8 2 3,Ol 9 8,OK 10 je 7 9,OF 11 1 3,Ol 12 11,OF 13 2 2,Ol 14 13,OK 15 je 12 14,Om 4 10,Om 5 15] [2,3,6,7,8,9,10,11,12,13,14,15] [2,3]) .ret))
def NA:List zq:=[.t 4,.t 5]
theorem AL:zj Tryz.prog dB=some (bare PW,NA,16):=by kernel_rfl
def aL:zd:=(.seq (rgN [Ob 24 .lss zb 23 22] [] []) (.seq (.cond (.t 24) .skip (.exit 2)) (.seq (.block 3 (.seq (rgN [Om 25 23,Om 8 25] [24,25] []) (.seq (rgD [Om 26 0,Om 27 6,Oi 28 1 26 27,Ol 29 28,oq 30 (.conv zB zg) [.t 29],Om 31 1,Om 32 8,Oi 33 1 31 32,Ol 34 33,oq 35 (.conv zB zg) [.t 34],Ob 36 .mul zg 30 35,Om 37 5,Om 38 6,Om 39 8,Ob 40 .add zb 38 39,Oi 41 1 37 40,Ol 42 41,oq 43 (.conv zB zg) [.t 42],Ob 44 .add zg 36 43,Om 45 7,Ob 46 .add zg 44 45,Om 9 46] [7,26,27,28,29,30,31,32,33,34,35,36,37,38,39,40,41,42,43,44,45,46] []) (rgN [Om 47 5,Om 48 6,Om 49 8,Ob 50 .add zb 48 49,Om 51 9,oq 52 (.conv zg zB) [.t 51],Om 53 9,oq 54 (.bin .shr zg (.tmp 53) (.const (.int .u64 32))) [.t 53,.c (.val (.int .u64 32))],Oi 55 1 47 50,Oz 1 55 52,Om 7 54] [8,9,47,48,49,50,51,52,53,54,55] [])))) (rgN [Oj 56 .add zb 23 1,Om 23 56] [56] []))))
def SV:zd:=(rgN [Om 57 5,Om 58 6,Om 59 1,OL 60 59,Ob 61 .add zb 58 60,Om 62 7,oq 63 (.conv zg zB) [.t 62],Oi 64 1 57 61,Oz 1 64 63] [6,7,22,23,24,57,58,59,60,61,62,63,64] [])
def SW:zd:=(rgN [Oj 65 .add zb 18 1,Om 18 65] [65] [])
def aM:zd:=(.seq (rgN [Ob 19 .lss zb 18 17] [] []) (.seq (.cond (.t 19) .skip (.exit 0)) (.seq (.block 1 (.seq (rgN [Om 20 18,Om 6 20] [19,20] []) (.seq (rgN [oq 7 .mov [.c (.val (.int .u64 0))]] [] []) (.seq (.seq (rgN [Om 21 1,OL 22 21,Oc 23 0] [21] []) (.block 2 (.loop aL))) SV)))) SW)))
def SX:zd:=(.seq (.region false [15] [Om 66 5,Ok 67 xU 66,Om 4 67] [0,1,5,17,18,19,66,67] []) .ret)
def GI:zd:=(.seq (rgN [oq 4 .mov [.c zA]] [4] []) (.seq (rgN [Om 10 0,OL 11 10,Om 12 1,OL 13 12,Ob 14 .add zb 11 13,oq 15 (.mk 1 4 [.val (.int .u32 0)]) [.t 14,.t 14],Om 5 15] [10,11,12,13,14,15] []) (.seq (.seq (rgN [Om 16 0,OL 17 16,Oc 18 0] [16] []) (.block 0 (.loop aM))) SX)))
def FL:List zq:=[.t 4]
theorem afN:zj Tryz.prog je=some (bare GI,FL,68):=by kernel_rfl
def MZ:zd:=(.seq (rgN [Oa 6] [] []) (.seq (rgN [Om 10 0,Om 11 1,Om 12 2,oq 13 (.call Tj) [.t 10,.t 11,.t 12],Om 9 13,Oe 14 0 9,Oe 15 1 9,Oa 7,Oz 3 7 14,Om 8 15] [0,1,2,10,11,12,13,9,14,15,8] []) (.seq (rgN [On 16 3 7,Oz 3 6 16] [7,16] [7]) .ret)))
def KD:List zq:=[.cell 6 (some 3)]
theorem ac5:zj Tryz.prog pn=some (bare MZ,KD,17):=by kernel_rfl
def gW:zd:=(.seq (rgN [Ob 24 .lss zb 23 22] [] []) (.seq (.cond (.t 24) .skip (.exit 0)) (.seq (.block 1 (.seq (rgN [Om 25 23,Om 8 25] [24,25] []) (.seq (rgN [Om 26 0,Om 27 8,Oi 28 1 26 27,Ol 29 28,oq 30 (.conv zB zg) [.t 29],Om 31 7,Ob 32 .sub zg 30 31,Om 9 32] [7,26,27,28,29,30,31,32] []) (.seq (.seq (rgN [Om 33 8,Om 34 1,OL 35 34,Ob 36 .lss zb 33 35] [33,34,35] []) (.cond (.t 36) (rgN [Om 37 9,Om 38 1,Om 39 8,Oi 40 1 38 39,Ol 41 40,oq 42 (.conv zB zg) [.t 41],Ob 43 .sub zg 37 42,Om 9 43] [36,37,38,39,40,41,42,43] []) .skip)) (rgN [Om 44 6,Om 45 8,Om 46 9,oq 47 (.conv zg zB) [.t 46],Om 48 9,oq 49 (.bin .shr zg (.tmp 48) (.const (.int .u64 63))) [.t 48,.c (.val (.int .u64 63))],Oi 50 1 44 45,Oz 1 50 47,Om 7 49] [8,9,36,44,45,46,47,48,49,50] []))))) (rgN [Oj 51 .add zb 23 1,Om 23 51] [51] []))))
def SY:zd:=(.seq (.region false [20] [Om 52 6,Ok 53 xU 52,Om 4 53,oq 5 .mov [.c (bv true)]] [0,1,6,7,22,23,24,52,53] []) .ret)
def GJ:zd:=(.seq (rgN [oq 4 .mov [.c zA],oq 5 .mov [.c (bv false)]] [4,5] []) (.seq (rgN [Om 10 0,Ok 11 xU 10,Om 12 1,Ok 13 xU 12,Om 0 11,Om 1 13] [10,11,12,13] []) (.seq (.seq (rgN [Om 14 0,Om 15 1,OK 16 mU 14 15,Oj 17 .lss zb 16 0] [14,15,16] []) (.cond (.t 17) (.seq (rgN [oq 4 .mov [.c zA],oq 5 .mov [.c (bv false)]] [0,1,17] []) .ret) .skip)) (.seq (rgN [Om 18 0,OL 19 18,oq 20 (.mk 1 4 [.val (.int .u32 0)]) [.t 19,.t 19],Om 6 20] [17,18,19,20] []) (.seq (rgN [oq 7 .mov [.c (.val (.int .u64 0))]] [] []) (.seq (.seq (rgN [Om 21 0,OL 22 21,Oc 23 0] [21] []) (.block 0 (.loop gW))) SY))))))
def Q5:List zq:=[.t 4,.t 5]
theorem afO:zj Tryz.prog XT=some (bare GJ,Q5,54):=by kernel_rfl
def Tq:zd:=(.seq (rgN [oq 2 .mov [.c zA]] [2] []) (.seq (.seq (rgN [Om 3 0,Oj 4 .lss xE 3 0] [3] []) (.cond (.t 4) (.seq (rgN [Om 5 0,Oj 6 .add xE 5 1,oq 7 (.un .neg) [.t 6],oq 8 (.conv xE zg) [.t 7],oq 9 (.bin .add zg (.tmp 8) (.const (.int .u64 1))) [.t 8,.c (.val (.int .u64 1))],Ok 10 tI 9,Om 2 10] [0,4,5,6,7,8,9,10] []) .ret) .skip)) (.seq (rgN [Om 11 0,oq 12 (.conv xE zg) [.t 11],Ok 13 tI 12,Om 2 13] [0,4,11,12,13] []) .ret)))
def T4:List zq:=[.t 2]
theorem ac6:zj Tryz.prog Tk=some (bare Tq,T4,14):=by kernel_rfl
def GE:zd:=(.seq (rgN [OB 1 0,Oa 2] [0] []) (.seq (rgN [OF 3 0 1,Ol 4 3,oq 5 (.un .not) [.t 4],OF 6 1 1,Ol 7 6,OF 8 2 1,Ol 9 8,oq 10 (.call pn) [.t 5,.t 7,.t 9],Oz 3 2 10] [1,3,4,5,6,7,8,9,10] [1]) .ret))
def FH:List zq:=[.cell 2 (some 3)]
theorem afI:zj Tryz.prog XQ=some (bare GE,FH,11):=by kernel_rfl
def MY:zd:=(.seq (rgN [Oa 6,Oc 7 0] [7] []) (.seq (.seq (rgN [Om 15 2,OL 16 15,Oj 17 .eql zb 16 0] [15,16] []) (.cond (.t 17) (.seq (rgN [⟨some 18,.build zF [],[],none⟩,Oz 3 6 18,Oc 7 8] [0,1,2,17,18] []) .ret) .skip)) (.seq (rgN [Om 19 1,Om 20 2,OK 21 XS 19 20,Om 8 21] [17,19,20,21] []) (.seq (rgN [Om 23 1,Om 24 8,OK 25 pX 23 24,Om 22 25,Oe 26 0 22,Oe 27 1 22,Oe 28 2 22,Om 9 26,Om 10 27,Om 11 28] [1,23,24,25,22,26,27,28,10] []) (.seq (rgN [Om 30 2,Om 31 8,OK 32 pX 30 31,Om 29 32,Oe 33 0 29,Oe 34 1 29,Oe 35 2 29,Om 12 33,Om 13 34,Om 14 35] [2,8,30,31,32,29,33,34,35,13] []) (.seq (.seq (rgN [Om 36 11,Oj 37 .neq zC 36 0,Om 38 37,Wm 39 14 38,Wj 40 .neq zC 39 0 38,Op 41 38 40] [11,14,36,37,38,39,40] []) (.cond (.t 41) (.seq (rgN [⟨some 42,.build zF [],[],none⟩,Oz 3 6 42,Oc 7 8] [0,9,12,41,42] []) .ret) .skip)) (.seq (rgN [Om 43 0,Om 44 43,Vm 45 9 44,VL 46 45 44,Vj 47 .gtr zb 46 0 44,Oq 48 44 47,Om 49 9,Om 50 12,⟨some 51,.build zF [(0,1),(1,1),(2,1)],[.t 48,.t 49,.t 50],none⟩,Oz 3 6 51,Oc 7 0] [0,9,12,41,43,44,45,46,47,48,49,50,51] []) .ret)))))))
def Zx:List zq:=[.cell 6 (some 3),.t 7]
theorem ac3:zj Tryz.prog Tj=some (bare MY,Zx,52):=by kernel_rfl
def t8:zd:=(.seq (rgN [OB 1 0,⟨some 2,.mov,[.c (.val (.string ⟨#[]⟩))],none⟩] [0,2] []) (.seq (rgD [OF 3 0 1,OF 4 1 3,Ol 5 4,oq 6 (.conv zb zg) [.t 5],Ok 7 x6 6,OF 8 0 1,OF 9 2 8,Ol 10 9,oq 11 (.conv zb zg) [.t 10],Ok 12 x6 11,Ob 13 .add yi 7 12,OF 14 0 1,OF 15 3 14,Ol 16 15,oq 17 (.conv zb zg) [.t 16],Ok 18 x6 17,Ob 19 .add yi 13 18,Om 2 19] [1,3,4,5,6,7,8,9,10,11,12,13,14,15,16,17,18,19] [1]) .ret))
def sa:List zq:=[.t 2]
theorem lJ:zj Tryz.prog xz=some (bare t8,sa,20):=by kernel_rfl
def s8:zd:=(.seq (rgN [OB 1 0,oq 2 .mov [.c zA]] [0,2] []) (.seq (rgN [OF 3 0 1,OF 4 2 3,Ol 5 4,OF 6 0 1,OF 7 3 6,Ol 8 7,oq 9 (.mkslice 1 2 [iv 0] [0,1]) [.t 5,.t 8],Om 2 9] [1,3,4,5,6,7,8,9] [1]) .ret))
def s9:List zq:=[.t 2]
theorem k7:zj Tryz.prog xT=some (bare s8,s9,10):=by kernel_rfl
def w9:zd:=(.seq (rgN [OB 4 0,OB 5 1,oq 8 .mov [.c (bv false)]] [0,1,2,5,8] [5]) (.seq (rgN [OF 9 0 4,OF 10 1 9,Ol 11 10,Om 12 3,OL 13 12,Ob 14 .lss zb 11 13,Om 15 14,Vm 16 3 15,VF 17 0 4 15,VF 18 1 17 15,Vl 19 18 15,Vi 20 1 16 19 15,Vl 21 20 15,Vj 22 .eql zb 21 0 15,Oq 23 15 22,Om 8 23] [3,4,9,10,11,12,13,14,15,16,17,18,19,20,21,22,23] [4]) .ret))
def va:List zq:=[.t 8]
theorem lK:zj Tryz.prog xA=some (bare w9,va,24):=by kernel_rfl
def zG:zd:=(.seq (rgN [Ob 17 .lss zb 16 15] [] []) (.seq (.cond (.t 17) .skip (.exit 0)) (.seq (.block 1 (.seq (rgN [Oi 18 1 14 16,Ol 19 18,Om 4 19] [17,18,19] []) (.seq (rgN [Om 20 4,Oj 21 .lss zb 20 0,Om 22 21,Wm 23 4 22,Wj 24 .gtr zb 23 65536 22,Op 25 22 24] [4,20,21,22,23,24] []) (.cond (.t 25) (.seq (rgN [oq 2 .mov [.c (bv false)]] [1,14,15,16,25] [1]) .ret) .skip)))) (rgN [Oj 26 .add zb 16 1,Om 16 26] [25,26] []))))
def vG:zd:=(.seq (rgN [OF 27 0 1,OF 28 4 27,Ol 29 28,OL 30 29,Oj 31 .eql zb 30 0,Om 2 31] [1,14,15,16,17,27,28,29,30,31] [1]) .ret)
def uJ:zd:=(.seq (rgN [OB 1 0,oq 2 .mov [.c (bv false)]] [0,2] []) (.seq (.seq (rgN [OF 5 0 1,OF 6 1 5,Ol 7 6,OF 8 0 1,OF 9 2 8,Ol 10 9,OF 11 0 1,OF 12 3 11,Ol 13 12,oq 14 (.mkslice 1 3 [iv 0] [0,1,2]) [.t 7,.t 10,.t 13],OL 15 14,Oc 16 0] [5,6,7,8,9,10,11,12,13] []) (.block 0 (.loop zG))) vG))
def zV:List zq:=[.t 2]
theorem ny:zj Tryz.prog yW=some (bare uJ,zV,32):=by kernel_rfl
def tv:zd:=(.seq (rgN [OB 1 0,⟨some 2,.mov,[.c (.val (.string ⟨#[]⟩))],none⟩] [0,1,2] [1]) (.seq (rgN [⟨some 2,.mov,[.c (.val (.string ⟨#[]⟩))],none⟩] [] []) .ret))
def tC:List zq:=[.t 2]
theorem nT:zj Tryz.prog xg=some (bare tv,tC,3):=by kernel_rfl
def t9:zd:=(.seq (rgN [OB 1 0,oq 2 .mov [.c zA]] [0,1,2] [1]) (.seq (rgN [oq 2 .mov [.c zA]] [] []) .ret))
def sb:List zq:=[.t 2]
theorem lL:zj Tryz.prog xB=some (bare t9,sb,3):=by kernel_rfl
def yP:zd:=(.seq (rgN [Ob 15 .lss zb 14 13] [] []) (.seq (.cond (.t 15) .skip (.exit 0)) (.seq (.block 1 (.seq (rgN [Om 16 14,Oi 17 1 12 14,Ol 18 17,Om 10 16,Om 11 18] [15,16,17,18] []) (.seq (rgN [Om 19 11,Oj 20 .eql zb 19 1] [11,19] []) (.cond (.t 20) (rgN [Om 21 9,Om 22 10,oq 23 (.mkslice 1 1 [iv 0] [0]) [.t 22],oq 24 (.append 1 8) [.t 21,.t 23],Om 9 24] [10,20,21,22,23,24] []) .skip)))) (rgN [Oj 25 .add zb 14 1,Om 14 25] [10,20,25] []))))
def um:zd:=(.seq (rgN [On 26 20 5,Om 27 9,OK 28 po 26 27,Oj 29 .neq zC 28 0,Om 8 29] [5,9,12,13,14,15,26,27,28,29] [5]) .ret)
def tw:zd:=(.seq (rgN [OB 4 0,OB 5 1,oq 8 .mov [.c (bv false)]] [0,1,2,4,8] [4]) (.seq (rgN [oq 9 .mov [.c zA]] [] []) (.seq (.seq (rgN [Om 12 3,OL 13 12,Oc 14 0] [3] []) (.block 0 (.loop yP))) um)))
def tD:List zq:=[.t 8]
theorem nU:zj Tryz.prog xh=some (bare tw,tD,30):=by kernel_rfl
def vX:zd:=(.seq (rgN [OB 1 0,oq 2 .mov [.c (bv false)]] [0,2] []) (.seq (rgN [OF 3 0 1,On 4 5 3,Ok 5 rc 4,Om 6 5,VF 7 0 1 6,VF 8 4 7 6,Vl 9 8 6,VL 10 9 6,Vj 11 .eql zb 10 0 6,Oq 12 6 11,Om 2 12] [1,3,4,5,6,7,8,9,10,11,12] [1]) .ret))
def vY:List zq:=[.t 2]
theorem pi:zj Tryz.prog yI=some (bare vX,vY,13):=by kernel_rfl
def j3:zd:=(.seq (rgN [OB 2 0,Oc 4 0] [0,4] []) (.seq (.seq (rgN [On 8 20 2,Ok 9 vf 8,Om 5 9] [8,9] []) (.seq (rgN [Om 10 5,Oj 11 .neq zC 10 0] [10] []) (.cond (.t 11) (.seq (rgN [Om 12 5,Om 4 12] [1,2,5,11,12] [2]) .ret) .skip))) (.seq (rgN [On 14 20 2,Om 15 1,OK 16 ml 14 15,Om 13 16,Oe 17 0 13,Oe 18 1 13,Om 6 17,Om 7 18] [1,5,11,14,15,16,13,17,18] []) (.seq (.block 0 (.seq (rgN [Om 20 7,oq 21 (.un .not) [.t 20],Om 19 21] [7,20,21] []) (.cond (.t 19) (.seq (rgN [Oc 4 4] [2,6,19] [2]) .ret) (.seq (rgN [On 23 20 2,⟨some 24,.build [iv 0,iv 0,iv 0,iv 0,iv 0,iv 0,iv 0,iv 0,iv 0,iv 0,iv 0,iv 0,iv 0,iv 0,iv 0,iv 0,iv 0,iv 0,zA,zA] [(0,20)],[.t 23],none⟩,Om 25 6,OK 26 uE 24 25,oq 27 (.un .not) [.t 26],Om 22 27] [2,6,19,23,24,25,26,27] [2]) (.cond (.t 22) (.seq (rgN [Oc 4 14] [22] []) .ret) .skip))))) (.seq (rgN [Oc 4 0] [22] []) .ret)))))
def uz:List zq:=[.t 4]
theorem XG:zj Tryz.prog po=some (bare j3,uz,28):=by kernel_rfl
def vH:zd:=(.seq (rgN [Ob 13 .lss zb 12 11] [] []) (.seq (.cond (.t 13) .skip (.exit 0)) (.seq (.block 1 (.seq (rgN [Oi 14 1 10 12,Ol 15 14,Om 9 15] [13,14,15] []) (.seq (.seq (rgN [Om 16 9,Om 17 7,Ob 18 .leq zb 16 17,Om 19 18,Wm 20 9 19,WF 21 19 2 19,Wl 22 21 19,WL 23 22 19,Wb 24 .geq zb 20 23 19,Op 25 19 24] [7,16,17,18,19,20,21,22,23,24] []) (.cond (.t 25) (.seq (rgN [oq 4 .mov [.c zA],oq 5 .mov [.c (bv false)]] [2,6,10,11,12,9,25] [2]) .ret) .skip)) (.seq (rgN [Om 26 9,Om 7 26] [25,26] []) (rgN [Om 27 6,OF 28 19 2,Ol 29 28,Om 30 9,Oi 31 8 29 30,On 32 8 31,oq 33 (.mkslice 8 1 [iv 0,iv 0,iv 0,iv 0,iv 0,iv 0,iv 0,iv 0] [0]) [.t 32],oq 34 (.append 8 64) [.t 27,.t 33],Om 6 34] [9,27,28,29,30,31,32,33,34] []))))) (rgN [Oj 35 .add zb 12 1,Om 12 35] [35] []))))
def ja:zd:=(.seq (rgN [Om 36 6,Om 4 36,oq 5 .mov [.c (bv true)]] [2,6,7,10,11,12,13,36] [2]) .ret)
def am3:zd:=(.seq (rgN [OB 2 0,oq 4 .mov [.c zA],oq 5 .mov [.c (bv false)]] [0,4,5] []) (.seq (rgN [oq 6 .mov [.c zA]] [] []) (.seq (rgN [Oc 7 (-1)] [] []) (.seq (.seq (rgN [Om 10 1,OL 11 10,Oc 12 0] [1] []) (.block 0 (.loop vH))) ja))))
def qu:List zq:=[.t 4,.t 5]
theorem So:zj Tryz.prog ml=some (bare am3,qu,37):=by kernel_rfl
def rC:zd:=(.seq (rgN [OB 1 0,oq 2 .mov [.c zA]] [0,1,2] [1]) (.seq (rgN [oq 2 .mov [.c zA]] [] []) .ret))
def rX:List zq:=[.t 2]
theorem jI:zj Tryz.prog wa=some (bare rC,rX,3):=by kernel_rfl
def th:zd:=(.seq (rgN [OB 1 0,oq 2 .mov [.c (bv false)]] [0,1,2] [1]) (.seq (rgN [oq 2 .mov [.c (bv false)]] [] []) .ret))
def tm:List zq:=[.t 2]
theorem nH:zj Tryz.prog y8=some (bare th,tm,3):=by kernel_rfl
end Go.Proofs.YtpnliopaifpimaaGreat

namespace Go.Wr
def str (l:List UInt8):ByteArray:=⟨l.toArray⟩
theorem td {l:List UInt8}:(str l).size=l.length:=by simp[str,ByteArray.size]
theorem afC {a b:List UInt8} (h:str a=str b):a=b:=by
 have:=congrArg (fun x=>x.data.toList) h
 simpa [str] using this
theorem afA {a b:List UInt8}:str a++str b=str (a++b):=by
 apply ByteArray.ext
 simp[str]
theorem afB {l:List UInt8} {i j:Nat}:(str l).extract i j=str ((l.take j).drop i):=by
 apply ByteArray.ext
 simp[str,List.extract_eq_take_drop,List.drop_take]
def enc (x:Nat):List UInt8:=if x<128 then [UInt8.ofNat x] else UInt8.ofNat (x%128+128)::enc (x/128)
termination_by x
decreasing_by omega
theorem bU {x:Nat} (h:x<128):enc x=[UInt8.ofNat x]:=by rw[enc,if_pos h]
theorem Rf {x:Nat} (h:¬ x<128):enc x=UInt8.ofNat (x%128+128)::enc (x/128):=by rw[enc,if_neg h]
def dec (i x:Nat):List UInt8→Nat × Nat × List UInt8
 | []=>(1,0,[])
 | b::l=>if i=9∧1<b.toNat then (2,0,[]) else if 128≤b.toNat then dec (i+1) (x+b.toNat%128*128^i) l
   else if b.toNat=0∧0<i then (2,0,[]) else (0,x+b.toNat * 128^i,l)
theorem byte_of {n:Nat} (h:n<256):(UInt8.ofNat n).toNat=n:=by
 simp only[UInt8.toNat_ofNat']
 exact Nat.mod_eq_of_lt h
theorem ago {i:Nat} (h:i≤9):i=0∨i=1∨i=2∨i=3∨i=4∨i=5∨i=6∨i=7∨i=8∨i=9:=by omega
theorem adZ {l:List UInt8} (n:Nat):∀ i x,(i=0∨0<n)→i≤9→n*128^i<18446744073709551616→dec i x (enc n++l)=(0,x+n*128^i,l):=by
 induction n using Nat.strongRecOn with
 | _ n ih =>
  intro i x h0 hi hb
  by_cases h:n<128
  ·rw[bU h]
   have hn:(UInt8.ofNat n).toNat=n:=byte_of (by omega)
   simp only[List.cons_append,List.nil_append,dec,hn]
   rw[if_neg,if_neg (by omega),if_neg (by omega)]
   rintro ⟨rfl,h1⟩
   omega
  ·rw[Rf h]
   have hn:(UInt8.ofNat (n%128+128)).toNat=n%128+128:=byte_of (by omega)
   have h9:i≠9:=by rintro rfl; omega
   simp only[List.cons_append,dec,hn]
   rw[if_neg (by omega),if_pos (by omega)]
   have e:n/128*128^(i+1)+n%128*128^i=n*128^i:=by
    have hh:=Nat.div_add_mod n 128
    have e1:n/128*128^(i+1)=128*(n/128)*128^i:=by rw[Nat.pow_succ,← Nat.mul_assoc,Nat.mul_comm (n/128*128^i) 128,← Nat.mul_assoc]
    rw[e1,← Nat.add_mul,hh]
   rw[ih (n/128) (by omega) (i+1) _ (.inr (by omega)) (by omega) (by omega)]
   have e2:(n%128+128)%128=n%128:=by omega
   rw[e2]
   congr 2
   omega
theorem NN {c n i:Nat} (hc:c<128) (h9:i≠9) (hi:i≤9) (h:n*128^(i+1)<18446744073709551616):c*128^i+n*128^(i+1)<18446744073709551616:=by
 obtain ⟨M,hM⟩:∃ M,18446744073709551616=M*128^(i+1):=by
  rcases ago hi with rfl | rfl | rfl | rfl | rfl | rfl | rfl | rfl | rfl | rfl
  ·exact ⟨144115188075855872,by decide⟩
  ·exact ⟨1125899906842624,by decide⟩
  ·exact ⟨8796093022208,by decide⟩
  ·exact ⟨68719476736,by decide⟩
  ·exact ⟨536870912,by decide⟩
  ·exact ⟨4194304,by decide⟩
  ·exact ⟨32768,by decide⟩
  ·exact ⟨256,by decide⟩
  ·exact ⟨2,by decide⟩
  ·exact absurd rfl h9
 rw[hM] at h ⊢
 have h1:n+1≤M:=Nat.lt_of_mul_lt_mul_right h
 have h2:(n+1)*128^(i+1)≤M*128^(i+1):=Nat.mul_le_mul_right _ h1
 have h3:c*128^i<128*128^i:=Nat.mul_lt_mul_of_pos_right hc (Nat.pow_pos (by omega))
 have h4:128^(i+1)=128*128^i:=by rw[Nat.pow_succ,Nat.mul_comm]
 rw[Nat.add_mul] at h2
 omega
theorem GY:∀ {l:List UInt8} {i x y:Nat} {l':List UInt8},dec i x l=(0,y,l')→i≤9→∃ n,y=x+n*128^i∧l=enc n++l'∧(i=0∨0<n)∧n*128^i<18446744073709551616
 | [],i,x,y,l',h,_=>by simp[dec] at h
 | b::l,i,x,y,l',h,hi=>by
  have hb:b.toNat<256:=b.toNat_lt
  have hbb:UInt8.ofNat b.toNat=b:=by simp
  unfold dec at h
  split at h
  ·simp at h
  ·rename_i h1
   split at h
   ·rename_i h2
    have h9:i≠9:=by omega
    obtain ⟨n,e1,e2,e3,e4⟩:=GY h (by omega)
    have hn:0<n:=by omega
    have e:(b.toNat%128+128*n)*128^i=b.toNat%128*128^i+n*128^(i+1):=by
     rw[Nat.add_mul,Nat.pow_succ,Nat.mul_comm (128^i) 128,← Nat.mul_assoc,Nat.mul_comm n 128]
    refine ⟨b.toNat%128+128*n,?_,?_,.inr (by omega),?_⟩
    ·rw[e]; omega
    ·rw[Rf (by omega)]
     have a1:(b.toNat%128+128*n)/128=n:=by omega
     have a2:(b.toNat%128+128*n)%128+128=b.toNat:=by omega
     rw[a1,a2,hbb,e2]; rfl
    ·rw[e]
     exact NN (by omega) h9 hi e4
   ·rename_i h2
    split at h
    ·simp at h
    ·rename_i h3
     simp only[Prod.mk.injEq,true_and] at h
     obtain ⟨rfl,rfl⟩:=h
     refine ⟨b.toNat,rfl,?_,by omega,?_⟩
     ·rw[bU (by omega),hbb]; rfl
     ·by_cases h9:i=9
      ·subst h9
       have:b.toNat≤1:=by omega
       generalize b.toNat=c at this
       omega
      ·have:=NN (c:=b.toNat) (n:=0) (by omega) h9 hi (by omega)
       omega
abbrev Rd:=Nat × List UInt8
def zL (most:Nat) (s:Rd):Nat × Rd :=
 if s.1≠0 then (0,(s.1,[])) else if (dec 0 0 s.2).1=0 then (if most<(dec 0 0 s.2).2.1 then (0,(4,[])) else ((dec 0 0 s.2).2.1,(0,(dec 0 0 s.2).2.2))) else (0,((dec 0 0 s.2).1,[]))
theorem adj {most:Nat} {s:Rd} (h:s.1≠0):zL most s=(0,(s.1,[])):=by unfold zL; rw[if_pos h]
theorem t0 {most n:Nat} {l:List UInt8} (h:n≤most) (h2:n<18446744073709551616):zL most (0,enc n++l)=(n,(0,l)):=by
 have:=adZ (l:=l) n 0 0 (.inl rfl) (by omega) (by omega)
 simp only[Nat.pow_zero,Nat.mul_one,Nat.zero_add] at this
 unfold zL
 simp only[this,ne_eq,not_true,if_false,if_true]
 rw[if_neg (by omega)]
theorem qR {most:Nat} {s:Rd}:(zL most s).1≤most∧(zL most s).1<18446744073709551616:=by
 unfold zL
 split
 ·exact ⟨Nat.zero_le _,by show 0<18446744073709551616; omega⟩
 ·split
  ·rename_i h1
   split
   ·exact ⟨Nat.zero_le _,by show 0<18446744073709551616; omega⟩
   ·rename_i h2
    obtain ⟨n,e1,e2,_,e4⟩:=GY (l:=s.2) (i:=0) (x:=0) (y:=(dec 0 0 s.2).2.1) (l':=(dec 0 0 s.2).2.2) (Prod.ext h1 (Prod.ext rfl rfl)) (by omega)
    simp only[Nat.pow_zero,Nat.mul_one,Nat.zero_add] at e1 e4
    exact ⟨by omega,by simp only[e1]; exact e4⟩
  ·exact ⟨Nat.zero_le _,by show 0<18446744073709551616; omega⟩
def nums (most:Nat):Nat→Rd→List Nat × Rd
 | 0,s=>([],s)
 | k+1,s=>if s.1≠0 then ([],s) else ((zL most s).1::(nums most k (zL most s).2).1,(nums most k (zL most s).2).2)
theorem TX {most:Nat}:∀ {k:Nat} {s:Rd},(nums most k s).1.length≤k
 | 0,s=>by simp[nums]
 | k+1,s=>by
  unfold nums
  split
  ·simp
  ·simpa using TX (most:=most)
theorem Kn {most k:Nat} {s:Rd} (h:s.1≠0):nums most k s=([],s):=by
 cases k with
 | zero=>rfl
 | succ k=>unfold nums; rw[if_pos h]
theorem Ko {most:Nat} {l:List UInt8} (hm:most<18446744073709551616):∀ {a:List Nat},(∀ d∈a,d≤most)→nums most a.length (0,a.flatMap enc++l)=(a,(0,l))
 | [],_=>rfl
 | d::a,h=>by
  have e:(d::a).flatMap enc++l=enc d++(a.flatMap enc++l):=by simp
  have:=t0 (most:=most) (l:=a.flatMap enc++l) (h d (by simp)) (by have:=h d (by simp); omega)
  simp only[List.length_cons,nums,e,this,ne_eq,not_true,if_false,Ko hm (a:=a) fun d hd=>h d (by simp[hd])]
end Go.Wr

namespace Go.Dig
def B:Nat:=4294967296
theorem z9:B=4294967296:=rfl
theorem zX:0<B:=by decide
theorem uy (k:Nat):0<B^k:=Nat.pow_pos zX
def val:List Nat→Nat
 | []=>0
 | d::l=>d+B*val l
def ok (l:List Nat):Prop:=∀ d∈l,d<B
def zh (x:Nat):List Nat:=if x=0 then [] else x%B::zh (x/B)
termination_by x
decreasing_by exact Nat.div_lt_self (by omega) (by decide)
theorem yz:zh 0=[]:=by rw[zh]; rfl
theorem jn {x:Nat} (h:x≠0):zh x=x%B::zh (x/B):=by rw[zh,if_neg h]
theorem zJ (x:Nat):val (zh x)=x:=by
 induction x using Nat.strongRecOn with
 | ind x ih =>
  by_cases h:x=0
  ·subst h; rw[yz]; rfl
  ·rw[jn h,val,ih _ (Nat.div_lt_self (by omega) (by decide))]
   exact Nat.mod_add_div x B
theorem zx (x:Nat):ok (zh x):=by
 induction x using Nat.strongRecOn with
 | ind x ih =>
  by_cases h:x=0
  ·subst h; rw[yz]; intro d hd; cases hd
  ·rw[jn h]
   intro d hd
   rcases List.mem_cons.1 hd with rfl | hd
   ·exact Nat.mod_lt _ zX
   ·exact ih _ (Nat.div_lt_self (by omega) (by decide)) d hd
theorem xj {x:Nat}:zh x=[]↔x=0:=by
 constructor
 ·intro h; have:=zJ x; rw[h] at this; exact this.symm
 ·rintro rfl; exact yz
theorem Lm {x y:Nat} (h:zh x=zh y):x=y:=by rw[← zJ x,h,zJ]
theorem Kt:ok []:=fun _ h=>by cases h
theorem QY {d:Nat} {l:List Nat}:ok (d::l)↔d<B∧ok l:=by simp[ok]
theorem Y5 {a b:List Nat}:ok (a++b)↔ok a∧ok b:=by
 constructor
 ·intro h; exact ⟨fun d hd=>h d (by simp[hd]),fun d hd=>h d (by simp[hd])⟩
 ·rintro ⟨h1,h2⟩ d hd
  rcases List.mem_append.1 hd with hd | hd
  ·exact h1 d hd
  ·exact h2 d hd
theorem sx {a:List Nat} (h:ok a) (k:Nat):ok (a.take k):=fun d hd=>h d (List.mem_of_mem_take hd)
theorem QZ {a:List Nat} (h:ok a) (k:Nat):ok (a.drop k):=fun d hd=>h d (List.mem_of_mem_drop hd)
theorem RI {a:List Nat} (h:ok a) {k x:Nat} (hx:x<B):ok (a.set k x):=fun d hd=>by
 rcases List.mem_or_eq_of_mem_set hd with hd | rfl
 ·exact h d hd
 ·exact hx
theorem Ku (n:Nat):ok (List.replicate n 0):=fun d hd=>by
 rw[List.eq_of_mem_replicate hd]; exact zX
theorem xv {a:List Nat} (h:ok a) {k:Nat} (hk:k<a.length):a[k]<B:=h _ (List.getElem_mem hk)
theorem val_append (a b:List Nat):val (a++b)=val a+B^a.length*val b:=by
 induction a with
 | nil=>simp[val]
 | cons d a ih=>simp only[List.cons_append,val,ih,List.length_cons,Nat.pow_succ,Nat.mul_add]; rw[Nat.mul_comm (B^a.length) B,Nat.mul_assoc]; omega
theorem UE (n:Nat):val (List.replicate n 0)=0:=by
 induction n with
 | zero=>rfl
 | succ n ih=>simp[List.replicate_succ,val,ih]
theorem uC {a:List Nat} (h:ok a):val a<B^a.length:=by
 induction a with
 | nil=>simp[val]
 | cons d a ih =>
  have h1:=(QY.1 h).1
  have h2:=ih (QY.1 h).2
  simp only[val,List.length_cons,Nat.pow_succ]
  have:B*(val a+1)≤B*B^a.length:=Nat.mul_le_mul_left _ h2
  rw[Nat.mul_add] at this
  rw[Nat.mul_comm (B^a.length)]
  omega
theorem yS {a:List Nat} (h:ok a) {n:Nat} (hn:a.length≤n):val a<B^n :=
 Nat.lt_of_lt_of_le (uC h) (Nat.pow_le_pow_right zX hn)
theorem tE (a:List Nat) (k:Nat):val a=val (a.take k)+B^(min k a.length)*val (a.drop k):=by
 have:=val_append (a.take k) (a.drop k)
 rwa [List.take_append_drop,List.length_take] at this
theorem x7 {a:List Nat} {k:Nat} (hk:k<a.length):val (a.take (k+1))=val (a.take k)+B^k*a[k]:=by
 rw[List.take_succ_eq_append_getElem hk,val_append,List.length_take,Nat.min_eq_left (by omega)]
 simp[val]
theorem Jz {a:List Nat} (h:ok a) {k:Nat} (hk:k≤a.length):val (a.take k)=val a%B^k:=by
 have h1:=tE a k
 have h2:=uC (sx h k)
 rw[List.length_take,Nat.min_eq_left hk] at h2
 rw[Nat.min_eq_left hk] at h1
 rw[h1,Nat.add_mul_mod_self_left,Nat.mod_eq_of_lt h2]
theorem Sw {a:List Nat} (h:ok a) {k:Nat} (hk:k≤a.length):val (a.drop k)=val a/B^k:=by
 have h1:=tE a k
 have h2:=uC (sx h k)
 rw[List.length_take,Nat.min_eq_left hk] at h2
 rw[Nat.min_eq_left hk] at h1
 rw[h1,Nat.add_mul_div_left _ _ (uy k),Nat.div_eq_of_lt h2,Nat.zero_add]
theorem js {a:List Nat} (h:ok a) {k:Nat} (hk:k<a.length):a[k]=val a/B^k%B:=by
 rw[← Sw h (by omega),List.drop_eq_getElem_cons hk,val,Nat.add_mul_mod_self_left,Nat.mod_eq_of_lt (xv h hk)]
def zt (n x:Nat):List Nat:=(List.range n).map fun i=>x/B^i%B
theorem zy {n x:Nat}:(zt n x).length=n:=by simp[zt]
theorem ut {n x k:Nat} (hk:k<(zt n x).length):(zt n x)[k]=x/B^k%B:=by simp[zt]
theorem yM {n x:Nat}:ok (zt n x):=fun d hd=>by
 simp only[zt,List.mem_map] at hd
 obtain ⟨i,_,rfl⟩:=hd
 exact Nat.mod_lt _ zX
theorem YK {a:List Nat} (h:ok a):zt a.length (val a)=a:=by
 apply List.ext_getElem
 ·simp[zt]
 ·intro i h1 h2
  rw[ut,← js h h2]
theorem qi {n x:Nat}:zt (n+1) x=zt n x++[x/B^n%B]:=by
 simp[zt,List.range_succ]
theorem cJ {n x:Nat}:val (zt n x)=x%B^n:=by
 induction n with
 | zero=>simp[zt,val,Nat.mod_one]
 | succ n ih =>
  rw[qi,val_append,ih,zy,Nat.pow_succ,Nat.mod_mul]
  simp[val]
theorem UD {a b:List Nat} (ha:ok a) (hb:ok b) (hl:a.length=b.length) (hv:val a=val b):a=b:=by
 rw[← YK ha,← YK hb,hl,hv]
def vo (n k S:Nat):List Nat:=zt k S++List.replicate (n-k) 0
theorem ff {n S:Nat}:vo n 0 S=List.replicate n 0:=by simp[vo,zt]
theorem d8 {n k S:Nat} (hk:k≤n):(vo n k S).length=n:=by simp[vo,zy]; omega
theorem YO {n S:Nat}:vo n n S=zt n S:=by simp[vo]
theorem ca {n k S:Nat} (hk:k<n):(vo n k S).set k (S/B^k%B)=vo n (k+1) S:=by
 unfold vo
 obtain ⟨m,hm⟩:∃ m,n-k=m+1:=⟨n-k-1,by omega⟩
 have hm2:n-(k+1)=m:=by omega
 rw[hm,hm2,qi,List.set_append_right _ _ (by rw[zy]; exact Nat.le_refl _),zy,Nat.sub_self,List.replicate_succ,List.set_cons_zero]
 simp
theorem yq {n x:Nat} (h:x<B^n):val (zt n x)=x:=by rw[cJ,Nat.mod_eq_of_lt h]
theorem G1 {a:List Nat} (h:ok a) (hn:∀ hk:0<a.length,a[a.length-1]≠0):zh (val a)=a:=by
 induction a with
 | nil=>exact yz
 | cons d a ih =>
  have h1:=QY.1 h
  by_cases ha:a=[]
  ·subst ha
   have:d≠0:=hn (by simp)
   have h2:(d+B*0)=d:=by omega
   simp only[val,h2]
   rw[jn this,Nat.mod_eq_of_lt h1.1,Nat.div_eq_of_lt h1.1,yz]
  ·have hpos:0<a.length:=by
    rcases a with _ | ⟨x,a⟩
    ·exact absurd rfl ha
    ·simp
   have hlast:∀ hk:0<a.length,a[a.length-1]≠0:=fun _=>by
    have:=hn (by simp)
    simp only[List.length_cons,Nat.add_sub_cancel] at this
    rw[List.getElem_cons] at this
    rw[dif_neg (by omega)] at this
    exact this
   have ih:=ih h1.2 hlast
   have hne:val a≠0:=by
    intro h0
    rw[h0,yz] at ih
    exact ha ih.symm
   have h0:d+B*val a≠0:=by
    have:0<B*val a:=Nat.mul_pos zX (by omega)
    omega
   simp only[val]
   rw[jn h0,Nat.add_mul_mod_self_left,Nat.mod_eq_of_lt h1.1,Nat.add_mul_div_left _ _ zX,Nat.div_eq_of_lt h1.1,Nat.zero_add,ih]
theorem d6 {x:Nat} (h:0<(zh x).length):(zh x)[(zh x).length-1]≠0:=by
 induction x using Nat.strongRecOn with
 | ind x ih =>
  by_cases h0:x=0
  ·subst h0; rw[yz] at h; simp at h
  ·have e:=jn h0
   by_cases h1:x/B=0
   ·have e2:zh x=[x%B]:=by rw[e,h1,yz]
    simp only[e2,List.length_singleton,Nat.sub_self,List.getElem_cons_zero]
    have:x<B:=by
     rcases Nat.lt_or_ge x B with h | h
     ·exact h
     ·have:=Nat.div_pos h zX; omega
    rw[Nat.mod_eq_of_lt this]; exact h0
   ·have hp:0<(zh (x/B)).length:=by
     rw[jn h1]; simp
    have:=ih _ (Nat.div_lt_self (by omega) (by decide)) hp
    simp only[e,List.length_cons,Nat.add_sub_cancel]
    rw[List.getElem_cons,dif_neg (by omega)]
    exact this
theorem zE {x n:Nat}:(zh x).length≤n↔x<B^n:=by
 constructor
 ·intro h
  have:=yS (zx x) h
  rwa [zJ] at this
 ·intro h
  rcases Nat.lt_or_ge n (zh x).length with hlt | hge
  ·exfalso
   have hp:0<(zh x).length:=by omega
   have h1:=d6 hp
   have h2:=js (zx x) (k:=(zh x).length-1) (by omega)
   rw[zJ] at h2
   have h3:x/B^((zh x).length-1)=0:=by
    apply Nat.div_eq_of_lt
    exact Nat.lt_of_lt_of_le h (Nat.pow_le_pow_right zX (by omega))
   rw[h3] at h2
   exact h1 h2
  ·exact hge
theorem c8 {x n:Nat}:n<(zh x).length↔B^n≤x:=by
 have:=@zE x n
 omega
theorem AU {a:List Nat} (h:ok a) {n:Nat} (hn:n≤a.length) (h0:∀ k (hk:k<a.length),n≤k→a[k]=0) (h1:∀ hk:0<n,a[n-1]'(by omega)≠0):a.take n=zh (val a):=by
 have hz:a.drop n=List.replicate (a.length-n) 0:=by
  apply List.ext_getElem
  ·simp
  ·intro i hi hj
   simp only[List.getElem_drop,List.getElem_replicate]
   exact h0 _ _ (by omega)
 have hv:val a=val (a.take n):=by
  rw[tE a n,hz,UE]; omega
 rw[hv]
 refine (G1 (sx h n) fun hk=>?_).symm
 simp only[List.length_take,Nat.min_eq_left hn] at hk ⊢
 simp only[List.getElem_take]
 exact h1 hk
theorem wR {a:List Nat} (h:ok a):(zh (val a)).length≤a.length:=zE.2 (uC h)
def itr {σ:Type} (f:Nat→σ→σ) (s:σ):Nat→σ
 | 0=>s
 | k+1=>f k (itr f s k)
theorem mF {x i:Nat} (h:i<(zh x).length):(zh x)[i]=x/B^i%B:=by
 rw[js (zx x) h,zJ]
theorem YX {a:List Nat} (h:ok a):(zh (val a)).length≤a.length∧(∀ i (hi:i<a.length),(zh (val a)).length≤i→a[i]=0) ∧
  (∀ (_h0:0<(zh (val a)).length) (h1:(zh (val a)).length-1<a.length),a[(zh (val a)).length-1]≠0)∧a.take (zh (val a)).length=zh (val a):=by
 have h1:=wR h
 have h2:∀ i (hi:i<a.length),(zh (val a)).length≤i→a[i]=0:=fun i hi hle=>by
  rw[js h hi]
  have h3:=zE.1 hle
  rw[Nat.div_eq_of_lt h3]
  rfl
 have h3:∀ (h0:0<(zh (val a)).length) (h1:(zh (val a)).length-1<a.length),a[(zh (val a)).length-1]≠0:=fun h0 h4=>by
  rw[js h h4,← mF (by omega)]
  exact d6 h0
 exact ⟨h1,h2,h3,AU h h1 (fun k hk hle=>h2 k hk hle) (fun h0=>h3 h0 (by omega))⟩
theorem US {a b:List Nat} (ha:ok a) (_hb:ok b) (hl:a.length=b.length) {k:Nat} (hk:k<a.length) (heq:a.drop (k+1)=b.drop (k+1)) (hlt:a[k]<b[k]'(by omega)):val a<val b:=by
 have e1:=tE a (k+1)
 have e2:=tE b (k+1)
 rw[heq] at e1
 rw[Nat.min_eq_left (by omega)] at e1 e2
 have t1:=x7 hk
 have t2:=x7 (a:=b) (k:=k) (by omega)
 have l1:=uC (sx ha k)
 rw[List.length_take,Nat.min_eq_left (by omega)] at l1
 have:B^k*(a[k]+1)≤B^k*b[k]'(by omega):=Nat.mul_le_mul_left _ hlt
 rw[Nat.mul_add] at this
 omega
theorem cm {x y:Nat} (h:(zh x).length<(zh y).length):x<y:=by
 have h1:=zE.1 (Nat.le_refl (zh x).length)
 have h2:=c8.1 h
 omega
theorem dZ {L t R k:Nat}:(L+B^k*t+B^(k+1)*R)/B^k%B=(L/B^k+t)%B:=by
 have:L+B^k*t+B^(k+1)*R=L+B^k*(t+B*R):=by rw[Nat.pow_succ,Nat.mul_add,Nat.mul_assoc]; omega
 rw[this,Nat.add_mul_div_left _ _ (uy k),← Nat.add_assoc,Nat.add_mul_mod_self_left]
theorem dY {L t k:Nat}:(L+B^k*t)/B^(k+1)=(L/B^k+t)/B:=by
 rw[Nat.pow_succ,← Nat.div_div_eq_div_mul,Nat.add_mul_div_left _ _ (uy k)]
def bor (x y k:Nat):Nat:=if x%B^k<y%B^k then 1 else 0
theorem SH {x y k:Nat}:bor x y k≤1:=by unfold bor; split<;>omega
theorem aH {x y:Nat}:bor x y 0=0:=by simp[bor,Nat.mod_one]
theorem afE {x y P:Nat} (hP:0<P) (h:y≤x):(x-y)/P=x/P-y/P-(if x%P<y%P then 1 else 0)∧y/P+(if x%P<y%P then 1 else 0)≤x/P:=by
 have e1:=Nat.div_add_mod x P
 have e2:=Nat.div_add_mod y P
 have l1:=Nat.mod_lt x hP
 have l2:=Nat.mod_lt y hP
 have hq:y/P≤x/P:=Nat.div_le_div_right h
 generalize x/P=a at *
 generalize y/P=b at *
 generalize x%P=r at *
 generalize y%P=s at *
 obtain ⟨c,rfl⟩:∃ c,a=b+c:=⟨a-b,by omega⟩
 rw[Nat.mul_add] at e1
 by_cases hlt:r<s
 ·simp only[hlt,if_true]
  rcases c with _ | c
  ·simp at e1; omega
  ·rw[Nat.mul_add,Nat.mul_one] at e1
   have:x-y=P*c+(P+r-s):=by omega
   rw[this,Nat.mul_add_div hP,Nat.div_eq_of_lt (by omega)]
   omega
 ·simp only[hlt,if_false]
  have:x-y=P*c+(r-s):=by omega
  rw[this,Nat.mul_add_div hP,Nat.div_eq_of_lt (by omega)]
  omega
theorem cG {x y k:Nat} (h:y≤x):(((x-y)/B^k%B:Nat):Int)=((x/B^k%B:Nat)-(y/B^k%B:Nat)-(bor x y k:Nat):Int)%4294967296:=by
 obtain ⟨h1,h2⟩:=afE (uy k) h
 have e:(if x%B^k<y%B^k then 1 else 0)=bor x y k:=rfl
 rw[e] at h1 h2
 rw[h1]
 generalize x/B^k=a at *
 generalize y/B^k=b at *
 generalize bor x y k=c at *
 rw[z9]
 omega
theorem aG {x y k:Nat}:bor x y (k+1)=if x/B^k%B<y/B^k%B+bor x y k then 1 else 0:=by
 unfold bor
 rw[Nat.pow_succ,Nat.mod_mul,Nat.mod_mul]
 have l1:=Nat.mod_lt x (uy k)
 have l2:=Nat.mod_lt y (uy k)
 generalize x/B^k%B=a
 generalize y/B^k%B=b
 generalize x%B^k=r at *
 generalize y%B^k=s at *
 generalize B^k=P at *
 rcases Nat.lt_trichotomy a b with h | h | h
 ·have:P*(a+1)≤P*b:=Nat.mul_le_mul_left _ h
  rw[Nat.mul_add] at this
  rw[if_pos (by omega),if_pos (by omega)]
 ·subst h
  by_cases hrs:r<s
  ·rw[if_pos (by omega),if_pos (by rw[if_pos hrs]; omega)]
  ·rw[if_neg (by omega),if_neg (by rw[if_neg hrs]; omega)]
 ·have:P*(b+1)≤P*a:=Nat.mul_le_mul_left _ h
  rw[Nat.mul_add] at this
  rw[if_neg (by omega),if_neg (by split<;>omega)]
theorem CO {x i:Nat}:(zh x)[i]?.getD 0=x/B^i%B:=by
 by_cases h:i<(zh x).length
 ·rw[List.getElem?_eq_getElem h,Option.getD_some,mF h]
 ·rw[List.getElem?_eq_none (by omega),Option.getD_none]
  have:=zE.1 (Nat.le_of_not_lt h)
  rw[Nat.div_eq_of_lt this]; rfl
end Go.Dig

namespace Go.Proofs.YtpnliopaifpimaaGreat
open Go Go.Am Go.Dig
theorem zm {k:Nat} (h:k<4611686018427387904):IntKind.i64.wrap ((k:Int)+1)=((k+1:Nat):Int):=by
 rw[wrap64]<;>omega
abbrev uv (n:Nat):AV:=.val (.int .u32 (n:Int))
abbrev zD (a:List Nat):List (List AV):=a.map fun d=>[uv d]
abbrev nl (m:Am.Mode) (a:List Nat):AV:=.list 1 m (zD a)
abbrev nD (x:Nat):AV:=nl .plain (zh x)
theorem qn {sz:Nat} {rows:List (List AV)}:AV.imp (.list sz .full rows) (.list sz .plain rows):=fun I w v h=>by
 cases h with
 | listNil _ _ a cap hm ho=>exact .listNil _ _ a cap (by simp) (by simp)
 | list _ _ _ b o cap g hcap hm ho hrow hcell hc=>exact .list _ _ _ b o cap g hcap (by simp) (by simp) hrow hcell hc
theorem jt {sz:Nat} {rows:List (List AV)}:AV.imp (Zt sz rows) (.list sz .plain rows):=by
 unfold Zt
 by_cases h:rows=[]
 ·subst h; simp only[if_true]; exact AV.imp_nil rfl
 ·simp only[h,if_false]; exact AV.imp.refl
theorem w32 (n:Nat):IntKind.u32.wrap (n:Int)=((n%B:Nat):Int):=by
 rw[IntKind.wrap_u32,z9]; omega
theorem w64 {n:Nat} (h:n<18446744073709551616):IntKind.u64.wrap (n:Int)=n:=IntWalk.u64_in n (by omega)
theorem vb {n:Int} (h:0≤n) (h2:n<18446744073709551616):IntKind.u64.wrap n=n:=IntWalk.u64_in n (by omega)
abbrev uw:AV:=.list 0 .full []
theorem YV {sz:Nat} {m:Am.Mode} {rows:List (List AV)} (h:stm m=m):AV.imp (.list sz m rows) (.list sz .plain rows):=by
 cases m with
 | plain=>exact AV.imp.refl
 | full=>exact qn
 | own l=>cases h
def kF (xs ys:List AV):Prop:=xs.length=ys.length∧∀ (i:Nat) x y,xs[i]?=some x→ys[i]?=some y→AV.imp x y
theorem tT:kF [] []:=⟨rfl,fun i x y h=>by simp at h⟩
theorem z6 {x y:AV} {xs ys:List AV} (h:AV.imp x y) (hs:kF xs ys):kF (x::xs) (y::ys) :=
 ⟨by simp[hs.1],fun i a b ha hb=>by
  cases i with
  | zero=>simp only[List.getElem?_cons_zero,Option.some.injEq] at ha hb; subst ha hb; exact h
  | succ i=>simp only[List.getElem?_cons_succ] at ha hb; exact hs.2 i a b ha hb⟩
theorem CR {xs:List AV}:kF xs xs:=⟨rfl,fun i x y h h'=>by rw[h] at h'; cases h'; exact AV.imp.refl⟩
theorem rS {α:Type} {l:List α} {i:Nat} (h:i<l.length):l[i]?=some l[i]:=by simp[h]
theorem X8 {xs ys:List AV} (h:kF xs ys):AV.imp (.agg xs) (.agg ys):=fun I w v hv=>by
 cases hv with
 | agg _ vs hs h1 hc =>
  refine .agg _ vs (by rw[hs,h.1]) h1 fun i c hi=>?_
  have:i<xs.length:=by rw[h.1]; exact (List.getElem?_eq_some_iff.1 hi).1
  exact h.2 i _ c (rS this) hi _ _ _ (hc i _ (rS this))
theorem QL {xs ys:List AV} (h:kF xs ys):AV.imp (.tuple xs) (.tuple ys):=fun I w v hv=>by
 cases hv with
 | tuple _ vs hs hc =>
  refine .tuple _ vs (by rw[hs,h.1]) fun i c hi=>?_
  have:i<xs.length:=by rw[h.1]; exact (List.getElem?_eq_some_iff.1 hi).1
  exact h.2 i _ c (rS this) hi _ _ _ (hc i _ (rS this))
def QM (xs ys:List (List AV)):Prop:=xs.length=ys.length∧∀ (i:Nat) x y,xs[i]?=some x→ys[i]?=some y→kF x y
theorem TK:QM [] []:=⟨rfl,fun i x y h=>by simp at h⟩
theorem pF {x y:List AV} {xs ys:List (List AV)} (h:kF x y) (hs:QM xs ys):QM (x::xs) (y::ys) :=
 ⟨by simp[hs.1],fun i a b ha hb=>by
  cases i with
  | zero=>simp only[List.getElem?_cons_zero,Option.some.injEq] at ha hb; subst ha hb; exact h
  | succ i=>simp only[List.getElem?_cons_succ] at ha hb; exact hs.2 i a b ha hb⟩
theorem Zh {sz:Nat} {m:Am.Mode} {xs ys:List (List AV)} (hm:stm m=m) (h:QM xs ys):AV.imp (.list sz m xs) (.list sz .plain ys):=fun I w v hv=>by
 have hv:=YV hm I w v hv
 cases hv with
 | listNil _ _ a cap _ _ =>
  have:ys=[]:=List.eq_nil_of_length_eq_zero (by rw[← h.1]; rfl)
  subst this
  exact .listNil _ _ _ _ (fun h=>by cases h) (fun _ h=>by cases h)
 | list _ _ _ b o cap g hcap hm' ho hrow hcell hc =>
  have get:∀ (i:Nat) r,ys[i]?=some r→∃ r0,xs[i]?=some r0∧kF r0 r:=fun i r hi=>by
   have:i<xs.length:=by rw[h.1]; exact (List.getElem?_eq_some_iff.1 hi).1
   exact ⟨xs[i],rS this,h.2 i _ r (rS this) hi⟩
  rw[h.1]
  refine .list _ _ _ b o cap g (by rw[← h.1]; exact hcap) (fun h=>by cases h) (fun _ h=>by cases h) (fun i r hi=>?_) (fun i r j c hi hj=>?_) fun i r j c hi hj=>?_
  ·obtain ⟨r0,h1,h2⟩:=get i r hi
   rw[← h2.1]; exact hrow i r0 h1
  ·obtain ⟨r0,h1,h2⟩:=get i r hi
   have hj0:j<r0.length:=by rw[h2.1]; exact (List.getElem?_eq_some_iff.1 hj).1
   exact hcell i r0 j _ h1 (rS hj0)
  ·obtain ⟨r0,h1,h2⟩:=get i r hi
   have hj0:j<r0.length:=by rw[h2.1]; exact (List.getElem?_eq_some_iff.1 hj).1
   exact h2.2 j _ c (rS hj0) hj _ _ _ (hc i r0 j _ h1 (rS hj0))
noncomputable def apc (tok sz:Nat) (rows:List (List AV)):AV:=if rows.length=0 then uw else .list sz (.own tok) rows
noncomputable def plc (sz:Nat) (rows:List (List AV)):AV:=if rows.length=0 then uw else .list sz .plain rows
section
variable {tok sz l k:Nat} {rows:List (List AV)}
theorem Qs (h:rows.length=0):apc tok sz rows=uw:=if_pos h
@[simp] theorem ald:rf (apc tok sz rows)=true:=by unfold apc; split<;>rfl
@[simp] theorem ajz:strip (apc tok sz rows)=plc sz rows:=by unfold apc plc; split<;>rfl
@[simp] theorem ajB:cellsOf (apc tok sz rows)=some [apc tok sz rows]:=by unfold apc; split<;>rfl
@[simp] theorem akL {σ:Nat→Option zf}:vv σ (apc tok sz rows)=some (plc sz rows):=by unfold apc plc; split<;>rfl
@[simp] theorem aj9:zP k (apc tok sz rows)=false:=by unfold apc; split<;>rfl
@[simp] theorem ajC:cellsOf (plc sz rows)=some [plc sz rows]:=by unfold plc; split<;>rfl
@[simp] theorem alP:rf (plc sz rows)=true:=by unfold plc; split<;>rfl
@[simp] theorem ajY:strip (plc sz rows)=plc sz rows:=by unfold plc; split<;>rfl
@[simp] theorem alO:dg l (plc sz rows)=plc sz rows:=by unfold plc; split<;>simp
@[simp] theorem akF:zP k (plc sz rows)=false:=by unfold plc; split<;>rfl
theorem fJ {rows':List (List AV)} (h:QM rows rows'):AV.imp (plc sz rows) (.list sz .plain rows'):=by
 unfold plc
 split
 ·rename_i h0
  have:rows'=[]:=List.eq_nil_of_length_eq_zero (by rw[← h.1]; exact h0)
  subst this
  exact AV.imp_nil rfl
 ·exact Zh rfl h
end
@[simp] theorem ajE {tok sz:Nat} {rows:List (List AV)} {K:AV→Option zf→Prop}:jR false K (apc tok sz rows)=K (.val (.int .i64 rows.length)) none:=by
 unfold apc; split
 ·rename_i h; rw[h]; simp[jR]
 ·simp[jR]
theorem v8 {sz i:Nat} {m:Am.Mode} {rows:List (List AV)} {K:AV→Option zf→Prop} (h:i<rows.length):vA sz [.list sz m rows,iv i] K=K (.ro rows[i]) none:=by
 have h1:(i:Int)<rows.length:=by omega
 simp[vA,h1,h]
theorem lA {rows:List (List AV)}:QM rows rows:=⟨rfl,fun i x y h h'=>by rw[h] at h'; cases h'; exact CR⟩
theorem Az {f:FuncId} {args:List AV} {r r':AV} (h:ze Tryz.prog f args r) (hr:AV.imp r r'):ze Tryz.prog f args r':=fun I vs w h1 h2 h3 =>
 Calls.mono (h I vs w h1 h2 h3) fun _ _ ⟨v,e,hb,hv⟩=>⟨v,e,hb,hr _ _ _ hv⟩
theorem s6 {f:FuncId} {xs ys:List AV} {r:AV} (h:ze Tryz.prog f ys r) (hi:kF xs ys):ze Tryz.prog f xs r:=fun I vs w h1 h2 h3 =>
 h I vs w h1 (by rw[h2,hi.1]) fun i y hy=>by
  have hx:i<xs.length:=by rw[hi.1]; exact (List.getElem?_eq_some_iff.1 hy).1
  exact hi.2 i _ y (rS hx) hy _ _ _ (h3 i _ (rS hx))
theorem Mv {a a':AV} (h:AV.imp a a'):kF [a] [a']:=z6 h tT
theorem adq {a a' b b':AV} (h:AV.imp a a') (h2:AV.imp b b'):kF [a,b] [a',b']:=z6 h (z6 h2 tT)
theorem Mw {a a' b b' c c':AV} (h:AV.imp a a') (h2:AV.imp b b') (h3:AV.imp c c'):kF [a,b,c] [a',b',c']:=z6 h (z6 h2 (z6 h3 tT))
def Je (m:Am.Mode) (a:List Nat) (k:Nat):St:={env:=[(0,nl m a),(3,iv ((a.length-k:Nat):Int))],sto:=[]}
theorem xt {m:Am.Mode} {a:List Nat} (ha:ok a) (hn:a.length<1099511627776):ze Tryz.prog xU [nl m a] (nD (val a)):=by
 obtain ⟨h1,h2,h3,h4⟩:=YX ha
 refine wW ac7 (by simp) ?_
 simp[M1]
 generalize hT:(zh (val a)).length=T at h1 h2 h3 h4
 refine yl (Je m a) (a.length-T) ?_ (fun k hk=>?_) ?_
 ·simp[Je]
 ·have hp:0<a.length-k:=by omega
  have hp2:k<a.length:=by omega
  have w:IntKind.i64.wrap (((a.length-k:Nat):Int)-1)=((a.length-(k+1):Nat):Int):=by rw[wrap64]<;>omega
  have hlt:a.length-(k+1)<a.length:=by omega
  have hz:=h2 (a.length-(k+1)) hlt (by omega)
  simp[jL,Je,hp,w,hlt,hz]
 ·have e:a.length-(a.length-T)=T:=by omega
  rcases T with _ | T
  ·have h5:zh (val a)=[]:=by rw[← h4]; rfl
   simp[jL,Je,cW,T5]
   rw[show nD (val a)=.list 1 .plain [] by simp only[nD,nl,zD,h5,List.map_nil]]
   exact qn
  ·have w:IntKind.i64.wrap (((T+1:Nat):Int)-1)=(T:Int):=by rw[wrap64]<;>omega
   have hz:=h3 (by omega) (by omega)
   simp only[Nat.add_sub_cancel] at hz
   have hlt:T<a.length:=by omega
   have ht:List.take (T+1) (zD a)=zD (zh (val a)):=by rw[← h4]; simp
   have en:((T:Int)+1).toNat=T+1:=by omega
   have e0:(0:Int)≤(T:Int)+1:=by omega
   have e1:(T:Int)+1≤a.length:=by omega
   simp at w
   simp[jL,Je,e,w,hlt,hz,e0,e1,en,cW,T5]
   first | (rw[ht]; exact qn) | (simp only[← List.map_take]; rw[h4]; exact qn)
end Go.Proofs.YtpnliopaifpimaaGreat
