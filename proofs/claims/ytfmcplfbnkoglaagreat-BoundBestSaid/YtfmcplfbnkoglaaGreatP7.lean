/- What the proof rests on, part 7: Ca C Dig N0. -/
import Derived.Test.YtfmcplfbnkoglaaGreatP6
import Derived.Test.YtfmcplfbnkoglaaGreatProg
set_option maxRecDepth 100000
set_option maxHeartbeats 4000000
namespace Go.Proofs.YtfmcplfbnkoglaaGreat
open Go Go.Am
abbrev oq (d:Nat) (op:AOp) (xs:List Opd):zi:=⟨some d,op,xs,none⟩
abbrev ox (op:AOp) (xs:List Opd):zi:=⟨none,op,xs,none⟩
abbrev rgN (o:List zi) (a b:List Nat):zc:=.region false [] o a b
abbrev rgD (o:List zi) (a b:List Nat):zc:=.region true [] o a b
abbrev kc (n:Int):Operand:=.const (.int .i64 n)
abbrev zA:AV:=.list 0 .full []
abbrev zF:List AV:=[bv false,zA,zA]
abbrev Oz (n x y:Nat):zi:=⟨none,.store n,[.t x,.t y],none⟩
abbrev Om (d:Nat) (x:Nat):zi:=⟨some d,.mov,[.t x],none⟩
abbrev Wm (d:Nat) (x:Nat) (g:Nat):zi:=⟨some d,.mov,[.t x],some (g,false)⟩
abbrev Vm (d:Nat) (x:Nat) (g:Nat):zi:=⟨some d,.mov,[.t x],some (g,true)⟩
abbrev Ol (d:Nat) (x:Nat):zi:=⟨some d,.load none,[.t x],none⟩
abbrev Wl (d:Nat) (x:Nat) (g:Nat):zi:=⟨some d,.load none,[.t x],some (g,false)⟩
abbrev Vl (d:Nat) (x:Nat) (g:Nat):zi:=⟨some d,.load none,[.t x],some (g,true)⟩
abbrev On (d:Nat) (n x:Nat):zi:=⟨some d,.load (some n),[.t x],none⟩
abbrev Wn (d:Nat) (n x:Nat) (g:Nat):zi:=⟨some d,.load (some n),[.t x],some (g,false)⟩
abbrev Vn (d:Nat) (n x:Nat) (g:Nat):zi:=⟨some d,.load (some n),[.t x],some (g,true)⟩
abbrev OF (d:Nat) (n x:Nat):zi:=⟨some d,.faddr n,[.t x],none⟩
abbrev WF (d:Nat) (n x:Nat) (g:Nat):zi:=⟨some d,.faddr n,[.t x],some (g,false)⟩
abbrev VF (d:Nat) (n x:Nat) (g:Nat):zi:=⟨some d,.faddr n,[.t x],some (g,true)⟩
abbrev Oi (d:Nat) (n x y:Nat):zi:=⟨some d,.iaddrS n,[.t x,.t y],none⟩
abbrev Wi (d:Nat) (n x y:Nat) (g:Nat):zi:=⟨some d,.iaddrS n,[.t x,.t y],some (g,false)⟩
abbrev Vi (d:Nat) (n x y:Nat) (g:Nat):zi:=⟨some d,.iaddrS n,[.t x,.t y],some (g,true)⟩
abbrev ON (d:Nat) (x:Nat):zi:=⟨some d,.nilChk,[.t x],none⟩
abbrev WN (d:Nat) (x:Nat) (g:Nat):zi:=⟨some d,.nilChk,[.t x],some (g,false)⟩
abbrev VN (d:Nat) (x:Nat) (g:Nat):zi:=⟨some d,.nilChk,[.t x],some (g,true)⟩
abbrev OL (d:Nat) (x:Nat):zi:=⟨some d,.len false,[.t x],none⟩
abbrev WL (d:Nat) (x:Nat) (g:Nat):zi:=⟨some d,.len false,[.t x],some (g,false)⟩
abbrev VL (d:Nat) (x:Nat) (g:Nat):zi:=⟨some d,.len false,[.t x],some (g,true)⟩
abbrev Oe (d:Nat) (n x:Nat):zi:=⟨some d,.extract n,[.t x],none⟩
abbrev We (d:Nat) (n x:Nat) (g:Nat):zi:=⟨some d,.extract n,[.t x],some (g,false)⟩
abbrev Ve (d:Nat) (n x:Nat) (g:Nat):zi:=⟨some d,.extract n,[.t x],some (g,true)⟩
abbrev Oc (d:Nat) (n:Int):zi:=⟨some d,.mov,[.c (iv n)],none⟩
abbrev Wc (d:Nat) (n:Int) (g:Nat):zi:=⟨some d,.mov,[.c (iv n)],some (g,false)⟩
abbrev Vc (d:Nat) (n:Int) (g:Nat):zi:=⟨some d,.mov,[.c (iv n)],some (g,true)⟩
abbrev Ob (d:Nat) (o:BinOp) (t:TypeId) (x y:Nat):zi:=⟨some d,.bin o t (.tmp x) (.tmp y),[.t x,.t y],none⟩
abbrev Wb (d:Nat) (o:BinOp) (t:TypeId) (x y:Nat) (g:Nat):zi:=⟨some d,.bin o t (.tmp x) (.tmp y),[.t x,.t y],some (g,false)⟩
abbrev Vb (d:Nat) (o:BinOp) (t:TypeId) (x y:Nat) (g:Nat):zi:=⟨some d,.bin o t (.tmp x) (.tmp y),[.t x,.t y],some (g,true)⟩
abbrev Oj (d:Nat) (o:BinOp) (t:TypeId) (x:Nat) (n:Int):zi:=⟨some d,.bin o t (.tmp x) (kc n),[.t x,.c (iv n)],none⟩
abbrev Wj (d:Nat) (o:BinOp) (t:TypeId) (x:Nat) (n:Int) (g:Nat):zi:=⟨some d,.bin o t (.tmp x) (kc n),[.t x,.c (iv n)],some (g,false)⟩
abbrev Vj (d:Nat) (o:BinOp) (t:TypeId) (x:Nat) (n:Int) (g:Nat):zi:=⟨some d,.bin o t (.tmp x) (kc n),[.t x,.c (iv n)],some (g,true)⟩
abbrev Op (d:Nat) (x y:Nat):zi:=⟨some d,.pick,[.t x,.c (bv true),.t y],none⟩
abbrev Wp (d:Nat) (x y:Nat) (g:Nat):zi:=⟨some d,.pick,[.t x,.c (bv true),.t y],some (g,false)⟩
abbrev Vp (d:Nat) (x y:Nat) (g:Nat):zi:=⟨some d,.pick,[.t x,.c (bv true),.t y],some (g,true)⟩
abbrev Oq (d:Nat) (x y:Nat):zi:=⟨some d,.pick,[.t x,.t y,.c (bv false)],none⟩
abbrev Wq (d:Nat) (x y:Nat) (g:Nat):zi:=⟨some d,.pick,[.t x,.t y,.c (bv false)],some (g,false)⟩
abbrev Vq (d:Nat) (x y:Nat) (g:Nat):zi:=⟨some d,.pick,[.t x,.t y,.c (bv false)],some (g,true)⟩
abbrev Ok (d:Nat) (f:FuncId) (x:Nat):zi:=⟨some d,.call f,[.t x],none⟩
abbrev Wk (d:Nat) (f:FuncId) (x:Nat) (g:Nat):zi:=⟨some d,.call f,[.t x],some (g,false)⟩
abbrev Vk (d:Nat) (f:FuncId) (x:Nat) (g:Nat):zi:=⟨some d,.call f,[.t x],some (g,true)⟩
abbrev OK (d:Nat) (f:FuncId) (x y:Nat):zi:=⟨some d,.call f,[.t x,.t y],none⟩
abbrev WK (d:Nat) (f:FuncId) (x y:Nat) (g:Nat):zi:=⟨some d,.call f,[.t x,.t y],some (g,false)⟩
abbrev VK (d:Nat) (f:FuncId) (x y:Nat) (g:Nat):zi:=⟨some d,.call f,[.t x,.t y],some (g,true)⟩
abbrev OB (d:Nat) (x:Nat):zi:=⟨some d,.box,[.t x],none⟩
abbrev WB (d:Nat) (x:Nat) (g:Nat):zi:=⟨some d,.box,[.t x],some (g,false)⟩
abbrev VB (d:Nat) (x:Nat) (g:Nat):zi:=⟨some d,.box,[.t x],some (g,true)⟩
abbrev Oa (d:Nat) :zi:=⟨some d,.alloc zF,[],none⟩
abbrev Wa (d:Nat)  (g:Nat):zi:=⟨some d,.alloc zF,[],some (g,false)⟩
abbrev Va (d:Nat)  (g:Nat):zi:=⟨some d,.alloc zF,[],some (g,true)⟩
abbrev DR:FuncId:=2
abbrev qH:FuncId:=3
abbrev ke:FuncId:=4
abbrev ul:FuncId:=5
abbrev vV:FuncId:=6
abbrev ki:FuncId:=7
abbrev pH:FuncId:=8
abbrev pI:FuncId:=9
abbrev xZ:FuncId:=10
abbrev nF:FuncId:=11
abbrev rm:FuncId:=12
abbrev yY:FuncId:=13
abbrev uw:FuncId:=14
abbrev ux:FuncId:=15
abbrev r9:FuncId:=16
abbrev sY:FuncId:=17
abbrev nB:FuncId:=18
abbrev bK:FuncId:=19
abbrev zN:FuncId:=20
abbrev sI:FuncId:=21
abbrev tQ:FuncId:=22
abbrev su:FuncId:=23
abbrev ss:FuncId:=24
abbrev mo:FuncId:=25
abbrev nE:FuncId:=26
abbrev yt:FuncId:=27
abbrev p6:FuncId:=28
abbrev sJ:FuncId:=29
abbrev p0:FuncId:=30
abbrev rk:FuncId:=31
abbrev m6:FuncId:=32
abbrev Zy:FuncId:=33
abbrev eC:FuncId:=34
abbrev ju:FuncId:=35
abbrev qf:FuncId:=36
abbrev ri:FuncId:=37
abbrev xt:FuncId:=38
abbrev kh:FuncId:=39
abbrev pY:FuncId:=40
abbrev vn:FuncId:=41
abbrev TK:FuncId:=42
abbrev ml:FuncId:=43
abbrev qc:FuncId:=44
abbrev uy:FuncId:=45
abbrev vj:FuncId:=46
abbrev x5:FuncId:=47
abbrev xS:FuncId:=48
abbrev yr:FuncId:=49
abbrev lq:FuncId:=50
abbrev tg:FuncId:=51
abbrev uR:FuncId:=52
abbrev pg:FuncId:=53
abbrev x6:FuncId:=54
abbrev qQ:FuncId:=55
abbrev bE:FuncId:=56
abbrev td:FuncId:=57
abbrev rj:FuncId:=58
abbrev jt:FuncId:=59
abbrev vW:FuncId:=60
abbrev gB:FuncId:=61
abbrev qe:FuncId:=62
abbrev jc:FuncId:=63
abbrev Zx:FuncId:=64
abbrev pi:FuncId:=65
abbrev tf:FuncId:=66
abbrev TL:FuncId:=67
abbrev gD:FuncId:=68
abbrev eD:FuncId:=69
abbrev mn:FuncId:=70
abbrev pF:FuncId:=71
abbrev qg:FuncId:=72
abbrev eE:FuncId:=73
abbrev Zz:FuncId:=74
abbrev gC:FuncId:=75
abbrev dn:FuncId:=76
abbrev pZ:FuncId:=77
abbrev Zw:FuncId:=78
abbrev js:FuncId:=79
abbrev uO:FuncId:=80
abbrev uP:FuncId:=81
abbrev gF:FuncId:=82
abbrev uQ:FuncId:=83
abbrev vm:FuncId:=84
abbrev r8:FuncId:=85
abbrev pe:FuncId:=86
abbrev rp:FuncId:=87
abbrev xv:FuncId:=88
abbrev dq:FuncId:=89
abbrev nC:FuncId:=90
abbrev tT:FuncId:=91
abbrev bJ:FuncId:=92
abbrev bH:FuncId:=93
abbrev xN:FuncId:=94
abbrev ZB:FuncId:=95
abbrev qd:FuncId:=96
abbrev qa:FuncId:=97
abbrev pG:FuncId:=98
abbrev jb:FuncId:=99
abbrev pj:FuncId:=100
abbrev te:FuncId:=101
abbrev dr:FuncId:=102
abbrev YS:FuncId:=103
abbrev ZA:FuncId:=104
abbrev bG:FuncId:=105
abbrev qS:FuncId:=106
abbrev bF:FuncId:=107
abbrev xG:TypeId:=2
abbrev zb:TypeId:=3
abbrev uz:TypeId:=4
abbrev wo:TypeId:=23
abbrev zR:TypeId:=37
abbrev zD:TypeId:=52
abbrev wD:TypeId:=78
abbrev zh:TypeId:=103
abbrev uA:TypeId:=115
abbrev y7:TypeId:=119
abbrev XZ:TypeId:=127
abbrev pm:TypeId:=122
theorem wS:Tryz.prog.underlying uz=some .bool:=by kernel_rfl
theorem lU:kds Tryz.prog Op.maxDepth wD=some [.b,.i .i64]:=by kernel_rfl
theorem lT:Tryz.prog.eqGuardType Tryz.prog.depth wD=false:=by kernel_rfl
theorem Xb:kds Tryz.prog Op.maxDepth uA=some [.b,.b]:=by kernel_rfl
theorem Y8:Tryz.prog.eqGuardType Tryz.prog.depth uA=false:=by kernel_rfl
theorem YU:agT Tryz.prog uA=true:=by kernel_rfl
theorem Sb:kds Tryz.prog Op.maxDepth pm=some (List.replicate 7 (.i .i64)):=by kernel_rfl
@[simp] theorem ah7:Tryz.prog.underlying zb=some (.int .i64):=by kernel_rfl
@[simp] theorem aeh:Tryz.prog.underlying zR=some (.int .i64):=by kernel_rfl
@[simp] theorem ahg:Tryz.prog.underlying uz=some .bool:=by kernel_rfl
@[simp] theorem af5:Tryz.prog.underlying zD=some (.int .u32):=by kernel_rfl
@[simp] theorem agI:Tryz.prog.underlying xG=some (.int .i64):=by kernel_rfl
@[simp] theorem af6:Tryz.prog.underlying zh=some (.int .u64):=by kernel_rfl
@[simp] theorem ahh:Tryz.prog.underlying XZ=some (.int .u64):=by kernel_rfl
def kL:zc:=(.seq (rgN [OB 2 0,oq 4 .mov [.c (bv false)]] [0,4] []) (.seq (.seq (rgN [On 12 20 2,oq 13 (.call ke) [.t 12,.c (iv 8),.c zA],oq 14 (.un .not) [.t 13],Om 15 14,Wm 16 1 15,WL 17 16 15,Wj 18 .gtr zb 17 20 15,Op 19 15 18] [12,13,14,15,16,17,18] []) (.cond (.t 19) (.seq (rgN [oq 20 (.call ul) [],Om 4 20] [1,2,19,20] [2]) .ret) .skip)) (.seq (rgN [On 22 20 2,Om 23 1,OK 24 vV 22 23,Om 21 24,Oe 25 0 21,Oe 26 1 21,⟨some 5,.alloc [bv false,bv false,zA,zA,zA,zA],[],none⟩,Oz 6 5 25,Om 6 26] [19,22,23,24,21,25,26] []) (.seq (.seq (rgN [On 27 20 2,Om 28 1,OK 29 ki 27 28,Om 7 29] [27,28,29] []) (.seq (rgN [Om 30 7,Oj 31 .neq zR 30 0] [30] []) (.cond (.t 31) (.seq (rgN [Om 32 6,Om 33 7,Ob 34 .eql zR 32 33,Om 35 34,VF 36 0 5 35,Vl 37 36 35,⟨some 38,.un .not,[.t 37],some (35,true)⟩,Oq 39 35 38,Om 40 39,VF 41 5 5 40,Vl 42 41 40,VL 43 42 40,VF 44 4 5 40,Vl 45 44 40,VL 46 45 40,Vb 47 .add zb 43 46 40,Vj 48 .eql zb 47 0 40,Oq 49 40 48,Om 50 49,⟨some 51,.call ul,[],some (50,true)⟩,Oq 52 50 51,Om 4 52] [1,2,5,6,7,31,32,33,34,35,36,37,38,39,40,41,42,43,44,45,46,47,48,49,50,51,52] [2,5]) .ret) .skip))) (.seq (.seq (rgN [Om 53 6,Oj 54 .neq zR 53 0] [6,7,31,53] []) (.cond (.t 54) (.seq (rgN [oq 4 .mov [.c (bv false)]] [1,2,5,54] [2,5]) .ret) .skip)) (.seq (.seq (rgD [On 55 20 2,Om 56 1,Ok 57 pI 56,OK 58 pH 55 57,Oj 59 .neq zR 58 0] [54,55,56,57,58] []) (.cond (.t 59) (.seq (rgN [OF 60 0 5,Ol 61 60,oq 62 (.un .not) [.t 61],Om 63 62,VF 64 5 5 63,Vl 65 64 63,VL 66 65 63,VF 67 4 5 63,Vl 68 67 63,VL 69 68 63,Vb 70 .add zb 66 69 63,Vj 71 .eql zb 70 0 63,Oq 72 63 71,Om 73 72,VF 74 1 5 73,Vn 75 3 74 73,⟨some 76,.build zF [],[],some (73,true)⟩,VK 77 xZ 75 76 73,Oq 78 73 77,Om 79 78,⟨some 80,.call ul,[],some (79,true)⟩,Oq 81 79 80,Om 4 81] [1,2,5,59,60,61,62,63,64,65,66,67,68,69,70,71,72,73,74,75,76,77,78,79,80,81] [2,5]) .ret) .skip)) (.seq (rgN [On 83 20 2,Om 84 1,OF 85 5 5,Ol 86 85,oq 87 (.call nF) [.t 83,.t 84,.t 86],Om 82 87,Oe 88 0 82,Oe 89 1 82,Oa 8,Oz 3 8 88,Om 9 89] [59,83,84,85,86,87,82,88,89] []) (.seq (rgN [On 91 20 2,Om 92 1,OF 93 4 5,Ol 94 93,oq 95 (.call rm) [.t 91,.t 92,.t 94],Om 90 95,Oe 96 0 90,Oe 97 1 90,Oa 10,Oz 3 10 96,Om 11 97] [1,2,91,92,93,94,95,90,96,97] [2]) (.seq (rgN [OF 98 0 5,Ol 99 98,Om 100 99,Vm 101 9 100,Oq 102 100 101,Om 103 102,Vn 104 3 8 103,VF 105 1 5 103,Vn 106 3 105 103,VK 107 xZ 104 106 103,Oq 108 103 107,Om 109 108,Vm 110 11 109,Vj 111 .eql zR 110 0 109,Oq 112 109 111,Om 113 112,Vn 114 3 10 113,VF 115 1 5 113,Vn 116 3 115 113,VK 117 xZ 114 116 113,Oq 118 113 117,Om 119 118,⟨some 120,.call ul,[],some (119,true)⟩,Oq 121 119 120,Om 4 121] [5,8,9,10,11,98,99,100,101,102,103,104,105,106,107,108,109,110,111,112,113,114,115,116,117,118,119,120,121] [5,8,10]) .ret)))))))))
def wE:List zB:=[.t 4]
theorem Yj:zq Tryz.prog qH=some (bare kL,wE,122):=by kernel_rfl
def v7:zc:=(.seq (.seq (rgN [Om 24 7,Om 25 2,OL 26 25,Ob 27 .lss zb 24 26] [24,25,26] []) (.cond (.t 27) .skip (.exit 0))) (.seq (.block 1 (.seq (rgN [Om 30 2,Om 31 7,Oi 32 3 30 31,OF 33 1 32,Ol 34 33,OL 35 34,Oj 36 .gtr zb 35 2,Om 37 36,Wm 38 2 37,Wm 39 7 37,Wi 40 3 38 39 37,WF 41 2 40 37,Wl 42 41 37,WL 43 42 37,Wj 44 .gtr zb 43 2 37,Op 45 37 44] [27,30,31,32,33,34,35,36,37,38,39,40,41,42,43,44] []) (.cond (.t 45) (.seq (rgN [oq 6 .mov [.c (bv false)]] [2,7,45] []) .ret) .skip))) (rgN [Om 28 7,Oj 29 .add zb 28 1,Om 7 29] [45,28,29] [])))
def jG:zc:=(.seq (rgN [oq 6 .mov [.c (bv true)]] [2,7,27] []) .ret)
def sx:zc:=(.seq (rgN [OB 3 0,oq 6 .mov [.c (bv false)]] [0,6] []) (.seq (.seq (rgN [OF 8 19 3,Ol 9 8,OL 10 9,Om 11 1,Ob 12 .gtr zb 10 11,Om 13 12,WF 14 18 3 13,Wl 15 14 13,WL 16 15 13,Wj 17 .gtr zb 16 9 13,Op 18 13 17,Om 19 18,Wm 20 2 19,WL 21 20 19,Wj 22 .gtr zb 21 30 19,Op 23 19 22] [1,3,8,9,10,11,12,13,14,15,16,17,18,19,20,21,22] [3]) (.cond (.t 23) (.seq (rgN [oq 6 .mov [.c (bv false)]] [2,23] []) .ret) .skip)) (.seq (.seq (rgN [Oc 7 0] [23] []) (.block 0 (.loop v7))) jG)))
def vI:List zB:=[.t 6]
theorem Qe:zq Tryz.prog ke=some (bare sx,vI,46):=by kernel_rfl
def pK:zc:=(.seq (rgN [Ob 13 .lss zb 12 11] [] []) (.seq (.cond (.t 13) .skip (.exit 0)) (.seq (.block 1 (.seq (rgN [Om 14 12,Om 2 14] [13,14] []) (rgN [Om 15 1,Om 16 2,oq 17 (.call yY) [.c (iv 0)],Oi 18 3 15 16,Oz 3 18 17] [2,15,16,17,18] []))) (rgN [Oj 19 .add zb 12 1,Om 12 19] [19] []))))
def jH:zc:=(.seq (rgN [Om 20 1,Om 21 1,oq 22 (.call yY) [.c (iv 6)],oq 23 (.call yY) [.c (iv 6)],oq 24 (.iaddrS 3) [.t 20,.c (iv 3)],Oz 3 24 22,oq 25 (.iaddrS 3) [.t 21,.c (iv 4)],Oz 3 25 23] [11,12,13,20,21,22,23,24,25] []) (.seq (.region false [9] [oq 27 (.call ux) [],oq 28 (.mkslice 1 3 [iv 0] [0,1,2]) [.c (iv 0),.c (iv 0),.c (iv 0)],Om 29 1,oq 30 (.call uw) [.t 27,.t 28,.t 29],Om 26 30,Oe 31 0 26,Oe 32 1 26,Oa 3,Oz 3 3 31,Om 4 32] [1,27,28,29,30,26,31,32] []) (.seq (rgN [oq 34 (.call ux) [],oq 35 (.mkslice 1 3 [iv 0] [0,1,2]) [.c (iv 1),.c (iv 0),.c (iv 0)],OK 36 vV 34 35,Om 33 36,Oe 37 0 33,Oe 38 1 33,⟨some 5,.alloc [bv false,bv false,zA,zA,zA,zA],[],none⟩,Oz 6 5 37,Om 6 38] [34,35,36,33,37,38] []) (.seq (rgN [oq 40 (.mkslice 1 1 [.val (.int .u32 0)] [0]) [.c (.val (.int .u32 1))],oq 41 (.mkslice 1 1 [.val (.int .u32 0)] [0]) [.c (.val (.int .u32 4))],⟨some 42,.build zF [(1,1),(2,1)],[.t 40,.t 41],none⟩,oq 43 (.mkslice 1 1 [.val (.int .u32 0)] [0]) [.c (.val (.int .u32 2))],oq 44 (.mkslice 1 1 [.val (.int .u32 0)] [0]) [.c (.val (.int .u32 3))],⟨some 45,.build zF [(1,1),(2,1)],[.t 43,.t 44],none⟩,oq 46 (.mkslice 1 1 [.val (.int .u32 0)] [0]) [.c (.val (.int .u32 1))],oq 47 (.mkslice 1 1 [.val (.int .u32 0)] [0]) [.c (.val (.int .u32 3))],⟨some 48,.build zF [(1,1),(2,1)],[.t 46,.t 47],none⟩,⟨some 49,.mkslice 3 3 zF [0,1,2],[.t 42,.t 45,.t 48],none⟩,Ok 50 r9 49,Om 39 50,Oe 51 0 39,Oe 52 1 39,Om 7 51,Om 8 52] [40,41,42,43,44,45,46,47,48,49,50,39,51,52] []) (.seq (rgD [Om 53 4,Oj 54 .eql zR 53 0,Om 55 54,Vn 56 3 3 55,⟨some 57,.call yY,[.c (iv 12)],some (55,true)⟩,VK 58 xZ 56 57 55,Oq 59 55 58,Om 60 59,Vm 61 6 60,Vj 62 .eql zR 61 0 60,Oq 63 60 62,Om 64 63,VF 65 0 5 64,Vl 66 65 64,Oq 67 64 66,Om 68 67,VF 69 1 5 68,Vn 70 3 69 68,⟨some 71,.call yY,[.c (iv 10)],some (68,true)⟩,VK 72 xZ 70 71 68,Oq 73 68 72,Om 74 73,Vm 75 8 74,Oq 76 74 75,Om 77 76,Vm 78 7 77,Vj 79 .eql zb 78 1 77,Oq 80 77 79,Om 0 80] [3,4,5,6,7,8,53,54,55,56,57,58,59,60,61,62,63,64,65,66,67,68,69,70,71,72,73,74,75,76,77,78,79,80] [3,5]) .ret)))))
def c7:zc:=(.seq (rgN [oq 0 .mov [.c (bv false)]] [0] []) (.seq (rgN [⟨some 9,.mk 3 56 zF,[.c (iv 15),.c (iv 15)],none⟩,Om 1 9] [9] []) (.seq (.seq (rgN [Om 10 1,OL 11 10,Oc 12 0] [10] []) (.block 0 (.loop pK))) jH)))
def bt:List zB:=[.t 0]
theorem Qf:zq Tryz.prog ul=some (bare c7,bt,81):=by kernel_rfl
def s6:zc:=(.seq (rgN [Ob 48 .lss zb 47 46] [] []) (.seq (.cond (.t 48) .skip (.exit 0)) (.seq (.block 1 (.seq (rgN [Om 49 47,Oi 50 1 45 47,Ol 51 50,Om 12 49,Om 13 51] [48,49,50,51] []) (.seq (rgN [Om 52 11,Om 53 12,oq 54 (.call zN) [.c (iv 0)],Oi 55 3 52 53,Oz 3 55 54] [52,53,54,55] []) (.seq (rgN [Om 56 13,Oj 57 .eql zb 56 1] [13,56] []) (.cond (.t 57) (rgN [Om 58 11,Om 59 12,oq 60 (.call zN) [.c (iv 1)],Oi 61 3 58 59,Oz 3 61 60] [12,57,58,59,60,61] []) .skip))))) (rgN [Oj 62 .add zb 47 1,Om 47 62] [12,57,62] []))))
def nI:zc:=(.seq (rgN [Ob 66 .lss zb 65 64] [] []) (.seq (.cond (.t 66) .skip (.exit 2)) (.seq (.block 3 (.seq (rgN [Om 67 65,Oi 68 1 63 65,Ol 69 68,Om 14 67,Om 15 69] [66,67,68,69] []) (rgN [Om 70 11,Om 71 15,OF 72 4 10,Ol 73 72,Om 74 14,Oi 75 3 73 74,On 76 3 75,Oi 77 3 70 71,Oz 3 77 76] [14,15,70,71,72,73,74,75,76,77] []))) (rgN [Oj 78 .add zb 65 1,Om 65 78] [78] []))))
def gM:zc:=(.seq (.region true [44] [On 79 20 2,Om 80 1,OK 81 tQ 79 80,OF 82 1 10,On 83 3 82,OK 84 sI 81 83,OF 85 5 10,Ol 86 85,Om 87 11,⟨some 88,.build [bv false,bv false,zA,zA,zA,zA] [(0,1),(1,3),(4,1),(5,1)],[.c (bv true),.t 84,.t 86,.t 87],none⟩,Oz 6 4 88,Oc 5 0] [1,2,10,11,63,64,65,66,79,80,81,82,83,84,85,86,87,88] [2,10]) .ret)
def gN:zc:=(.seq (.seq (rgN [Om 63 8,OL 64 63,Oc 65 0] [8,45,46,47,48] []) (.block 2 (.loop nI))) gM)
def nH:zc:=(.seq (rgN [OB 2 0,⟨some 4,.alloc [bv false,bv false,zA,zA,zA,zA],[],none⟩,Oc 5 0] [0,5] []) (.seq (.seq (rgN [On 16 20 2,Om 17 1,OK 18 sY 16 17,Om 6 18] [16,17,18] []) (.seq (rgN [Om 19 6,Oj 20 .neq zR 19 0] [19] []) (.cond (.t 20) (.seq (rgN [⟨some 21,.build [bv false,bv false,zA,zA,zA,zA] [],[],none⟩,Om 22 6,Oz 6 4 21,Om 5 22] [1,2,6,20,21,22] [2]) .ret) .skip))) (.seq (rgN [On 24 20 2,Om 25 1,OK 26 nB 24 25,Om 23 26,Oe 27 0 23,Oe 28 1 23,Oe 29 2 23,⟨some 7,.alloc [zA,zA],[],none⟩,Oz 2 7 27,Om 8 28,Om 9 29] [6,20,24,25,26,23,27,28,29] []) (.seq (.seq (rgN [Om 30 9,Oj 31 .neq zR 30 0] [9,30] []) (.cond (.t 31) (.seq (rgN [⟨some 32,.build [bv false,bv false,zA,zA,zA,zA] [],[],none⟩,Oz 6 4 32,Oc 5 0] [1,2,7,8,31,32] [2,7]) .ret) .skip)) (.seq (rgN [On 34 2 7,Ok 35 bK 34,Om 33 35,Oe 36 0 33,Oe 37 1 33,⟨some 10,.alloc [iv 0,bv false,zA,zA,zA,zA,zA],[],none⟩,Oz 7 10 36,Om 9 37] [7,31,34,35,33,36,37] [7]) (.seq (.seq (rgN [Om 38 9,Oj 39 .neq zR 38 0] [38] []) (.cond (.t 39) (.seq (rgN [⟨some 40,.build [bv false,bv false,zA,zA,zA,zA] [],[],none⟩,Om 41 9,Oz 6 4 40,Om 5 41] [1,2,8,10,9,39,40,41] [2,10]) .ret) .skip)) (.seq (rgN [Om 42 1,OL 43 42,⟨some 44,.mk 3 56 zF,[.t 43,.t 43],none⟩,Om 11 44] [9,39,42,43,44] []) (.seq (.seq (rgN [Om 45 1,OL 46 45,Oc 47 0] [] []) (.block 0 (.loop s6))) gN))))))))
def nY:List zB:=[.cell 4 (some 6),.t 5]
theorem gw:zq Tryz.prog vV=some (bare nH,nY,89):=by kernel_rfl
def bg:zc:=(.seq (rgN [OB 2 0,Oc 4 0] [0,4] []) (.seq (rgN [On 5 20 2,Om 6 1,OK 7 su 5 6,Om 4 7] [1,2,5,6,7] [2]) .ret))
def bz:List zB:=[.t 4]
theorem Qk:zq Tryz.prog ki=some (bare bg,bz,8):=by kernel_rfl
def jQ:zc:=(.seq (rgN [OB 2 0,Oc 4 0] [0,4] []) (.seq (rgN [On 8 20 2,Ok 9 ss 8,Om 5 9] [8,9] []) (.seq (.seq (rgN [Om 10 5,Oj 11 .neq zR 10 0] [10] []) (.cond (.t 11) (.seq (rgN [Om 12 5,Om 4 12] [1,2,5,11,12] [2]) .ret) .skip)) (.seq (rgN [On 14 20 2,Om 15 1,OK 16 mo 14 15,Om 13 16,Oe 17 0 13,Oe 18 1 13,Om 6 17,Om 7 18] [1,5,11,14,15,16,13,17,18] []) (.seq (.seq (rgN [Om 19 7,oq 20 (.un .not) [.t 19]] [7,19] []) (.cond (.t 20) (.seq (rgN [Oc 4 4] [2,6,20] [2]) .ret) .skip)) (.seq (.seq (rgN [On 21 20 2,Om 22 6,OK 23 nE 21 22,oq 24 (.un .not) [.t 23]] [2,6,20,21,22,23] [2]) (.cond (.t 24) (.seq (rgN [Oc 4 14] [24] []) .ret) .skip)) (.seq (rgN [Oc 4 0] [24] []) .ret)))))))
def pU:List zB:=[.t 4]
theorem XS:zq Tryz.prog pH=some (bare jQ,pU,25):=by kernel_rfl
def uf:zc:=(.seq (.seq (rgN [Om 5 4,Om 6 0,OL 7 6,Ob 8 .lss zb 5 7] [5,6,7] []) (.cond (.t 8) .skip (.exit 0))) (.seq (.block 1 (.seq (rgN [Om 11 0,Om 12 4,Oi 13 1 11 12,Ol 14 13,Oj 15 .eql zb 14 1] [8,11,12,13,14] []) (.cond (.t 15) (rgN [Om 16 3,Om 17 4,oq 18 (.mkslice 1 1 [iv 0] [0]) [.t 17],oq 19 (.append 1 8) [.t 16,.t 18],Om 3 19] [15,16,17,18,19] []) .skip))) (rgN [Om 9 4,Oj 10 .add zb 9 1,Om 4 10] [15,9,10] [])))
def mj:zc:=(.seq (rgN [Om 20 3,Om 2 20] [0,3,4,8,20] []) .ret)
def jR:zc:=(.seq (rgN [oq 2 .mov [.c zA]] [2] []) (.seq (rgN [oq 3 .mov [.c zA]] [] []) (.seq (.seq (rgN [Oc 4 0] [] []) (.block 0 (.loop uf))) mj)))
def gn:List zB:=[.t 2]
theorem XT:zq Tryz.prog pI=some (bare jR,gn,21):=by kernel_rfl
def qW:zc:=(.seq (.seq (rgN [Om 30 5,OF 31 1 2,Ol 32 31,OL 33 32,Ob 34 .lss zb 30 33] [30,31,32,33] []) (.cond (.t 34) .skip (.exit 0))) (.seq (.block 1 (.seq (rgD [OF 37 1 2,Ol 38 37,Om 39 5,Oi 40 1 38 39,Ol 41 40,OF 42 1 3,Ol 43 42,Om 44 5,Oi 45 1 43 44,Ol 46 45,Ob 47 .neq zD 41 46] [34,37,38,39,40,41,42,43,44,45,46] []) (.cond (.t 47) (.seq (rgN [oq 4 .mov [.c (bv false)]] [2,3,5,47] [2,3]) .ret) .skip))) (rgN [Om 35 5,Oj 36 .add zb 35 1,Om 5 36] [47,35,36] [])))
def qX:zc:=(.seq (.seq (rgN [Om 48 6,OF 49 2 2,Ol 50 49,OL 51 50,Ob 52 .lss zb 48 51] [48,49,50,51] []) (.cond (.t 52) .skip (.exit 2))) (.seq (.block 3 (.seq (rgD [OF 55 2 2,Ol 56 55,Om 57 6,Oi 58 1 56 57,Ol 59 58,OF 60 2 3,Ol 61 60,Om 62 6,Oi 63 1 61 62,Ol 64 63,Ob 65 .neq zD 59 64] [52,55,56,57,58,59,60,61,62,63,64] []) (.cond (.t 65) (.seq (rgN [oq 4 .mov [.c (bv false)]] [2,3,6,65] [2,3]) .ret) .skip))) (rgN [Om 53 6,Oj 54 .add zb 53 1,Om 6 54] [65,53,54] [])))
def fX:zc:=(.seq (rgN [oq 4 .mov [.c (bv true)]] [2,3,6,52] [2,3]) .ret)
def fY:zc:=(.seq (.seq (rgN [Oc 6 0] [5,34] []) (.block 2 (.loop qX))) fX)
def my:zc:=(.seq (rgN [OB 2 0,OB 3 1,oq 4 .mov [.c (bv false)]] [0,1,4] []) (.seq (.seq (rgN [OF 7 0 2,Ol 8 7,OF 9 0 3,Ol 10 9,Ob 11 .neq uz 8 10,Om 12 11,WF 13 1 2 12,Wl 14 13 12,WL 15 14 12,WF 16 1 3 12,Wl 17 16 12,WL 18 17 12,Wb 19 .neq zb 15 18 12,Op 20 12 19,Om 21 20,WF 22 2 2 21,Wl 23 22 21,WL 24 23 21,WF 25 2 3 21,Wl 26 25 21,WL 27 26 21,Wb 28 .neq zb 24 27 21,Op 29 21 28] [7,8,9,10,11,12,13,14,15,16,17,18,19,20,21,22,23,24,25,26,27,28] []) (.cond (.t 29) (.seq (rgN [oq 4 .mov [.c (bv false)]] [2,3,29] [2,3]) .ret) .skip)) (.seq (.seq (rgN [Oc 5 0] [29] []) (.block 0 (.loop qW))) fY)))
def rW:List zB:=[.t 4]
theorem N4:zq Tryz.prog xZ=some (bare my,rW,66):=by kernel_rfl
def vb:zc:=(.seq (.seq (rgN [Om 28 9,Om 29 2,OL 30 29,Ob 31 .lss zb 28 30] [28,29,30] []) (.cond (.t 31) .skip (.exit 0))) (.seq (.block 1 (.seq (.seq (rgD [Om 34 2,Om 35 9,Oi 36 3 34 35,On 37 3 36,Ok 38 p6 37,oq 39 (.un .not) [.t 38],Om 40 39,Wm 41 2 40,Wm 42 9 40,Wi 43 3 41 42 40,WF 44 0 43 40,Wl 45 44 40,Op 46 40 45,Om 47 46,Wm 48 1 47,Wm 49 9 47,Wi 50 1 48 49 47,Wl 51 50 47,Wj 52 .neq zb 51 0 47,Wm 53 52 47,Vm 54 2 53,Vm 55 9 53,Vi 56 3 54 55 53,Vn 57 3 56 53,Vm 58 1 53,Vm 59 9 53,Vi 60 1 58 59 53,Vl 61 60 53,Vj 62 .add zb 61 1 53,Vj 63 .quo zb 62 2 53,Vk 64 yt 63 53,VK 65 xZ 57 64 53,⟨some 66,.un .not,[.t 65],some (53,true)⟩,Wq 67 53 66 47,Op 68 47 67] [31,34,35,36,37,38,39,40,41,42,43,44,45,46,47,48,49,50,51,52,53,54,55,56,57,58,59,60,61,62,63,64,65,66,67] []) (.cond (.t 68) (.seq (rgN [⟨some 69,.build zF [],[],none⟩,Oz 3 6 69,oq 7 .mov [.c (bv false)]] [1,2,3,8,9,68,69] [3,8]) .ret) .skip)) (rgD [On 70 3 8,Om 71 2,Om 72 9,Oi 73 3 71 72,On 74 3 73,OF 75 19 3,Ol 76 75,Om 77 9,Oi 78 8 76 77,OF 79 7 78,Ol 80 79,Ok 81 yt 80,OK 82 p0 74 81,OK 83 sJ 70 82,Oz 3 8 83] [68,70,71,72,73,74,75,76,77,78,79,80,81,82,83] []))) (rgN [Om 32 9,Oj 33 .add zb 32 1,Om 9 33] [32,33] [])))
def rG:zc:=(.seq (.seq (rgN [Om 97 14,Om 98 2,OL 99 98,Ob 100 .lss zb 97 99] [97,98,99] []) (.cond (.t 100) .skip (.exit 4))) (.seq (.block 5 (rgD [On 103 3 13,Om 104 2,Om 105 14,Oi 106 3 104 105,On 107 3 106,Om 108 11,Om 109 14,Oi 110 1 108 109,Ol 111 110,Ok 112 yt 111,OK 113 p0 107 112,OK 114 sJ 103 113,Oz 3 13 114] [100,103,104,105,106,107,108,109,110,111,112,113,114] [])) (rgN [Om 101 14,Oj 102 .add zb 101 1,Om 14 102] [101,102] [])))
def lJ:zc:=(.seq (rgD [On 115 3 13,Om 116 12,Ok 117 yt 116,OK 118 Zy 115 117,Oj 119 .gtr zb 118 0] [11,12,13,14,100,115,116,117,118] [13]) (.cond (.t 119) (.seq (rgN [⟨some 120,.build zF [],[],none⟩,Oz 3 6 120,oq 7 .mov [.c (bv false)]] [2,3,8,10,119,120] [3,8]) .ret) .skip))
def lK:zc:=(rgN [Om 88 10,Oj 89 .add zb 88 1,Om 10 89] [119,88,89] [])
def rH:zc:=(.seq (.seq (rgN [Om 84 10,On 85 20 3,Ok 86 rk 85,Ob 87 .lss zb 84 86] [84,85,86] []) (.cond (.t 87) .skip (.exit 2))) (.seq (.block 3 (.seq (rgN [On 91 20 3,Om 92 10,OK 93 m6 91 92,Om 90 93,Oe 94 0 90,Oe 95 1 90,Om 11 94,Om 12 95] [87,91,92,93,90,94,95] []) (.seq (rgN [oq 96 (.call yt) [.c (iv 0)],Oa 13,Oz 3 13 96] [96] []) (.seq (.seq (rgN [Oc 14 0] [] []) (.block 4 (.loop rG))) lJ)))) lK))
def lL:zc:=(.seq (rgN [On 121 3 8,Oz 3 6 121,oq 7 .mov [.c (bv true)]] [2,3,8,10,87,121] [3,8]) .ret)
def lM:zc:=(.seq (.seq (rgN [Oc 10 0] [1,9,31] []) (.block 2 (.loop rH))) lL)
def gV:zc:=(.seq (rgN [OB 3 0,Oa 6,oq 7 .mov [.c (bv false)]] [0,7] []) (.seq (.seq (rgN [On 15 20 3,Om 16 1,OK 17 su 15 16,Oj 18 .neq zR 17 0,Om 19 18,Wm 20 2 19,WL 21 20 19,Wm 22 1 19,WL 23 22 19,Wb 24 .neq zb 21 23 19,Op 25 19 24] [15,16,17,18,19,20,21,22,23,24] []) (.cond (.t 25) (.seq (rgN [⟨some 26,.build zF [],[],none⟩,Oz 3 6 26,oq 7 .mov [.c (bv false)]] [1,2,3,25,26] [3]) .ret) .skip)) (.seq (rgN [oq 27 (.call yt) [.c (iv 0)],Oa 8,Oz 3 8 27] [25,27] []) (.seq (.seq (rgN [Oc 9 0] [] []) (.block 0 (.loop vb))) lM))))
def fz:List zB:=[.cell 6 (some 3),.t 7]
theorem TC:zq Tryz.prog nF=some (bare gV,fz,122):=by kernel_rfl
def x9:zc:=(.seq (.seq (rgN [Om 33 10,Om 34 9,Ob 35 .lss zb 33 34] [33,34] []) (.cond (.t 35) .skip (.exit 0))) (.seq (.block 1 (.seq (.seq (rgN [Om 38 2,Om 39 10,Oi 40 3 38 39,On 41 3 40,Ok 42 p6 41,oq 43 (.un .not) [.t 42]] [35,38,39,40,41,42] []) (.cond (.t 43) (.seq (rgN [⟨some 44,.build zF [],[],none⟩,Oz 3 6 44,Oc 7 2] [1,2,3,9,10,43,44] [3]) .ret) .skip)) (.seq (rgN [Om 45 2,Om 46 10,Oi 47 3 45 46,OF 48 0 47,Ol 49 48] [43,45,46,47,48] []) (.cond (.t 49) (.seq (rgN [⟨some 50,.build zF [],[],none⟩,Oz 3 6 50,Oc 7 4] [1,2,3,9,10,49,50] [3]) .ret) .skip)))) (rgN [Om 36 10,Oj 37 .add zb 36 1,Om 10 37] [49,36,37] [])))
def tm:zc:=(.seq (.seq (rgN [Om 52 13,Om 53 1,OL 54 53,Ob 55 .lss zb 52 54] [52,53,54] []) (.cond (.t 55) .skip (.exit 2))) (.seq (.block 3 (.seq (rgN [Om 58 12,OF 59 19 3,Ol 60 59,Om 61 13,Oi 62 8 60 61,OF 63 7 62,Ol 64 63,Ok 65 yt 64,⟨some 66,.mkslice 3 1 zF [0],[.t 65],none⟩,oq 67 (.appendU 3 56) [.t 58,.t 66],Om 12 67] [55,58,59,60,61,62,63,64,65,66,67] []) (.seq (rgN [Om 68 1,Om 69 13,Oi 70 1 68 69,Ol 71 70,Oj 72 .eql zb 71 1] [68,69,70,71] []) (.cond (.t 72) (rgD [On 73 3 11,Om 74 12,Om 75 13,Oi 76 3 74 75,On 77 3 76,OK 78 sJ 73 77,Oz 3 11 78] [72,73,74,75,76,77,78] []) .skip)))) (rgN [Om 56 13,Oj 57 .add zb 56 1,Om 13 57] [72,56,57] [])))
def vp:zc:=(.seq (.seq (rgN [Om 90 17,Om 91 1,OL 92 91,Ob 93 .lss zb 90 92] [90,91,92] []) (.cond (.t 93) .skip (.exit 6))) (.seq (.block 7 (.seq (.seq (rgN [Om 96 1,Om 97 17,Oi 98 1 96 97,Ol 99 98,Oj 100 .eql zb 99 1] [93,96,97,98,99] []) (.cond (.t 100) (rgN [Om 101 16,Om 102 15,Om 103 17,Oi 104 1 102 103,Ol 105 104,Ob 106 .sub zb 101 105,Om 16 106] [100,101,102,103,104,105,106] []) .skip)) (rgD [Om 107 12,Om 108 17,Om 109 12,Om 110 17,Oi 111 3 109 110,On 112 3 111,Om 113 2,Om 114 14,Oi 115 3 113 114,On 116 3 115,Om 117 15,Om 118 17,Oi 119 1 117 118,Ol 120 119,Ok 121 yt 120,OK 122 p0 116 121,OK 123 eC 112 122,Oi 124 3 107 108,Oz 3 124 123] [100,107,108,109,110,111,112,113,114,115,116,117,118,119,120,121,122,123,124] []))) (rgN [Om 94 17,Oj 95 .add zb 94 1,Om 17 95] [94,95] [])))
def nf:zc:=(rgD [On 125 3 11,Om 126 2,Om 127 14,Oi 128 3 126 127,On 129 3 128,Om 130 16,Ok 131 yt 130,OK 132 p0 129 131,OK 133 sJ 125 132,Oz 3 11 133] [15,16,17,93,125,126,127,128,129,130,131,132,133] [])
def ng:zc:=(rgN [Om 82 14,Oj 83 .add zb 82 1,Om 14 83] [82,83] [])
def tn:zc:=(.seq (.seq (rgN [Om 79 14,Om 80 9,Ob 81 .lss zb 79 80] [79,80] []) (.cond (.t 81) .skip (.exit 4))) (.seq (.block 5 (.seq (rgN [On 85 20 3,Om 86 14,OK 87 m6 85 86,Om 84 87,Oe 88 0 84,Oe 89 1 84,Om 15 88,Om 16 89] [81,85,86,87,84,88,89] []) (.seq (.seq (rgN [Oc 17 0] [] []) (.block 6 (.loop vp))) nf))) ng))
def wa:zc:=(.seq (.seq (rgN [Om 134 18,Om 135 1,OL 136 135,Ob 137 .lss zb 134 136] [134,135,136] []) (.cond (.t 137) .skip (.exit 8))) (.seq (.block 9 (.seq (rgN [Om 140 1,Om 141 18,Oi 142 1 140 141,Ol 143 142,Oj 144 .eql zb 143 0,Om 145 144,Vm 146 12 145,Vm 147 18 145,Vi 148 3 146 147 145,Vn 149 3 148 145,Vk 150 ju 149 145,Vj 151 .gtr zb 150 0 145,Oq 152 145 151] [137,140,141,142,143,144,145,146,147,148,149,150,151] []) (.cond (.t 152) (rgD [On 153 3 11,Om 154 12,Om 155 18,Oi 156 3 154 155,On 157 3 156,OK 158 sJ 153 157,Oz 3 11 158] [152,153,154,155,156,157,158] []) .skip))) (rgN [Om 138 18,Oj 139 .add zb 138 1,Om 18 139] [152,138,139] [])))
def nh:zc:=(.seq (rgN [On 159 3 11,Oz 3 6 159,Oc 7 0] [1,11,12,18,137,159] [11]) .ret)
def ni:zc:=(.seq (.seq (rgN [Oc 18 0] [2,3,9,14,81] [3]) (.block 8 (.loop wa))) nh)
def nj:zc:=(.seq (.seq (rgN [Oc 14 0] [13,55] []) (.block 4 (.loop tn))) ni)
def qY:zc:=(.seq (rgN [oq 51 (.call yt) [.c (iv 0)],Oa 11,Oz 3 11 51] [10,35,51] []) (.seq (rgN [oq 12 .mov [.c zA]] [] []) (.seq (.seq (rgN [Oc 13 0] [] []) (.block 2 (.loop tm))) nj)))
def lI:zc:=(.seq (rgN [OB 3 0,Oa 6,Oc 7 0] [0,7] []) (.seq (rgN [On 19 20 3,Om 20 1,OK 21 su 19 20,Om 8 21] [19,20,21] []) (.seq (.seq (rgN [Om 22 8,Oj 23 .neq zR 22 0] [22] []) (.cond (.t 23) (.seq (rgN [⟨some 24,.build zF [],[],none⟩,Om 25 8,Oz 3 6 24,Om 7 25] [1,2,3,8,23,24,25] [3]) .ret) .skip)) (.seq (rgN [On 26 20 3,Ok 27 rk 26,Om 9 27] [8,23,26,27] []) (.seq (.seq (rgN [Om 28 2,OL 29 28,Om 30 9,Ob 31 .neq zb 29 30] [28,29,30] []) (.cond (.t 31) (.seq (rgN [⟨some 32,.build zF [],[],none⟩,Oz 3 6 32,Oc 7 3] [1,2,3,9,31,32] [3]) .ret) .skip)) (.seq (.seq (rgN [Oc 10 0] [31] []) (.block 0 (.loop x9))) qY))))))
def we:List zB:=[.cell 6 (some 3),.t 7]
theorem Zq:zq Tryz.prog rm=some (bare lI,we,160):=by kernel_rfl
def c8:zc:=(.seq (rgN [Oa 2] [] []) (.seq (rgN [Om 3 0,Ok 4 yt 3,Oz 3 2 4] [0,3,4] []) .ret))
def bu:List zB:=[.cell 2 (some 3)]
theorem Qg:zq Tryz.prog yY=some (bare c8,bu,5):=by kernel_rfl
def x7:zc:=(.seq (rgN [Ob 38 .lss zb 37 36] [] []) (.seq (.cond (.t 38) .skip (.exit 0)) (.seq (.block 1 (.seq (rgN [Oi 39 3 35 37,On 40 3 39,Oa 10,Oz 3 10 40] [38,39,40] []) (.seq (.seq (rgN [On 41 3 10,Ok 42 ri 41,oq 43 (.un .not) [.t 42]] [41,42] []) (.cond (.t 43) (.seq (rgN [⟨some 44,.build zF [],[],none⟩,Oz 3 6 44,Oc 7 2] [1,2,3,35,36,37,10,43,44] [3,10]) .ret) .skip)) (.seq (rgN [On 45 3 10,Ok 46 xt 45,Oj 47 .lss zb 46 0] [10,43,45,46] [10]) (.cond (.t 47) (.seq (rgN [⟨some 48,.build zF [],[],none⟩,Oz 3 6 48,Oc 7 4] [1,2,3,35,36,37,47,48] [3]) .ret) .skip))))) (rgN [Oj 49 .add zb 37 1,Om 37 49] [47,49] []))))
def tj:zc:=(.seq (rgN [Ob 59 .lss zb 58 57] [] []) (.seq (.cond (.t 59) .skip (.exit 2)) (.seq (.block 3 (.seq (rgN [Om 60 58,Om 13 60] [59,60] []) (rgN [Om 61 12,Om 62 13,OF 63 19 3,Ol 64 63,Om 65 13,Oi 66 8 64 65,OF 67 7 66,Ol 68 67,Ok 69 zN 68,Oi 70 3 61 62,Oz 3 70 69] [13,61,62,63,64,65,66,67,68,69,70] []))) (rgN [Oj 71 .add zb 58 1,Om 58 71] [71] []))))
def xr:zc:=(.seq (rgN [Ob 91 .lss zb 90 89] [] []) (.seq (.cond (.t 91) .skip (.exit 6)) (.seq (.block 7 (.seq (rgN [Om 92 90,Oi 93 1 88 90,Ol 94 93,Om 18 92,Om 19 94] [91,92,93,94] []) (.block 8 (.seq (rgN [Om 96 19,Oj 97 .eql zb 96 0,Om 95 97] [96,97] []) (.cond (.t 95) .skip (.seq (rgN [Om 99 1,Om 100 18,Oi 101 1 99 100,Ol 102 101,Oj 103 .eql zb 102 1,Om 98 103] [95,99,100,101,102,103] []) (.cond (.t 98) (rgN [Om 104 17,Om 105 19,Ob 106 .sub zb 104 105,Om 17 106] [18,19,98,104,105,106] []) (.seq (rgN [Om 108 1,Om 109 18,Oi 110 1 108 109,Ol 111 110,Oj 112 .eql zb 111 0,Om 107 112] [98,108,109,110,111,112] []) (.cond (.t 107) (rgD [Om 113 12,Om 114 18,Om 115 12,Om 116 18,Oi 117 3 115 116,On 118 3 117,On 119 3 15,Om 120 19,Ok 121 zN 120,OK 122 vn 119 121,OK 123 pY 118 122,Oi 124 3 113 114,Oz 3 124 123] [18,19,107,113,114,115,116,117,118,119,120,121,122,123,124] []) .skip))))))))) (rgN [Oj 125 .add zb 90 1,Om 90 125] [18,19,95,107,125] []))))
def na:zc:=(rgD [On 126 3 11,On 127 3 15,Om 128 17,Ok 129 zN 128,OK 130 vn 127 129,OK 131 sI 126 130,Oz 3 11 131] [15,17,88,89,90,91,126,127,128,129,130,131] [15])
def ti:zc:=(rgN [Oj 132 .add zb 74 1,Om 74 132] [15,14,81,132] [15])
def vo:zc:=(.seq (rgN [Ob 75 .lss zb 74 73] [] []) (.seq (.cond (.t 75) .skip (.exit 4)) (.seq (.block 5 (.seq (rgN [Om 76 74,Oi 77 3 72 74,On 78 3 77,Oa 15,Om 14 76,Oz 3 15 78] [75,76,77,78] []) (.seq (.seq (rgN [On 79 3 15,Ok 80 xt 79,Oj 81 .eql zb 80 0] [79,80] []) (.cond (.t 81) (.exit 5) .skip)) (.seq (rgN [On 83 20 3,Om 84 14,OK 85 kh 83 84,Om 82 85,Oe 86 0 82,Oe 87 1 82,Om 16 86,Om 17 87] [14,81,83,84,85,82,86,87] []) (.seq (.seq (rgN [Om 88 16,OL 89 88,Oc 90 0] [16] []) (.block 6 (.loop xr))) na))))) ti)))
def x8:zc:=(.seq (rgN [Ob 136 .lss zb 135 134] [] []) (.seq (.cond (.t 136) .skip (.exit 9)) (.seq (.block 10 (.seq (rgN [Om 137 135,Oi 138 1 133 135,Ol 139 138,Om 20 137,Om 21 139] [136,137,138,139] []) (.seq (rgN [Om 140 21,Oj 141 .eql zb 140 0,Om 142 141,Vm 143 12 142,Vm 144 20 142,Vi 145 3 143 144 142,Vn 146 3 145 142,Vk 147 xt 146 142,Vj 148 .gtr zb 147 0 142,Oq 149 142 148] [21,140,141,142,143,144,145,146,147,148] []) (.cond (.t 149) (rgD [On 150 3 11,Om 151 12,Om 152 20,Oi 153 3 151 152,On 154 3 153,OK 155 sI 150 154,Oz 3 11 155] [20,149,150,151,152,153,154,155] []) .skip)))) (rgN [Oj 156 .add zb 135 1,Om 135 156] [20,149,156] []))))
def nc:zc:=(.seq (rgN [On 157 3 11,Oz 3 6 157,Oc 7 0] [11,12,133,134,135,136,157] [11,55]) .ret)
def nd:zc:=(.seq (.seq (rgN [Om 133 1,OL 134 133,Oc 135 0] [1,3,72,73,74,75] [3]) (.block 9 (.loop x8))) nc)
def ne:zc:=(.seq .skip (.seq (.seq (rgN [Om 72 2,OL 73 72,Oc 74 0] [2,57,58,59] []) (.block 4 (.loop vo))) nd))
def qV:zc:=(.seq (rgN [On 50 20 3,Om 51 1,OK 52 tQ 50 51,Oa 11,Oz 3 11 52] [35,36,37,38,50,51,52] []) (.seq (rgN [Om 53 1,OL 54 53,⟨some 55,.mk 3 56 zF,[.t 54,.t 54],none⟩,Om 12 55] [53,54,55] []) (.seq (.seq (rgN [Om 56 12,OL 57 56,Oc 58 0] [56] []) (.block 2 (.loop tj))) ne)))
def lr:zc:=(.seq (rgN [OB 3 0,Oa 6,Oc 7 0] [0,7] []) (.seq (.seq (rgN [On 22 20 3,Om 23 1,OK 24 sY 22 23,Om 8 24] [22,23,24] []) (.seq (rgN [Om 25 8,Oj 26 .neq zR 25 0] [25] []) (.cond (.t 26) (.seq (rgN [⟨some 27,.build zF [],[],none⟩,Om 28 8,Oz 3 6 27,Om 7 28] [1,2,3,8,26,27,28] [3]) .ret) .skip))) (.seq (.seq (rgN [Om 29 2,OL 30 29,On 31 20 3,Ok 32 qf 31,Ob 33 .neq zb 30 32] [8,26,29,30,31,32] []) (.cond (.t 33) (.seq (rgN [⟨some 34,.build zF [],[],none⟩,Oz 3 6 34,Oc 7 3] [1,2,3,33,34] [3]) .ret) .skip)) (.seq (.seq (rgN [Om 35 2,OL 36 35,Oc 37 0] [33] []) (.block 0 (.loop x7))) qV))))
def wd:List zB:=[.cell 6 (some 3),.t 7]
theorem Zp:zq Tryz.prog uw=some (bare lr,wd,158):=by kernel_rfl
def gP:zc:=(.seq (rgN [⟨some 0,.alloc [iv 0,iv 0,iv 0,iv 0,iv 0,iv 0,iv 0,iv 0,iv 0,iv 0,iv 0,iv 0,iv 0,iv 0,iv 0,iv 0,iv 0,iv 0,zA,zA],[],none⟩] [] []) (.seq (rgN [oq 1 (.build [iv 0,iv 0,iv 0,iv 0,iv 0,iv 0] [(0,1),(1,1)]) [.c (iv 1),.c (iv 1)],oq 2 (.build [iv 0,iv 0,iv 0,iv 0,iv 0,iv 0] [(0,1),(1,1)]) [.c (iv 1),.c (iv 1)],oq 3 (.mkslice 1 3 [iv 0] [0,1,2]) [.c (iv 0),.c (iv 0),.c (iv 0)],oq 4 (.build [iv 0,iv 0,iv 0,iv 0,iv 0,iv 0] [(0,1),(1,1)]) [.c (iv 1),.c (iv 1)],oq 5 (.build [iv 0,iv 0,iv 0,iv 0,iv 0,iv 0,iv 0,iv 0] [(0,1),(1,6),(7,1)]) [.c (iv 0),.t 4,.c (iv 10)],oq 6 (.build [iv 0,iv 0,iv 0,iv 0,iv 0,iv 0] [(0,1)]) [.c (iv 1)],oq 7 (.build [iv 0,iv 0,iv 0,iv 0,iv 0,iv 0,iv 0,iv 0] [(0,1),(1,6),(7,1)]) [.c (iv 1),.t 6,.c (iv 6)],oq 8 (.build [iv 0,iv 0,iv 0,iv 0,iv 0,iv 0] [(0,1),(1,1)]) [.c (iv 0),.c (iv 1)],oq 9 (.build [iv 0,iv 0,iv 0,iv 0,iv 0,iv 0,iv 0,iv 0] [(0,1),(1,6),(7,1)]) [.c (iv 2),.t 8,.c (iv 6)],oq 10 (.mkslice 8 3 [iv 0,iv 0,iv 0,iv 0,iv 0,iv 0,iv 0,iv 0] [0,1,2]) [.t 5,.t 7,.t 9],⟨some 11,.build [iv 0,iv 0,iv 0,iv 0,iv 0,iv 0,iv 0,iv 0,iv 0,iv 0,iv 0,iv 0,iv 0,iv 0,iv 0,iv 0,iv 0,iv 0,zA,zA] [(0,6),(6,6),(18,1),(19,1)],[.t 1,.t 2,.t 3,.t 10],none⟩,Oz 20 0 11] [1,2,3,4,5,6,7,8,9,10,11] []) .ret))
def fw:List zB:=[.cell 0 (some 20)]
theorem Tz:zq Tryz.prog ux=some (bare gP,fw,12):=by kernel_rfl
def qL:zc:=(.seq (rgN [Ob 20 .lss zb 19 18] [] []) (.seq (.cond (.t 20) .skip (.exit 0)) (.seq (.block 1 (.seq (rgN [Om 21 19,Oi 22 3 17 19,On 23 3 22,Oa 10,Om 9 21,Oz 3 10 23] [20,21,22,23] []) (.seq (.seq (rgN [On 24 3 10,Ok 25 ri 24,oq 26 (.un .not) [.t 25],Om 27 26,Wn 28 3 10 27,Wk 29 xt 28 27,Wj 30 .leq zb 29 0 27,Op 31 27 30,Om 32 31,Wn 33 3 10 32,Wn 34 3 6 32,WK 35 ml 33 34 32,Wj 36 .geq zb 35 0 32,Op 37 32 36] [24,25,26,27,28,29,30,31,32,33,34,35,36] []) (.cond (.t 37) (.exit 1) .skip)) (.seq (rgN [On 38 3 10,On 39 3 4,OK 40 pY 38 39,Oa 11,Oz 3 11 40] [10,37,38,39,40] [10]) (.seq (.seq (rgN [On 41 3 11,Ok 42 xt 41,Oj 43 .lss zb 42 0] [41,42] []) (.cond (.t 43) (rgN [On 44 3 11,Ok 45 qc 44,Oz 3 11 45] [43,44,45] []) .skip)) (.seq (rgN [On 46 2 7,oq 47 (.build [bv false,iv 0] []) [],Ob 48 .eql wD 46 47,Om 49 48,Wn 50 3 11 49,Wn 51 3 8 49,WK 52 ml 50 51 49,Wj 53 .lss zb 52 0 49,Op 54 49 53] [43,46,47,48,49,50,51,52,53] []) (.cond (.t 54) (rgD [ox (.start [55,56,57]) [],Om 55 9,oq 56 (.build [bv false,iv 0] [(0,1),(1,1)]) [.c (bv true),.t 55],On 57 3 11,Oz 2 7 56,oq 57 (.chk (.load (some 3))) [.t 11],Oz 3 8 57] [9,11,54,55,56,57] [11]) .skip))))))) (rgN [Oj 58 .add zb 19 1,Om 19 58] [9,11,54,10,37,58] [10,11]))))
def kJ:zc:=(.seq (rgD [OF 59 1 7,Ol 60 59,OF 61 0 7,Ol 62 61,Om 2 60,Om 3 62] [4,6,7,8,17,18,19,20,59,60,61,62] [4,6,7,8]) .ret)
def eN:zc:=(.seq (rgN [Oc 2 0,oq 3 .mov [.c (bv false)]] [2,3] []) (.seq (rgN [oq 13 (.call TK) [.c (iv 1),.c (iv 2)],Om 12 13,Oe 14 0 12,Oe 15 1 12,Oa 4,Oz 3 4 14,Om 5 15] [13,12,14,15,5] []) (.seq (rgN [oq 16 (.call zN) [.c (iv 1)],Oa 6,Oz 3 6 16] [16] []) (.seq (rgN [oq 7 (.alloc [bv false,iv 0]) []] [] []) (.seq (rgN [Oa 8] [] []) (.seq (.seq (rgN [Om 17 0,OL 18 17,Oc 19 0] [0] []) (.block 0 (.loop qL))) kJ))))))
def db:List zB:=[.t 2,.t 3]
theorem SW:zq Tryz.prog r9=some (bare eN,db,63):=by kernel_rfl
def w8:zc:=(.seq (rgN [Ob 22 .lss zb 21 20] [] []) (.seq (.cond (.t 22) .skip (.exit 0)) (.seq (.block 1 (.seq (rgN [Oi 23 1 19 21,Ol 24 23,Om 7 24] [22,23,24] []) (.seq (rgN [Om 25 7,Oj 26 .lss zb 25 (-1),Om 27 26,Wm 28 7 27,Wj 29 .gtr zb 28 1 27,Op 30 27 29] [7,25,26,27,28,29] []) (.cond (.t 30) (.seq (rgN [Oc 4 4] [19,20,21,30] []) .ret) .skip)))) (rgN [Oj 31 .add zb 21 1,Om 21 31] [30,31] []))))
def lu:zc:=(.seq (rgN [Oc 4 0] [19,20,21,22] []) .ret)
def gO:zc:=(.seq (rgN [OB 2 0,Oc 4 0] [0,4] []) (.seq (.seq (rgN [On 8 20 2,Ok 9 uy 8,Om 5 9] [8,9] []) (.seq (rgN [Om 10 5,Oj 11 .neq zR 10 0] [10] []) (.cond (.t 11) (.seq (rgN [Om 12 5,Om 4 12] [1,2,5,11,12] [2]) .ret) .skip))) (.seq (.seq (rgN [Om 13 1,OL 14 13,OF 15 19 2,Ol 16 15,OL 17 16,Ob 18 .neq zb 14 17] [2,5,11,13,14,15,16,17] [2]) (.cond (.t 18) (.seq (rgN [Oc 4 3] [1,18] []) .ret) .skip)) (.seq (.seq (rgN [Om 19 1,OL 20 19,Oc 21 0] [1,18] []) (.block 0 (.loop w8))) lu))))
def vw:List zB:=[.t 4]
theorem Tx:zq Tryz.prog sY=some (bare gO,vw,32):=by kernel_rfl
def xy:zc:=(.seq (rgN [Ob 39 .lss zb 38 37] [] []) (.seq (.cond (.t 39) .skip (.exit 0)) (.seq (.block 1 (.seq (rgN [Om 40 38,Oi 41 1 36 38,Ol 42 41,Om 10 40,Om 11 42] [39,40,41,42] []) (.seq (rgN [Om 43 11] [11] []) (.block 2 (.seq (rgN [Oj 46 .eql zb 43 (-1),Om 45 46] [46] []) (.cond (.t 45) .skip (.seq (rgN [Oj 48 .eql zb 43 0,Om 47 48] [45,48] []) (.cond (.t 47) (rgN [Om 49 8,Om 50 10,oq 51 (.mkslice 1 1 [iv 0] [0]) [.t 50],oq 52 (.append 1 8) [.t 49,.t 51],Om 8 52] [10,43,47,49,50,51,52] []) (.seq (rgN [Oj 54 .eql zb 43 1,Om 53 54] [43,47,54] []) (.cond (.t 53) (rgN [Om 55 9,OF 56 19 2,Ol 57 56,Om 58 10,Oi 59 8 57 58,On 60 8 59,oq 61 (.mkslice 8 1 [iv 0,iv 0,iv 0,iv 0,iv 0,iv 0,iv 0,iv 0] [0]) [.t 60],oq 62 (.append 8 64) [.t 55,.t 61],Om 9 62] [10,53,55,56,57,58,59,60,61,62] []) (.seq (rgN [⟨some 44,.build [zA,zA] [],[],none⟩,Oz 2 4 44,oq 5 .mov [.c zA],Oc 6 4] [2,8,9,36,37,38,10,53,44] [2]) .ret))))))))))) (rgN [Oj 63 .add zb 38 1,Om 38 63] [10,43,45,63] []))))
def uB:zc:=(.seq (rgN [Ob 74 .lss zb 73 72] [] []) (.seq (.cond (.t 74) .skip (.exit 3)) (.seq (.block 4 (.seq (rgN [Oi 75 1 71 73,Ol 76 75,Om 15 76] [74,75,76] []) (rgD [OF 77 0 13,Ol 78 77,OF 79 19 2,Ol 80 79,Om 81 15,Oi 82 8 80 81,OF 83 7 82,Ol 84 83,Ok 85 zN 84,⟨some 86,.mkslice 3 1 zF [0],[.t 85],none⟩,oq 87 (.append 3 56) [.t 78,.t 86],OF 88 0 13,Oz 1 88 87] [15,77,78,79,80,81,82,83,84,85,86,87,88] []))) (rgN [Oj 89 .add zb 73 1,Om 73 89] [89] []))))
def uC:zc:=(.seq (rgN [Ob 101 .lss zb 100 99] [] []) (.seq (.cond (.t 101) .skip (.exit 7)) (.seq (.block 8 (.seq (rgN [Oi 102 8 98 100,On 103 8 102,oq 19 (.alloc [iv 0,iv 0,iv 0,iv 0,iv 0,iv 0,iv 0,iv 0]) [],Oz 8 19 103] [101,102,103] []) (rgN [Om 104 17,On 105 20 12,Om 106 16,On 107 8 19,oq 108 (.call yr) [.t 105,.t 106,.t 107],Ob 109 .sub zb 104 108,Om 17 109] [19,104,105,106,107,108,109] [19]))) (rgN [Oj 110 .add zb 100 1,Om 100 110] [110] []))))
def uD:zc:=(.seq (rgN [Ob 117 .lss zb 116 115] [] []) (.seq (.cond (.t 117) .skip (.exit 9)) (.seq (.block 10 (.seq (rgN [Oi 118 1 114 116,Ol 119 118,Om 22 119] [117,118,119] []) (rgD [OF 120 0 20,Ol 121 120,On 122 20 12,Om 123 16,OF 124 19 2,Ol 125 124,Om 126 22,Oi 127 8 125 126,On 128 8 127,oq 129 (.call yr) [.t 122,.t 123,.t 128],Ok 130 zN 129,⟨some 131,.mkslice 3 1 zF [0],[.t 130],none⟩,oq 132 (.append 3 56) [.t 121,.t 131],OF 133 0 20,Oz 1 133 132] [22,120,121,122,123,124,125,126,127,128,129,130,131,132,133] []))) (rgN [Oj 134 .add zb 116 1,Om 116 134] [134] []))))
def lC:zc:=(rgN [OF 135 1 13,Ol 136 135,On 137 4 20,⟨some 138,.mkslice 4 1 [zA,bv false,zA,zA] [0],[.t 137],none⟩,oq 139 (.append 4 80) [.t 136,.t 138],OF 140 1 13,Oz 1 140 139] [16,20,114,115,116,117,135,136,137,138,139,140] [20])
def lD:zc:=(.seq (rgN [Om 111 17,Ok 112 zN 111,⟨some 113,.build [zA,bv false,zA,zA] [(1,3)],[.t 112],none⟩,⟨some 20,.alloc [zA,bv false,zA,zA],[],none⟩,Oz 4 20 113] [17,98,99,100,101,111,112,113] []) (.seq (.seq (rgN [Om 114 8,OL 115 114,Oc 116 0] [] []) (.block 9 (.loop uD))) lC))
def lE:zc:=(rgN [Oj 141 .add zb 92 1,Om 92 141] [141] [])
def uE:zc:=(.seq (rgN [Ob 93 .lss zb 92 91] [] []) (.seq (.cond (.t 93) .skip (.exit 5)) (.seq (.block 6 (.seq (rgN [Om 94 92,Om 16 94] [93,94] []) (.seq (rgN [On 95 20 12,Om 96 16,OK 97 xS 95 96,Om 17 97] [95,96,97] []) (.seq (.seq (rgN [Om 98 9,OL 99 98,Oc 100 0] [] []) (.block 7 (.loop uC))) lD)))) lE)))
def lF:zc:=(.seq (rgN [On 142 2 13,Om 143 8,Oz 2 4 142,Om 5 143,Oc 6 0] [2,8,9,12,13,91,92,93,142,143] [2,12,13]) .ret)
def lH:zc:=(.seq (.seq (rgN [On 90 20 12,Ok 91 x5 90,Oc 92 0] [71,72,73,74,90] []) (.block 5 (.loop uE))) lF)
def mi:zc:=(.seq (rgN [On 64 20 2,⟨some 65,.build [iv 0,iv 0,iv 0,iv 0,iv 0,iv 0,iv 0,iv 0,iv 0,iv 0,iv 0,iv 0,iv 0,iv 0,iv 0,iv 0,iv 0,iv 0,zA,zA] [(0,20)],[.t 64],none⟩,⟨some 12,.alloc [iv 0,iv 0,iv 0,iv 0,iv 0,iv 0,iv 0,iv 0,iv 0,iv 0,iv 0,iv 0,iv 0,iv 0,iv 0,iv 0,iv 0,iv 0,zA,zA],[],none⟩,Oz 20 12 65] [36,37,38,39,64,65] []) (.seq (.seq (rgN [On 66 20 12,Om 67 9,OK 68 vj 66 67,oq 69 (.un .not) [.t 68]] [66,67,68] []) (.cond (.t 69) (.seq (rgN [⟨some 70,.build [zA,zA] [],[],none⟩,Oz 2 4 70,oq 5 .mov [.c zA],Oc 6 14] [2,8,9,12,69,70] [2,12]) .ret) .skip)) (.seq (rgN [⟨some 13,.alloc [zA,zA],[],none⟩] [69] []) (.seq (.seq (rgN [Om 71 8,OL 72 71,Oc 73 0] [] []) (.block 3 (.loop uB))) lH))))
def gR:zc:=(.seq (rgN [OB 2 0,⟨some 4,.alloc [zA,zA],[],none⟩,oq 5 .mov [.c zA],Oc 6 0] [0,5,6] []) (.seq (.seq (rgN [On 23 20 2,Ok 24 uy 23,Om 7 24] [23,24] []) (.seq (rgN [Om 25 7,Oj 26 .neq zR 25 0] [25] []) (.cond (.t 26) (.seq (rgN [⟨some 27,.build [zA,zA] [],[],none⟩,Om 28 7,Oz 2 4 27,oq 5 .mov [.c zA],Om 6 28] [1,2,7,26,27,28] [2]) .ret) .skip))) (.seq (.seq (rgN [Om 29 1,OL 30 29,OF 31 19 2,Ol 32 31,OL 33 32,Ob 34 .neq zb 30 33] [7,26,29,30,31,32,33] []) (.cond (.t 34) (.seq (rgN [⟨some 35,.build [zA,zA] [],[],none⟩,Oz 2 4 35,oq 5 .mov [.c zA],Oc 6 3] [1,2,34,35] [2]) .ret) .skip)) (.seq (rgN [oq 8 .mov [.c zA]] [34] []) (.seq (rgN [oq 9 .mov [.c zA]] [] []) (.seq (.seq (rgN [Om 36 1,OL 37 36,Oc 38 0] [1] []) (.block 0 (.loop xy))) mi))))))
def vz:List zB:=[.cell 4 (some 2),.t 5,.t 6]
theorem TB:zq Tryz.prog nB=some (bare gR,vz,144):=by kernel_rfl
def gX:zc:=(.seq (rgN [OB 1 0,⟨some 2,.alloc [iv 0,bv false,zA,zA,zA,zA,zA],[],none⟩,Oc 3 0] [0,3] []) (.seq (.seq (rgN [On 10 2 1,Ok 11 lq 10,Om 4 11] [10,11] []) (.seq (rgN [Om 12 4,Oj 13 .neq zR 12 0] [12] []) (.cond (.t 13) (.seq (rgN [⟨some 14,.build [iv 0,bv false,zA,zA,zA,zA,zA] [],[],none⟩,Om 15 4,Oz 7 2 14,Om 3 15] [1,4,13,14,15] [1]) .ret) .skip))) (.seq (rgN [On 16 2 1,oq 17 (.callI tg) [.t 16],Om 5 17] [4,13,16,17] []) (.seq (.seq (rgN [Om 19 5,oq 20 (.callI uR) [.t 19],Om 18 20,Oe 21 0 18,Oe 22 1 18,Om 6 21,Om 7 22] [19,20,18,21,22] []) (.seq (rgN [Om 23 7,oq 24 (.un .not) [.t 23]] [7,23] []) (.cond (.t 24) (.seq (rgN [Om 25 6,⟨some 26,.build [iv 0,bv false,zA,zA,zA,zA,zA] [(0,1),(5,1)],[.c (iv 2),.t 25],none⟩,Oz 7 2 26,Oc 3 0] [1,5,6,24,25,26] [1]) .ret) .skip))) (.seq (rgN [Om 27 5,OF 28 0 1,Ol 29 28,oq 30 (.callI pg) [.t 27,.t 29]] [1,6,24,27,28,29,30] [1]) (.seq (.seq (rgN [Om 32 5,oq 33 (.callI x6) [.t 32],Om 31 33,Oe 34 0 31,Oe 35 1 31,Om 8 34,Om 9 35] [32,33,31,34,35] []) (.seq (rgN [Om 36 9,oq 37 (.un .not) [.t 36]] [9,36] []) (.cond (.t 37) (.seq (rgN [Om 38 5,Ok 39 qQ 38,Om 40 5,Om 41 8,OK 42 bE 40 41,⟨some 43,.build [iv 0,bv false,zA,zA,zA,zA,zA] [(0,1),(4,1),(6,1)],[.c (iv 3),.t 39,.t 42],none⟩,Oz 7 2 43,Oc 3 0] [5,8,37,38,39,40,41,42,43] []) .ret) .skip))) (.seq (rgD [ox (.start [44,45,46,47,48,49,50,51]) [],Om 44 5,ON 45 44,OF 46 5 45,On 47 3 46,Om 48 5,Om 50 5,oq 49 (.callM qQ [44,45,46,47,48,49,50,51]) [.t 48],oq 44 (.chk (.mov)) [.t 5],oq 45 (.chk (.nilChk)) [.t 44],oq 46 (.chk (.faddr 5)) [.t 45],oq 47 (.chk (.load (some 3))) [.t 46],oq 50 (.chk (.mov)) [.t 5],oq 51 (.callM td [44,45,46,47,48,49,50,51]) [.t 50],oq 44 (.chk (.mov)) [.t 5],oq 45 (.chk (.nilChk)) [.t 44],oq 46 (.chk (.faddr 5)) [.t 45],oq 47 (.chk (.load (some 3))) [.t 46],⟨some 52,.build [iv 0,bv false,zA,zA,zA,zA,zA] [(0,1),(1,3),(4,1),(5,1)],[.c (iv 1),.t 47,.t 49,.t 51],none⟩,Oz 7 2 52,Oc 3 0] [5,8,37,44,45,46,47,48,50,49,51,52] []) .ret)))))))
def fA:List zB:=[.cell 2 (some 7),.t 3]
theorem Zr:zq Tryz.prog bK=some (bare gX,fA,53):=by kernel_rfl
def Yp:zc:=(.seq (rgN [Oa 2] [] []) (.seq (rgN [Om 3 0,Oj 4 .lss xG 3 0,Om 5 0,Ok 6 jt 5,oq 7 (.call vW) [.c (.val (.int .u64 1))],oq 8 (.call rj) [.t 4,.t 6,.t 7],Oz 3 2 8] [0,3,4,5,6,7,8] []) .ret))
def YH:List zB:=[.cell 2 (some 3)]
theorem M3:zq Tryz.prog zN=some (bare Yp,YH,9):=by kernel_rfl
def TS:zc:=(.seq (rgN [OB 2 0,OB 3 1,Oa 4] [0,1] []) (.seq (rgN [On 13 3 2,On 14 3 3,OK 15 gB 13 14,Om 12 15,Oe 16 0 12,Oe 17 1 12,Om 5 16,Om 6 17] [13,14,15,12,16,17] []) (.seq (rgN [OF 18 2 2,Ol 19 18,OF 20 2 3,Ol 21 20,OK 22 qe 19 21,Om 7 22] [18,19,20,21,22] []) (.seq (.seq (rgN [OF 23 0 2,Ol 24 23,OF 25 0 3,Ol 26 25,Ob 27 .eql uz 24 26] [23,24,25,26] []) (.cond (.t 27) (.seq (rgD [OF 28 0 2,Ol 29 28,Om 30 5,Om 31 6,OK 32 jc 30 31,Om 33 7,oq 34 (.call rj) [.t 29,.t 32,.t 33],Oz 3 4 34] [2,3,5,6,7,27,28,29,30,31,32,33,34] [2,3]) .ret) .skip)) (.seq (.seq (rgN [Om 36 5,Om 37 6,OK 38 Zx 36 37,Om 35 38,Oe 39 0 35,Oe 40 1 35,Om 8 39,Om 9 40] [27,36,37,38,35,39,40] []) (.seq (rgN [Om 41 9] [9] []) (.cond (.t 41) (.seq (rgN [OF 42 0 2,Ol 43 42,Om 44 8,Om 45 7,oq 46 (.call rj) [.t 43,.t 44,.t 45],Oz 3 4 46] [2,3,5,6,7,8,41,42,43,44,45,46] [2,3]) .ret) .skip))) (.seq (rgN [Om 48 6,Om 49 5,OK 50 Zx 48 49,Om 47 50,Oe 51 0 47,Oe 52 1 47,Om 10 51,Om 11 52] [2,5,6,8,41,48,49,50,47,51,52,11] [2]) (.seq (rgN [OF 53 0 3,Ol 54 53,Om 55 10,Om 56 7,oq 57 (.call rj) [.t 54,.t 55,.t 56],Oz 3 4 57] [3,7,10,53,54,55,56,57] [3]) .ret)))))))
def ZV:List zB:=[.cell 4 (some 3)]
theorem ack:zq Tryz.prog sI=some (bare TS,ZV,58):=by kernel_rfl
def ue:zc:=(.seq (rgN [Ob 11 .lss zb 10 9] [] []) (.seq (.cond (.t 11) .skip (.exit 0)) (.seq (.block 1 (.seq (rgN [Om 12 10,Oi 13 1 8 10,Ol 14 13,Om 6 12,Om 7 14] [11,12,13,14] []) (.seq (rgN [Om 15 7,Oj 16 .eql zb 15 1] [7,15] []) (.cond (.t 16) (rgN [Om 17 5,OF 18 19 2,Ol 19 18,Om 20 6,Oi 21 8 19 20,OF 22 7 21,Ol 23 22,Ob 24 .add xG 17 23,Om 5 24] [6,16,17,18,19,20,21,22,23,24] []) .skip)))) (rgN [Oj 25 .add zb 10 1,Om 10 25] [6,16,25] []))))
def mh:zc:=(.seq (rgN [Om 26 5,Ok 27 zN 26,Oz 3 4 27] [2,5,8,9,10,11,26,27] [2]) .ret)
def jF:zc:=(.seq (rgN [OB 2 0,Oa 4] [0] []) (.seq (rgN [Oc 5 0] [] []) (.seq (.seq (rgN [Om 8 1,OL 9 8,Oc 10 0] [1] []) (.block 0 (.loop ue))) mh)))
def gk:List zB:=[.cell 4 (some 3)]
theorem XQ:zq Tryz.prog tQ=some (bare jF,gk,28):=by kernel_rfl
def ua:zc:=(.seq (.seq (rgN [Om 18 6,Om 19 1,OL 20 19,Ob 21 .lss zb 18 20] [18,19,20] []) (.cond (.t 21) .skip (.exit 0))) (.seq (.block 1 (.seq (rgN [Om 24 1,Om 25 6,Oi 26 1 24 25,Ol 27 26,Oj 28 .lss zb 27 (-1),Om 29 28,Wm 30 1 29,Wm 31 6 29,Wi 32 1 30 31 29,Wl 33 32 29,Wj 34 .gtr zb 33 1 29,Op 35 29 34] [21,24,25,26,27,28,29,30,31,32,33,34] []) (.cond (.t 35) (.seq (rgN [Oc 4 4] [1,6,35] []) .ret) .skip))) (rgN [Om 22 6,Oj 23 .add zb 22 1,Om 6 23] [35,22,23] [])))
def jS:zc:=(.seq (rgN [Oc 4 0] [1,6,21] []) .ret)
def bh:zc:=(.seq (rgN [OB 2 0,Oc 4 0] [0,4] []) (.seq (rgN [On 7 20 2,Ok 8 ss 7,Om 5 8] [7,8] []) (.seq (.seq (rgN [Om 9 5,Oj 10 .neq zR 9 0] [9] []) (.cond (.t 10) (.seq (rgN [Om 11 5,Om 4 11] [1,2,5,10,11] [2]) .ret) .skip)) (.seq (.seq (rgN [Om 12 1,OL 13 12,OF 14 19 2,Ol 15 14,OL 16 15,Ob 17 .neq zb 13 16] [2,5,10,12,13,14,15,16] [2]) (.cond (.t 17) (.seq (rgN [Oc 4 3] [1,17] []) .ret) .skip)) (.seq (.seq (rgN [Oc 6 0] [17] []) (.block 0 (.loop ua))) jS)))))
def uu:List zB:=[.t 4]
theorem Ql:zq Tryz.prog su=some (bare bh,uu,36):=by kernel_rfl
def yA:zc:=(.seq (.seq (rgN [Om 12 3,Oj 13 .lss zb 12 6] [12] []) (.cond (.t 13) .skip (.exit 0))) (.seq (.block 1 (.seq (rgD [Om 16 3,OF 17 12 1,oq 18 (.iaddrA 6 1) [.t 17,.t 16],Ol 19 18,Oj 20 .lss zb 19 0,Om 21 20,Wm 22 3 21,WF 23 12 1 21,⟨some 24,.iaddrA 6 1,[.t 23,.t 22],some (21,false)⟩,Wl 25 24 21,Wj 26 .gtr zb 25 4 21,Op 27 21 26,Om 28 27,Wm 29 3 28,WF 30 6 1 28,⟨some 31,.iaddrA 6 1,[.t 30,.t 29],some (28,false)⟩,Wl 32 31 28,Wj 33 .lss zb 32 0 28,Op 34 28 33,Om 35 34,Wm 36 3 35,WF 37 6 1 35,⟨some 38,.iaddrA 6 1,[.t 37,.t 36],some (35,false)⟩,Wl 39 38 35,Wm 40 3 35,WF 41 0 1 35,⟨some 42,.iaddrA 6 1,[.t 41,.t 40],some (35,false)⟩,Wl 43 42 35,Wb 44 .gtr zb 39 43 35,Op 45 35 44,Om 46 45,Wm 47 3 46,WF 48 12 1 46,⟨some 49,.iaddrA 6 1,[.t 48,.t 47],some (46,false)⟩,Wl 50 49 46,Wj 51 .eql zb 50 0 46,Wm 52 51 46,Vm 53 3 52,VF 54 6 1 52,⟨some 55,.iaddrA 6 1,[.t 54,.t 53],some (52,true)⟩,Vl 56 55 52,Vm 57 3 52,VF 58 0 1 52,⟨some 59,.iaddrA 6 1,[.t 58,.t 57],some (52,true)⟩,Vl 60 59 52,Vb 61 .neq zb 56 60 52,Wq 62 52 61 46,Op 63 46 62] [13,16,17,18,19,20,21,22,23,24,25,26,27,28,29,30,31,32,33,34,35,36,37,38,39,40,41,42,43,44,45,46,47,48,49,50,51,52,53,54,55,56,57,58,59,60,61,62] []) (.cond (.t 63) (.seq (rgN [Oc 2 4] [1,3,63] [1]) .ret) .skip))) (rgN [Om 14 3,Oj 15 .add zb 14 1,Om 3 15] [63,14,15] [])))
def wN:zc:=(.seq (.seq (rgN [Om 74 4,OF 75 18 1,Ol 76 75,OL 77 76,Ob 78 .lss zb 74 77] [74,75,76,77] []) (.cond (.t 78) .skip (.exit 2))) (.seq (.block 3 (.seq (rgN [OF 81 18 1,Ol 82 81,Om 83 4,Oi 84 1 82 83,Ol 85 84,Oj 86 .lss zb 85 0,Om 87 86,WF 88 18 1 87,Wl 89 88 87,Wm 90 4 87,Wi 91 1 89 90 87,Wl 92 91 87,Wj 93 .gtr zb 92 4 87,Op 94 87 93] [78,81,82,83,84,85,86,87,88,89,90,91,92,93] []) (.cond (.t 94) (.seq (rgN [Oc 2 4] [1,4,94] [1]) .ret) .skip))) (rgN [Om 79 4,Oj 80 .add zb 79 1,Om 4 80] [94,79,80] [])))
def v9:zc:=(.seq (.seq (rgN [Om 143 7,Om 144 5,Ob 145 .lss zb 143 144] [143,144] []) (.cond (.t 145) .skip (.exit 6))) (.seq (.block 7 (.seq (rgD [OF 148 19 1,Ol 149 148,Om 150 7,Oi 151 8 149 150,OF 152 0 151,Ol 153 152,OF 154 0 6,Ol 155 154,Ob 156 .eql zb 153 155,Om 157 156,VF 158 19 1 157,Vl 159 158 157,Vm 160 7 157,Vi 161 8 159 160 157,VF 162 1 161 157,Vn 163 6 162 157,VF 164 1 6 157,Vn 165 6 164 157,Vb 166 .eql wo 163 165 157,Oq 167 157 166] [145,148,149,150,151,152,153,154,155,156,157,158,159,160,161,162,163,164,165,166] []) (.cond (.t 167) (.seq (rgN [Oc 2 7] [1,5,6,7,167] [1,6]) .ret) .skip))) (rgN [Om 146 7,Oj 147 .add zb 146 1,Om 7 147] [167,146,147] [])))
def jN:zc:=(rgN [Om 100 5,Oj 101 .add zb 100 1,Om 5 101] [6,7,145,100,101] [6])
def xz:zc:=(.seq (.seq (rgN [Om 95 5,OF 96 19 1,Ol 97 96,OL 98 97,Ob 99 .lss zb 95 98] [95,96,97,98] []) (.cond (.t 99) .skip (.exit 4))) (.seq (.block 5 (.seq (rgN [OF 102 19 1,Ol 103 102,Om 104 5,Oi 105 8 103 104,On 106 8 105,oq 6 (.alloc [iv 0,iv 0,iv 0,iv 0,iv 0,iv 0,iv 0,iv 0]) [],Oz 8 6 106] [99,102,103,104,105,106] []) (.seq (.seq (rgN [OF 107 0 6,Ol 108 107,Oj 109 .lss zb 108 0,Om 110 109,WF 111 0 6 110,Wl 112 111 110,WF 113 18 1 110,Wl 114 113 110,WL 115 114 110,Wb 116 .geq zb 112 115 110,Op 117 110 116] [107,108,109,110,111,112,113,114,115,116] []) (.cond (.t 117) (.seq (rgN [Oc 2 6] [1,5,6,117] [1,6]) .ret) .skip)) (.seq (.seq (rgN [OF 118 7 6,Ol 119 118,Oj 120 .lss xG 119 1,Om 121 120,WF 122 7 6 121,Wl 123 122 121,Wj 124 .gtr xG 123 1000000 121,Op 125 121 124,Om 126 125,WF 127 1 6 126,Wn 128 6 127 126,Wk 129 pi 128 126,⟨some 130,.un .not,[.t 129],some (126,false)⟩,Op 131 126 130,Om 132 131,WF 133 1 6 132,Wn 134 6 133 132,⟨some 135,.build [iv 0,iv 0,iv 0,iv 0,iv 0,iv 0] [],[],some (132,false)⟩,Wb 136 .eql wo 134 135 132,Op 137 132 136] [117,118,119,120,121,122,123,124,125,126,127,128,129,130,131,132,133,134,135,136] []) (.cond (.t 137) (.seq (rgN [Oc 2 4] [1,5,6,137] [1,6]) .ret) .skip)) (.seq (.seq (rgN [On 138 20 1,On 139 8 6,oq 140 (.mkslice 8 1 [iv 0,iv 0,iv 0,iv 0,iv 0,iv 0,iv 0,iv 0] [0]) [.t 139],OK 141 nE 138 140,oq 142 (.un .not) [.t 141]] [137,138,139,140,141] []) (.cond (.t 142) (.seq (rgN [Oc 2 14] [1,5,6,142] [1,6]) .ret) .skip)) (.seq (rgN [Oc 7 0] [142] []) (.block 6 (.loop v9)))))))) jN))
def jO:zc:=(.seq (rgN [Oc 2 0] [1,5,99] [1]) .ret)
def jP:zc:=(.seq (.seq (rgN [Oc 5 0] [4,78] []) (.block 4 (.loop xz))) jO)
def tY:zc:=(.seq (.seq (rgN [OF 64 18 1,Ol 65 64,OL 66 65,Oj 67 .gtr zb 66 8,Om 68 67,WF 69 19 1 68,Wl 70 69 68,WL 71 70 68,Wj 72 .gtr zb 71 160 68,Op 73 68 72] [3,13,64,65,66,67,68,69,70,71,72] []) (.cond (.t 73) (.seq (rgN [Oc 2 3] [1,73] [1]) .ret) .skip)) (.seq (.seq (rgN [Oc 4 0] [73] []) (.block 2 (.loop wN))) jP))
def bf:zc:=(.seq (rgN [OB 1 0,Oc 2 0] [0,2] []) (.seq (.seq (rgN [OF 8 0 1,On 9 6 8,Ok 10 pi 9,oq 11 (.un .not) [.t 10]] [8,9,10] []) (.cond (.t 11) (.seq (rgN [Oc 2 4] [1,11] [1]) .ret) .skip)) (.seq (.seq (rgN [Oc 3 0] [11] []) (.block 0 (.loop yA))) tY)))
def zZ:List zB:=[.t 2]
theorem Qj:zq Tryz.prog ss=some (bare bf,zZ,168):=by kernel_rfl
def uY:zc:=(.seq (.seq (rgN [Om 8 7,Om 9 1,OL 10 9,Ob 11 .lss zb 8 10] [8,9,10] []) (.cond (.t 11) .skip (.exit 0))) (.seq (.block 1 (.seq (.seq (rgD [Om 14 1,Om 15 7,Oi 16 1 14 15,Ol 17 16,Oj 18 .lss zb 17 0,Om 19 18,Wm 20 1 19,Wm 21 7 19,Wi 22 1 20 21 19,Wl 23 22 19,WF 24 19 2 19,Wl 25 24 19,WL 26 25 19,Wb 27 .geq zb 23 26 19,Op 28 19 27,Om 29 28,Wm 30 7 29,Wj 31 .gtr zb 30 0 29,Wm 32 31 29,Vm 33 1 32,Vm 34 7 32,Vi 35 1 33 34 32,Vl 36 35 32,Vm 37 1 32,Vm 38 7 32,Vj 39 .sub zb 38 1 32,Vi 40 1 37 39 32,Vl 41 40 32,Vb 42 .leq zb 36 41 32,Wq 43 32 42 29,Op 44 29 43] [11,14,15,16,17,18,19,20,21,22,23,24,25,26,27,28,29,30,31,32,33,34,35,36,37,38,39,40,41,42,43] []) (.cond (.t 44) (.seq (rgN [oq 4 .mov [.c zA],oq 5 .mov [.c (bv false)]] [1,2,6,7,44] [2]) .ret) .skip)) (rgD [Om 45 6,OF 46 19 2,Ol 47 46,Om 48 1,Om 49 7,Oi 50 1 48 49,Ol 51 50,Oi 52 8 47 51,On 53 8 52,oq 54 (.mkslice 8 1 [iv 0,iv 0,iv 0,iv 0,iv 0,iv 0,iv 0,iv 0] [0]) [.t 53],oq 55 (.append 8 64) [.t 45,.t 54],Om 6 55] [44,45,46,47,48,49,50,51,52,53,54,55] []))) (rgN [Om 12 7,Oj 13 .add zb 12 1,Om 7 13] [12,13] [])))
def kM:zc:=(.seq (rgN [Om 56 6,Om 4 56,oq 5 .mov [.c (bv true)]] [1,2,6,7,11,56] [2]) .ret)
def eQ:zc:=(.seq (rgN [OB 2 0,oq 4 .mov [.c zA],oq 5 .mov [.c (bv false)]] [0,4,5] []) (.seq (rgN [oq 6 .mov [.c zA]] [] []) (.seq (.seq (rgN [Oc 7 0] [] []) (.block 0 (.loop uY))) kM)))
def dc:List zB:=[.t 4,.t 5]
theorem SZ:zq Tryz.prog mo=some (bare eQ,dc,57):=by kernel_rfl
def s7:zc:=(.seq (.seq (rgN [Om 20 7,Om 21 1,OL 22 21,Ob 23 .lss zb 20 22] [20,21,22] []) (.cond (.t 23) .skip (.exit 2))) (.seq (.block 3 (.seq (rgD [On 27 20 2,Om 28 5,Om 29 1,Om 30 7,Oi 31 8 29 30,On 32 8 31,oq 33 (.call tf) [.t 27,.t 28,.t 32],Om 26 33,Oe 34 0 26,Oe 35 1 26,Om 8 34,Om 9 35] [23,27,28,29,30,31,32,33,26,34,35,9] []) (rgN [Om 36 6,Om 37 8,Ob 38 .add zb 36 37,Om 6 38] [8,36,37,38] []))) (rgN [Om 24 7,Oj 25 .add zb 24 1,Om 7 25] [24,25] [])))
def gS:zc:=(.seq (rgN [On 40 20 2,Om 41 5,oq 42 (.build [iv 0,iv 0,iv 0,iv 0,iv 0,iv 0,iv 0,iv 0] []) [],oq 43 (.call tf) [.t 40,.t 41,.t 42],Om 39 43,Oe 44 0 39,Oe 45 1 39,Om 10 44,Om 11 45] [7,23,40,41,42,43,39,44,45,10] []) (.seq (rgN [Om 46 6,Om 47 11,Ob 48 .gtr zb 46 47] [6,11,46,47] []) (.cond (.t 48) (.seq (rgN [oq 4 .mov [.c (bv false)]] [1,2,5,48] [2]) .ret) .skip)))
def gT:zc:=(rgN [Om 18 5,Oj 19 .add zb 18 1,Om 5 19] [48,18,19] [])
def nN:zc:=(.seq (.seq (rgN [Om 12 5,OF 13 18 2,Ol 14 13,OL 15 14,Oj 16 .add zb 15 12,Ob 17 .lss zb 12 16] [12,13,14,15,16] []) (.cond (.t 17) .skip (.exit 0))) (.seq (.block 1 (.seq (rgN [Oc 6 0] [17] []) (.seq (.seq (rgN [Oc 7 0] [] []) (.block 2 (.loop s7))) gS))) gT))
def gU:zc:=(.seq (rgN [oq 4 .mov [.c (bv true)]] [1,2,5,17] [2]) .ret)
def aa:zc:=(.seq (rgN [OB 2 0,oq 4 .mov [.c (bv false)]] [0,4] []) (.seq (.seq (rgN [Oc 5 0] [] []) (.block 0 (.loop nN))) gU))
def gm:List zB:=[.t 4]
theorem N7:zq Tryz.prog nE=some (bare aa,gm,49):=by kernel_rfl
def Yq:zc:=(.seq (rgN [Oa 2] [] []) (.seq (rgN [Om 6 0,oq 7 (.call TL) [.t 6,.c (iv 1)],Om 5 7,Oe 8 0 5,Oe 9 1 5,Oa 3,Oz 3 3 8,Om 4 9] [0,6,7,5,8,9,4] []) (.seq (rgN [On 10 3 3,Oz 3 2 10] [3,10] [3]) .ret)))
def YI:List zB:=[.cell 2 (some 3)]
theorem M4:zq Tryz.prog yt=some (bare Yq,YI,11):=by kernel_rfl
def S9:zc:=(.seq (rgN [OB 1 0,oq 2 .mov [.c (bv false)]] [0,2] []) (.seq (.seq (rgN [OF 4 1 1,Ol 5 4,Ok 6 gD 5,oq 7 (.un .not) [.t 6],Om 8 7,WF 9 2 1 8,Wl 10 9 8,Wk 11 gD 10 8,⟨some 12,.un .not,[.t 11],some (8,false)⟩,Op 13 8 12,Om 14 13,WF 15 2 1 14,Wl 16 15 14,WL 17 16 14,Wj 18 .eql zb 17 0 14,Op 19 14 18] [4,5,6,7,8,9,10,11,12,13,14,15,16,17,18] []) (.cond (.t 19) (.seq (rgN [oq 2 .mov [.c (bv false)]] [1,19] [1]) .ret) .skip)) (.seq (.seq (rgN [OF 20 1 1,Ol 21 20,OL 22 21,Oj 23 .eql zb 22 0] [19,20,21,22] []) (.cond (.t 23) (.seq (rgN [OF 24 0 1,Ol 25 24,oq 26 (.un .not) [.t 25],Om 27 26,VF 28 2 1 27,Vl 29 28 27,VL 30 29 27,Vj 31 .eql zb 30 1 27,Oq 32 27 31,Om 33 32,VF 34 2 1 33,Vl 35 34 33,⟨some 36,.iaddrS 1,[.t 35,.c (iv 0)],some (33,true)⟩,Vl 37 36 33,⟨some 38,.bin .eql zD (.tmp 37) (.const (.int .u32 1)),[.t 37,.c (.val (.int .u32 1))],some (33,true)⟩,Oq 39 33 38,Om 2 39] [1,23,24,25,26,27,28,29,30,31,32,33,34,35,36,37,38,39] [1]) .ret) .skip)) (.seq (rgN [OF 40 1 1,Ol 41 40,OF 42 2 1,Ol 43 42,OK 44 eD 41 43,Om 3 44] [1,23,40,41,42,43,44] [1]) (.seq (rgN [Om 45 3,OL 46 45,Oj 47 .eql zb 46 1,Om 48 47,Vm 49 3 48,⟨some 50,.iaddrS 1,[.t 49,.c (iv 0)],some (48,true)⟩,Vl 51 50 48,⟨some 52,.bin .eql zD (.tmp 51) (.const (.int .u32 1)),[.t 51,.c (.val (.int .u32 1))],some (48,true)⟩,Oq 53 48 52,Om 2 53] [3,45,46,47,48,49,50,51,52,53] []) .ret)))))
def wG:List zB:=[.t 2]
theorem DD:zq Tryz.prog p6=some (bare S9,wG,54):=by kernel_rfl
def TV:zc:=(.seq (rgN [OB 2 0,OB 3 1,Oa 4] [0,1] []) (.seq (rgD [OF 18 1 2,Ol 19 18,OF 20 2 3,Ol 21 20,OK 22 mn 19 21,OF 23 1 3,Ol 24 23,OF 25 2 2,Ol 26 25,OK 27 mn 24 26,Om 5 22,Om 6 27] [18,19,20,21,22,23,24,25,26,27] []) (.seq (rgN [OF 28 2 2,Ol 29 28,OF 30 2 3,Ol 31 30,OK 32 mn 29 31,Om 7 32] [28,29,30,31,32] []) (.seq (.seq (rgN [OF 33 0 2,Ol 34 33,OF 35 0 3,Ol 36 35,Ob 37 .eql uz 34 36] [33,34,35,36] []) (.cond (.t 37) (.seq (rgD [ox (.start [39,40,41,42,43,44,45,38,46,47,8]) [],OF 39 0 2,Ol 40 39,Om 41 5,Om 42 6,OK 43 qg 41 42,Om 44 7,oq 45 (.call pF) [.t 40,.t 43,.t 44],Om 38 45,Oe 46 0 38,Oe 47 1 38,Oa 8,Oz 3 8 46,oq 47 (.chk (.extract 1)) [.t 38],Om 9 47] [2,3,5,6,7,37,39,40,41,42,43,44,45,38,46,47,9] [2,3]) (.seq (rgN [On 48 3 8,Oz 3 4 48] [8,48] [8]) .ret)) .skip)) (.seq (.seq (rgN [Om 50 5,Om 51 6,OK 52 eE 50 51,Om 49 52,Oe 53 0 49,Oe 54 1 49,Om 10 53,Om 11 54] [37,50,51,52,49,53,54] []) (.seq (rgN [Om 55 11] [11] []) (.cond (.t 55) (.seq (rgN [OF 57 0 2,Ol 58 57,Om 59 10,Om 60 7,oq 61 (.call pF) [.t 58,.t 59,.t 60],Om 56 61,Oe 62 0 56,Oe 63 1 56,Oa 12,Oz 3 12 62,Om 13 63] [2,3,5,6,7,10,55,57,58,59,60,61,56,62,63,13] [2,3]) (.seq (rgN [On 64 3 12,Oz 3 4 64] [12,64] [12]) .ret)) .skip))) (.seq (rgN [Om 66 6,Om 67 5,OK 68 eE 66 67,Om 65 68,Oe 69 0 65,Oe 70 1 65,Om 14 69,Om 15 70] [2,5,6,10,55,66,67,68,65,69,70,15] [2]) (.seq (rgN [OF 72 0 3,Ol 73 72,Om 74 14,Om 75 7,oq 76 (.call pF) [.t 73,.t 74,.t 75],Om 71 76,Oe 77 0 71,Oe 78 1 71,Oa 16,Oz 3 16 77,Om 17 78] [3,7,14,72,73,74,75,76,71,77,78,17] [3]) (.seq (rgN [On 79 3 16,Oz 3 4 79] [16,79] [16]) .ret))))))))
def ZX:List zB:=[.cell 4 (some 3)]
theorem acw:zq Tryz.prog sJ=some (bare TV,ZX,80):=by kernel_rfl
def Lr:zc:=(.seq (rgN [OB 2 0,OB 3 1,Oa 4] [0,1] []) (.seq (rgD [ox (.start [8,9,10,11,12,13,14,15,16,17,18,19,20,21,22,23,7,24,25,5]) [],OF 8 0 2,Ol 9 8,OF 10 0 3,Ol 11 10,Ob 12 .neq uz 9 11,OF 13 1 2,Ol 14 13,OF 15 1 3,Ol 16 15,OK 17 mn 14 16,OF 18 2 2,Ol 19 18,OF 20 2 3,Ol 21 20,OK 22 mn 19 21,oq 23 (.call pF) [.t 12,.t 17,.t 22],Om 7 23,Oe 24 0 7,Oe 25 1 7,Oa 5,Oz 3 5 24,oq 25 (.chk (.extract 1)) [.t 7],Om 6 25] [2,3,8,9,10,11,12,13,14,15,16,17,18,19,20,21,22,23,7,24,25,6] [2,3]) (.seq (rgN [On 26 3 5,Oz 3 4 26] [5,26] [5]) .ret)))
def Kp:List zB:=[.cell 4 (some 3)]
theorem acy:zq Tryz.prog p0=some (bare Lr,Kp,27):=by kernel_rfl
def b9:zc:=(.seq (rgN [OB 1 0,Oc 2 0] [0,2] []) (.seq (.seq (rgN [On 3 20 1,Ok 4 ss 3,Oj 5 .neq zR 4 0] [3,4] []) (.cond (.t 5) (.seq (rgN [Oc 2 0] [1,5] [1]) .ret) .skip)) (.seq (rgN [OF 6 18 1,Ol 7 6,OL 8 7,Oj 9 .add zb 8 12,Om 2 9] [1,5,6,7,8,9] [1]) .ret)))
def gl:List zB:=[.t 2]
theorem N6:zq Tryz.prog rk=some (bare b9,gl,10):=by kernel_rfl
def ql:zc:=(.seq (.seq (rgN [Om 20 7,OF 21 19 2,Ol 22 21,OL 23 22,Ob 24 .lss zb 20 23] [20,21,22,23] []) (.cond (.t 24) .skip (.exit 0))) (.seq (.block 1 (.seq (rgD [On 28 20 2,Om 29 1,OF 30 19 2,Ol 31 30,Om 32 7,Oi 33 8 31 32,On 34 8 33,oq 35 (.call tf) [.t 28,.t 29,.t 34],Om 27 35,Oe 36 0 27,Oe 37 1 27,Om 8 36,Om 9 37] [24,28,29,30,31,32,33,34,35,27,36,37,9] []) (rgN [Om 38 6,Om 39 8,oq 40 (.mkslice 1 1 [iv 0] [0]) [.t 39],oq 41 (.append 1 8) [.t 38,.t 40],Om 6 41] [8,38,39,40,41] []))) (rgN [Om 25 7,Oj 26 .add zb 25 1,Om 7 26] [25,26] [])))
def eR:zc:=(.seq (rgN [On 43 20 2,Om 44 1,oq 45 (.build [iv 0,iv 0,iv 0,iv 0,iv 0,iv 0,iv 0,iv 0] []) [],oq 46 (.call tf) [.t 43,.t 44,.t 45],Om 42 46,Oe 47 0 42,Oe 48 1 42,Om 10 47,Om 11 48] [1,2,7,24,43,44,45,46,42,47,48,10] [2]) (.seq (rgN [Om 49 6,Om 50 11,Om 4 49,Om 5 50] [6,11,49,50] []) .ret))
def f7:zc:=(.seq (rgN [OB 2 0,oq 4 .mov [.c zA],Oc 5 0] [0,4,5] []) (.seq (.seq (rgN [Om 12 1,Oj 13 .lss zb 12 0,Om 14 13,Wm 15 1 14,Wn 16 20 2 14,Wk 17 rk 16 14,Wb 18 .geq zb 15 17 14,Op 19 14 18] [12,13,14,15,16,17,18] []) (.cond (.t 19) (.seq (rgN [oq 4 .mov [.c zA],Oc 5 0] [1,2,19] [2]) .ret) .skip)) (.seq (rgN [oq 6 .mov [.c zA]] [19] []) (.seq (.seq (rgN [Oc 7 0] [] []) (.block 0 (.loop ql))) eR))))
def li:List zB:=[.t 4,.t 5]
theorem M5:zq Tryz.prog m6=some (bare f7,li,51):=by kernel_rfl
def Lq:zc:=(.seq (rgN [OB 2 0,OB 3 1,Oc 4 0] [0,1,4] []) (.seq (rgN [On 5 3 2,On 6 3 3,OK 7 eC 5 6,Ok 8 ju 7,Om 4 8] [2,3,5,6,7,8] [2,3]) .ret))
def Ko:List zB:=[.t 4]
theorem acx:zq Tryz.prog Zy=some (bare Lq,Ko,9):=by kernel_rfl
def Lt:zc:=(.seq (rgN [OB 2 0,OB 3 1,Oa 4] [0,1] []) (.seq (rgD [On 5 3 2,On 6 3 3,Ok 7 Zz 6,OK 8 sJ 5 7,Oz 3 4 8] [2,3,5,6,7,8] [2,3]) .ret))
def Ks:List zB:=[.cell 4 (some 3)]
theorem acB:zq Tryz.prog eC=some (bare Lt,Ks,9):=by kernel_rfl
def dE:zc:=(.seq (rgN [OB 1 0,Oc 2 0] [0,2] []) (.seq (.seq (rgN [OF 3 0 1,Ol 4 3] [3] []) (.cond (.t 4) (.seq (rgN [Oc 2 (-1)] [1,4] [1]) .ret) .skip)) (.seq (.seq (rgN [OF 5 1 1,Ol 6 5,OL 7 6,Oj 8 .eql zb 7 0] [1,4,5,6,7] [1]) (.cond (.t 8) (.seq (rgN [Oc 2 0] [8] []) .ret) .skip)) (.seq (rgN [Oc 2 1] [8] []) .ret))))
def cx:List zB:=[.t 2]
theorem AP:zq Tryz.prog ju=some (bare dE,cx,9):=by kernel_rfl
def eP:zc:=(.seq (rgN [OB 1 0,Oc 2 0] [0,2] []) (.seq (.seq (rgN [On 3 20 1,Ok 4 uy 3,Oj 5 .neq zR 4 0] [3,4] []) (.cond (.t 5) (.seq (rgN [Oc 2 0] [1,5] [1]) .ret) .skip)) (.seq (rgN [On 6 20 1,⟨some 7,.build [iv 0,iv 0,iv 0,iv 0,iv 0,iv 0,iv 0,iv 0,iv 0,iv 0,iv 0,iv 0,iv 0,iv 0,iv 0,iv 0,iv 0,iv 0,zA,zA] [(0,20)],[.t 6],none⟩,Ok 8 x5 7,Om 2 8] [1,5,6,7,8] [1]) .ret)))
def mT:List zB:=[.t 2]
theorem SY:zq Tryz.prog qf=some (bare eP,mT,9):=by kernel_rfl
def S4:zc:=(.seq (rgN [OB 1 0,oq 2 .mov [.c (bv false)]] [0,2] []) (.seq (.seq (rgN [OF 3 1 1,Ol 4 3,Ok 5 gC 4,oq 6 (.un .not) [.t 5],Om 7 6,WF 8 2 1 7,Wl 9 8 7,Wk 10 gC 9 7,⟨some 11,.un .not,[.t 10],some (7,false)⟩,Op 12 7 11,Om 13 12,WF 14 2 1 13,Wl 15 14 13,WL 16 15 13,Wj 17 .eql zb 16 0 13,Op 18 13 17,Om 19 18,Wn 20 3 1 19,Wk 21 dn 20 19,⟨some 22,.build [bv false,bv false] [(0,1),(1,1)],[.c (bv true),.c (bv true)],some (19,false)⟩,Wb 23 .eql uA 21 22 19,Op 24 19 23] [3,4,5,6,7,8,9,10,11,12,13,14,15,16,17,18,19,20,21,22,23] []) (.cond (.t 24) (.seq (rgN [oq 2 .mov [.c (bv false)]] [1,24] [1]) .ret) .skip)) (.seq (rgN [OF 25 1 1,Ol 26 25,OF 27 2 1,Ol 28 27,OK 29 Zw 26 28,oq 30 (.call vW) [.c (.val (.int .u64 1))],OK 31 pZ 29 30,Oj 32 .eql zb 31 0,Om 2 32] [1,24,25,26,27,28,29,30,31,32] [1]) .ret)))
def lY:List zB:=[.t 2]
theorem Dy:zq Tryz.prog ri=some (bare S4,lY,33):=by kernel_rfl
def dy:zc:=(.seq (rgN [OB 1 0,Oc 2 0] [0,2] []) (.seq (.block 0 (.seq (rgN [OF 4 1 1,Ol 5 4,OL 6 5,Oj 7 .eql zb 6 0,Om 3 7] [4,5,6,7] []) (.cond (.t 3) (.seq (rgN [Oc 2 0] [1,3] [1]) .ret) (.seq (rgN [OF 9 0 1,Ol 10 9,Om 8 10] [1,3,9,10] [1]) (.cond (.t 8) (.seq (rgN [Oc 2 (-1)] [8] []) .ret) .skip))))) (.seq (rgN [Oc 2 1] [8] []) .ret)))
def cu:List zB:=[.t 2]
theorem AK:zq Tryz.prog xt=some (bare dy,cu,11):=by kernel_rfl
def pL:zc:=(.seq (rgN [Ob 23 .lss zb 22 21] [] []) (.seq (.cond (.t 23) .skip (.exit 0)) (.seq (.block 1 (.seq (rgN [Oi 24 8 20 22,On 25 8 24,oq 8 (.alloc [iv 0,iv 0,iv 0,iv 0,iv 0,iv 0,iv 0,iv 0]) [],Oz 8 8 25] [23,24,25] []) (rgN [Om 26 4,On 27 20 6,Om 28 1,On 29 8 8,oq 30 (.call yr) [.t 27,.t 28,.t 29],oq 31 (.mkslice 1 1 [iv 0] [0]) [.t 30],oq 32 (.append 1 8) [.t 26,.t 31],Om 4 32] [8,26,27,28,29,30,31,32] [8]))) (rgN [Oj 33 .add zb 22 1,Om 22 33] [33] []))))
def jJ:zc:=(.seq (rgN [Om 34 4,On 35 20 6,Om 36 1,OK 37 xS 35 36,Om 4 34,Om 5 37] [1,6,20,21,22,23,34,35,36,37] [6]) .ret)
def ko:zc:=(.seq (rgN [OB 2 0,oq 4 .mov [.c zA],Oc 5 0] [0,5] []) (.seq (.seq (rgN [Om 9 1,Oj 10 .lss zb 9 0,Om 11 10,Wm 12 1 11,Wn 13 20 2 11,Wk 14 qf 13 11,Wb 15 .geq zb 12 14 11,Op 16 11 15] [9,10,11,12,13,14,15] []) (.cond (.t 16) (.seq (rgN [oq 4 .mov [.c zA],Oc 5 0] [1,2,16] [2]) .ret) .skip)) (.seq (rgN [On 17 20 2,⟨some 18,.build [iv 0,iv 0,iv 0,iv 0,iv 0,iv 0,iv 0,iv 0,iv 0,iv 0,iv 0,iv 0,iv 0,iv 0,iv 0,iv 0,iv 0,iv 0,zA,zA] [(0,20)],[.t 17],none⟩,⟨some 6,.alloc [iv 0,iv 0,iv 0,iv 0,iv 0,iv 0,iv 0,iv 0,iv 0,iv 0,iv 0,iv 0,iv 0,iv 0,iv 0,iv 0,iv 0,iv 0,zA,zA],[],none⟩,Oz 20 6 18] [16,17,18] []) (.seq (.seq (rgN [OF 19 19 2,Ol 20 19,OL 21 20,Oc 22 0] [2,19] [2]) (.block 0 (.loop pL))) jJ))))
def pz:List zB:=[.t 4,.t 5]
theorem Qh:zq Tryz.prog kh=some (bare ko,pz,38):=by kernel_rfl
def Ll:zc:=(.seq (rgN [OB 2 0,OB 3 1,Oa 4] [0,1] []) (.seq (rgD [On 5 3 2,On 6 3 3,Ok 7 qc 6,OK 8 sI 5 7,Oz 3 4 8] [2,3,5,6,7,8] [2,3]) .ret))
def Kl:List zB:=[.cell 4 (some 3)]
theorem acq:zq Tryz.prog pY=some (bare Ll,Kl,9):=by kernel_rfl
def Li:zc:=(.seq (rgN [OB 2 0,OB 3 1,Oa 4] [0,1] []) (.seq (rgD [OF 5 0 2,Ol 6 5,OF 7 0 3,Ol 8 7,Ob 9 .neq uz 6 8,OF 10 1 2,Ol 11 10,OF 12 1 3,Ol 13 12,OK 14 qe 11 13,OF 15 2 2,Ol 16 15,OF 17 2 3,Ol 18 17,OK 19 qe 16 18,oq 20 (.call rj) [.t 9,.t 14,.t 19],Oz 3 4 20] [2,3,5,6,7,8,9,10,11,12,13,14,15,16,17,18,19,20] [2,3]) .ret))
def Ki:List zB:=[.cell 4 (some 3)]
theorem acn:zq Tryz.prog vn=some (bare Li,Ki,21):=by kernel_rfl
def Lk:zc:=(.seq (rgN [Oa 4,Oc 5 0] [5] []) (.seq (rgN [Om 6 0,Oj 7 .lss xG 6 0,Om 8 1,Oj 9 .lss xG 8 0,Ob 10 .neq uz 7 9,Om 11 0,Ok 12 jt 11,Om 13 1,Ok 14 jt 13,oq 15 (.call js) [.t 10,.t 12,.t 14],Oe 16 0 15,Oe 17 1 15,Oz 3 4 16,Om 5 17] [0,1,6,7,8,9,10,11,12,13,14,15,16,17] []) .ret))
def Kk:List zB:=[.cell 4 (some 3),.t 5]
theorem acp:zq Tryz.prog TK=some (bare Lk,Kk,18):=by kernel_rfl
def TT:zc:=(.seq (rgN [OB 2 0,OB 3 1,Oc 4 0] [0,1,4] []) (.seq (.seq (rgN [OF 7 0 2,Ol 8 7,OF 9 0 3,Ol 10 9,Ob 11 .neq uz 8 10] [7,8,9,10] []) (.cond (.t 11) (.seq (.seq (rgN [OF 12 0 2,Ol 13 12] [2,3,11,12] [2,3]) (.cond (.t 13) (.seq (rgN [Oc 4 (-1)] [13] []) .ret) .skip)) (.seq (rgN [Oc 4 1] [13] []) .ret)) .skip)) (.seq (rgN [On 15 3 2,On 16 3 3,OK 17 gB 15 16,Om 14 17,Oe 18 0 14,Oe 19 1 14,Om 5 18,Om 6 19] [3,11,15,16,17,14,18,19] [3]) (.seq (.seq (rgN [OF 20 0 2,Ol 21 20] [2,20] [2]) (.cond (.t 21) (.seq (rgN [Om 22 6,Om 23 5,OK 24 pZ 22 23,Om 4 24] [5,6,21,22,23,24] []) .ret) .skip)) (.seq (rgN [Om 25 5,Om 26 6,OK 27 pZ 25 26,Om 4 27] [5,6,21,25,26,27] []) .ret)))))
def ZW:List zB:=[.t 4]
theorem acl:zq Tryz.prog ml=some (bare TT,ZW,28):=by kernel_rfl
def Lj:zc:=(.seq (rgN [OB 1 0,Oa 2] [0] []) (.seq (rgN [OF 3 0 1,Ol 4 3,oq 5 (.un .not) [.t 4],OF 6 1 1,Ol 7 6,OF 8 2 1,Ol 9 8,oq 10 (.call rj) [.t 5,.t 7,.t 9],Oz 3 2 10] [1,3,4,5,6,7,8,9,10] [1]) .ret))
def Kj:List zB:=[.cell 2 (some 3)]
theorem aco:zq Tryz.prog qc=some (bare Lj,Kj,11):=by kernel_rfl
def rF:zc:=(.seq (rgN [Ob 22 .lss zb 21 20] [] []) (.seq (.cond (.t 22) .skip (.exit 0)) (.seq (.block 1 (.seq (rgN [Oi 23 8 19 21,On 24 8 23,oq 7 (.alloc [iv 0,iv 0,iv 0,iv 0,iv 0,iv 0,iv 0,iv 0]) [],Oz 8 7 24] [22,23,24] []) (.seq (.seq (rgN [On 25 20 3,On 26 8 7,OK 27 uP 25 26,Om 8 27] [25,26,27] []) (.seq (rgN [Om 28 8,Oj 29 .neq zR 28 0] [28] []) (.cond (.t 29) (.seq (rgN [Om 30 8,Om 2 30] [3,5,19,20,21,7,8,29,30] [3,7]) .ret) .skip))) (.seq (rgN [OF 31 0 7,Ol 32 31,OF 33 1 7,On 34 6 33,oq 35 (.build [iv 0,iv 0,iv 0,iv 0,iv 0,iv 0,iv 0] [(0,1),(1,6)]) [.t 32,.t 34],oq 9 (.alloc [iv 0,iv 0,iv 0,iv 0,iv 0,iv 0,iv 0]) [],Oz 7 9 35] [7,8,29,31,32,33,34,35] [7]) (.seq (.seq (rgN [Om 36 5,On 37 7 9,oq 38 (.lookup y7 false) [.t 36,.t 37]] [36,37] []) (.cond (.t 38) (.seq (rgN [Oc 2 7] [3,5,19,20,21,9,38] [3,9]) .ret) .skip)) (rgN [Om 39 5,On 40 7 9,ox (.mapset y7) [.t 39,.t 40,.c (bv true)]] [9,38,39,40] [9])))))) (rgN [Oj 41 .add zb 21 1,Om 21 41] [41] []))))
def lw:zc:=(.seq (rgN [Oc 2 0] [3,5,19,20,21,22] [3]) .ret)
def gQ:zc:=(.seq (rgN [OB 1 0,Oc 2 0] [0,2] []) (.seq (rgN [On 10 20 1,⟨some 11,.build [iv 0,iv 0,iv 0,iv 0,iv 0,iv 0,iv 0,iv 0,iv 0,iv 0,iv 0,iv 0,iv 0,iv 0,iv 0,iv 0,iv 0,iv 0,zA,zA] [(0,20)],[.t 10],none⟩,⟨some 3,.alloc [iv 0,iv 0,iv 0,iv 0,iv 0,iv 0,iv 0,iv 0,iv 0,iv 0,iv 0,iv 0,iv 0,iv 0,iv 0,iv 0,iv 0,iv 0,zA,zA],[],none⟩,Oz 20 3 11] [10,11] []) (.seq (.seq (rgN [On 12 20 3,Ok 13 uO 12,Om 4 13] [12,13] []) (.seq (rgN [Om 14 4,Oj 15 .neq zR 14 0] [14] []) (.cond (.t 15) (.seq (rgN [Om 16 4,Om 2 16] [1,3,4,15,16] [1,3]) .ret) .skip))) (.seq (rgN [oq 17 .mkmap [],Om 5 17] [4,15,17] []) (.seq (.seq (rgN [OF 18 19 1,Ol 19 18,OL 20 19,Oc 21 0] [1,18] [1]) (.block 0 (.loop rF))) lw)))))
def uJ:List zB:=[.t 2]
theorem TA:zq Tryz.prog uy=some (bare gQ,uJ,42):=by kernel_rfl
def vX:zc:=(.seq (rgN [Ob 18 .lss zb 17 16] [] []) (.seq (.cond (.t 18) .skip (.exit 2)) (.seq (.block 3 (.seq (rgN [Oi 19 8 15 17,On 20 8 19,oq 9 (.alloc [iv 0,iv 0,iv 0,iv 0,iv 0,iv 0,iv 0,iv 0]) [],Oz 8 9 20] [18,19,20] []) (rgN [Om 21 7,Om 22 5,On 23 20 2,Om 24 6,On 25 8 9,oq 26 .callv [.t 22,.t 23,.t 24,.t 25],Ob 27 .add zb 21 26,Om 7 27] [9,21,22,23,24,25,26,27] [9]))) (rgN [Oj 28 .add zb 17 1,Om 17 28] [28] []))))
def ru:zc:=(.seq (rgN [Om 29 7,On 30 20 2,Om 31 6,OK 32 xS 30 31,Ob 33 .gtr zb 29 32] [6,7,15,16,17,18,29,30,31,32] []) (.cond (.t 33) (.seq (rgN [oq 4 .mov [.c (bv false)]] [1,2,5,11,12,33] [2]) .ret) .skip))
def rx:zc:=(rgN [Oj 34 .add zb 12 1,Om 12 34] [33,34] [])
def vY:zc:=(.seq (rgN [Ob 13 .lss zb 12 11] [] []) (.seq (.cond (.t 13) .skip (.exit 0)) (.seq (.block 1 (.seq (rgN [Om 14 12,Om 6 14] [13,14] []) (.seq (rgN [Oc 7 0] [] []) (.seq (.seq (rgN [Om 15 1,OL 16 15,Oc 17 0] [] []) (.block 2 (.loop vX))) ru)))) rx)))
def ry:zc:=(.seq (rgN [oq 4 .mov [.c (bv true)]] [1,2,5,11,12,13] [2]) .ret)
def p8:zc:=(.seq (rgN [OB 2 0,oq 4 .mov [.c (bv false)]] [0,4] []) (.seq (rgN [oq 5 .mov [.c (.fn (.func 49) [])]] [] []) (.seq (.seq (rgN [On 10 20 2,Ok 11 x5 10,Oc 12 0] [10] []) (.block 0 (.loop vY))) ry)))
def tA:List zB:=[.t 4]
theorem dh:zq Tryz.prog vj=some (bare p8,tA,35):=by kernel_rfl
def p9:zc:=(.seq (rgN [OB 1 0,Oc 2 0] [0,2] []) (.seq (rgN [OF 3 0 1,OF 4 18 3,Ol 5 4,OL 6 5,Oj 7 .add zb 6 12,Om 2 7] [1,3,4,5,6,7] [1]) .ret))
def ny:List zB:=[.t 2]
theorem di:zq Tryz.prog x5=some (bare p9,ny,8):=by kernel_rfl
def wT:zc:=(.seq (rgN [OB 2 0,Oc 4 0] [0,4] []) (.seq (rgN [Om 6 1,OF 7 0 2,OF 8 18 7,Ol 9 8,OL 10 9,Ob 11 .sub zb 6 10,Om 5 11] [1,6,7,8,9,10,11] []) (.block 0 (.seq (rgN [Om 19 5,Oj 20 .lss zb 19 0,Om 18 20] [19,20] []) (.cond (.t 18) (.seq (rgN [Oc 4 1] [2,5,18] [2]) .ret) (.seq (rgN [Om 22 5,Oj 23 .lss zb 22 6,Om 21 23] [18,22,23] []) (.cond (.t 21) (.seq (rgN [Om 24 5,OF 25 0 2,OF 26 0 25,oq 27 (.iaddrA 6 1) [.t 26,.t 24],Ol 28 27,Om 4 28] [2,5,21,24,25,26,27,28] [2]) .ret) (.seq (rgN [Om 12 5,Oj 13 .sub zb 12 6,OF 14 0 2,OF 15 6 14,oq 16 (.iaddrA 6 1) [.t 15,.t 13],Ol 17 16,Om 4 17] [2,5,21,12,13,14,15,16,17] [2]) .ret))))))))
def wV:List zB:=[.t 4]
theorem ez:zq Tryz.prog xS=some (bare wT,wV,29):=by kernel_rfl
def yH:zc:=(.seq (rgN [OB 3 0,OB 5 2,Oc 6 0] [0,2,6] []) (.seq (rgN [Om 8 1,OF 9 0 3,OF 10 18 9,Ol 11 10,OL 12 11,Ob 13 .sub zb 8 12,Om 7 13] [8,9,10,11,12,13] []) (.block 0 (.seq (rgN [Om 42 7,Oj 43 .lss zb 42 0,Om 44 43,VF 45 0 5 44,Vl 46 45 44,Vm 47 1 44,Vb 48 .eql zb 46 47 44,Oq 49 44 48,Om 41 49] [1,42,43,44,45,46,47,48,49] []) (.cond (.t 41) (.seq (rgN [Oc 6 1] [3,5,7,41] [3,5]) .ret) (.seq (rgN [Om 51 7,Oj 52 .lss zb 51 0,Om 50 52] [41,51,52] []) (.cond (.t 50) (.seq (rgN [Oc 6 0] [3,5,7,50] [3,5]) .ret) (.seq (rgN [Om 54 7,Oj 55 .lss zb 54 6,Om 53 55] [50,54,55] []) (.cond (.t 53) (.seq (rgN [Om 56 7,OF 57 1 5,oq 58 (.iaddrA 6 1) [.t 57,.t 56],Ol 59 58,Om 6 59] [3,5,7,53,56,57,58,59] [3,5]) .ret) (.seq (rgN [Om 14 7,Oj 15 .sub zb 14 6,Om 7 15] [53,14,15] []) (.seq (.seq (rgD [Om 16 7,OF 17 0 3,OF 18 12 17,oq 19 (.iaddrA 6 1) [.t 18,.t 16],Ol 20 19,Oj 21 .eql zb 20 0,Om 22 21,Wm 23 7 22,WF 24 0 3 22,WF 25 12 24 22,⟨some 26,.iaddrA 6 1,[.t 25,.t 23],some (22,false)⟩,Wl 27 26 22,WF 28 0 3 22,WF 29 18 28 22,Wl 30 29 22,WF 31 0 5 22,Wl 32 31 22,Wi 33 1 30 32 22,Wl 34 33 22,Wb 35 .eql zb 27 34 22,Op 36 22 35] [3,16,17,18,19,20,21,22,23,24,25,26,27,28,29,30,31,32,33,34,35] [3]) (.cond (.t 36) (.seq (rgN [Oc 6 0] [5,7,36] [5]) .ret) .skip)) (.seq (rgN [Om 37 7,OF 38 1 5,oq 39 (.iaddrA 6 1) [.t 38,.t 37],Ol 40 39,Om 6 40] [5,7,36,37,38,39,40] [5]) .ret))))))))))))
def yM:List zB:=[.t 6]
theorem df:zq Tryz.prog yr=some (bare yH,yM,60):=by kernel_rfl
def nO:zc:=(.seq (rgN [Ob 23 .lss zb 22 21] [] []) (.seq (.cond (.t 23) .skip (.exit 0)) (.seq (.block 1 (.seq (rgN [Oi 24 4 20 22,On 25 4 24,⟨some 4,.alloc [zA,bv false,zA,zA],[],none⟩,Oz 4 4 25] [23,24,25] []) (.seq (rgN [OF 26 0 4,Ol 27 26,OL 28 27,OF 29 0 1,Ol 30 29,OL 31 30,Ob 32 .neq zb 28 31,Om 33 32,WF 34 0 4 33,Wl 35 34 33,Wk 36 gF 35 33,⟨some 37,.un .not,[.t 36],some (33,false)⟩,Op 38 33 37,Om 39 38,WF 40 1 4 39,Wn 41 3 40 39,Wk 42 ri 41 39,⟨some 43,.un .not,[.t 42],some (39,false)⟩,Op 44 39 43] [4,26,27,28,29,30,31,32,33,34,35,36,37,38,39,40,41,42,43] [4]) (.cond (.t 44) (.seq (rgN [Oc 2 2] [1,20,21,22,44] [1]) .ret) .skip)))) (rgN [Oj 45 .add zb 22 1,Om 22 45] [44,45] []))))
def ab:zc:=(.seq (rgN [Oc 2 0] [1,20,21,22,23] [1]) .ret)
def gW:zc:=(.seq (rgN [OB 1 0,Oc 2 0] [0,2] []) (.seq (.seq (rgN [OF 5 0 1,Ol 6 5,OL 7 6,Oj 8 .gtr zb 7 160,Om 9 8,WF 10 1 1 9,Wl 11 10 9,WL 12 11 9,Wj 13 .gtr zb 12 40 9,Op 14 9 13] [5,6,7,8,9,10,11,12,13] []) (.cond (.t 14) (.seq (rgN [Oc 2 3] [1,14] [1]) .ret) .skip)) (.seq (.seq (rgN [OF 15 0 1,Ol 16 15,Ok 17 gF 16,oq 18 (.un .not) [.t 17]] [14,15,16,17] []) (.cond (.t 18) (.seq (rgN [Oc 2 2] [1,18] [1]) .ret) .skip)) (.seq (.seq (rgN [OF 19 1 1,Ol 20 19,OL 21 20,Oc 22 0] [18,19] []) (.block 0 (.loop nO))) ab))))
def tO:List zB:=[.t 2]
theorem DI:zq Tryz.prog lq=some (bare gW,tO,46):=by kernel_rfl
def qM:zc:=(.seq (rgN [Ob 20 .lss zb 19 18] [] []) (.seq (.cond (.t 20) .skip (.exit 0)) (.seq (.block 1 (.seq (rgN [Om 21 19,Om 4 21] [20,21] []) (.seq (rgN [Om 22 3,Om 23 3,ON 24 23,OF 25 9 24,Ol 26 25,Om 27 4,oq 28 (.mkslice 1 1 [iv 0] [0]) [.t 27],oq 29 (.appendU 1 8) [.t 26,.t 28],ON 30 22,OF 31 9 30,Oz 1 31 29] [4,22,23,24,25,26,27,28,29,30,31] []) (rgD [ox (.start [32,33,34,35,36,37,38,39]) [],Om 32 3,Om 33 3,ON 34 33,OF 35 4 34,Ol 36 35,oq 37 (.call zN) [.c (iv 0)],⟨some 38,.mkslice 3 1 zF [0],[.t 37],none⟩,oq 39 (.append 3 56) [.t 36,.t 38],oq 32 (.chk (.mov)) [.t 3],ON 40 32,OF 41 4 40,Oz 1 41 39] [32,33,34,35,36,37,38,39,40,41] [])))) (rgN [Oj 42 .add zb 19 1,Om 19 42] [42] []))))
def qN:zc:=(.seq (rgN [Ob 47 .lss zb 46 45] [] []) (.seq (.cond (.t 47) .skip (.exit 2)) (.seq (.block 3 (.seq (rgN [Om 48 46,Oi 49 4 44 46,On 50 4 49,⟨some 6,.alloc [zA,bv false,zA,zA],[],none⟩,Om 5 48,Oz 4 6 50] [47,48,49,50] []) (.seq (rgD [ox (.start [51,52,53,54,55,56,57,58,59,60,61]) [],Om 51 3,Om 52 3,ON 53 52,OF 54 2 53,Ol 55 54,⟨some 56,.mkslice 3 0 zF [],[],none⟩,OF 57 0 6,Ol 58 57,oq 59 (.append 3 56) [.t 56,.t 58],oq 51 (.chk (.mov)) [.t 3],oq 52 (.chk (.mov)) [.t 3],oq 53 (.chk (.nilChk)) [.t 52],oq 54 (.chk (.faddr 2)) [.t 53],oq 55 (.chk (.load none)) [.t 54],⟨some 60,.mksliceL 1 1 [zA] [0],[.t 59],none⟩,oq 61 (.appendU 1 24) [.t 55,.t 60],oq 51 (.chk (.mov)) [.t 3],ON 62 51,OF 63 2 62,Oz 1 63 61] [51,52,53,54,55,56,57,58,59,60,61,62,63] []) (.seq (rgD [ox (.start [64,65,66,67,68,69,70,71,72]) [],Om 64 3,Om 65 3,ON 66 65,OF 67 3 66,Ol 68 67,OF 69 1 6,On 70 3 69,⟨some 71,.mkslice 3 1 zF [0],[.t 70],none⟩,oq 72 (.appendU 3 56) [.t 68,.t 71],oq 64 (.chk (.mov)) [.t 3],ON 73 64,OF 74 3 73,Oz 1 74 72] [6,64,65,66,67,68,69,70,71,72,73,74] [6]) (rgD [ox (.start [75,76,77,78,79,80,81,82,83,84,85,86,87]) [],Om 75 3,Om 76 3,ON 77 76,OF 78 8 77,Ol 79 78,Om 80 3,ON 81 80,OF 82 0 81,Ol 83 82,Om 84 5,Ob 85 .add zb 83 84,oq 86 (.mkslice 1 1 [iv 0] [0]) [.t 85],oq 87 (.appendU 1 8) [.t 79,.t 86],oq 75 (.chk (.mov)) [.t 3],ON 88 75,OF 89 8 88,Oz 1 89 87] [5,75,76,77,78,79,80,81,82,83,84,85,86,87,88,89] []))))) (rgN [Oj 90 .add zb 46 1,Om 46 90] [90] []))))
def kN:zc:=(.seq (rgN [Om 91 3,Om 2 91] [3,44,45,46,47,91] []) .ret)
def kO:zc:=(.seq (.seq (rgN [OF 43 1 1,Ol 44 43,OL 45 44,Oc 46 0] [1,18,19,20,43] [1]) (.block 2 (.loop qN))) kN)
def eS:zc:=(.seq (rgN [OB 1 0,oq 2 .mov [.c (.val (.pointer none))]] [0,2] []) (.seq (rgD [OF 7 0 1,Ol 8 7,OL 9 8,OF 10 1 1,Ol 11 10,OL 12 11,oq 13 (.call zN) [.c (iv 0)],⟨some 14,.build [iv 0,iv 0,zA,zA,zA,bv false,zA,zA,zA,zA] [(0,1),(1,1),(5,3)],[.t 9,.t 12,.t 13],none⟩,OB 15 14,Om 3 15] [7,8,9,10,11,12,13,14,15] []) (.seq (.seq (rgN [OF 16 0 1,Ol 17 16,OL 18 17,Oc 19 0] [16,17] []) (.block 0 (.loop qM))) kO)))
def dd:List zB:=[.t 2]
theorem S0:zq Tryz.prog tg=some (bare eS,dd,92):=by kernel_rfl
def qk:zc:=(.seq (rgN [Ob 15 .lss zb 14 13] [] []) (.seq (.cond (.t 15) .skip (.exit 0)) (.seq (.block 1 (.seq (rgN [Om 16 14,Oi 17 3 12 14,On 18 3 17,Oa 6,Om 5 16,Oz 3 6 18] [15,16,17,18] []) (.seq (rgD [On 19 3 6,Ok 20 xt 19,Oj 21 .lss zb 20 0,Om 22 21,Vm 23 4 22,Vj 24 .lss zb 23 0 22,Vm 25 24 22,Wn 26 3 6 25,Wm 27 0 25,WN 28 27 25,WF 29 3 28 25,Wl 30 29 25,Wm 31 4 25,Wi 32 3 30 31 25,Wn 33 3 32 25,WK 34 ml 26 33 25,Wj 35 .lss zb 34 0 25,Vp 36 25 35 22,Oq 37 22 36] [6,19,20,21,22,23,24,25,26,27,28,29,30,31,32,33,34,35,36] [6]) (.cond (.t 37) (rgN [Om 38 5,Om 4 38] [5,37,38] []) .skip)))) (rgN [Oj 39 .add zb 14 1,Om 14 39] [5,37,39] []))))
def mv:zc:=(.seq (rgN [Ob 49 .lss zb 48 47] [] []) (.seq (.cond (.t 49) .skip (.exit 2)) (.seq (.block 3 (.seq (rgN [Om 50 48,Om 8 50] [49,50] []) (rgD [ox (.start [51,52,53,54,55,56,57,58,59,60,61,62,63,64,65]) [],Om 51 0,ON 52 51,OF 53 2 52,Ol 54 53,Om 55 8,Om 56 0,ON 57 56,OF 58 2 57,Ol 59 58,Om 60 8,Oi 61 1 59 60,Ol 62 61,On 63 3 7,⟨some 64,.mkslice 3 1 zF [0],[.t 63],none⟩,oq 65 (.append 3 56) [.t 62,.t 64],oq 51 (.chk (.mov)) [.t 0],oq 52 (.chk (.nilChk)) [.t 51],oq 53 (.chk (.faddr 2)) [.t 52],oq 54 (.chk (.load none)) [.t 53],oq 55 (.chk (.mov)) [.t 8],Oi 66 1 54 55,Oz 1 66 65] [8,51,52,53,54,55,56,57,58,59,60,61,62,63,64,65,66] []))) (rgN [Oj 67 .add zb 48 1,Om 48 67] [67] []))))
def qj:zc:=(.seq (rgD [ox (.start [68,69,70,71,72,73,74,75,76,77,78,79,80,81,82,83]) [],Om 68 0,Om 69 0,ON 70 69,OF 71 9 70,Ol 72 71,Om 73 0,ON 74 73,OF 75 0 74,Ol 76 75,Om 77 0,ON 78 77,OF 79 1 78,Ol 80 79,Ob 81 .add zb 76 80,oq 82 (.mkslice 1 1 [iv 0] [0]) [.t 81],oq 83 (.appendU 1 8) [.t 72,.t 82],oq 68 (.chk (.mov)) [.t 0],ON 84 68,OF 85 9 84,Oz 1 85 83] [47,48,49,68,69,70,71,72,73,74,75,76,77,78,79,80,81,82,83,84,85] []) (.seq (rgD [ox (.start [86,87,88,89,90,91,92,93]) [],Om 86 0,Om 87 0,ON 88 87,OF 89 4 88,Ol 90 89,On 91 3 7,⟨some 92,.mkslice 3 1 zF [0],[.t 91],none⟩,oq 93 (.append 3 56) [.t 90,.t 92],oq 86 (.chk (.mov)) [.t 0],ON 94 86,OF 95 4 94,Oz 1 95 93] [7,86,87,88,89,90,91,92,93,94,95] [7]) (.seq (rgN [Om 96 0,Om 97 4,Om 98 0,ON 99 98,OF 100 9 99,Ol 101 100,OL 102 101,Oj 103 .sub zb 102 1,oq 104 (.callI uQ) [.t 96,.t 97,.t 103]] [4,96,97,98,99,100,101,102,103,104] []) (.seq (rgN [Om 105 0,oq 106 (.callI x6) [.t 105]] [105,106] []) (.seq (.seq (rgN [Om 107 0,ON 108 107,OF 109 5 108,On 110 3 109,Ok 111 xt 110,Oj 112 .lss zb 111 0] [107,108,109,110,111] []) (.cond (.t 112) (.seq (rgN [Om 113 0,oq 114 (.callI td) [.t 113],Om 2 114,oq 3 .mov [.c (bv false)]] [0,112,113,114] []) .ret) .skip)) (.seq (rgN [Om 115 0,oq 116 (.callI vm) [.t 115]] [0,112,115,116] []) (.seq (rgN [oq 2 .mov [.c zA],oq 3 .mov [.c (bv true)]] [] []) .ret)))))))
def mu:zc:=(.seq (.seq (rgN [Om 40 4,Oj 41 .lss zb 40 0] [12,13,14,15,40] []) (.cond (.t 41) (.seq (rgN [oq 2 .mov [.c zA],oq 3 .mov [.c (bv true)]] [0,4,41] []) .ret) .skip)) (.seq (rgN [oq 42 (.call zN) [.c (iv (-1))],Oa 7,Oz 3 7 42] [41,42] []) (.seq (.seq (rgN [Om 43 0,ON 44 43,OF 45 2 44,Ol 46 45,OL 47 46,Oc 48 0] [43,44,45,46] []) (.block 2 (.loop mv))) qj)))
def fU:zc:=(.seq (rgN [oq 2 .mov [.c zA],oq 3 .mov [.c (bv false)]] [2,3] []) (.seq (rgN [Oc 4 (-1)] [] []) (.seq (.seq (rgN [Om 9 0,ON 10 9,OF 11 3 10,Ol 12 11,OL 13 12,Oc 14 0] [9,10,11] []) (.block 0 (.loop qk))) mu)))
def sN:List zB:=[.t 2,.t 3]
theorem YN:zq Tryz.prog uR=some (bare fU,sN,117):=by kernel_rfl
def tV:zc:=(.seq (rgN [Ob 27 .lss zb 26 25] [] []) (.seq (.cond (.t 27) .skip (.exit 0)) (.seq (.block 1 (.seq (rgN [Om 28 26,Oi 29 1 24 26,Ol 30 29,Om 5 28,Om 6 30] [27,28,29,30] []) (.seq (rgN [Om 31 4,Om 32 5,oq 33 (.call zN) [.c (iv 0)],Oi 34 3 31 32,Oz 3 34 33] [31,32,33,34] []) (.seq (rgN [Om 35 6,Om 36 0,ON 37 36,OF 38 0 37,Ol 39 38,Ob 40 .lss zb 35 39] [35,36,37,38,39] []) (.cond (.t 40) (rgN [Om 41 4,Om 42 5,Om 43 1,Om 44 6,Oi 45 3 43 44,On 46 3 45,Oi 47 3 41 42,Oz 3 47 46] [5,6,40,41,42,43,44,45,46,47] []) .skip))))) (rgN [Oj 48 .add zb 26 1,Om 26 48] [5,6,40,48] []))))
def tX:zc:=(.seq (rgN [Ob 102 .lss zb 101 100] [] []) (.seq (.cond (.t 102) .skip (.exit 4)) (.seq (.block 5 (.seq (rgN [Om 103 101,Oi 104 3 99 101,On 105 3 104,Oa 10,Om 9 103,Oz 3 10 105] [102,103,104,105] []) (.seq (rgN [On 106 3 10,Ok 107 xt 106,Oj 108 .neq zb 107 0] [106,107] []) (.cond (.t 108) (rgD [Om 109 4,Om 110 9,Om 111 4,Om 112 9,Oi 113 3 111 112,On 114 3 113,Om 115 1,Om 116 8,Oi 117 3 115 116,On 118 3 117,On 119 3 10,OK 120 vn 118 119,OK 121 pY 114 120,Oi 122 3 109 110,Oz 3 122 121] [10,9,108,109,110,111,112,113,114,115,116,117,118,119,120,121,122] [10]) .skip)))) (rgN [Oj 123 .add zb 101 1,Om 101 123] [10,9,108,123] [10]))))
def tU:zc:=(rgN [Oj 124 .add zb 54 1,Om 54 124] [8,99,100,101,102,7,72,124] [])
def v6:zc:=(.seq (rgN [Ob 55 .lss zb 54 53] [] []) (.seq (.cond (.t 55) .skip (.exit 2)) (.seq (.block 3 (.seq (rgN [Om 56 54,Oi 57 1 52 54,Ol 58 57,Om 7 56,Om 8 58] [55,56,57,58] []) (.seq (.seq (rgN [Om 59 8,Om 60 0,ON 61 60,OF 62 0 61,Ol 63 62,Ob 64 .geq zb 59 63,Om 65 64,Wm 66 1 65,Wm 67 8 65,Wi 68 3 66 67 65,Wn 69 3 68 65,Wk 70 xt 69 65,Wj 71 .eql zb 70 0 65,Op 72 65 71] [59,60,61,62,63,64,65,66,67,68,69,70,71] []) (.cond (.t 72) (.exit 3) .skip)) (.seq (rgD [Om 73 0,Om 74 0,ON 75 74,OF 76 5 75,On 77 3 76,Om 78 1,Om 79 8,Oi 80 3 78 79,On 81 3 80,Om 82 0,ON 83 82,OF 84 3 83,Ol 85 84,Om 86 7,Oi 87 3 85 86,On 88 3 87,OK 89 vn 81 88,OK 90 sI 77 89,ON 91 73,OF 92 5 91,Oz 3 92 90] [72,73,74,75,76,77,78,79,80,81,82,83,84,85,86,87,88,89,90,91,92] []) (.seq (rgN [Om 93 0,ON 94 93,OF 95 2 94,Ol 96 95,Om 97 7,Oi 98 1 96 97,Ol 99 98,OL 100 99,Oc 101 0] [7,93,94,95,96,97,98] []) (.block 4 (.loop tX))))))) tU)))
def jD:zc:=(rgN [Om 125 0,Om 126 4,ON 127 125,OF 128 4 127,Oz 1 128 126] [0,1,4,52,53,54,55,125,126,127,128] [])
def jE:zc:=(.seq (.seq (rgN [Om 49 0,ON 50 49,OF 51 8 50,Ol 52 51,OL 53 52,Oc 54 0] [24,25,26,27,49,50,51] []) (.block 2 (.loop v6))) jD)
def c6:zc:=(.seq (rgN [Om 11 0,oq 12 (.call zN) [.c (iv 0)],ON 13 11,OF 14 5 13,Oz 3 14 12] [11,12,13,14] []) (.seq (rgN [Om 15 0,ON 16 15,OF 17 9 16,Ol 18 17,OL 19 18,⟨some 20,.mk 3 56 zF,[.t 19,.t 19],none⟩,Om 4 20] [15,16,17,18,19,20] []) (.seq (.seq (rgN [Om 21 0,ON 22 21,OF 23 9 22,Ol 24 23,OL 25 24,Oc 26 0] [21,22,23] []) (.block 0 (.loop tV))) jE)))
def bs:List zB:=[]
theorem Qd:zq Tryz.prog pg=some (bare c6,bs,129):=by kernel_rfl
def qK:zc:=(.seq (rgN [Om 6 0,oq 7 (.callI r8) [.t 6],Om 4 7] [6,7] []) (.seq (.seq (rgN [Om 8 4,Oj 9 .lss zb 8 0] [8] []) (.cond (.t 9) (.seq (rgN [Oc 2 0,oq 3 .mov [.c (bv true)]] [0,4,9] []) .ret) .skip)) (.seq (rgN [Om 10 0,Om 11 4,oq 12 (.callI pe) [.t 10,.t 11],Om 5 12] [9,10,11,12] []) (.seq (.seq (rgN [Om 13 5,Oj 14 .lss zb 13 0] [13] []) (.cond (.t 14) (.seq (rgN [Om 15 4,Om 2 15,oq 3 .mov [.c (bv false)]] [0,4,5,14,15] []) .ret) .skip)) (.seq (rgN [Om 16 0,Om 17 5,Om 18 4,oq 19 (.callI uQ) [.t 16,.t 17,.t 18]] [4,5,14,16,17,18,19] []) (.goto 0))))))
def eJ:zc:=(.seq (rgN [Oc 2 0,oq 3 .mov [.c (bv false)]] [2,3] []) (.again 0 qK))
def mS:List zB:=[.t 2,.t 3]
theorem SV:zq Tryz.prog x6=some (bare eJ,mS,20):=by kernel_rfl
def qi:zc:=(.seq (rgN [Ob 17 .lss zb 16 15] [] []) (.seq (.cond (.t 17) .skip (.exit 0)) (.seq (.block 1 (.seq (rgN [Om 18 16,Oi 19 1 14 16,Ol 20 19,Om 4 18,Om 5 20] [17,18,19,20] []) (.seq (rgN [Om 21 5,Om 22 0,ON 23 22,OF 24 0 23,Ol 25 24,Ob 26 .lss zb 21 25] [21,22,23,24,25] []) (.cond (.t 26) (rgN [Om 27 3,Om 28 5,Om 29 0,ON 30 29,OF 31 3 30,Ol 32 31,Om 33 4,Oi 34 3 32 33,On 35 3 34,Oi 36 3 27 28,Oz 3 36 35] [4,5,26,27,28,29,30,31,32,33,34,35,36] []) .skip)))) (rgN [Oj 37 .add zb 16 1,Om 16 37] [4,5,26,37] []))))
def eM:zc:=(.seq (rgN [Om 38 3,Om 2 38] [0,3,14,15,16,17,38] []) .ret)
def Yo:zc:=(.seq (rgN [oq 2 .mov [.c zA]] [2] []) (.seq (rgN [Om 6 0,ON 7 6,OF 8 0 7,Ol 9 8,oq 10 (.callI rp) [.t 9],Om 3 10] [6,7,8,9,10] []) (.seq (.seq (rgN [Om 11 0,ON 12 11,OF 13 8 12,Ol 14 13,OL 15 14,Oc 16 0] [11,12,13] []) (.block 0 (.loop qi))) eM)))
def YG:List zB:=[.t 2]
theorem M2:zq Tryz.prog qQ=some (bare Yo,YG,39):=by kernel_rfl
def rz:zc:=(.seq (rgN [Ob 41 .lss zb 40 39] [] []) (.seq (.cond (.t 41) .skip (.exit 0)) (.seq (.block 1 (.seq (rgN [Om 42 40,Oi 43 1 38 40,Ol 44 43,Om 6 42,Om 7 44] [41,42,43,44] []) (.seq (rgN [Om 45 7,Om 46 0,ON 47 46,OF 48 0 47,Ol 49 48,Ob 50 .lss zb 45 49] [45,46,47,48,49] []) (.cond (.t 50) (rgN [Om 51 5,Om 52 7,Om 53 0,ON 54 53,OF 55 2 54,Ol 56 55,Om 57 6,Oi 58 1 56 57,Ol 59 58,Om 60 1,Oi 61 3 59 60,On 62 3 61,Ok 63 qc 62,Oi 64 3 51 52,Oz 3 64 63] [6,7,50,51,52,53,54,55,56,57,58,59,60,61,62,63,64] []) .skip)))) (rgN [Oj 65 .add zb 40 1,Om 40 65] [6,7,50,65] []))))
def jC:zc:=(.seq (rgN [Om 66 5,Om 4 66] [0,1,5,38,39,40,41,66] []) .ret)
def S3:zc:=(.seq (rgN [oq 4 .mov [.c zA]] [4] []) (.seq (rgN [Om 8 0,ON 9 8,OF 10 0 9,Ol 11 10,oq 12 (.callI rp) [.t 11],Om 5 12] [8,9,10,11,12] []) (.seq (.seq (rgD [Om 13 0,ON 14 13,OF 15 9 14,Ol 16 15,Om 17 1,Oi 18 1 16 17,Ol 19 18,Om 20 0,ON 21 20,OF 22 0 21,Ol 23 22,Ob 24 .lss zb 19 23] [13,14,15,16,17,18,19,20,21,22,23] []) (.cond (.t 24) (rgD [Om 25 5,Om 26 0,ON 27 26,OF 28 9 27,Ol 29 28,Om 30 1,Oi 31 1 29 30,Ol 32 31,oq 33 (.call zN) [.c (iv 1)],Oi 34 3 25 32,Oz 3 34 33] [24,25,26,27,28,29,30,31,32,33,34] []) .skip)) (.seq (.seq (rgN [Om 35 0,ON 36 35,OF 37 8 36,Ol 38 37,OL 39 38,Oc 40 0] [24,35,36,37] []) (.block 0 (.loop rz))) jC))))
def aU:List zB:=[.t 4]
theorem Dx:zq Tryz.prog bE=some (bare S3,aU,67):=by kernel_rfl
def xi:zc:=(.seq (rgN [Ob 17 .lss zb 16 15] [] []) (.seq (.cond (.t 17) .skip (.exit 0)) (.seq (.block 1 (.seq (rgN [Om 18 16,Oi 19 1 14 16,Ol 20 19,Om 4 18,Om 5 20] [17,18,19,20] []) (.seq (rgD [Om 21 5,Om 22 0,ON 23 22,OF 24 0 23,Ol 25 24,Ob 26 .geq zb 21 25,Om 27 26,Vm 28 5 27,Vm 29 0 27,VN 30 29 27,VF 31 0 30 27,Vl 32 31 27,Vm 33 0 27,VN 34 33 27,VF 35 1 34 27,Vl 36 35 27,Vb 37 .add zb 32 36 27,Vb 38 .lss zb 28 37 27,Oq 39 27 38] [21,22,23,24,25,26,27,28,29,30,31,32,33,34,35,36,37,38] []) (.cond (.t 39) (rgD [Om 40 3,Om 41 5,Om 42 0,ON 43 42,OF 44 0 43,Ol 45 44,Ob 46 .sub zb 41 45,Om 47 0,ON 48 47,OF 49 4 48,Ol 50 49,Om 51 4,Oi 52 3 50 51,On 53 3 52,Ok 54 qc 53,Oi 55 3 40 46,Oz 3 55 54] [4,5,39,40,41,42,43,44,45,46,47,48,49,50,51,52,53,54,55] []) .skip)))) (rgN [Oj 56 .add zb 16 1,Om 16 56] [4,5,39,56] []))))
def nG:zc:=(.seq (rgN [Om 57 3,Om 2 57] [0,3,14,15,16,17,57] []) .ret)
def jB:zc:=(.seq (rgN [oq 2 .mov [.c zA]] [2] []) (.seq (rgN [Om 6 0,ON 7 6,OF 8 1 7,Ol 9 8,oq 10 (.callI rp) [.t 9],Om 3 10] [6,7,8,9,10] []) (.seq (.seq (rgN [Om 11 0,ON 12 11,OF 13 9 12,Ol 14 13,OL 15 14,Oc 16 0] [11,12,13] []) (.block 0 (.loop xi))) nG)))
def gh:List zB:=[.t 2]
theorem Zo:zq Tryz.prog td=some (bare jB,gh,58):=by kernel_rfl
def QW:zc:=(.seq (rgN [Oa 6] [] []) (.seq (rgN [Om 10 0,Om 11 1,Om 12 2,oq 13 (.call js) [.t 10,.t 11,.t 12],Om 9 13,Oe 14 0 9,Oe 15 1 9,Oa 7,Oz 3 7 14,Om 8 15] [0,1,2,10,11,12,13,9,14,15,8] []) (.seq (rgN [On 16 3 7,Oz 3 6 16] [7,16] [7]) .ret)))
def No:List zB:=[.cell 6 (some 3)]
theorem AL:zq Tryz.prog rj=some (bare QW,No,17):=by kernel_rfl
def YX:zc:=(.seq (rgN [oq 2 .mov [.c zA]] [2] []) (.seq (.seq (rgN [Om 3 0,Oj 4 .lss xG 3 0] [3] []) (.cond (.t 4) (.seq (rgN [Om 5 0,Oj 6 .add xG 5 1,oq 7 (.un .neg) [.t 6],oq 8 (.conv xG zh) [.t 7],oq 9 (.bin .add zh (.tmp 8) (.const (.int .u64 1))) [.t 8,.c (.val (.int .u64 1))],Ok 10 vW 9,Om 2 10] [0,4,5,6,7,8,9,10] []) .ret) .skip)) (.seq (rgN [Om 11 0,oq 12 (.conv xG zh) [.t 11],Ok 13 vW 12,Om 2 13] [0,4,11,12,13] []) .ret)))
def Xp:List zB:=[.t 2]
theorem AM:zq Tryz.prog jt=some (bare YX,Xp,14):=by kernel_rfl
def bT:zc:=(.seq (rgN [oq 2 .mov [.c zA]] [2] []) (.seq (rgN [Om 3 0,oq 4 (.conv zh zD) [.t 3],Om 5 0,oq 6 (.bin .shr zh (.tmp 5) (.const (.int .u64 32))) [.t 5,.c (.val (.int .u64 32))],oq 7 (.conv zh zD) [.t 6],oq 8 (.mkslice 1 2 [.val (.int .u32 0)] [0,1]) [.t 4,.t 7],Ok 9 xv 8,Om 2 9] [0,3,4,5,6,7,8,9] []) .ret))
def aV:List zB:=[.t 2]
theorem N3:zq Tryz.prog vW=some (bare bT,aV,10):=by kernel_rfl
def S5:zc:=(.seq (rgN [OB 2 0,OB 3 1,oq 4 .mov [.c zA],oq 5 .mov [.c zA]] [0,1,4,5] []) (.seq (rgD [OF 6 1 2,Ol 7 6,OF 8 2 3,Ol 9 8,OK 10 qe 7 9,OF 11 1 3,Ol 12 11,OF 13 2 2,Ol 14 13,OK 15 qe 12 14,Om 4 10,Om 5 15] [2,3,6,7,8,9,10,11,12,13,14,15] [2,3]) .ret))
def RH:List zB:=[.t 4,.t 5]
theorem Dz:zq Tryz.prog gB=some (bare S5,RH,16):=by kernel_rfl
def dC:zc:=(.seq (rgN [Ob 24 .lss zb 23 22] [] []) (.seq (.cond (.t 24) .skip (.exit 2)) (.seq (.block 3 (.seq (rgN [Om 25 23,Om 8 25] [24,25] []) (.seq (rgD [Om 26 0,Om 27 6,Oi 28 1 26 27,Ol 29 28,oq 30 (.conv zD zh) [.t 29],Om 31 1,Om 32 8,Oi 33 1 31 32,Ol 34 33,oq 35 (.conv zD zh) [.t 34],Ob 36 .mul zh 30 35,Om 37 5,Om 38 6,Om 39 8,Ob 40 .add zb 38 39,Oi 41 1 37 40,Ol 42 41,oq 43 (.conv zD zh) [.t 42],Ob 44 .add zh 36 43,Om 45 7,Ob 46 .add zh 44 45,Om 9 46] [7,26,27,28,29,30,31,32,33,34,35,36,37,38,39,40,41,42,43,44,45,46] []) (rgN [Om 47 5,Om 48 6,Om 49 8,Ob 50 .add zb 48 49,Om 51 9,oq 52 (.conv zh zD) [.t 51],Om 53 9,oq 54 (.bin .shr zh (.tmp 53) (.const (.int .u64 32))) [.t 53,.c (.val (.int .u64 32))],Oi 55 1 47 50,Oz 1 55 52,Om 7 54] [8,9,47,48,49,50,51,52,53,54,55] [])))) (rgN [Oj 56 .add zb 23 1,Om 23 56] [56] []))))
def Uf:zc:=(rgN [Om 57 5,Om 58 6,Om 59 1,OL 60 59,Ob 61 .add zb 58 60,Om 62 7,oq 63 (.conv zh zD) [.t 62],Oi 64 1 57 61,Oz 1 64 63] [6,7,22,23,24,57,58,59,60,61,62,63,64] [])
def Ug:zc:=(rgN [Oj 65 .add zb 18 1,Om 18 65] [65] [])
def dD:zc:=(.seq (rgN [Ob 19 .lss zb 18 17] [] []) (.seq (.cond (.t 19) .skip (.exit 0)) (.seq (.block 1 (.seq (rgN [Om 20 18,Om 6 20] [19,20] []) (.seq (rgN [oq 7 .mov [.c (.val (.int .u64 0))]] [] []) (.seq (.seq (rgN [Om 21 1,OL 22 21,Oc 23 0] [21] []) (.block 2 (.loop dC))) Uf)))) Ug)))
def Uh:zc:=(.seq (.region false [15] [Om 66 5,Ok 67 xv 66,Om 4 67] [0,1,5,17,18,19,66,67] []) .ret)
def Lo:zc:=(.seq (rgN [oq 4 .mov [.c zA]] [4] []) (.seq (rgN [Om 10 0,OL 11 10,Om 12 1,OL 13 12,Ob 14 .add zb 11 13,oq 15 (.mk 1 4 [.val (.int .u32 0)]) [.t 14,.t 14],Om 5 15] [10,11,12,13,14,15] []) (.seq (.seq (rgN [Om 16 0,OL 17 16,Oc 18 0] [16] []) (.block 0 (.loop dD))) Uh)))
def Kn:List zB:=[.t 4]
theorem acu:zq Tryz.prog qe=some (bare Lo,Kn,68):=by kernel_rfl
def nJ:zc:=(.seq (rgN [Ob 23 .lss zb 22 21] [] []) (.seq (.cond (.t 23) .skip (.exit 0)) (.seq (.block 1 (.seq (rgN [Om 24 22,Om 7 24] [23,24] []) (.seq (rgN [Om 25 0,Om 26 7,Oi 27 1 25 26,Ol 28 27,oq 29 (.conv zD zh) [.t 28],Om 30 6,Ob 31 .add zh 29 30,Om 8 31] [6,25,26,27,28,29,30,31] []) (.seq (.seq (rgN [Om 32 7,Om 33 1,OL 34 33,Ob 35 .lss zb 32 34] [32,33,34] []) (.cond (.t 35) (rgN [Om 36 8,Om 37 1,Om 38 7,Oi 39 1 37 38,Ol 40 39,oq 41 (.conv zD zh) [.t 40],Ob 42 .add zh 36 41,Om 8 42] [35,36,37,38,39,40,41,42] []) .skip)) (rgN [Om 43 5,Om 44 7,Om 45 8,oq 46 (.conv zh zD) [.t 45],Om 47 8,oq 48 (.bin .shr zh (.tmp 47) (.const (.int .u64 32))) [.t 47,.c (.val (.int .u64 32))],Oi 49 1 43 44,Oz 1 49 46,Om 6 48] [7,8,35,43,44,45,46,47,48,49] []))))) (rgN [Oj 50 .add zb 22 1,Om 22 50] [50] []))))
def dz:zc:=(.seq (rgN [Om 51 5,Om 52 0,OL 53 52,Om 54 6,oq 55 (.conv zh zD) [.t 54],Oi 56 1 51 53,Oz 1 56 55] [0,1,6,21,22,23,51,52,53,54,55,56] []) (.seq (.region false [19] [Om 57 5,Ok 58 xv 57,Om 4 58] [5,57,58] []) .ret))
def TU:zc:=(.seq (rgN [oq 4 .mov [.c zA]] [4] []) (.seq (.seq (rgN [Om 9 0,OL 10 9,Om 11 1,OL 12 11,Ob 13 .lss zb 10 12] [9,10,11,12] []) (.cond (.t 13) (rgN [Om 14 1,Om 15 0,Om 0 14,Om 1 15] [13,14,15] []) .skip)) (.seq (rgN [Om 16 0,OL 17 16,Oj 18 .add zb 17 1,oq 19 (.mk 1 4 [.val (.int .u32 0)]) [.t 18,.t 18],Om 5 19] [13,16,17,18,19] []) (.seq (rgN [oq 6 .mov [.c (.val (.int .u64 0))]] [] []) (.seq (.seq (rgN [Om 20 0,OL 21 20,Oc 22 0] [20] []) (.block 0 (.loop nJ))) dz)))))
def Sn:List zB:=[.t 4]
theorem acr:zq Tryz.prog jc=some (bare TU,Sn,59):=by kernel_rfl
def kQ:zc:=(.seq (rgN [Ob 24 .lss zb 23 22] [] []) (.seq (.cond (.t 24) .skip (.exit 0)) (.seq (.block 1 (.seq (rgN [Om 25 23,Om 8 25] [24,25] []) (.seq (rgN [Om 26 0,Om 27 8,Oi 28 1 26 27,Ol 29 28,oq 30 (.conv zD zh) [.t 29],Om 31 7,Ob 32 .sub zh 30 31,Om 9 32] [7,26,27,28,29,30,31,32] []) (.seq (.seq (rgN [Om 33 8,Om 34 1,OL 35 34,Ob 36 .lss zb 33 35] [33,34,35] []) (.cond (.t 36) (rgN [Om 37 9,Om 38 1,Om 39 8,Oi 40 1 38 39,Ol 41 40,oq 42 (.conv zD zh) [.t 41],Ob 43 .sub zh 37 42,Om 9 43] [36,37,38,39,40,41,42,43] []) .skip)) (rgN [Om 44 6,Om 45 8,Om 46 9,oq 47 (.conv zh zD) [.t 46],Om 48 9,oq 49 (.bin .shr zh (.tmp 48) (.const (.int .u64 63))) [.t 48,.c (.val (.int .u64 63))],Oi 50 1 44 45,Oz 1 50 47,Om 7 49] [8,9,36,44,45,46,47,48,49,50] []))))) (rgN [Oj 51 .add zb 23 1,Om 23 51] [51] []))))
def Ui:zc:=(.seq (.region false [20] [Om 52 6,Ok 53 xv 52,Om 4 53,oq 5 .mov [.c (bv true)]] [0,1,6,7,22,23,24,52,53] []) .ret)
def Lp:zc:=(.seq (rgN [oq 4 .mov [.c zA],oq 5 .mov [.c (bv false)]] [4,5] []) (.seq (rgN [Om 10 0,Ok 11 xv 10,Om 12 1,Ok 13 xv 12,Om 0 11,Om 1 13] [10,11,12,13] []) (.seq (.seq (rgN [Om 14 0,Om 15 1,OK 16 pZ 14 15,Oj 17 .lss zb 16 0] [14,15,16] []) (.cond (.t 17) (.seq (rgN [oq 4 .mov [.c zA],oq 5 .mov [.c (bv false)]] [0,1,17] []) .ret) .skip)) (.seq (rgN [Om 18 0,OL 19 18,oq 20 (.mk 1 4 [.val (.int .u32 0)]) [.t 19,.t 19],Om 6 20] [17,18,19,20] []) (.seq (rgN [oq 7 .mov [.c (.val (.int .u64 0))]] [] []) (.seq (.seq (rgN [Om 21 0,OL 22 21,Oc 23 0] [21] []) (.block 0 (.loop kQ))) Ui))))))
def So:List zB:=[.t 4,.t 5]
theorem acv:zq Tryz.prog Zx=some (bare Lp,So,54):=by kernel_rfl
def v8:zc:=(.seq (.seq (rgN [Om 4 3,Oj 5 .lss zb 4 6] [4] []) (.cond (.t 5) .skip (.exit 0))) (.seq (.block 1 (.seq (rgN [Om 8 3,oq 9 (.iaddrA 6 1) [.t 1,.t 8],Ol 10 9,Oj 11 .lss zb 10 0,Om 12 11,Wm 13 3 12,⟨some 14,.iaddrA 6 1,[.t 1,.t 13],some (12,false)⟩,Wl 15 14 12,Wj 16 .gtr zb 15 4 12,Op 17 12 16] [5,8,9,10,11,12,13,14,15,16] []) (.cond (.t 17) (.seq (rgN [oq 2 .mov [.c (bv false)]] [1,3,17] [1]) .ret) .skip))) (rgN [Om 6 3,Oj 7 .add zb 6 1,Om 3 7] [17,6,7] [])))
def jM:zc:=(.seq (rgN [oq 2 .mov [.c (bv true)]] [1,3,5] [1]) .ret)
def ba:zc:=(.seq (rgN [OB 1 0,oq 2 .mov [.c (bv false)]] [0,2] []) (.seq (.seq (rgN [Oc 3 0] [] []) (.block 0 (.loop v8))) jM))
def pB:List zB:=[.t 2]
theorem Qi:zq Tryz.prog pi=some (bare ba,pB,18):=by kernel_rfl
def va:zc:=(.seq (rgN [OB 3 0,OB 5 2,Oc 6 0,Oc 7 0] [0,2,6,7] []) (.seq (rgN [OF 10 18 3,Ol 11 10,OL 12 11,Om 8 12] [10,11,12] []) (.seq (.block 0 (.seq (rgN [Om 14 1,Om 15 8,Ob 16 .lss zb 14 15,Om 13 16] [14,15,16] []) (.cond (.t 13) (.seq (.seq (rgN [OF 17 0 5,Ol 18 17,Om 19 1,Ob 20 .eql zb 18 19] [1,3,5,8,13,17,18,19] [3,5]) (.cond (.t 20) (.seq (rgN [Oc 6 1,Oc 7 1] [20] []) .ret) .skip)) (.seq (rgN [Oc 6 0,Oc 7 1] [20] []) .ret)) (.seq (rgN [Om 22 1,Om 23 8,Oj 24 .add zb 23 6,Ob 25 .lss zb 22 24,Om 21 25] [13,22,23,24,25] []) (.cond (.t 21) (.seq (rgD [Om 26 1,Om 27 8,Ob 28 .sub zb 26 27,OF 29 1 5,oq 30 (.iaddrA 6 1) [.t 29,.t 28],Ol 31 30,Om 32 1,Om 33 8,Ob 34 .sub zb 32 33,OF 35 0 3,oq 36 (.iaddrA 6 1) [.t 35,.t 34],Ol 37 36,Om 6 31,Om 7 37] [1,3,5,8,21,26,27,28,29,30,31,32,33,34,35,36,37] [3,5]) .ret) .skip))))) (.seq (rgN [Om 38 1,Om 39 8,Ob 40 .sub zb 38 39,Oj 41 .sub zb 40 6,Om 9 41] [1,8,21,38,39,40,41] []) (.seq (.seq (rgD [Om 42 9,OF 43 12 3,oq 44 (.iaddrA 6 1) [.t 43,.t 42],Ol 45 44,Oj 46 .neq zb 45 0,Om 47 46,VF 48 0 5 47,Vl 49 48 47,VF 50 18 3 47,Vl 51 50 47,VL 52 51 47,Vb 53 .lss zb 49 52 47,Oq 54 47 53,Om 55 54,Vm 56 9 55,VF 57 12 3 55,⟨some 58,.iaddrA 6 1,[.t 57,.t 56],some (55,true)⟩,Vl 59 58 55,VF 60 18 3 55,Vl 61 60 55,VF 62 0 5 55,Vl 63 62 55,Vi 64 1 61 63 55,Vl 65 64 55,Vb 66 .neq zb 59 65 55,Oq 67 55 66] [42,43,44,45,46,47,48,49,50,51,52,53,54,55,56,57,58,59,60,61,62,63,64,65,66] []) (.cond (.t 67) (.seq (rgD [Om 68 9,OF 69 1 5,oq 70 (.iaddrA 6 1) [.t 69,.t 68],Ol 71 70,Om 72 9,OF 73 6 3,oq 74 (.iaddrA 6 1) [.t 73,.t 72],Ol 75 74,Om 6 71,Om 7 75] [3,5,9,67,68,69,70,71,72,73,74,75] [3,5]) .ret) .skip)) (.seq (rgD [Om 76 9,OF 77 6 3,oq 78 (.iaddrA 6 1) [.t 77,.t 76],Ol 79 78,Oc 6 0,Om 7 79] [3,5,9,67,76,77,78,79] [3,5]) .ret))))))
def ve:List zB:=[.t 6,.t 7]
theorem tF:zq Tryz.prog tf=some (bare va,ve,80):=by kernel_rfl
def Ls:zc:=(.seq (rgN [Oa 4,Oc 5 0] [5] []) (.seq (rgN [Om 6 0,Oj 7 .lss xG 6 0,Om 8 1,Oj 9 .lss xG 8 0,Ob 10 .neq uz 7 9,Om 11 0,Ok 12 dq 11,Om 13 1,Ok 14 dq 13,oq 15 (.call pF) [.t 10,.t 12,.t 14],Oe 16 0 15,Oe 17 1 15,Oz 3 4 16,Om 5 17] [0,1,6,7,8,9,10,11,12,13,14,15,16,17] []) .ret))
def Kq:List zB:=[.cell 4 (some 3),.t 5]
theorem acA:zq Tryz.prog TL=some (bare Ls,Kq,18):=by kernel_rfl
def bW:zc:=(.seq (rgN [oq 2 .mov [.c (bv false)]] [2] []) (.seq (rgN [Om 3 0,OL 4 3,Oj 5 .eql zb 4 0,Om 6 5,Wm 7 0 6,Wm 8 0 6,WL 9 8 6,Wj 10 .sub zb 9 1 6,Wi 11 1 7 10 6,Wl 12 11 6,⟨some 13,.bin .neq zD (.tmp 12) (.const (.int .u32 0)),[.t 12,.c (.val (.int .u32 0))],some (6,false)⟩,Op 14 6 13,Om 2 14] [0,3,4,5,6,7,8,9,10,11,12,13,14] []) .ret))
def aX:List zB:=[.t 2]
theorem DE:zq Tryz.prog gD=some (bare bW,aX,15):=by kernel_rfl
def dI:zc:=(.seq (.seq (rgN [Om 8 1,OL 9 8,Oj 10 .gtr zb 9 0] [8,9] []) (.cond (.t 10) .skip (.exit 0))) (.block 1 (.seq (rgN [Om 12 0,Om 13 1,OK 14 nC 12 13,Om 11 14,Oe 15 0 11,Oe 16 1 11,Oe 17 2 11,Om 5 15,Om 6 16,Om 7 17] [0,10,12,13,14,11,15,16,17,5,7] []) (.seq (rgN [Om 18 1,Om 0 18] [1,18] []) (rgN [Om 19 6,Om 1 19] [6,19] [])))))
def Um:zc:=(.seq (rgN [Om 20 0,Ok 21 tT 20,Om 4 21] [0,1,10,20,21] []) .ret)
def Lx:zc:=(.seq (rgN [oq 4 .mov [.c zA]] [4] []) (.seq (.block 0 (.loop dI)) Um))
def Kv:List zB:=[.t 4]
theorem acF:zq Tryz.prog eD=some (bare Lx,Kv,22):=by kernel_rfl
def kR:zc:=(.seq (.seq (rgN [Om 7 6,Om 8 1,OL 9 8,Ob 10 .lss zb 7 9] [7,8,9] []) (.cond (.t 10) .skip (.exit 0))) (.seq (.block 1 (rgN [Om 13 5,Om 14 0,Om 15 1,Om 16 6,Oi 17 1 15 16,Ol 18 17,oq 19 (.conv zD zh) [.t 18],OK 20 bH 14 19,Om 21 6,OK 22 bJ 20 21,OK 23 qg 13 22,Om 5 23] [10,13,14,15,16,17,18,19,20,21,22,23] [])) (rgN [Om 11 6,Oj 12 .add zb 11 1,Om 6 12] [11,12] [])))
def dJ:zc:=(.seq (rgN [Om 24 5,Om 4 24] [0,1,5,6,10,24] []) .ret)
def Ly:zc:=(.seq (rgN [oq 4 .mov [.c zA]] [4] []) (.seq (rgN [oq 5 .mov [.c zA]] [] []) (.seq (.seq (rgN [Oc 6 0] [] []) (.block 0 (.loop kR))) dJ)))
def Sp:List zB:=[.t 4]
theorem acG:zq Tryz.prog mn=some (bare Ly,Sp,25):=by kernel_rfl
def QY:zc:=(.seq (rgN [Oa 6,Oc 7 0] [7] []) (.seq (.seq (rgN [Om 15 2,OL 16 15,Oj 17 .eql zb 16 0] [15,16] []) (.cond (.t 17) (.seq (rgN [⟨some 18,.build zF [],[],none⟩,Oz 3 6 18,Oc 7 8] [0,1,2,17,18] []) .ret) .skip)) (.seq (rgN [Om 19 1,Om 20 2,OK 21 eD 19 20,Om 8 21] [17,19,20,21] []) (.seq (rgN [Om 23 1,Om 24 8,OK 25 nC 23 24,Om 22 25,Oe 26 0 22,Oe 27 1 22,Oe 28 2 22,Om 9 26,Om 10 27,Om 11 28] [23,24,25,22,26,27,28,10,11] []) (.seq (rgN [Om 30 2,Om 31 8,OK 32 nC 30 31,Om 29 32,Oe 33 0 29,Oe 34 1 29,Oe 35 2 29,Om 12 33,Om 13 34,Om 14 35] [2,8,30,31,32,29,33,34,35,13,14] []) (.seq (rgN [Om 36 0,Om 37 36,Vm 38 1 37,VL 39 38 37,Vj 40 .gtr zb 39 0 37,Oq 41 37 40,Om 42 9,Om 43 12,⟨some 44,.build zF [(0,1),(1,1),(2,1)],[.t 41,.t 42,.t 43],none⟩,Oz 3 6 44,Oc 7 0] [0,1,9,12,36,37,38,39,40,41,42,43,44] []) .ret))))))
def cw:List zB:=[.cell 6 (some 3),.t 7]
theorem AO:zq Tryz.prog pF=some (bare QY,cw,45):=by kernel_rfl
def dF:zc:=(.seq (.seq (rgN [Om 9 7,Om 10 0,OL 11 10,Om 12 1,OL 13 12,⟨some 14,.mm .max #[zb,zb] zb,[.t 11,.t 13],none⟩,Ob 15 .leq zb 9 14] [9,10,11,12,13,14] []) (.cond (.t 15) .skip (.exit 0))) (.seq (.block 1 (.seq (rgN [Om 18 0,Om 19 7,OK 20 xN 18 19,Om 21 1,Om 22 7,OK 23 xN 21 22,Ob 24 .add zh 20 23,Om 25 6,Ob 26 .add zh 24 25,Om 8 26] [6,15,18,19,20,21,22,23,24,25,26] []) (.seq (rgN [Om 27 5,Om 28 8,oq 29 (.bin .rem zh (.tmp 28) (.const (.int .u64 4294967296))) [.t 28,.c (.val (.int .u64 4294967296))],oq 30 (.conv zh zD) [.t 29],oq 31 (.mkslice 1 1 [.val (.int .u32 0)] [0]) [.t 30],oq 32 (.append 1 4) [.t 27,.t 31],Om 5 32] [27,28,29,30,31,32] []) (rgN [Om 33 8,oq 34 (.bin .quo zh (.tmp 33) (.const (.int .u64 4294967296))) [.t 33,.c (.val (.int .u64 4294967296))],Om 6 34] [8,33,34] [])))) (rgN [Om 16 7,Oj 17 .add zb 16 1,Om 7 17] [16,17] [])))
def Uj:zc:=(.seq (rgN [Om 35 5,Ok 36 tT 35,Om 4 36] [0,1,5,6,7,15,35,36] []) .ret)
def Lu:zc:=(.seq (rgN [oq 4 .mov [.c zA]] [4] []) (.seq (rgN [oq 5 .mov [.c zA]] [] []) (.seq (rgN [oq 6 .mov [.c (.val (.int .u64 0))]] [] []) (.seq (.seq (rgN [Oc 7 0] [] []) (.block 0 (.loop dF))) Uj))))
def Kt:List zB:=[.t 4]
theorem acC:zq Tryz.prog qg=some (bare Lu,Kt,37):=by kernel_rfl
def dK:zc:=(.seq (.seq (rgN [Om 14 8,Om 15 0,OL 16 15,Ob 17 .lss zb 14 16] [14,15,16] []) (.cond (.t 17) .skip (.exit 0))) (.seq (.block 1 (.seq (rgN [Om 20 0,Om 21 8,OK 22 xN 20 21,oq 23 (.bin .add zh (.const (.int .u64 4294967296)) (.tmp 22)) [.c (.val (.int .u64 4294967296)),.t 22],Om 24 1,Om 25 8,OK 26 xN 24 25,Ob 27 .sub zh 23 26,Om 28 7,Ob 29 .sub zh 27 28,Om 9 29] [7,17,20,21,22,23,24,25,26,27,28,29] []) (.seq (rgN [Om 30 6,Om 31 9,oq 32 (.bin .rem zh (.tmp 31) (.const (.int .u64 4294967296))) [.t 31,.c (.val (.int .u64 4294967296))],oq 33 (.conv zh zD) [.t 32],oq 34 (.mkslice 1 1 [.val (.int .u32 0)] [0]) [.t 33],oq 35 (.append 1 4) [.t 30,.t 34],Om 6 35] [30,31,32,33,34,35] []) (rgN [Om 36 9,oq 37 (.bin .quo zh (.tmp 36) (.const (.int .u64 4294967296))) [.t 36,.c (.val (.int .u64 4294967296))],oq 38 (.bin .sub zh (.const (.int .u64 1)) (.tmp 37)) [.c (.val (.int .u64 1)),.t 37],Om 7 38] [9,36,37,38] [])))) (rgN [Om 18 8,Oj 19 .add zb 18 1,Om 8 19] [18,19] [])))
def Un:zc:=(.seq (rgN [Om 39 6,Ok 40 tT 39,Om 4 40,oq 5 .mov [.c (bv true)]] [0,1,6,7,8,17,39,40] []) .ret)
def Lz:zc:=(.seq (rgN [oq 4 .mov [.c zA],oq 5 .mov [.c (bv false)]] [4,5] []) (.seq (.seq (rgN [Om 10 0,Om 11 1,OK 12 ZB 10 11,Oj 13 .lss zb 12 0] [10,11,12] []) (.cond (.t 13) (.seq (rgN [oq 4 .mov [.c zA],oq 5 .mov [.c (bv false)]] [0,1,13] []) .ret) .skip)) (.seq (rgN [oq 6 .mov [.c zA]] [13] []) (.seq (rgN [oq 7 .mov [.c (.val (.int .u64 0))]] [] []) (.seq (.seq (rgN [Oc 8 0] [] []) (.block 0 (.loop dK))) Un)))))
def Sq:List zB:=[.t 4,.t 5]
theorem acH:zq Tryz.prog eE=some (bare Lz,Sq,41):=by kernel_rfl
def ZF:zc:=(.seq (rgN [OB 1 0,Oa 2] [0] []) (.seq (rgN [OF 3 0 1,Ol 4 3,oq 5 (.un .not) [.t 4],Om 6 5,VF 7 1 1 6,Vl 8 7 6,VL 9 8 6,Vj 10 .gtr zb 9 0 6,Oq 11 6 10,OF 12 1 1,Ol 13 12,OF 14 2 1,Ol 15 14,⟨some 16,.build zF [(0,1),(1,1),(2,1)],[.t 11,.t 13,.t 15],none⟩,Oz 3 2 16] [1,3,4,5,6,7,8,9,10,11,12,13,14,15,16] [1]) .ret))
def ZY:List zB:=[.cell 2 (some 3)]
theorem acz:zq Tryz.prog Zz=some (bare ZF,ZY,17):=by kernel_rfl
def S6:zc:=(.seq (rgN [oq 2 .mov [.c (bv false)]] [2] []) (.seq (rgN [Om 3 0,Ok 4 xv 3,OL 5 4,Om 6 0,OL 7 6,Ob 8 .eql zb 5 7,Om 2 8] [0,3,4,5,6,7,8] []) .ret))
def RI:List zB:=[.t 2]
theorem DA:zq Tryz.prog gC=some (bare S6,RI,9):=by kernel_rfl
def Ub:zc:=(.seq (rgN [OB 1 0,oq 2 (.alloc [bv false,bv false]) []] [0] []) (.seq (rgN [OF 3 0 1,Ol 4 3,OF 5 1 1,Ol 6 5,OL 7 6,Oj 8 .eql zb 7 0,oq 9 (.build [bv false,bv false] [(0,1),(1,1)]) [.t 4,.t 8],Oz 2 2 9] [1,3,4,5,6,7,8,9] [1]) .ret))
def U3:List zB:=[.cell 2 (some 2)]
theorem Gq:zq Tryz.prog dn=some (bare Ub,U3,10):=by kernel_rfl
def nK:zc:=(.seq (rgN [Ob 24 .lss zb 23 22] [] []) (.seq (.cond (.t 24) .skip (.exit 0)) (.seq (.block 1 (.seq (rgN [Om 25 23,Om 5 25] [24,25] []) (.seq (rgN [Om 26 0,OL 27 26,Oj 28 .sub zb 27 1,Om 29 5,Ob 30 .sub zb 28 29,Om 6 30] [5,26,27,28,29,30] []) (.seq (.seq (rgD [Om 31 0,Om 32 6,Oi 33 1 31 32,Ol 34 33,Om 35 1,Om 36 6,Oi 37 1 35 36,Ol 38 37,Ob 39 .lss zD 34 38] [31,32,33,34,35,36,37,38] []) (.cond (.t 39) (.seq (rgN [Oc 4 (-1)] [0,1,22,23,6,39] []) .ret) .skip)) (.seq (rgD [Om 40 0,Om 41 6,Oi 42 1 40 41,Ol 43 42,Om 44 1,Om 45 6,Oi 46 1 44 45,Ol 47 46,Ob 48 .gtr zD 43 47] [6,39,40,41,42,43,44,45,46,47] []) (.cond (.t 48) (.seq (rgN [Oc 4 1] [0,1,22,23,48] []) .ret) .skip)))))) (rgN [Oj 49 .add zb 23 1,Om 23 49] [48,49] []))))
def Uc:zc:=(.seq (rgN [Oc 4 0] [0,1,22,23,24] []) .ret)
def Lm:zc:=(.seq (rgN [Oc 4 0] [4] []) (.seq (rgN [Om 7 0,Ok 8 xv 7,Om 9 1,Ok 10 xv 9,Om 0 8,Om 1 10] [7,8,9,10] []) (.seq (.seq (rgN [Om 11 0,OL 12 11,Om 13 1,OL 14 13,Ob 15 .neq zb 12 14] [11,12,13,14] []) (.cond (.t 15) (.seq (.seq (rgN [Om 16 0,OL 17 16,Om 18 1,OL 19 18,Ob 20 .lss zb 17 19] [0,1,15,16,17,18,19] []) (.cond (.t 20) (.seq (rgN [Oc 4 (-1)] [20] []) .ret) .skip)) (.seq (rgN [Oc 4 1] [20] []) .ret)) .skip)) (.seq (.seq (rgN [Om 21 0,OL 22 21,Oc 23 0] [15,21] []) (.block 0 (.loop nK))) Uc))))
def jo:List zB:=[.t 4]
theorem acs:zq Tryz.prog pZ=some (bare Lm,jo,50):=by kernel_rfl
def dB:zc:=(.seq (.seq (rgN [Om 12 1,OL 13 12,Oj 14 .gtr zb 13 0] [12,13] []) (.cond (.t 14) .skip (.exit 0))) (.block 1 (.seq (rgN [Om 16 0,Om 17 1,OK 18 qd 16 17,Om 15 18,Oe 19 0 15,Oe 20 1 15,Oe 21 2 15,Om 5 19,Om 6 20,Om 7 21] [14,16,17,18,15,19,20,21,5] []) (.seq (.seq (rgN [Om 22 7,Oj 23 .neq zR 22 0] [7,22] []) (.cond (.t 23) (.exit 0) .skip)) (rgN [Om 24 1,Om 25 6,Om 0 24,Om 1 25] [6,23,24,25] [])))))
def Ue:zc:=(.seq (rgN [Om 26 0,Om 4 26] [0,1,6,23,14,26] []) .ret)
def Ln:zc:=(.seq (rgN [oq 4 .mov [.c zA]] [4] []) (.seq (rgN [Om 8 0,oq 9 (.call jc) [.t 8,.c zA],Om 10 1,oq 11 (.call jc) [.t 10,.c zA],Om 0 9,Om 1 11] [8,9,10,11] []) (.seq (.block 0 (.loop dB)) Ue)))
def Km:List zB:=[.t 4]
theorem act:zq Tryz.prog Zw=some (bare Ln,Km,27):=by kernel_rfl
def QV:zc:=(.seq (rgN [Oa 6,Oc 7 0] [7] []) (.seq (.seq (rgN [Om 15 2,OL 16 15,Oj 17 .eql zb 16 0] [15,16] []) (.cond (.t 17) (.seq (rgN [⟨some 18,.build zF [],[],none⟩,Oz 3 6 18,Oc 7 8] [0,1,2,17,18] []) .ret) .skip)) (.seq (rgN [Om 19 1,Om 20 2,OK 21 Zw 19 20,Om 8 21] [17,19,20,21] []) (.seq (rgN [Om 23 1,Om 24 8,OK 25 qd 23 24,Om 22 25,Oe 26 0 22,Oe 27 1 22,Oe 28 2 22,Om 9 26,Om 10 27,Om 11 28] [1,23,24,25,22,26,27,28,10] []) (.seq (rgN [Om 30 2,Om 31 8,OK 32 qd 30 31,Om 29 32,Oe 33 0 29,Oe 34 1 29,Oe 35 2 29,Om 12 33,Om 13 34,Om 14 35] [2,8,30,31,32,29,33,34,35,13] []) (.seq (.seq (rgN [Om 36 11,Oj 37 .neq zR 36 0,Om 38 37,Wm 39 14 38,Wj 40 .neq zR 39 0 38,Op 41 38 40] [11,14,36,37,38,39,40] []) (.cond (.t 41) (.seq (rgN [⟨some 42,.build zF [],[],none⟩,Oz 3 6 42,Oc 7 8] [0,9,12,41,42] []) .ret) .skip)) (.seq (rgN [Om 43 0,Om 44 43,Vm 45 9 44,VL 46 45 44,Vj 47 .gtr zb 46 0 44,Oq 48 44 47,Om 49 9,Om 50 12,⟨some 51,.build zF [(0,1),(1,1),(2,1)],[.t 48,.t 49,.t 50],none⟩,Oz 3 6 51,Oc 7 0] [0,9,12,41,43,44,45,46,47,48,49,50,51] []) .ret)))))))
def ct:List zB:=[.cell 6 (some 3),.t 7]
theorem AJ:zq Tryz.prog js=some (bare QV,ct,52):=by kernel_rfl
def zV:zc:=(.seq (rgN [Oj 17 .lss zb 16 6] [] []) (.seq (.cond (.t 17) .skip (.exit 0)) (.seq (.block 1 (.seq (rgN [Om 18 16,Om 4 18] [17,18] []) (.seq (rgD [Om 19 4,OF 20 0 1,OF 21 6 20,oq 22 (.iaddrA 6 1) [.t 21,.t 19],Ol 23 22,Om 24 4,OF 25 0 1,OF 26 12 25,oq 27 (.iaddrA 6 1) [.t 26,.t 24],Ol 28 27,Om 5 23,Om 6 28] [19,20,21,22,23,24,25,26,27,28] []) (.seq (rgN [Om 29 6,Oj 30 .lss zb 29 0,Om 31 30,Wm 32 6 31,Wj 33 .gtr zb 32 4 31,Op 34 31 33,Om 35 34,Wm 36 5 35,Wj 37 .lss zb 36 0 35,Op 38 35 37,Om 39 38,Wm 40 5 39,Wm 41 4 39,WF 42 0 1 39,WF 43 0 42 39,⟨some 44,.iaddrA 6 1,[.t 43,.t 41],some (39,false)⟩,Wl 45 44 39,Wb 46 .gtr zb 40 45 39,Op 47 39 46,Om 48 47,Wm 49 6 48,Wj 50 .eql zb 49 0 48,Wm 51 50 48,Vm 52 5 51,Vm 53 4 51,VF 54 0 1 51,VF 55 0 54 51,⟨some 56,.iaddrA 6 1,[.t 55,.t 53],some (51,true)⟩,Vl 57 56 51,Vb 58 .neq zb 52 57 51,Wq 59 51 58 48,Op 60 48 59] [4,5,6,29,30,31,32,33,34,35,36,37,38,39,40,41,42,43,44,45,46,47,48,49,50,51,52,53,54,55,56,57,58,59] []) (.cond (.t 60) (.seq (rgN [Oc 2 4] [1,16,60] [1]) .ret) .skip))))) (rgN [Oj 61 .add zb 16 1,Om 16 61] [60,61] []))))
def xh:zc:=(.seq (rgN [Ob 79 .lss zb 78 77] [] []) (.seq (.cond (.t 79) .skip (.exit 2)) (.seq (.block 3 (.seq (rgN [Oi 80 1 76 78,Ol 81 80,Om 8 81] [79,80,81] []) (.seq (rgN [Om 82 8,Oj 83 .lss zb 82 0,Om 84 83,Wm 85 8 84,Wj 86 .gtr zb 85 4 84,Op 87 84 86] [8,82,83,84,85,86] []) (.cond (.t 87) (.seq (rgN [Oc 2 4] [76,77,78,87] []) .ret) .skip)))) (rgN [Oj 88 .add zb 78 1,Om 78 88] [87,88] []))))
def s5:zc:=(.seq (rgN [Oc 2 0] [76,77,78,79] []) .ret)
def wh:zc:=(.seq (.seq (rgN [OF 62 0 1,OF 63 18 62,Ol 64 63,OL 65 64,Oj 66 .gtr zb 65 8,Om 67 66,WF 68 0 1 67,WF 69 19 68 67,Wl 70 69 67,WL 71 70 67,Wj 72 .gtr zb 71 160 67,Op 73 67 72] [16,17,62,63,64,65,66,67,68,69,70,71,72] []) (.cond (.t 73) (.seq (rgN [Oc 2 3] [1,73] [1]) .ret) .skip)) (.seq (.seq (rgN [OF 74 0 1,OF 75 18 74,Ol 76 75,OL 77 76,Oc 78 0] [1,73,74,75] [1]) (.block 2 (.loop xh))) s5))
def qT:zc:=(.seq (rgN [OB 1 0,Oc 2 0] [0,2] []) (.seq (.seq (rgN [OF 9 0 1,OF 10 0 9,On 11 6 10,Ok 12 qa 11,Om 3 12] [9,10,11,12] []) (.seq (rgN [Om 13 3,Oj 14 .neq zR 13 0] [13] []) (.cond (.t 14) (.seq (rgN [Om 15 3,Om 2 15] [1,3,14,15] [1]) .ret) .skip))) (.seq (.seq (rgN [Oc 16 0] [3,14] []) (.block 0 (.loop zV))) wh)))
def zY:List zB:=[.t 2]
theorem eA:zq Tryz.prog uO=some (bare qT,zY,89):=by kernel_rfl
def qU:zc:=(.seq (rgN [OB 2 0,OB 3 1,Oc 4 0] [0,1,4] []) (.seq (.seq (rgN [OF 6 0 2,OF 7 18 6,Ol 8 7,OL 9 8,On 10 8 3,OK 11 pG 9 10,Om 5 11] [6,7,8,9,10,11] []) (.seq (rgN [Om 12 5,Oj 13 .neq zR 12 0] [12] []) (.cond (.t 13) (.seq (rgN [Om 14 5,Om 4 14] [2,3,5,13,14] [2,3]) .ret) .skip))) (.seq (.block 0 (.seq (rgN [OF 16 1 3,On 17 6 16,oq 18 (.build [iv 0,iv 0,iv 0,iv 0,iv 0,iv 0] []) [],Ob 19 .eql wo 17 18,Om 15 19] [5,13,16,17,18,19] []) (.cond (.t 15) (.seq (rgN [Oc 4 4] [2,3,15] [2,3]) .ret) (.seq (rgN [On 21 20 2,On 22 8 3,oq 23 (.mkslice 8 1 [iv 0,iv 0,iv 0,iv 0,iv 0,iv 0,iv 0,iv 0] [0]) [.t 22],OK 24 vj 21 23,oq 25 (.un .not) [.t 24],Om 20 25] [2,3,15,21,22,23,24,25] [2,3]) (.cond (.t 20) (.seq (rgN [Oc 4 14] [20] []) .ret) .skip))))) (.seq (rgN [Oc 4 0] [20] []) .ret))))
def xV:List zB:=[.t 4]
theorem eB:zq Tryz.prog uP=some (bare qU,xV,26):=by kernel_rfl
def jU:zc:=(.seq (rgN [Ob 8 .lss zb 7 6] [] []) (.seq (.cond (.t 8) .skip (.exit 0)) (.seq (.block 1 (.seq (rgN [Oi 9 3 5 7,On 10 3 9,Oa 4,Oz 3 4 10] [8,9,10] []) (.seq (rgN [On 11 3 4,Ok 12 ri 11,oq 13 (.un .not) [.t 12]] [4,11,12] [4]) (.cond (.t 13) (.seq (rgN [oq 2 .mov [.c (bv false)]] [5,6,7,13] []) .ret) .skip)))) (rgN [Oj 14 .add zb 7 1,Om 7 14] [13,14] []))))
def ae:zc:=(.seq (rgN [oq 2 .mov [.c (bv true)]] [5,6,7,8] []) .ret)
def Rc:zc:=(.seq (rgN [oq 2 .mov [.c (bv false)]] [2] []) (.seq (.seq (rgN [Om 5 0,OL 6 5,Oc 7 0] [0] []) (.block 0 (.loop jU))) ae))
def aZ:List zB:=[.t 2]
theorem DJ:zq Tryz.prog gF=some (bare Rc,aZ,15):=by kernel_rfl
def mt:zc:=(.seq (rgN [Ob 44 .lss zb 43 42] [] []) (.seq (.cond (.t 44) .skip (.exit 0)) (.seq (.block 1 (.seq (rgN [Om 45 43,Oi 46 3 41 43,On 47 3 46,Oa 10,Om 9 45,Oz 3 10 47] [44,45,46,47] []) (rgN [Om 48 8,Om 49 9,On 50 3 10,On 51 3 6,OK 52 vn 50 51,Oi 53 3 48 49,Oz 3 53 52] [10,9,48,49,50,51,52,53] [10]))) (rgN [Oj 54 .add zb 43 1,Om 43 54] [54] []))))
def qh:zc:=(.seq (rgN [Ob 74 .lss zb 73 72] [] []) (.seq (.cond (.t 74) .skip (.exit 2)) (.seq (.block 3 (.seq (rgN [Om 75 73,Om 12 75] [74,75] []) (.seq (rgN [Om 76 12,Om 77 1,Ob 78 .neq zb 76 77] [76,77] []) (.cond (.t 78) (rgD [ox (.start [80,81,82,83,84,85,86,87,88,89,90,91,92,93,94,95,96,97,98,99,100,101,102,103,104,105,106,107,79,108,109,110]) [],Om 80 0,ON 81 80,OF 82 2 81,Ol 83 82,Om 84 12,Om 85 0,ON 86 85,OF 87 3 86,Ol 88 87,Om 89 12,Om 90 0,ON 91 90,OF 92 2 91,Ol 93 92,Om 94 12,Oi 95 1 93 94,Ol 96 95,Om 97 0,ON 98 97,OF 99 3 98,Ol 100 99,Om 101 12,Oi 102 3 100 101,On 103 3 102,Om 104 2,Om 105 8,On 106 3 11,oq 107 (.call pj) [.t 96,.t 103,.t 104,.t 105,.t 106],Om 79 107,Oe 108 0 79,Oe 109 1 79,Oi 110 1 83 84,Oz 1 110 108,oq 89 (.chk (.mov)) [.t 12],oq 109 (.chk (.extract 1)) [.t 79],Oi 111 3 88 89,Oz 3 111 109] [12,78,80,81,82,83,84,85,86,87,88,89,90,91,92,93,94,95,96,97,98,99,100,101,102,103,104,105,106,107,79,108,109,110,111] []) .skip)))) (rgN [Oj 112 .add zb 73 1,Om 73 112] [12,78,112] []))))
def eK:zc:=(.seq (rgN [Om 113 0,ON 114 113,OF 115 4 114,Ol 116 115,Om 117 2,Oi 118 3 116 117,On 119 3 118,Oa 13,Oz 3 13 119] [72,73,74,113,114,115,116,117,118,119] []) (.seq (rgD [ox (.start [121,122,123,124,125,126,127,128,129,130,131,132,133,120,134,135,136,137]) [],Om 121 0,Om 122 0,ON 123 122,OF 124 4 123,Ol 125 124,Om 126 0,ON 127 126,OF 128 5 127,On 129 3 128,Om 130 2,Om 131 8,On 132 3 11,oq 133 (.call pj) [.t 125,.t 129,.t 130,.t 131,.t 132],Om 120 133,Oe 134 0 120,Oe 135 1 120,ON 136 121,OF 137 4 136,Oz 1 137 134,oq 135 (.chk (.extract 1)) [.t 120]] [121,122,123,124,125,126,127,128,129,130,131,132,133,120,134,135,136,137] []) (.seq (rgD [Om 138 0,Om 139 0,ON 140 139,OF 141 5 140,On 142 3 141,On 143 3 13,On 144 3 11,OK 145 vn 143 144,OK 146 sI 142 145,ON 147 138,OF 148 5 147,Oz 3 148 146] [13,138,139,140,141,142,143,144,145,146,147,148] [13]) (.seq (rgD [ox (.start [149,150,151,152,153,154,155,156,157,158,159,160,161]) [],Om 149 0,ON 150 149,OF 151 2 150,Ol 152 151,Om 153 1,Om 154 0,ON 155 154,OF 156 3 155,Ol 157 156,Om 158 1,Om 159 8,On 160 3 11,Oi 161 1 152 153,Oz 1 161 159,oq 158 (.chk (.mov)) [.t 1],oq 160 (.chk (.load (some 3))) [.t 11],Oi 162 3 157 158,Oz 3 162 160] [8,11,149,150,151,152,153,154,155,156,157,158,159,160,161,162] [11]) (rgD [ox (.start [163,164,165,166,167,168,169,170,171,172,173,174,175,176,177,178,179,180,181,182,183,184,185,186,187]) [],Om 163 0,ON 164 163,OF 165 8 164,Ol 166 165,Om 167 1,Om 168 0,ON 169 168,OF 170 9 169,Ol 171 170,Om 172 2,Om 173 0,ON 174 173,OF 175 9 174,Ol 176 175,Om 177 2,Oi 178 1 176 177,Ol 179 178,Om 180 0,ON 181 180,OF 182 8 181,Ol 183 182,Om 184 1,Oi 185 1 183 184,Ol 186 185,Oi 187 1 166 167,Oz 1 187 179,oq 172 (.chk (.mov)) [.t 2],Oi 188 1 171 172,Oz 1 188 186] [0,1,2,163,164,165,166,167,168,169,170,171,172,173,174,175,176,177,178,179,180,181,182,183,184,185,186,187,188] [])))))
def eL:zc:=(.seq (rgN [Om 55 8,Om 56 2,On 57 3 6,Oi 58 3 55 56,Oz 3 58 57] [41,42,43,44,55,56,57,58] []) (.seq (.region true [34] [Om 59 0,ON 60 59,OF 61 3 60,Ol 62 61,Om 63 1,Oi 64 3 62 63,On 65 3 64,On 66 3 6,OK 67 vn 65 66,Oa 11,Oz 3 11 67] [6,59,60,61,62,63,64,65,66,67] [6]) (.seq (.seq (rgN [Om 68 0,ON 69 68,OF 70 2 69,Ol 71 70,OL 72 71,Oc 73 0] [68,69,70,71] []) (.block 2 (.loop qh))) eK)))
def Yn:zc:=(.seq (rgD [ox (.start [15,16,17,18,19,20,21,22,23,24,25,26,14,27,28,6]) [],oq 15 (.call zN) [.c (iv 1)],Om 16 0,ON 17 16,OF 18 2 17,Ol 19 18,Om 20 1,Oi 21 1 19 20,Ol 22 21,Om 23 2,Oi 24 3 22 23,On 25 3 24,OK 26 jb 15 25,Om 14 26,Oe 27 0 14,Oe 28 1 14,Oa 6,Oz 3 6 27,oq 28 (.chk (.extract 1)) [.t 14],Om 7 28] [15,16,17,18,19,20,21,22,23,24,25,26,14,27,28,7] []) (.seq (rgN [Om 29 0,ON 30 29,OF 31 9 30,Ol 32 31,OL 33 32,⟨some 34,.mk 3 56 zF,[.t 33,.t 33],none⟩,Om 8 34] [29,30,31,32,33,34] []) (.seq (.seq (rgN [Om 35 0,ON 36 35,OF 37 2 36,Ol 38 37,Om 39 1,Oi 40 1 38 39,Ol 41 40,OL 42 41,Oc 43 0] [35,36,37,38,39,40] []) (.block 0 (.loop mt))) eL)))
def YF:List zB:=[]
theorem M1:zq Tryz.prog uQ=some (bare Yn,YF,189):=by kernel_rfl
def v4:zc:=(.seq (rgN [Ob 42 .lss zb 41 40] [] []) (.seq (.cond (.t 42) .skip (.exit 2)) (.seq (.block 3 (.seq (rgN [Om 43 41,Oi 44 3 39 41,On 45 3 44,Oa 6,Om 5 43,Oz 3 6 45] [42,43,44,45] []) (.seq (rgN [On 46 3 6,Ok 47 xt 46,Oj 48 .neq zb 47 0] [6,46,47] [6]) (.cond (.t 48) (.seq (rgN [Om 49 0,Om 50 3,Om 51 5,oq 52 (.callI uQ) [.t 49,.t 50,.t 51]] [3,39,40,41,5,48,49,50,51,52] []) (.exit 2)) .skip)))) (rgN [Oj 53 .add zb 41 1,Om 41 53] [5,48,53] []))))
def rB:zc:=(.exit 0)
def vZ:zc:=(rgN [Oj 54 .add zb 25 1,Om 25 54] [3,32,54] [])
def xw:zc:=(.seq (rgN [Ob 26 .lss zb 25 24] [] []) (.seq (.cond (.t 26) .skip (.exit 0)) (.seq (.block 1 (.seq (rgN [Om 27 25,Oi 28 1 23 25,Ol 29 28,Om 3 27,Om 4 29] [26,27,28,29] []) (.seq (.seq (rgN [Om 30 4,Om 31 2,Ob 32 .neq zb 30 31] [4,30,31] []) (.cond (.t 32) (.exit 1) .skip)) (.seq (.seq (rgN [Om 33 0,ON 34 33,OF 35 2 34,Ol 36 35,Om 37 3,Oi 38 1 36 37,Ol 39 38,OL 40 39,Oc 41 0] [23,24,25,32,33,34,35,36,37,38] []) (.block 2 (.loop v4))) rB)))) vZ)))
def v5:zc:=(.seq (rgN [Ob 74 .lss zb 73 72] [] []) (.seq (.cond (.t 74) .skip (.exit 6)) (.seq (.block 7 (.seq (rgN [Om 75 73,Oi 76 1 71 73,Ol 77 76,Om 9 75,Om 10 77] [74,75,76,77] []) (rgD [ox (.start [78,79,80,81,82,83,84,85,86,87,88,89,90,91,92]) [],Om 78 0,ON 79 78,OF 80 2 79,Ol 81 80,Om 82 9,⟨some 83,.mkslice 3 0 zF [],[],none⟩,Om 84 10,Om 85 7,oq 86 (.slice 3 false true false) [.t 84,.t 85],Om 88 10,Om 89 7,Oj 90 .add zb 89 1,oq 91 (.slice 3 true false false) [.t 88,.t 90],oq 87 (.append 3 56) [.t 83,.t 86],oq 78 (.chk (.mov)) [.t 0],oq 79 (.chk (.nilChk)) [.t 78],oq 80 (.chk (.faddr 2)) [.t 79],oq 81 (.chk (.load none)) [.t 80],oq 82 (.chk (.mov)) [.t 9],oq 88 (.chk (.mov)) [.t 10],oq 89 (.chk (.mov)) [.t 7],⟨some 90,.chk (.bin .add zb (.tmp 89) (kc 1)),[.t 89,.c (iv 1)],none⟩,oq 91 (.chk (.slice 3 true false false)) [.t 88,.t 90],oq 92 (.append 3 56) [.t 87,.t 91],oq 78 (.chk (.mov)) [.t 0],oq 79 (.chk (.nilChk)) [.t 78],oq 80 (.chk (.faddr 2)) [.t 79],oq 81 (.chk (.load none)) [.t 80],oq 82 (.chk (.mov)) [.t 9],Oi 93 1 81 82,Oz 1 93 92] [9,10,78,79,80,81,82,83,84,85,86,88,89,90,91,87,92,93] []))) (rgN [Oj 94 .add zb 73 1,Om 73 94] [94] []))))
def rC:zc:=(.seq (rgD [ox (.start [95,96,97,98,99,100,101,102,103,104,105,106,107,108,109,110,111]) [],Om 95 0,oq 96 (.mkslice 1 0 [iv 0] []) [],Om 97 0,ON 98 97,OF 99 9 98,Ol 100 99,Om 101 7,oq 102 (.slice 1 false true false) [.t 100,.t 101],Om 104 0,ON 105 104,OF 106 9 105,Ol 107 106,Om 108 7,Oj 109 .add zb 108 1,oq 110 (.slice 1 true false false) [.t 107,.t 109],oq 103 (.appendU 1 8) [.t 96,.t 102],oq 95 (.chk (.mov)) [.t 0],oq 104 (.chk (.mov)) [.t 0],oq 105 (.chk (.nilChk)) [.t 104],oq 106 (.chk (.faddr 9)) [.t 105],oq 107 (.chk (.load none)) [.t 106],oq 108 (.chk (.mov)) [.t 7],⟨some 109,.chk (.bin .add zb (.tmp 108) (kc 1)),[.t 108,.c (iv 1)],none⟩,oq 110 (.chk (.slice 1 true false false)) [.t 107,.t 109],oq 111 (.appendU 1 8) [.t 103,.t 110],oq 95 (.chk (.mov)) [.t 0],ON 112 95,OF 113 9 112,Oz 1 113 111] [71,72,73,74,95,96,97,98,99,100,101,102,104,105,106,107,108,109,110,103,111,112,113] []) (.seq (rgD [ox (.start [114,115,116,117,118,119,120,121,122,123,124,125,126,127,128,129,130]) [],Om 114 0,⟨some 115,.mkslice 3 0 zF [],[],none⟩,Om 116 0,ON 117 116,OF 118 4 117,Ol 119 118,Om 120 7,oq 121 (.slice 3 false true false) [.t 119,.t 120],Om 123 0,ON 124 123,OF 125 4 124,Ol 126 125,Om 127 7,Oj 128 .add zb 127 1,oq 129 (.slice 3 true false false) [.t 126,.t 128],oq 122 (.append 3 56) [.t 115,.t 121],oq 114 (.chk (.mov)) [.t 0],oq 123 (.chk (.mov)) [.t 0],oq 124 (.chk (.nilChk)) [.t 123],oq 125 (.chk (.faddr 4)) [.t 124],oq 126 (.chk (.load none)) [.t 125],oq 127 (.chk (.mov)) [.t 7],⟨some 128,.chk (.bin .add zb (.tmp 127) (kc 1)),[.t 127,.c (iv 1)],none⟩,oq 129 (.chk (.slice 3 true false false)) [.t 126,.t 128],oq 130 (.append 3 56) [.t 122,.t 129],oq 114 (.chk (.mov)) [.t 0],ON 131 114,OF 132 4 131,Oz 1 132 130] [0,7,114,115,116,117,118,119,120,121,123,124,125,126,127,128,129,122,130,131,132] []) .ret))
def rD:zc:=(rgN [Oj 133 .add zb 60 1,Om 60 133] [7,67,133] [])
def wq:zc:=(.seq (rgN [Ob 61 .lss zb 60 59] [] []) (.seq (.cond (.t 61) .skip (.exit 4)) (.seq (.block 5 (.seq (rgN [Om 62 60,Oi 63 1 58 60,Ol 64 63,Om 7 62,Om 8 64] [61,62,63,64] []) (.seq (rgN [Om 65 8,Om 66 2,Ob 67 .eql zb 65 66] [8,65,66] []) (.cond (.t 67) (.seq (.seq (rgN [Om 68 0,ON 69 68,OF 70 2 69,Ol 71 70,OL 72 71,Oc 73 0] [2,58,59,60,67,68,69,70] []) (.block 6 (.loop v5))) rC) .skip)))) rD)))
def v3:zc:=(.seq (rgN [Om 55 0,ON 56 55,OF 57 9 56,Ol 58 57,OL 59 58,Oc 60 0] [3,39,40,41,42,23,24,25,26,55,56,57] []) (.block 4 (.loop wq)))
def th:zc:=(.seq (rgD [Om 11 0,ON 12 11,OF 13 0 12,Ol 14 13,Om 15 0,ON 16 15,OF 17 1 16,Ol 18 17,Ob 19 .add zb 14 18,Om 2 19] [11,12,13,14,15,16,17,18,19] []) (.seq (.seq (rgN [Om 20 0,ON 21 20,OF 22 8 21,Ol 23 22,OL 24 23,Oc 25 0] [20,21,22] []) (.block 0 (.loop xw))) v3))
def tB:List zB:=[]
theorem dj:zq Tryz.prog vm=some (bare th,tB,134):=by kernel_rfl
def qJ:zc:=(.seq (rgN [Ob 12 .lss zb 11 10] [] []) (.seq (.cond (.t 12) .skip (.exit 0)) (.seq (.block 1 (.seq (rgN [Om 13 11,Oi 14 1 9 11,Ol 15 14,Om 4 13,Om 5 15] [12,13,14,15] []) (.seq (rgN [Om 16 0,ON 17 16,OF 18 4 17,Ol 19 18,Om 20 4,Oi 21 3 19 20,On 22 3 21,Ok 23 xt 22,Oj 24 .gtr zb 23 0,Om 25 24,Vm 26 3 25,Vj 27 .lss zb 26 0 25,Vm 28 27 25,Wm 29 5 28,Wm 30 0 28,WN 31 30 28,WF 32 9 31 28,Wl 33 32 28,Wm 34 3 28,Wi 35 1 33 34 28,Wl 36 35 28,Wb 37 .lss zb 29 36 28,Vp 38 28 37 25,Oq 39 25 38] [5,16,17,18,19,20,21,22,23,24,25,26,27,28,29,30,31,32,33,34,35,36,37,38] []) (.cond (.t 39) (rgN [Om 40 4,Om 3 40] [4,39,40] []) .skip)))) (rgN [Oj 41 .add zb 11 1,Om 11 41] [4,39,41] []))))
def kI:zc:=(.seq (rgN [Om 42 3,Om 2 42] [0,3,9,10,11,12,42] []) .ret)
def eI:zc:=(.seq (rgN [Oc 2 0] [2] []) (.seq (rgN [Oc 3 (-1)] [] []) (.seq (.seq (rgN [Om 6 0,ON 7 6,OF 8 9 7,Ol 9 8,OL 10 9,Oc 11 0] [6,7,8] []) (.block 0 (.loop qJ))) kI)))
def da:List zB:=[.t 2]
theorem SU:zq Tryz.prog r8=some (bare eI,da,43):=by kernel_rfl
def pJ:zc:=(.seq (rgN [Ob 18 .lss zb 17 16] [] []) (.seq (.cond (.t 18) .skip (.exit 0)) (.seq (.block 1 (.seq (rgN [Om 19 17,Oi 20 1 15 17,Ol 21 20,Om 7 19,Om 8 21] [18,19,20,21] []) (.seq (.seq (rgN [Om 22 8,Om 23 1,Oi 24 3 22 23,On 25 3 24,Ok 26 xt 25,Oj 27 .leq zb 26 0] [22,23,24,25,26] []) (.cond (.t 27) (.exit 1) .skip)) (.seq (rgD [ox (.start [29,30,31,32,33,34,35,36,37,38,39,40,28,41,42,9]) [],Om 29 0,ON 30 29,OF 31 3 30,Ol 32 31,Om 33 7,Oi 34 3 32 33,On 35 3 34,Om 36 8,Om 37 1,Oi 38 3 36 37,On 39 3 38,OK 40 jb 35 39,Om 28 40,Oe 41 0 28,Oe 42 1 28,Oa 9,Oz 3 9 41,oq 42 (.chk (.extract 1)) [.t 28],Om 10 42] [8,27,29,30,31,32,33,34,35,36,37,38,39,40,28,41,42,10] []) (.seq (.seq (rgN [Om 43 5,Oj 44 .geq zb 43 0] [43] []) (.cond (.t 44) (.seq (rgN [On 45 3 9,On 46 3 6,OK 47 ml 45 46,Om 11 47] [44,45,46,47] []) (.block 2 (.seq (.seq (rgN [Om 49 11,Oj 50 .gtr zb 49 0,Om 48 50] [49,50] []) (.cond (.t 48) .skip (rgD [Om 51 11,Oj 52 .eql zb 51 0,Om 53 52,Vm 54 0 53,VN 55 54 53,VF 56 8 55 53,Vl 57 56 53,Vm 58 7 53,Vi 59 1 57 58 53,Vl 60 59 53,Vm 61 0 53,VN 62 61 53,VF 63 8 62 53,Vl 64 63 53,Vm 65 5 53,Vi 66 1 64 65 53,Vl 67 66 53,Vb 68 .gtr zb 60 67 53,Oq 69 53 68,Om 48 69] [11,51,52,53,54,55,56,57,58,59,60,61,62,63,64,65,66,67,68,69] []))) (.cond (.t 48) (.exit 1) .skip)))) .skip)) (rgD [Om 70 7,On 71 3 9,Om 5 70,Oz 3 6 71] [7,9,11,48,44,70,71] [9])))))) (rgN [Oj 72 .add zb 17 1,Om 17 72] [7,9,11,48,8,27,72] [9]))))
def jA:zc:=(.seq (rgN [Om 73 5,Om 4 73] [0,1,5,6,15,16,17,18,73] [6]) .ret)
def cZ:zc:=(.seq (rgN [Oc 4 0] [4] []) (.seq (rgN [Oc 5 (-1)] [] []) (.seq (rgN [Oa 6] [] []) (.seq .skip (.seq (.seq (rgN [Om 12 0,ON 13 12,OF 14 2 13,Ol 15 14,OL 16 15,Oc 17 0] [12,13,14] []) (.block 0 (.loop pJ))) jA)))))
def bq:List zB:=[.t 4]
theorem Qc:zq Tryz.prog pe=some (bare cZ,bq,74):=by kernel_rfl
def rI:zc:=(.seq (rgN [Ob 10 .lss zb 9 8] [] []) (.seq (.cond (.t 10) .skip (.exit 0)) (.seq (.block 1 (.seq (rgN [Om 11 9,Om 4 11] [10,11] []) (rgN [Om 12 3,Om 13 4,oq 14 (.call zN) [.c (iv 0)],Oi 15 3 12 13,Oz 3 15 14] [4,12,13,14,15] []))) (rgN [Oj 16 .add zb 9 1,Om 9 16] [16] []))))
def jV:zc:=(.seq (rgN [Om 17 3,Om 2 17] [3,8,9,10,17] []) .ret)
def af:zc:=(.seq (rgN [oq 2 .mov [.c zA]] [2] []) (.seq (rgN [Om 5 0,⟨some 6,.mk 3 56 zF,[.t 5,.t 5],none⟩,Om 3 6] [0,5,6] []) (.seq (.seq (rgN [Om 7 3,OL 8 7,Oc 9 0] [7] []) (.block 0 (.loop rI))) jV)))
def a7:List zB:=[.t 2]
theorem RY:zq Tryz.prog rp=some (bare af,a7,18):=by kernel_rfl
def m8:zc:=(.seq (.seq (rgN [Om 6 3,Oj 7 .gtr zb 6 0,Om 8 7,Vm 9 0 8,Vm 10 3 8,Vj 11 .sub zb 10 1 8,Vi 12 1 9 11 8,Vl 13 12 8,⟨some 14,.bin .eql zD (.tmp 13) (.const (.int .u32 0)),[.t 13,.c (.val (.int .u32 0))],some (8,true)⟩,Oq 15 8 14] [6,7,8,9,10,11,12,13,14] []) (.cond (.t 15) .skip (.exit 0))) (.block 1 (rgN [Om 16 3,Oj 17 .sub zb 16 1,Om 3 17] [15,16,17] [])))
def fW:zc:=(.seq (rgN [Om 18 0,Om 19 3,Om 20 3,oq 21 (.slice 1 false true true) [.t 18,.t 19,.t 20],Om 2 21] [0,3,15,18,19,20,21] []) .ret)
def QX:zc:=(.seq (rgN [oq 2 .mov [.c zA]] [2] []) (.seq (rgN [Om 4 0,OL 5 4,Om 3 5] [4,5] []) (.seq (.block 0 (.loop m8)) fW)))
def Xq:List zB:=[.t 2]
theorem AN:zq Tryz.prog xv=some (bare QX,Xq,22):=by kernel_rfl
def YY:zc:=(.seq (rgN [oq 2 .mov [.c zA]] [2] []) (.seq (.seq (rgN [Om 3 0,Oj 4 .lss xG 3 0] [3] []) (.cond (.t 4) (.seq (rgN [Om 5 0,Oj 6 .add xG 5 1,oq 7 (.un .neg) [.t 6],oq 8 (.conv xG zh) [.t 7],oq 9 (.bin .add zh (.tmp 8) (.const (.int .u64 1))) [.t 8,.c (.val (.int .u64 1))],Ok 10 te 9,Om 2 10] [0,4,5,6,7,8,9,10] []) .ret) .skip)) (.seq (rgN [Om 11 0,oq 12 (.conv xG zh) [.t 11],Ok 13 te 12,Om 2 13] [0,4,11,12,13] []) .ret)))
def Xr:List zB:=[.t 2]
theorem AQ:zq Tryz.prog dq=some (bare YY,Xr,14):=by kernel_rfl
def ku:zc:=(.seq (.seq (rgN [Om 27 10,Oj 28 .geq zb 27 0] [27] []) (.cond (.t 28) .skip (.exit 0))) (.seq (.block 1 (.seq (rgN [Om 31 8,Om 32 8,OK 33 qg 31 32,Om 8 33] [28,31,32,33] []) (.seq (rgN [Om 34 9,Om 35 9,OK 36 qg 34 35,Om 37 0,Om 38 10,OK 39 ZA 37 38,Ok 40 te 39,OK 41 qg 36 40,Om 9 41] [34,35,36,37,38,39,40,41] []) (.seq (rgN [Om 42 9,Om 43 1,OK 44 ZB 42 43,Oj 45 .geq zb 44 0] [42,43,44] []) (.cond (.t 45) (.seq (rgN [Om 47 9,Om 48 1,OK 49 eE 47 48,Om 46 49,Oe 50 0 46,Oe 51 1 46,Om 9 50] [45,47,48,49,46,50,51] []) (rgN [Om 52 8,oq 53 (.call te) [.c (.val (.int .u64 1))],OK 54 qg 52 53,Om 8 54] [52,53,54] [])) .skip))))) (rgN [Om 29 10,Oj 30 .sub zb 29 1,Om 10 30] [45,29,30] [])))
def c9:zc:=(.seq (rgN [Om 55 8,Om 56 9,Om 4 55,Om 5 56,Oc 6 0] [0,1,8,9,10,28,55,56] []) .ret)
def Ul:zc:=(.seq (rgN [oq 4 .mov [.c zA],oq 5 .mov [.c zA],Oc 6 0] [4,5,6] []) (.seq (.seq (rgN [Om 11 1,OL 12 11,Oj 13 .eql zb 12 0] [11,12] []) (.cond (.t 13) (.seq (rgN [oq 4 .mov [.c zA],oq 5 .mov [.c zA],Oc 6 8] [0,1,13] []) .ret) .skip)) (.seq (rgN [Om 14 0,Ok 15 dr 14,Om 16 1,Ok 17 dr 16,⟨some 18,.mm .max #[zb,zb] zb,[.c (iv 1),.t 17],none⟩,Ob 19 .sub zb 15 18,Oj 20 .add zb 19 1,⟨some 21,.mm .max #[zb,zb] zb,[.c (iv 0),.t 20],none⟩,Om 7 21] [13,14,15,16,17,18,19,20,21] []) (.seq (rgN [oq 8 .mov [.c zA]] [] []) (.seq (rgN [Om 22 0,Om 23 7,OK 24 YS 22 23,Om 9 24] [22,23,24] []) (.seq (.seq (rgN [Om 25 7,Oj 26 .sub zb 25 1,Om 10 26] [7,25,26] []) (.block 0 (.loop ku))) c9))))))
def U4:List zB:=[.t 4,.t 5,.t 6]
theorem Gs:zq Tryz.prog nC=some (bare Ul,U4,57):=by kernel_rfl
def la:zc:=(.seq (.seq (rgN [Om 3 0,OL 4 3,Oj 5 .gtr zb 4 0,Om 6 5,Vm 7 0 6,Vm 8 0 6,VL 9 8 6,Vj 10 .sub zb 9 1 6,Vi 11 1 7 10 6,Vl 12 11 6,⟨some 13,.bin .eql zD (.tmp 12) (.const (.int .u32 0)),[.t 12,.c (.val (.int .u32 0))],some (6,true)⟩,Oq 14 6 13] [3,4,5,6,7,8,9,10,11,12,13] []) (.cond (.t 14) .skip (.exit 0))) (.block 1 (rgN [Om 15 0,Om 16 0,OL 17 16,Oj 18 .sub zb 17 1,oq 19 (.slice 1 false true false) [.t 15,.t 18],Om 0 19] [14,15,16,17,18,19] [])))
def f6:zc:=(.seq (rgN [oq 20 (.mkslice 1 0 [.val (.int .u32 0)] []) [],Om 21 0,oq 22 (.append 1 4) [.t 20,.t 21],Om 2 22] [0,14,20,21,22] []) .ret)
def Q1:zc:=(.seq (rgN [oq 2 .mov [.c zA]] [2] []) (.seq (.block 0 (.loop la)) f6))
def Xt:List zB:=[.t 2]
theorem AT:zq Tryz.prog tT=some (bare Q1,Xt,23):=by kernel_rfl
def jL:zc:=(.seq (.seq (rgN [Om 7 6,Om 8 1,Ob 9 .lss zb 7 8] [7,8] []) (.cond (.t 9) .skip (.exit 0))) (.seq (.block 1 (rgN [Om 12 5,oq 13 (.mkslice 1 1 [.val (.int .u32 0)] [0]) [.c (.val (.int .u32 0))],oq 14 (.append 1 4) [.t 12,.t 13],Om 5 14] [9,12,13,14] [])) (rgN [Om 10 6,Oj 11 .add zb 10 1,Om 6 11] [10,11] [])))
def b8:zc:=(.seq (rgN [Om 15 5,Om 16 0,oq 17 (.append 1 4) [.t 15,.t 16],Ok 18 tT 17,Om 4 18] [0,1,5,6,9,15,16,17,18] []) .ret)
def Rb:zc:=(.seq (rgN [oq 4 .mov [.c zA]] [4] []) (.seq (rgN [oq 5 .mov [.c zA]] [] []) (.seq (.seq (rgN [Oc 6 0] [] []) (.block 0 (.loop jL))) b8)))
def RM:List zB:=[.t 4]
theorem DH:zq Tryz.prog bJ=some (bare Rb,RM,19):=by kernel_rfl
def jK:zc:=(.seq (.seq (rgN [Om 9 7,Om 10 0,OL 11 10,Ob 12 .leq zb 9 11] [9,10,11] []) (.cond (.t 12) .skip (.exit 0))) (.seq (.block 1 (.seq (rgN [Om 15 0,Om 16 7,OK 17 xN 15 16,Om 18 1,Ob 19 .mul zh 17 18,Om 20 6,Ob 21 .add zh 19 20,Om 8 21] [6,12,15,16,17,18,19,20,21] []) (.seq (rgN [Om 22 5,Om 23 8,oq 24 (.bin .rem zh (.tmp 23) (.const (.int .u64 4294967296))) [.t 23,.c (.val (.int .u64 4294967296))],oq 25 (.conv zh zD) [.t 24],oq 26 (.mkslice 1 1 [.val (.int .u32 0)] [0]) [.t 25],oq 27 (.append 1 4) [.t 22,.t 26],Om 5 27] [22,23,24,25,26,27] []) (rgN [Om 28 8,oq 29 (.bin .quo zh (.tmp 28) (.const (.int .u64 4294967296))) [.t 28,.c (.val (.int .u64 4294967296))],Om 6 29] [8,28,29] [])))) (rgN [Om 13 7,Oj 14 .add zb 13 1,Om 7 14] [13,14] [])))
def bZ:zc:=(.seq (rgN [Om 30 5,Ok 31 tT 30,Om 4 31] [0,1,5,6,7,12,30,31] []) .ret)
def Ra:zc:=(.seq (rgN [oq 4 .mov [.c zA]] [4] []) (.seq (rgN [oq 5 .mov [.c zA]] [] []) (.seq (rgN [oq 6 .mov [.c (.val (.int .u64 0))]] [] []) (.seq (.seq (rgN [Oc 7 0] [] []) (.block 0 (.loop jK))) bZ))))
def RL:List zB:=[.t 4]
theorem DG:zq Tryz.prog bH=some (bare Ra,RL,32):=by kernel_rfl
def bY:zc:=(.seq (rgN [oq 4 .mov [.c (.val (.int .u64 0))]] [4] []) (.seq (.seq (rgN [Om 5 1,Om 6 0,OL 7 6,Ob 8 .lss zb 5 7] [5,6,7] []) (.cond (.t 8) (.seq (rgN [Om 9 0,Om 10 1,Oi 11 1 9 10,Ol 12 11,oq 13 (.conv zD zh) [.t 12],Om 4 13] [0,1,8,9,10,11,12,13] []) .ret) .skip)) (.seq (rgN [oq 4 .mov [.c (.val (.int .u64 0))]] [0,1,8] []) .ret)))
def aY:List zB:=[.t 4]
theorem DF:zq Tryz.prog xN=some (bare bY,aY,14):=by kernel_rfl
def dH:zc:=(.seq (.seq (rgN [Om 12 5,Oj 13 .geq zb 12 0] [12] []) (.cond (.t 13) .skip (.exit 0))) (.seq (.block 1 (.seq (.seq (rgN [Om 16 0,Om 17 5,OK 18 xN 16 17,Om 19 1,Om 20 5,OK 21 xN 19 20,Ob 22 .lss zh 18 21] [13,16,17,18,19,20,21] []) (.cond (.t 22) (.seq (rgN [Oc 4 (-1)] [0,1,5,22] []) .ret) .skip)) (.seq (rgN [Om 23 0,Om 24 5,OK 25 xN 23 24,Om 26 1,Om 27 5,OK 28 xN 26 27,Ob 29 .gtr zh 25 28] [22,23,24,25,26,27,28] []) (.cond (.t 29) (.seq (rgN [Oc 4 1] [0,1,5,29] []) .ret) .skip)))) (rgN [Om 14 5,Oj 15 .sub zb 14 1,Om 5 15] [29,14,15] [])))
def Uk:zc:=(.seq (rgN [Oc 4 0] [0,1,5,13] []) .ret)
def Lw:zc:=(.seq (rgN [Oc 4 0] [4] []) (.seq (.seq (rgN [Om 6 0,OL 7 6,Om 8 1,OL 9 8,⟨some 10,.mm .max #[zb,zb] zb,[.t 7,.t 9],none⟩,Oj 11 .sub zb 10 1,Om 5 11] [6,7,8,9,10,11] []) (.block 0 (.loop dH))) Uk))
def ZZ:List zB:=[.t 4]
theorem acE:zq Tryz.prog ZB=some (bare Lw,ZZ,30):=by kernel_rfl
def sy:zc:=(.seq (.seq (rgN [Om 45 1,Om 46 1,OL 47 46,Oj 48 .sub zb 47 1,Oi 49 1 45 48,Ol 50 49,Om 51 9,Ob 52 .shl zD 50 51,oq 53 (.bin .lss zD (.tmp 52) (.const (.int .u32 2147483648))) [.t 52,.c (.val (.int .u32 2147483648))]] [45,46,47,48,49,50,51,52] []) (.cond (.t 53) .skip (.exit 0))) (.block 1 (rgN [Om 54 9,oq 55 (.bin .add XZ (.tmp 54) (.const (.int .u64 1))) [.t 54,.c (.val (.int .u64 1))],Om 9 55] [53,54,55] [])))
def sC:zc:=(.seq (rgN [Ob 76 .lss zb 75 74] [] []) (.seq (.cond (.t 76) .skip (.exit 2)) (.seq (.block 3 (.seq (rgN [Om 77 75,Om 14 77] [76,77] []) (.seq (rgN [Om 78 13,Om 79 14,Ob 80 .sub zb 78 79,Om 15 80] [14,78,79,80] []) (rgN [Om 81 4,Om 82 15,Om 83 10,Om 84 15,Om 85 15,Om 86 12,Ob 87 .add zb 85 86,Oj 88 .add zb 87 1,Om 89 15,Om 90 12,Ob 91 .add zb 89 90,Oj 92 .add zb 91 1,oq 93 (.slice 1 true true true) [.t 83,.t 84,.t 88,.t 92],Om 94 11,oq 95 (.callI bF) [.t 93,.t 94],Oi 96 1 81 82,Oz 1 96 95] [15,81,82,83,84,85,86,87,88,89,90,91,92,93,94,95,96] [])))) (rgN [Oj 97 .add zb 75 1,Om 75 97] [97] []))))
def sD:zc:=(.seq (rgN [Ob 102 .lss zb 101 100] [] []) (.seq (.cond (.t 102) .skip (.exit 4)) (.seq (.block 5 (.seq (rgN [Om 103 101,Om 16 103] [102,103] []) (.seq (rgN [Om 104 5,Om 105 16,Om 106 10,Om 107 16,Oi 108 1 106 107,Ol 109 108,Om 110 9,Ob 111 .shr zD 109 110,Oi 112 1 104 105,Oz 1 112 111] [104,105,106,107,108,109,110,111,112] []) (.seq (rgN [Om 113 9,oq 114 (.bin .gtr XZ (.tmp 113) (.const (.int .u64 0))) [.t 113,.c (.val (.int .u64 0))]] [113] []) (.cond (.t 114) (rgD [Om 115 5,Om 116 16,Oi 117 1 115 116,Ol 118 117,Om 119 10,Om 120 16,Oj 121 .add zb 120 1,Oi 122 1 119 121,Ol 123 122,Om 124 9,oq 125 (.bin .sub XZ (.const (.int .u64 32)) (.tmp 124)) [.c (.val (.int .u64 32)),.t 124],Ob 126 .shl zD 123 125,Ob 127 .or zD 118 126,Oi 128 1 115 116,Oz 1 128 127] [16,114,115,116,117,118,119,120,121,122,123,124,125,126,127,128] []) .skip))))) (rgN [Oj 129 .add zb 101 1,Om 101 129] [16,114,129] []))))
def km:zc:=(.seq (.region false [72,99] [Om 130 4,Ok 131 xv 130,Om 132 5,Ok 133 xv 132,Om 4 131,Om 5 133,Oc 6 0] [9,10,100,101,102,130,131,132,133] []) .ret)
def um:zc:=(.seq (rgN [Om 98 12,oq 99 (.mk 1 4 [.val (.int .u32 0)]) [.t 98,.t 98],Om 5 99] [11,13,74,75,76,98,99] []) (.seq (.seq (rgN [Om 100 12,Oc 101 0] [12] []) (.block 4 (.loop sD))) km))
def uo:zc:=(.seq (rgN [Om 56 0,Om 57 9,oq 58 (.callI qS) [.t 56,.t 57],Om 10 58] [53,56,57,58] []) (.seq (rgN [Om 59 1,Om 60 9,OK 61 qS 59 60,Ok 62 xv 61,Om 11 62] [59,60,61,62] []) (.seq (rgN [Om 63 11,OL 64 63,Om 65 0,OL 66 65,Om 67 1,OL 68 67,Ob 69 .sub zb 66 68,Om 12 64,Om 13 69] [0,1,63,64,65,66,67,68,69] []) (.seq (rgN [Om 70 13,Oj 71 .add zb 70 1,oq 72 (.mk 1 4 [.val (.int .u32 0)]) [.t 71,.t 71],Om 4 72] [70,71,72] []) (.seq (.seq (rgN [Om 73 13,Oj 74 .add zb 73 1,Oc 75 0] [73] []) (.block 2 (.loop sC))) um)))))
def Ud:zc:=(.seq (rgN [oq 4 .mov [.c zA],oq 5 .mov [.c zA],Oc 6 0] [4,5,6] []) (.seq (rgN [Om 17 0,Ok 18 xv 17,Om 19 1,Ok 20 xv 19,Om 0 18,Om 1 20] [17,18,19,20] []) (.seq (.seq (rgN [Om 21 1,OL 22 21,Oj 23 .eql zb 22 0] [21,22] []) (.cond (.t 23) (.seq (rgN [oq 4 .mov [.c zA],oq 5 .mov [.c zA],Oc 6 8] [0,1,23] []) .ret) .skip)) (.seq (.seq (rgN [Om 24 0,Om 25 1,OK 26 pZ 24 25,Oj 27 .lss zb 26 0] [23,24,25,26] []) (.cond (.t 27) (.seq (rgN [Om 28 0,oq 29 (.call jc) [.t 28,.c zA],oq 4 .mov [.c zA],Om 5 29,Oc 6 0] [0,1,27,28,29] []) .ret) .skip)) (.seq (.seq (rgN [Om 30 1,OL 31 30,Oj 32 .eql zb 31 1] [27,30,31] []) (.cond (.t 32) (.seq (rgN [Om 34 0,Om 35 1,oq 36 (.iaddrS 1) [.t 35,.c (iv 0)],Ol 37 36,OK 38 bG 34 37,Om 33 38,Oe 39 0 33,Oe 40 1 33,Om 7 39,Om 8 40] [0,1,32,34,35,36,37,38,33,39,40] []) (.seq (rgN [Om 41 7,Om 42 8,oq 43 (.conv zD zh) [.t 42],Ok 44 vW 43,Om 4 41,Om 5 44,Oc 6 0] [7,8,41,42,43,44] []) .ret)) .skip)) (.seq (rgN [oq 9 .mov [.c (.val (.int .u64 0))]] [32] []) (.seq (.block 0 (.loop sy)) uo)))))))
def se:List zB:=[.t 4,.t 5,.t 6]
theorem Gr:zq Tryz.prog qd=some (bare Ud,se,134):=by kernel_rfl
def vK:zc:=(.seq (rgN [Oj 7 .lss zb 6 6] [] []) (.seq (.cond (.t 7) .skip (.exit 0)) (.seq (.block 1 (.seq (rgN [oq 8 (.idxA 6 1 none) [.t 5,.t 6],Om 4 8] [7,8] []) (.seq (rgN [Om 9 4,Oj 10 .lss zb 9 0,Om 11 10,Wm 12 4 11,Wj 13 .gtr zb 12 4 11,Op 14 11 13] [4,9,10,11,12,13] []) (.cond (.t 14) (.seq (rgN [Oc 2 4] [5,6,14] []) .ret) .skip)))) (rgN [Oj 15 .add zb 6 1,Om 6 15] [14,15] []))))
def kK:zc:=(.seq (rgN [Oc 2 0] [5,6,7] []) .ret)
def eO:zc:=(.seq (rgN [OB 1 0,Oc 2 0] [0,2] []) (.seq (.seq (rgN [On 5 6 1,Oc 6 0] [1] [1]) (.block 0 (.loop vK))) kK))
def qB:List zB:=[.t 2]
theorem SX:zq Tryz.prog qa=some (bare eO,qB,16):=by kernel_rfl
def wM:zc:=(.seq (rgN [OB 3 1,Oc 4 0] [1,4] []) (.seq (.block 0 (.seq (rgN [OF 6 0 3,Ol 7 6,Oj 8 .lss zb 7 0,Om 9 8,WF 10 0 3 9,Wl 11 10 9,Wm 12 0 9,Wb 13 .geq zb 11 12 9,Op 14 9 13,Om 5 14] [0,6,7,8,9,10,11,12,13,14] []) (.cond (.t 5) (.seq (rgN [Oc 4 6] [3,5] [3]) .ret) (.seq (rgN [OF 16 7 3,Ol 17 16,Oj 18 .lss xG 17 1,Om 19 18,WF 20 7 3 19,Wl 21 20 19,Wj 22 .gtr xG 21 1000000 19,Op 23 19 22,Om 15 23] [5,16,17,18,19,20,21,22,23] []) (.cond (.t 15) (.seq (rgN [Oc 4 4] [3,15] [3]) .ret) .skip))))) (.seq (rgN [OF 24 1 3,On 25 6 24,Ok 26 qa 25,Om 4 26] [3,15,24,25,26] [3]) .ret)))
def wQ:List zB:=[.t 4]
theorem XR:zq Tryz.prog pG=some (bare wM,wQ,27):=by kernel_rfl
def Lh:zc:=(.seq (rgN [OB 2 0,OB 3 1,Oa 4,Oc 5 0] [0,1,5] []) (.seq (rgD [OF 6 0 2,Ol 7 6,OF 8 0 3,Ol 9 8,Ob 10 .neq uz 7 9,OF 11 1 2,Ol 12 11,OF 13 2 3,Ol 14 13,OK 15 qe 12 14,OF 16 2 2,Ol 17 16,OF 18 1 3,Ol 19 18,OK 20 qe 17 19,oq 21 (.call js) [.t 10,.t 15,.t 20],Oe 22 0 21,Oe 23 1 21,Oz 3 4 22,Om 5 23] [2,3,6,7,8,9,10,11,12,13,14,15,16,17,18,19,20,21,22,23] [2,3]) .ret))
def Kh:List zB:=[.cell 4 (some 3),.t 5]
theorem acm:zq Tryz.prog jb=some (bare Lh,Kh,24):=by kernel_rfl
def tZ:zc:=(.seq (rgN [Ob 31 .lss zb 30 29] [] []) (.seq (.cond (.t 31) .skip (.exit 0)) (.seq (.block 1 (.seq (rgN [Om 32 30,Oi 33 3 28 30,On 34 3 33,Oa 15,Om 14 32,Oz 3 15 34] [31,32,33,34] []) (.block 2 (.seq (rgN [Om 47 14,Om 48 2,Ob 49 .eql zb 47 48,Om 46 49] [47,48,49] []) (.cond (.t 46) (rgD [Om 50 13,Om 51 14,On 52 3 12,Om 53 3,Om 54 14,Oi 55 3 53 54,On 56 3 55,OK 57 vn 52 56,Ok 58 qc 57,Oi 59 3 50 51,Oz 3 59 58] [15,14,46,50,51,52,53,54,55,56,57,58,59] [15]) (.seq (rgN [Om 61 3,Om 62 14,Oi 63 3 61 62,On 64 3 63,Ok 65 xt 64,Oj 66 .eql zb 65 0,Om 60 66] [46,61,62,63,64,65,66] []) (.cond (.t 60) (rgN [Om 67 13,Om 68 14,On 69 3 15,Oi 70 3 67 68,Oz 3 70 69] [15,14,60,67,68,69,70] [15]) (rgD [Om 35 13,Om 36 14,On 37 3 15,On 38 3 12,Om 39 3,Om 40 14,Oi 41 3 39 40,On 42 3 41,OK 43 vn 38 42,OK 44 pY 37 43,Oi 45 3 35 36,Oz 3 45 44] [15,14,60,35,36,37,38,39,40,41,42,43,44,45] [15])))))))) (rgN [Oj 71 .add zb 30 1,Om 30 71] [71] []))))
def jT:zc:=(.seq (rgD [Om 72 13,On 73 3 6,On 74 3 12,On 75 3 9,OK 76 vn 74 75,OK 77 pY 73 76,Om 10 72,Oz 3 11 77] [2,3,6,9,12,13,28,29,30,31,72,73,74,75,76,77] [6,9,12]) .ret)
def bm:zc:=(.seq (rgN [OB 6 1,OB 9 4,oq 10 .mov [.c zA],Oa 11] [1,4,10] []) (.seq (rgN [Om 16 0,Om 17 2,Oi 18 3 16 17,On 19 3 18,Oa 12,Oz 3 12 19] [16,17,18,19] []) (.seq (.seq (rgN [On 20 3 12,Ok 21 xt 20,Oj 22 .eql zb 21 0] [20,21] []) (.cond (.t 22) (.seq (rgD [Om 23 0,On 24 3 6,Om 10 23,Oz 3 11 24] [0,2,3,6,9,12,22,23,24] [6,9,12]) .ret) .skip)) (.seq (rgN [Om 25 0,OL 26 25,⟨some 27,.mk 3 56 zF,[.t 26,.t 26],none⟩,Om 13 27] [22,25,26,27] []) (.seq (.seq (rgN [Om 28 0,OL 29 28,Oc 30 0] [0] []) (.block 0 (.loop tZ))) jT)))))
def kE:List zB:=[.t 10,.cell 11 (some 3)]
theorem Qm:zq Tryz.prog pj=some (bare bm,kE,78):=by kernel_rfl
def bV:zc:=(.seq (rgN [oq 2 .mov [.c zA]] [2] []) (.seq (rgN [Om 3 0,oq 4 (.bin .rem zh (.tmp 3) (.const (.int .u64 4294967296))) [.t 3,.c (.val (.int .u64 4294967296))],oq 5 (.conv zh zD) [.t 4],Om 6 0,oq 7 (.bin .quo zh (.tmp 6) (.const (.int .u64 4294967296))) [.t 6,.c (.val (.int .u64 4294967296))],oq 8 (.conv zh zD) [.t 7],oq 9 (.mkslice 1 2 [.val (.int .u32 0)] [0,1]) [.t 5,.t 8],Ok 10 tT 9,Om 2 10] [0,3,4,5,6,7,8,9,10] []) .ret))
def aW:List zB:=[.t 2]
theorem N5:zq Tryz.prog te=some (bare bV,aW,11):=by kernel_rfl
def m9:zc:=(.seq (.seq (rgN [Om 7 3,Oj 8 .gtr zb 7 0,Om 9 8,Vm 10 0 9,Vm 11 3 9,Vj 12 .sub zb 11 1 9,VK 13 ZA 10 12 9,⟨some 14,.bin .eql zh (.tmp 13) (.const (.int .u64 0)),[.t 13,.c (.val (.int .u64 0))],some (9,true)⟩,Oq 15 9 14] [7,8,9,10,11,12,13,14] []) (.cond (.t 15) .skip (.exit 0))) (.block 1 (rgN [Om 16 3,Oj 17 .sub zb 16 1,Om 3 17] [15,16,17] [])))
def f4:zc:=(.seq (rgN [Om 18 3,Om 2 18] [0,3,15,18] []) .ret)
def QZ:zc:=(.seq (rgN [Oc 2 0] [2] []) (.seq (rgN [Om 4 0,OL 5 4,oq 6 (.bin .mul zb (kc 32) (.tmp 5)) [.c (iv 32),.t 5],Om 3 6] [4,5,6] []) (.seq (.block 0 (.loop m9)) f4)))
def Xs:List zB:=[.t 2]
theorem AR:zq Tryz.prog dr=some (bare QZ,Xs,19):=by kernel_rfl
def f5:zc:=(.seq (.seq (rgN [Om 10 6,Om 11 0,OL 12 11,Ob 13 .lss zb 10 12] [10,11,12] []) (.cond (.t 13) .skip (.exit 0))) (.seq (.block 1 (.seq (rgN [Om 16 0,Om 17 6,OK 18 xN 16 17,Om 19 0,Om 20 6,Oj 21 .add zb 20 1,OK 22 xN 19 21,oq 23 (.bin .mul zh (.tmp 22) (.const (.int .u64 4294967296))) [.t 22,.c (.val (.int .u64 4294967296))],Ob 24 .add zh 18 23,Om 7 24] [13,16,17,18,19,20,21,22,23,24] []) (rgN [Om 25 5,Om 26 7,Om 27 1,Oj 28 .rem zb 27 32,oq 29 (.bin .shl zh (.const (.int .u64 1)) (.tmp 28)) [.c (.val (.int .u64 1)),.t 28],Ob 30 .quo zh 26 29,oq 31 (.bin .rem zh (.tmp 30) (.const (.int .u64 4294967296))) [.t 30,.c (.val (.int .u64 4294967296))],oq 32 (.conv zh zD) [.t 31],oq 33 (.mkslice 1 1 [.val (.int .u32 0)] [0]) [.t 32],oq 34 (.append 1 4) [.t 25,.t 33],Om 5 34] [7,25,26,27,28,29,30,31,32,33,34] []))) (rgN [Om 14 6,Oj 15 .add zb 14 1,Om 6 15] [14,15] [])))
def Yr:zc:=(.seq (rgN [Om 35 5,Ok 36 tT 35,Om 4 36] [0,1,5,6,13,35,36] []) .ret)
def Q0:zc:=(.seq (rgN [oq 4 .mov [.c zA]] [4] []) (.seq (rgN [oq 5 .mov [.c zA]] [] []) (.seq (.seq (rgN [Om 8 1,Oj 9 .quo zb 8 32,Om 6 9] [8,9] []) (.block 0 (.loop f5))) Yr)))
def Np:List zB:=[.t 4]
theorem AS:zq Tryz.prog YS=some (bare Q0,Np,37):=by kernel_rfl
def Lv:zc:=(.seq (rgN [oq 4 .mov [.c (.val (.int .u64 0))]] [4] []) (.seq (rgD [Om 5 0,Om 6 1,Oj 7 .quo zb 6 32,OK 8 xN 5 7,Om 9 1,Oj 10 .rem zb 9 32,oq 11 (.bin .shl zh (.const (.int .u64 1)) (.tmp 10)) [.c (.val (.int .u64 1)),.t 10],Ob 12 .quo zh 8 11,oq 13 (.bin .rem zh (.tmp 12) (.const (.int .u64 2))) [.t 12,.c (.val (.int .u64 2))],Om 4 13] [0,1,5,6,7,8,9,10,11,12,13] []) .ret))
def Ku:List zB:=[.t 4]
theorem acD:zq Tryz.prog ZA=some (bare Lv,Ku,14):=by kernel_rfl
def jI:zc:=(.seq (rgN [Ob 17 .lss zb 16 15] [] []) (.seq (.cond (.t 17) .skip (.exit 0)) (.seq (.block 1 (.seq (rgN [Om 18 16,Om 8 18] [17,18] []) (.seq (rgN [Om 19 0,OL 20 19,Oj 21 .sub zb 20 1,Om 22 8,Ob 23 .sub zb 21 22,Om 9 23] [8,19,20,21,22,23] []) (.seq (rgN [Om 24 7,oq 25 (.bin .shl zh (.tmp 24) (.const (.int .u64 32))) [.t 24,.c (.val (.int .u64 32))],Om 26 0,Om 27 9,Oi 28 1 26 27,Ol 29 28,oq 30 (.conv zD zh) [.t 29],Ob 31 .or zh 25 30,Om 10 31] [7,24,25,26,27,28,29,30,31] []) (rgD [ox (.start [32,33,34,35,36,37,38,39,40,41,42,43]) [],Om 32 6,Om 33 9,Om 34 10,Om 35 1,oq 36 (.conv zD zh) [.t 35],Ob 37 .quo zh 34 36,oq 38 (.conv zh zD) [.t 37],Om 39 10,Om 40 1,oq 41 (.conv zD zh) [.t 40],Ob 42 .rem zh 39 41,Oi 43 1 32 33,Oz 1 43 38,oq 39 (.chk (.mov)) [.t 10],oq 40 (.chk (.mov)) [.t 1],oq 41 (.chk (.conv zD zh)) [.t 40],oq 42 (.chk (.bin .rem zh (.tmp 39) (.tmp 41))) [.t 39,.t 41],Om 7 42] [9,10,32,33,34,35,36,37,38,39,40,41,42,43] []))))) (rgN [Oj 44 .add zb 16 1,Om 16 44] [44] []))))
def bU:zc:=(.seq (.region false [13] [Om 45 6,Ok 46 xv 45,Om 47 7,oq 48 (.conv zh zD) [.t 47],Om 4 46,Om 5 48] [0,1,6,7,15,16,17,45,46,47,48] []) .ret)
def S8:zc:=(.seq (rgN [oq 4 .mov [.c zA],oq 5 .mov [.c (.val (.int .u32 0))]] [4,5] []) (.seq (rgN [Om 11 0,OL 12 11,oq 13 (.mk 1 4 [.val (.int .u32 0)]) [.t 12,.t 12],Om 6 13] [11,12,13] []) (.seq (rgN [oq 7 .mov [.c (.val (.int .u64 0))]] [] []) (.seq (.seq (rgN [Om 14 0,OL 15 14,Oc 16 0] [14] []) (.block 0 (.loop jI))) bU))))
def RK:List zB:=[.t 4,.t 5]
theorem DC:zq Tryz.prog bG=some (bare S8,RK,49):=by kernel_rfl
def tl:zc:=(.seq (rgN [Ob 15 .lss zb 14 13] [] []) (.seq (.cond (.t 15) .skip (.exit 0)) (.seq (.block 1 (.seq (rgN [Om 16 14,Om 6 16] [15,16] []) (.seq (rgN [Om 17 0,Om 18 6,Oi 19 1 17 18,Ol 20 19,oq 21 (.conv zD zh) [.t 20],Om 22 1,Ob 23 .shl zh 21 22,Om 7 23] [17,18,19,20,21,22,23] []) (.seq (rgN [Om 24 5,Om 25 6,Oi 26 1 24 25,Ol 27 26,Om 28 7,oq 29 (.conv zh zD) [.t 28],Ob 30 .or zD 27 29,Oi 31 1 24 25,Oz 1 31 30] [24,25,26,27,28,29,30,31] []) (rgN [Om 32 5,Om 33 6,Oj 34 .add zb 33 1,Om 35 7,oq 36 (.bin .shr zh (.tmp 35) (.const (.int .u64 32))) [.t 35,.c (.val (.int .u64 32))],oq 37 (.conv zh zD) [.t 36],Oi 38 1 32 34,Oz 1 38 37] [6,7,32,33,34,35,36,37,38] []))))) (rgN [Oj 39 .add zb 14 1,Om 14 39] [39] []))))
def mw:zc:=(.seq (rgN [Om 40 5,Om 4 40] [0,1,5,13,14,15,40] []) .ret)
def fV:zc:=(.seq (rgN [oq 4 .mov [.c zA]] [4] []) (.seq (rgN [Om 8 0,OL 9 8,Oj 10 .add zb 9 1,oq 11 (.mk 1 4 [.val (.int .u32 0)]) [.t 10,.t 10],Om 5 11] [8,9,10,11] []) (.seq (.seq (rgN [Om 12 0,OL 13 12,Oc 14 0] [12] []) (.block 0 (.loop tl))) mw)))
def eh:List zB:=[.t 4]
theorem YO:zq Tryz.prog qS=some (bare fV,eh,41):=by kernel_rfl
def ws:zc:=(.seq (.seq (rgD [Om 48 7,oq 49 (.bin .geq zh (.tmp 48) (.const (.int .u64 4294967296))) [.t 48,.c (.val (.int .u64 4294967296))],Om 50 49,Wm 51 7 50,Wm 52 1 50,Wm 53 5 50,Wj 54 .sub zb 53 2 50,Wi 55 1 52 54 50,Wl 56 55 50,⟨some 57,.conv zD zh,[.t 56],some (50,false)⟩,Wb 58 .mul zh 51 57 50,Wm 59 8 50,⟨some 60,.bin .shl zh (.tmp 59) (.const (.int .u64 32)),[.t 59,.c (.val (.int .u64 32))],some (50,false)⟩,Wm 61 0 50,Wm 62 5 50,Wj 63 .sub zb 62 2 50,Wi 64 1 61 63 50,Wl 65 64 50,⟨some 66,.conv zD zh,[.t 65],some (50,false)⟩,Wb 67 .or zh 60 66 50,Wb 68 .gtr zh 58 67 50,Op 69 50 68] [48,49,50,51,52,53,54,55,56,57,58,59,60,61,62,63,64,65,66,67,68] []) (.cond (.t 69) .skip (.exit 0))) (.block 1 (.seq (rgN [Om 70 7,oq 71 (.bin .sub zh (.tmp 70) (.const (.int .u64 1))) [.t 70,.c (.val (.int .u64 1))],Om 7 71] [69,70,71] []) (.seq (rgN [Om 72 8,Om 73 1,Om 74 5,Oj 75 .sub zb 74 1,Oi 76 1 73 75,Ol 77 76,oq 78 (.conv zD zh) [.t 77],Ob 79 .add zh 72 78,Om 8 79] [72,73,74,75,76,77,78,79] []) (.seq (rgN [Om 80 8,oq 81 (.bin .geq zh (.tmp 80) (.const (.int .u64 4294967296))) [.t 80,.c (.val (.int .u64 4294967296))]] [80] []) (.cond (.t 81) (.exit 0) .skip))))))
def nL:zc:=(.seq (rgN [Ob 84 .lss zb 83 82] [] []) (.seq (.cond (.t 84) .skip (.exit 2)) (.seq (.block 3 (.seq (rgN [Om 85 83,Om 11 85] [84,85] []) (.seq (rgN [Om 86 7,Om 87 1,Om 88 11,Oi 89 1 87 88,Ol 90 89,oq 91 (.conv zD zh) [.t 90],Ob 92 .mul zh 86 91,Om 93 9,Ob 94 .add zh 92 93,Om 12 94] [9,86,87,88,89,90,91,92,93,94] []) (.seq (rgN [Om 95 12,oq 96 (.bin .shr zh (.tmp 95) (.const (.int .u64 32))) [.t 95,.c (.val (.int .u64 32))],Om 9 96] [95,96] []) (.seq (rgN [Om 97 0,Om 98 11,Oi 99 1 97 98,Ol 100 99,oq 101 (.conv zD zh) [.t 100],Om 102 12,oq 103 (.bin .and zh (.tmp 102) (.const (.int .u64 4294967295))) [.t 102,.c (.val (.int .u64 4294967295))],Ob 104 .sub zh 101 103,Om 105 10,Ob 106 .sub zh 104 105,Om 13 106] [10,12,97,98,99,100,101,102,103,104,105,106] []) (rgN [Om 107 0,Om 108 11,Om 109 13,oq 110 (.conv zh zD) [.t 109],Om 111 13,oq 112 (.bin .shr zh (.tmp 111) (.const (.int .u64 63))) [.t 111,.c (.val (.int .u64 63))],Oi 113 1 107 108,Oz 1 113 110,Om 10 112] [11,13,107,108,109,110,111,112,113] [])))))) (rgN [Oj 114 .add zb 83 1,Om 83 114] [114] []))))
def nM:zc:=(.seq (rgN [Ob 136 .lss zb 135 134] [] []) (.seq (.cond (.t 136) .skip (.exit 4)) (.seq (.block 5 (.seq (rgN [Om 137 135,Om 15 137] [136,137] []) (.seq (rgD [Om 138 0,Om 139 15,Oi 140 1 138 139,Ol 141 140,oq 142 (.conv zD zh) [.t 141],Om 143 1,Om 144 15,Oi 145 1 143 144,Ol 146 145,oq 147 (.conv zD zh) [.t 146],Ob 148 .add zh 142 147,Om 149 9,Ob 150 .add zh 148 149,Om 16 150] [9,138,139,140,141,142,143,144,145,146,147,148,149,150] []) (rgN [Om 151 0,Om 152 15,Om 153 16,oq 154 (.conv zh zD) [.t 153],Om 155 16,oq 156 (.bin .shr zh (.tmp 155) (.const (.int .u64 32))) [.t 155,.c (.val (.int .u64 32))],Oi 157 1 151 152,Oz 1 157 154,Om 9 156] [15,16,151,152,153,154,155,156,157] [])))) (rgN [Oj 158 .add zb 135 1,Om 135 158] [158] []))))
def rE:zc:=(.seq (rgN [Om 159 0,Om 160 5,Oi 161 1 159 160,Ol 162 161,Om 163 9,oq 164 (.conv zh zD) [.t 163],Ob 165 .add zD 162 164,Oi 166 1 159 160,Oz 1 166 165] [0,1,5,9,134,135,136,159,160,161,162,163,164,165,166] []) (.seq (rgN [Om 167 7,oq 168 (.bin .sub zh (.tmp 167) (.const (.int .u64 1))) [.t 167,.c (.val (.int .u64 1))],oq 169 (.conv zh zD) [.t 168],Om 4 169] [7,167,168,169] []) .ret))
def tk:zc:=(.seq (rgN [Om 115 0,Om 116 5,Oi 117 1 115 116,Ol 118 117,oq 119 (.conv zD zh) [.t 118],Om 120 9,Ob 121 .sub zh 119 120,Om 122 10,Ob 123 .sub zh 121 122,Om 14 123] [9,10,82,83,84,115,116,117,118,119,120,121,122,123] []) (.seq (rgN [Om 124 0,Om 125 5,Om 126 14,oq 127 (.conv zh zD) [.t 126],Oi 128 1 124 125,Oz 1 128 127] [124,125,126,127,128] []) (.seq (.seq (rgN [Om 129 14,oq 130 (.bin .shr zh (.tmp 129) (.const (.int .u64 63))) [.t 129,.c (.val (.int .u64 63))],oq 131 (.bin .eql zh (.tmp 130) (.const (.int .u64 0))) [.t 130,.c (.val (.int .u64 0))]] [14,129,130] []) (.cond (.t 131) (.seq (rgN [Om 132 7,oq 133 (.conv zh zD) [.t 132],Om 4 133] [0,1,5,7,131,132,133] []) .ret) .skip)) (.seq (rgN [oq 9 .mov [.c (.val (.int .u64 0))]] [131] []) (.seq (.seq (rgN [Om 134 5,Oc 135 0] [] []) (.block 4 (.loop nM))) rE)))))
def w9:zc:=(.seq (rgN [oq 9 .mov [.c (.val (.int .u64 0))],oq 10 .mov [.c (.val (.int .u64 0))]] [8,81,69] []) (.seq (.seq (rgN [Om 82 5,Oc 83 0] [] []) (.block 2 (.loop nL))) tk))
def S7:zc:=(.seq (rgN [oq 4 .mov [.c (.val (.int .u32 0))]] [4] []) (.seq (rgN [Om 17 1,OL 18 17,Om 5 18] [17,18] []) (.seq (rgD [Om 19 0,Om 20 5,Oi 21 1 19 20,Ol 22 21,oq 23 (.conv zD zh) [.t 22],oq 24 (.bin .shl zh (.tmp 23) (.const (.int .u64 32))) [.t 23,.c (.val (.int .u64 32))],Om 25 0,Om 26 5,Oj 27 .sub zb 26 1,Oi 28 1 25 27,Ol 29 28,oq 30 (.conv zD zh) [.t 29],Ob 31 .or zh 24 30,Om 6 31] [19,20,21,22,23,24,25,26,27,28,29,30,31] []) (.seq (rgD [Om 32 6,Om 33 1,Om 34 5,Oj 35 .sub zb 34 1,Oi 36 1 33 35,Ol 37 36,oq 38 (.conv zD zh) [.t 37],Ob 39 .quo zh 32 38,Om 40 6,Om 41 1,Om 42 5,Oj 43 .sub zb 42 1,Oi 44 1 41 43,Ol 45 44,oq 46 (.conv zD zh) [.t 45],Ob 47 .rem zh 40 46,Om 7 39,Om 8 47] [6,32,33,34,35,36,37,38,39,40,41,42,43,44,45,46,47] []) (.seq (.block 0 (.loop ws)) w9)))))
def RJ:List zB:=[.t 4]
theorem DB:zq Tryz.prog bF=some (bare S7,RJ,170):=by kernel_rfl
end Go.Proofs.YtfmcplfbnkoglaaGreat

namespace Go.Dig
def B:Nat:=4294967296
theorem z5:B=4294967296:=rfl
theorem zU:0<B:=by decide
theorem vd (k:Nat):0<B^k:=Nat.pow_pos zU
def val:List Nat→Nat
 | []=>0
 | d::l=>d+B*val l
def ok (l:List Nat):Prop:=∀ d∈l,d<B
def zf (x:Nat):List Nat:=if x=0 then [] else x%B::zf (x/B)
termination_by x
decreasing_by exact Nat.div_lt_self (by omega) (by decide)
theorem yf:zf 0=[]:=by rw[zf]; rfl
theorem rJ {x:Nat} (h:x≠0):zf x=x%B::zf (x/B):=by rw[zf,if_neg h]
theorem zI (x:Nat):val (zf x)=x:=by
 induction x using Nat.strongRecOn with
 | ind x ih =>
  by_cases h:x=0
  ·subst h; rw[yf]; rfl
  ·rw[rJ h,val,ih _ (Nat.div_lt_self (by omega) (by decide))]
   exact Nat.mod_add_div x B
theorem zw (x:Nat):ok (zf x):=by
 induction x using Nat.strongRecOn with
 | ind x ih =>
  by_cases h:x=0
  ·subst h; rw[yf]; intro d hd; cases hd
  ·rw[rJ h]
   intro d hd
   rcases List.mem_cons.1 hd with rfl | hd
   ·exact Nat.mod_lt _ zU
   ·exact ih _ (Nat.div_lt_self (by omega) (by decide)) d hd
theorem yB {x:Nat}:zf x=[]↔x=0:=by
 constructor
 ·intro h; have:=zI x; rw[h] at this; exact this.symm
 ·rintro rfl; exact yf
theorem dN {x y:Nat} (h:zf x=zf y):x=y:=by rw[← zI x,h,zI]
theorem Nd:ok []:=fun _ h=>by cases h
theorem Sh {d:Nat} {l:List Nat}:ok (d::l)↔d<B∧ok l:=by simp[ok]
theorem aQ {a b:List Nat}:ok (a++b)↔ok a∧ok b:=by
 constructor
 ·intro h; exact ⟨fun d hd=>h d (by simp[hd]),fun d hd=>h d (by simp[hd])⟩
 ·rintro ⟨h1,h2⟩ d hd
  rcases List.mem_append.1 hd with hd | hd
  ·exact h1 d hd
  ·exact h2 d hd
theorem ut {a:List Nat} (h:ok a) (k:Nat):ok (a.take k):=fun d hd=>h d (List.mem_of_mem_take hd)
theorem Si {a:List Nat} (h:ok a) (k:Nat):ok (a.drop k):=fun d hd=>h d (List.mem_of_mem_drop hd)
theorem U0 {a:List Nat} (h:ok a) {k x:Nat} (hx:x<B):ok (a.set k x):=fun d hd=>by
 rcases List.mem_or_eq_of_mem_set hd with hd | rfl
 ·exact h d hd
 ·exact hx
theorem Nf (n:Nat):ok (List.replicate n 0):=fun d hd=>by
 rw[List.eq_of_mem_replicate hd]; exact zU
theorem xA {a:List Nat} (h:ok a) {k:Nat} (hk:k<a.length):a[k]<B:=h _ (List.getElem_mem hk)
theorem val_append (a b:List Nat):val (a++b)=val a+B^a.length*val b:=by
 induction a with
 | nil=>simp[val]
 | cons d a ih=>simp only[List.cons_append,val,ih,List.length_cons,Nat.pow_succ,Nat.mul_add]; rw[Nat.mul_comm (B^a.length) B,Nat.mul_assoc]; omega
theorem Yf (n:Nat):val (List.replicate n 0)=0:=by
 induction n with
 | zero=>rfl
 | succ n ih=>simp[List.replicate_succ,val,ih]
theorem vh {a:List Nat} (h:ok a):val a<B^a.length:=by
 induction a with
 | nil=>simp[val]
 | cons d a ih =>
  have h1:=(Sh.1 h).1
  have h2:=ih (Sh.1 h).2
  simp only[val,List.length_cons,Nat.pow_succ]
  have:B*(val a+1)≤B*B^a.length:=Nat.mul_le_mul_left _ h2
  rw[Nat.mul_add] at this
  rw[Nat.mul_comm (B^a.length)]
  omega
theorem yS {a:List Nat} (h:ok a) {n:Nat} (hn:a.length≤n):val a<B^n :=
 Nat.lt_of_lt_of_le (vh h) (Nat.pow_le_pow_right zU hn)
theorem vS (a:List Nat) (k:Nat):val a=val (a.take k)+B^(min k a.length)*val (a.drop k):=by
 have:=val_append (a.take k) (a.drop k)
 rwa [List.take_append_drop,List.length_take] at this
theorem xD {a:List Nat} {k:Nat} (hk:k<a.length):val (a.take (k+1))=val (a.take k)+B^k*a[k]:=by
 rw[List.take_succ_eq_append_getElem hk,val_append,List.length_take,Nat.min_eq_left (by omega)]
 simp[val]
theorem Me {a:List Nat} (h:ok a) {k:Nat} (hk:k≤a.length):val (a.take k)=val a%B^k:=by
 have h1:=vS a k
 have h2:=vh (ut h k)
 rw[List.length_take,Nat.min_eq_left hk] at h2
 rw[Nat.min_eq_left hk] at h1
 rw[h1,Nat.add_mul_mod_self_left,Nat.mod_eq_of_lt h2]
theorem XU {a:List Nat} (h:ok a) {k:Nat} (hk:k≤a.length):val (a.drop k)=val a/B^k:=by
 have h1:=vS a k
 have h2:=vh (ut h k)
 rw[List.length_take,Nat.min_eq_left hk] at h2
 rw[Nat.min_eq_left hk] at h1
 rw[h1,Nat.add_mul_div_left _ _ (vd k),Nat.div_eq_of_lt h2,Nat.zero_add]
theorem mH {a:List Nat} (h:ok a) {k:Nat} (hk:k<a.length):a[k]=val a/B^k%B:=by
 rw[← XU h (by omega),List.drop_eq_getElem_cons hk,val,Nat.add_mul_mod_self_left,Nat.mod_eq_of_lt (xA h hk)]
def zt (n x:Nat):List Nat:=(List.range n).map fun i=>x/B^i%B
theorem zy {n x:Nat}:(zt n x).length=n:=by simp[zt]
theorem vc {n x k:Nat} (hk:k<(zt n x).length):(zt n x)[k]=x/B^k%B:=by simp[zt]
theorem yu {n x:Nat}:ok (zt n x):=fun d hd=>by
 simp only[zt,List.mem_map] at hd
 obtain ⟨i,_,rfl⟩:=hd
 exact Nat.mod_lt _ zU
theorem ah {a:List Nat} (h:ok a):zt a.length (val a)=a:=by
 apply List.ext_getElem
 ·simp[zt]
 ·intro i h1 h2
  rw[vc,← mH h h2]
theorem t0 {n x:Nat}:zt (n+1) x=zt n x++[x/B^n%B]:=by
 simp[zt,List.range_succ]
theorem fO {n x:Nat}:val (zt n x)=x%B^n:=by
 induction n with
 | zero=>simp[zt,val,Nat.mod_one]
 | succ n ih =>
  rw[t0,val_append,ih,zy,Nat.pow_succ,Nat.mod_mul]
  simp[val]
theorem Ye {a b:List Nat} (ha:ok a) (hb:ok b) (hl:a.length=b.length) (hv:val a=val b):a=b:=by
 rw[← ah ha,← ah hb,hl,hv]
def ww (n k S:Nat):List Nat:=zt k S++List.replicate (n-k) 0
theorem kU {n S:Nat}:ww n 0 S=List.replicate n 0:=by simp[ww,zt]
theorem fe {n k S:Nat} (hk:k≤n):(ww n k S).length=n:=by simp[ww,zy]; omega
theorem an {n S:Nat}:ww n n S=zt n S:=by simp[ww]
theorem ff {n k S:Nat} (hk:k<n):(ww n k S).set k (S/B^k%B)=ww n (k+1) S:=by
 unfold ww
 obtain ⟨m,hm⟩:∃ m,n-k=m+1:=⟨n-k-1,by omega⟩
 have hm2:n-(k+1)=m:=by omega
 rw[hm,hm2,t0,List.set_append_right _ _ (by rw[zy]; exact Nat.le_refl _),zy,Nat.sub_self,List.replicate_succ,List.set_cons_zero]
 simp
theorem yh {n x:Nat} (h:x<B^n):val (zt n x)=x:=by rw[fO,Nat.mod_eq_of_lt h]
theorem LE {a:List Nat} (h:ok a) (hn:∀ hk:0<a.length,a[a.length-1]≠0):zf (val a)=a:=by
 induction a with
 | nil=>exact yf
 | cons d a ih =>
  have h1:=Sh.1 h
  by_cases ha:a=[]
  ·subst ha
   have:d≠0:=hn (by simp)
   have h2:(d+B*0)=d:=by omega
   simp only[val,h2]
   rw[rJ this,Nat.mod_eq_of_lt h1.1,Nat.div_eq_of_lt h1.1,yf]
  ·have hpos:0<a.length:=by
    rcases a with _ | ⟨x,a⟩
    ·exact absurd rfl ha
    ·simp
   have hlast:∀ hk:0<a.length,a[a.length-1]≠0:=fun _=>by
    have:=hn (by simp)
    simp only[List.length_cons,Nat.add_sub_cancel] at this
    rw[List.getElem_cons] at this
    rw[dif_neg (by omega)] at this
    exact this
   have ih:=ih h1.2 hlast
   have hne:val a≠0:=by
    intro h0
    rw[h0,yf] at ih
    exact ha ih.symm
   have h0:d+B*val a≠0:=by
    have:0<B*val a:=Nat.mul_pos zU (by omega)
    omega
   simp only[val]
   rw[rJ h0,Nat.add_mul_mod_self_left,Nat.mod_eq_of_lt h1.1,Nat.add_mul_div_left _ _ zU,Nat.div_eq_of_lt h1.1,Nat.zero_add,ih]
theorem fa {x:Nat} (h:0<(zf x).length):(zf x)[(zf x).length-1]≠0:=by
 induction x using Nat.strongRecOn with
 | ind x ih =>
  by_cases h0:x=0
  ·subst h0; rw[yf] at h; simp at h
  ·have e:=rJ h0
   by_cases h1:x/B=0
   ·have e2:zf x=[x%B]:=by rw[e,h1,yf]
    simp only[e2,List.length_singleton,Nat.sub_self,List.getElem_cons_zero]
    have:x<B:=by
     rcases Nat.lt_or_ge x B with h | h
     ·exact h
     ·have:=Nat.div_pos h zU; omega
    rw[Nat.mod_eq_of_lt this]; exact h0
   ·have hp:0<(zf (x/B)).length:=by
     rw[rJ h1]; simp
    have:=ih _ (Nat.div_lt_self (by omega) (by decide)) hp
    simp only[e,List.length_cons,Nat.add_sub_cancel]
    rw[List.getElem_cons,dif_neg (by omega)]
    exact this
theorem zG {x n:Nat}:(zf x).length≤n↔x<B^n:=by
 constructor
 ·intro h
  have:=yS (zw x) h
  rwa [zI] at this
 ·intro h
  rcases Nat.lt_or_ge n (zf x).length with hlt | hge
  ·exfalso
   have hp:0<(zf x).length:=by omega
   have h1:=fa hp
   have h2:=mH (zw x) (k:=(zf x).length-1) (by omega)
   rw[zI] at h2
   have h3:x/B^((zf x).length-1)=0:=by
    apply Nat.div_eq_of_lt
    exact Nat.lt_of_lt_of_le h (Nat.pow_le_pow_right zU (by omega))
   rw[h3] at h2
   exact h1 h2
  ·exact hge
theorem f9 {x n:Nat}:n<(zf x).length↔B^n≤x:=by
 have:=@zG x n
 omega
theorem DL {a:List Nat} (h:ok a) {n:Nat} (hn:n≤a.length) (h0:∀ k (hk:k<a.length),n≤k→a[k]=0) (h1:∀ hk:0<n,a[n-1]'(by omega)≠0):a.take n=zf (val a):=by
 have hz:a.drop n=List.replicate (a.length-n) 0:=by
  apply List.ext_getElem
  ·simp
  ·intro i hi hj
   simp only[List.getElem_drop,List.getElem_replicate]
   exact h0 _ _ (by omega)
 have hv:val a=val (a.take n):=by
  rw[vS a n,hz,Yf]; omega
 rw[hv]
 refine (LE (ut h n) fun hk=>?_).symm
 simp only[List.length_take,Nat.min_eq_left hn] at hk ⊢
 simp only[List.getElem_take]
 exact h1 hk
theorem wb {a:List Nat} (h:ok a):(zf (val a)).length≤a.length:=zG.2 (vh h)
def itr {σ:Type} (f:Nat→σ→σ) (s:σ):Nat→σ
 | 0=>s
 | k+1=>f k (itr f s k)
theorem pO {x i:Nat} (h:i<(zf x).length):(zf x)[i]=x/B^i%B:=by
 rw[mH (zw x) h,zI]
theorem aF {a:List Nat} (h:ok a):(zf (val a)).length≤a.length∧(∀ i (hi:i<a.length),(zf (val a)).length≤i→a[i]=0) ∧
  (∀ (_h0:0<(zf (val a)).length) (h1:(zf (val a)).length-1<a.length),a[(zf (val a)).length-1]≠0)∧a.take (zf (val a)).length=zf (val a):=by
 have h1:=wb h
 have h2:∀ i (hi:i<a.length),(zf (val a)).length≤i→a[i]=0:=fun i hi hle=>by
  rw[mH h hi]
  have h3:=zG.1 hle
  rw[Nat.div_eq_of_lt h3]
  rfl
 have h3:∀ (h0:0<(zf (val a)).length) (h1:(zf (val a)).length-1<a.length),a[(zf (val a)).length-1]≠0:=fun h0 h4=>by
  rw[mH h h4,← pO (by omega)]
  exact fa h0
 exact ⟨h1,h2,h3,DL h h1 (fun k hk hle=>h2 k hk hle) (fun h0=>h3 h0 (by omega))⟩
theorem Ys {a b:List Nat} (ha:ok a) (_hb:ok b) (hl:a.length=b.length) {k:Nat} (hk:k<a.length) (heq:a.drop (k+1)=b.drop (k+1)) (hlt:a[k]<b[k]'(by omega)):val a<val b:=by
 have e1:=vS a (k+1)
 have e2:=vS b (k+1)
 rw[heq] at e1
 rw[Nat.min_eq_left (by omega)] at e1 e2
 have t1:=xD hk
 have t2:=xD (a:=b) (k:=k) (by omega)
 have l1:=vh (ut ha k)
 rw[List.length_take,Nat.min_eq_left (by omega)] at l1
 have:B^k*(a[k]+1)≤B^k*b[k]'(by omega):=Nat.mul_le_mul_left _ hlt
 rw[Nat.mul_add] at this
 omega
theorem fj {x y:Nat} (h:(zf x).length<(zf y).length):x<y:=by
 have h1:=zG.1 (Nat.le_refl (zf x).length)
 have h2:=f9.1 h
 omega
theorem gZ {L t R k:Nat}:(L+B^k*t+B^(k+1)*R)/B^k%B=(L/B^k+t)%B:=by
 have:L+B^k*t+B^(k+1)*R=L+B^k*(t+B*R):=by rw[Nat.pow_succ,Nat.mul_add,Nat.mul_assoc]; omega
 rw[this,Nat.add_mul_div_left _ _ (vd k),← Nat.add_assoc,Nat.add_mul_mod_self_left]
theorem gY {L t k:Nat}:(L+B^k*t)/B^(k+1)=(L/B^k+t)/B:=by
 rw[Nat.pow_succ,← Nat.div_div_eq_div_mul,Nat.add_mul_div_left _ _ (vd k)]
def bor (x y k:Nat):Nat:=if x%B^k<y%B^k then 1 else 0
theorem X9 {x y k:Nat}:bor x y k≤1:=by unfold bor; split<;>omega
theorem dx {x y:Nat}:bor x y 0=0:=by simp[bor,Nat.mod_one]
theorem ach {x y P:Nat} (hP:0<P) (h:y≤x):(x-y)/P=x/P-y/P-(if x%P<y%P then 1 else 0)∧y/P+(if x%P<y%P then 1 else 0)≤x/P:=by
 have e1:=Nat.div_add_mod x P
 have e2:=Nat.div_add_mod y P
 have l1:=Nat.mod_lt x hP
 have l2:=Nat.mod_lt y hP
 have hq:y/P≤x/P:=Nat.div_le_div_right h
 generalize x/P=a at *
 generalize y/P=b at *
 generalize x%P=r at *
 generalize y%P=s at *
 obtain ⟨c,rfl⟩:∃ c,a=b+c:=⟨a-b,by omega⟩
 rw[Nat.mul_add] at e1
 by_cases hlt:r<s
 ·simp only[hlt,if_true]
  rcases c with _ | c
  ·simp at e1; omega
  ·rw[Nat.mul_add,Nat.mul_one] at e1
   have:x-y=P*c+(P+r-s):=by omega
   rw[this,Nat.mul_add_div hP,Nat.div_eq_of_lt (by omega)]
   omega
 ·simp only[hlt,if_false]
  have:x-y=P*c+(r-s):=by omega
  rw[this,Nat.mul_add_div hP,Nat.div_eq_of_lt (by omega)]
  omega
theorem fH {x y k:Nat} (h:y≤x):(((x-y)/B^k%B:Nat):Int)=((x/B^k%B:Nat)-(y/B^k%B:Nat)-(bor x y k:Nat):Int)%4294967296:=by
 obtain ⟨h1,h2⟩:=ach (vd k) h
 have e:(if x%B^k<y%B^k then 1 else 0)=bor x y k:=rfl
 rw[e] at h1 h2
 rw[h1]
 generalize x/B^k=a at *
 generalize y/B^k=b at *
 generalize bor x y k=c at *
 rw[z5]
 omega
theorem dw {x y k:Nat}:bor x y (k+1)=if x/B^k%B<y/B^k%B+bor x y k then 1 else 0:=by
 unfold bor
 rw[Nat.pow_succ,Nat.mod_mul,Nat.mod_mul]
 have l1:=Nat.mod_lt x (vd k)
 have l2:=Nat.mod_lt y (vd k)
 generalize x/B^k%B=a
 generalize y/B^k%B=b
 generalize x%B^k=r at *
 generalize y%B^k=s at *
 generalize B^k=P at *
 rcases Nat.lt_trichotomy a b with h | h | h
 ·have:P*(a+1)≤P*b:=Nat.mul_le_mul_left _ h
  rw[Nat.mul_add] at this
  rw[if_pos (by omega),if_pos (by omega)]
 ·subst h
  by_cases hrs:r<s
  ·rw[if_pos (by omega),if_pos (by rw[if_pos hrs]; omega)]
  ·rw[if_neg (by omega),if_neg (by rw[if_neg hrs]; omega)]
 ·have:P*(b+1)≤P*a:=Nat.mul_le_mul_left _ h
  rw[Nat.mul_add] at this
  rw[if_neg (by omega),if_neg (by split<;>omega)]
theorem FA {x i:Nat}:(zf x)[i]?.getD 0=x/B^i%B:=by
 by_cases h:i<(zf x).length
 ·rw[List.getElem?_eq_getElem h,Option.getD_some,pO h]
 ·rw[List.getElem?_eq_none (by omega),Option.getD_none]
  have:=zG.1 (Nat.le_of_not_lt h)
  rw[Nat.div_eq_of_lt this]; rfl
end Go.Dig

namespace Go.Proofs.YtfmcplfbnkoglaaGreat
open Go Go.Am Go.Dig
theorem zm {k:Nat} (h:k<4611686018427387904):IntKind.i64.wrap ((k:Int)+1)=((k+1:Nat):Int):=by
 rw[wrap64]<;>omega
abbrev uv (n:Nat):AV:=.val (.int .u32 (n:Int))
abbrev zE (a:List Nat):List (List AV):=a.map fun d=>[uv d]
abbrev nl (m:Am.Mode) (a:List Nat):AV:=.list 1 m (zE a)
abbrev nD (x:Nat):AV:=nl .plain (zf x)
theorem vF {sz:Nat} {rows:List (List AV)}:AV.imp (.list sz .full rows) (.list sz .plain rows):=fun I w v h=>by
 cases h with
 | listNil _ _ a cap hm ho=>exact .listNil _ _ a cap (by simp) (by simp)
 | list _ _ _ b o cap g hcap hm ho hrow hcell hc=>exact .list _ _ _ b o cap g hcap (by simp) (by simp) hrow hcell hc
theorem Xa {sz:Nat} {rows:List (List AV)}:AV.imp (Nk sz rows) (.list sz .plain rows):=by
 unfold Nk
 by_cases h:rows=[]
 ·subst h; simp only[if_true]; exact AV.imp_nil rfl
 ·simp only[h,if_false]; exact AV.imp.refl
theorem w32 (n:Nat):IntKind.u32.wrap (n:Int)=((n%B:Nat):Int):=by
 rw[IntKind.wrap_u32,z5]; omega
theorem w64 {n:Nat} (h:n<18446744073709551616):IntKind.u64.wrap (n:Int)=n:=IntWalk.u64_in n (by omega)
theorem vJ {n:Int} (h:0≤n) (h2:n<18446744073709551616):IntKind.u64.wrap n=n:=IntWalk.u64_in n (by omega)
end Go.Proofs.YtfmcplfbnkoglaaGreat
