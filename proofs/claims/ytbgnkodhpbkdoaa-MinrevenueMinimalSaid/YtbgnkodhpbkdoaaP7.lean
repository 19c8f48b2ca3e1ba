/- What the proof rests on, part 7: Ca C Dig N0 N1 N1v N2. -/
import Derived.Test.YtbgnkodhpbkdoaaP6
import Derived.Test.YtbgnkodhpbkdoaaProg
set_option maxRecDepth 100000
set_option maxHeartbeats 4000000
namespace Go.Proofs.Ytbgnkodhpbkdoaa
open Go Go.Am
abbrev oq (d:Nat) (op:AOp) (xs:List Opd):zi:=⟨some d,op,xs,none⟩
abbrev ox (op:AOp) (xs:List Opd):zi:=⟨none,op,xs,none⟩
abbrev rgN (o:List zi) (a b:List Nat):ze:=.region false [] o a b
abbrev rgD (o:List zi) (a b:List Nat):ze:=.region true [] o a b
abbrev kc (n:Int):Operand:=.const (.int .i64 n)
abbrev zA:AV:=.list 0 .full []
abbrev zF:List AV:=[bv false,zA,zA]
abbrev Oz (n x y:Nat):zi:=⟨none,.store n,[.t x,.t y],none⟩
abbrev Om (d:Nat) (x:Nat):zi:=⟨some d,.mov,[.t x],none⟩
abbrev Wm (d:Nat) (x:Nat) (g:Nat):zi:=⟨some d,.mov,[.t x],some (g,false)⟩
abbrev Vm (d:Nat) (x:Nat) (g:Nat):zi:=⟨some d,.mov,[.t x],some (g,true)⟩
abbrev Ol (d:Nat) (x:Nat):zi:=⟨some d,.load none,[.t x],none⟩
abbrev Wl (d:Nat) (x:Nat) (g:Nat):zi:=⟨some d,.load none,[.t x],some (g,false)⟩
abbrev Vl (d:Nat) (x:Nat) (g:Nat):zi:=⟨some d,.load none,[.t x],some (g,true)⟩
abbrev On (d:Nat) (n x:Nat):zi:=⟨some d,.load (some n),[.t x],none⟩
abbrev Wn (d:Nat) (n x:Nat) (g:Nat):zi:=⟨some d,.load (some n),[.t x],some (g,false)⟩
abbrev Vn (d:Nat) (n x:Nat) (g:Nat):zi:=⟨some d,.load (some n),[.t x],some (g,true)⟩
abbrev OF (d:Nat) (n x:Nat):zi:=⟨some d,.faddr n,[.t x],none⟩
abbrev WF (d:Nat) (n x:Nat) (g:Nat):zi:=⟨some d,.faddr n,[.t x],some (g,false)⟩
abbrev VF (d:Nat) (n x:Nat) (g:Nat):zi:=⟨some d,.faddr n,[.t x],some (g,true)⟩
abbrev Oi (d:Nat) (n x y:Nat):zi:=⟨some d,.iaddrS n,[.t x,.t y],none⟩
abbrev Wi (d:Nat) (n x y:Nat) (g:Nat):zi:=⟨some d,.iaddrS n,[.t x,.t y],some (g,false)⟩
abbrev Vi (d:Nat) (n x y:Nat) (g:Nat):zi:=⟨some d,.iaddrS n,[.t x,.t y],some (g,true)⟩
abbrev ON (d:Nat) (x:Nat):zi:=⟨some d,.nilChk,[.t x],none⟩
abbrev WN (d:Nat) (x:Nat) (g:Nat):zi:=⟨some d,.nilChk,[.t x],some (g,false)⟩
abbrev VN (d:Nat) (x:Nat) (g:Nat):zi:=⟨some d,.nilChk,[.t x],some (g,true)⟩
abbrev OL (d:Nat) (x:Nat):zi:=⟨some d,.len false,[.t x],none⟩
abbrev WL (d:Nat) (x:Nat) (g:Nat):zi:=⟨some d,.len false,[.t x],some (g,false)⟩
abbrev VL (d:Nat) (x:Nat) (g:Nat):zi:=⟨some d,.len false,[.t x],some (g,true)⟩
abbrev Oe (d:Nat) (n x:Nat):zi:=⟨some d,.extract n,[.t x],none⟩
abbrev We (d:Nat) (n x:Nat) (g:Nat):zi:=⟨some d,.extract n,[.t x],some (g,false)⟩
abbrev Ve (d:Nat) (n x:Nat) (g:Nat):zi:=⟨some d,.extract n,[.t x],some (g,true)⟩
abbrev Oc (d:Nat) (n:Int):zi:=⟨some d,.mov,[.c (iv n)],none⟩
abbrev Wc (d:Nat) (n:Int) (g:Nat):zi:=⟨some d,.mov,[.c (iv n)],some (g,false)⟩
abbrev Vc (d:Nat) (n:Int) (g:Nat):zi:=⟨some d,.mov,[.c (iv n)],some (g,true)⟩
abbrev Ob (d:Nat) (o:BinOp) (t:TypeId) (x y:Nat):zi:=⟨some d,.bin o t (.tmp x) (.tmp y),[.t x,.t y],none⟩
abbrev Wb (d:Nat) (o:BinOp) (t:TypeId) (x y:Nat) (g:Nat):zi:=⟨some d,.bin o t (.tmp x) (.tmp y),[.t x,.t y],some (g,false)⟩
abbrev Vb (d:Nat) (o:BinOp) (t:TypeId) (x y:Nat) (g:Nat):zi:=⟨some d,.bin o t (.tmp x) (.tmp y),[.t x,.t y],some (g,true)⟩
abbrev Oj (d:Nat) (o:BinOp) (t:TypeId) (x:Nat) (n:Int):zi:=⟨some d,.bin o t (.tmp x) (kc n),[.t x,.c (iv n)],none⟩
abbrev Wj (d:Nat) (o:BinOp) (t:TypeId) (x:Nat) (n:Int) (g:Nat):zi:=⟨some d,.bin o t (.tmp x) (kc n),[.t x,.c (iv n)],some (g,false)⟩
abbrev Vj (d:Nat) (o:BinOp) (t:TypeId) (x:Nat) (n:Int) (g:Nat):zi:=⟨some d,.bin o t (.tmp x) (kc n),[.t x,.c (iv n)],some (g,true)⟩
abbrev Op (d:Nat) (x y:Nat):zi:=⟨some d,.pick,[.t x,.c (bv true),.t y],none⟩
abbrev Wp (d:Nat) (x y:Nat) (g:Nat):zi:=⟨some d,.pick,[.t x,.c (bv true),.t y],some (g,false)⟩
abbrev Vp (d:Nat) (x y:Nat) (g:Nat):zi:=⟨some d,.pick,[.t x,.c (bv true),.t y],some (g,true)⟩
abbrev Oq (d:Nat) (x y:Nat):zi:=⟨some d,.pick,[.t x,.t y,.c (bv false)],none⟩
abbrev Wq (d:Nat) (x y:Nat) (g:Nat):zi:=⟨some d,.pick,[.t x,.t y,.c (bv false)],some (g,false)⟩
abbrev Vq (d:Nat) (x y:Nat) (g:Nat):zi:=⟨some d,.pick,[.t x,.t y,.c (bv false)],some (g,true)⟩
abbrev Ok (d:Nat) (f:FuncId) (x:Nat):zi:=⟨some d,.call f,[.t x],none⟩
abbrev Wk (d:Nat) (f:FuncId) (x:Nat) (g:Nat):zi:=⟨some d,.call f,[.t x],some (g,false)⟩
abbrev Vk (d:Nat) (f:FuncId) (x:Nat) (g:Nat):zi:=⟨some d,.call f,[.t x],some (g,true)⟩
abbrev OK (d:Nat) (f:FuncId) (x y:Nat):zi:=⟨some d,.call f,[.t x,.t y],none⟩
abbrev WK (d:Nat) (f:FuncId) (x y:Nat) (g:Nat):zi:=⟨some d,.call f,[.t x,.t y],some (g,false)⟩
abbrev VK (d:Nat) (f:FuncId) (x y:Nat) (g:Nat):zi:=⟨some d,.call f,[.t x,.t y],some (g,true)⟩
abbrev OB (d:Nat) (x:Nat):zi:=⟨some d,.box,[.t x],none⟩
abbrev WB (d:Nat) (x:Nat) (g:Nat):zi:=⟨some d,.box,[.t x],some (g,false)⟩
abbrev VB (d:Nat) (x:Nat) (g:Nat):zi:=⟨some d,.box,[.t x],some (g,true)⟩
abbrev Oa (d:Nat) :zi:=⟨some d,.alloc zF,[],none⟩
abbrev Wa (d:Nat)  (g:Nat):zi:=⟨some d,.alloc zF,[],some (g,false)⟩
abbrev Va (d:Nat)  (g:Nat):zi:=⟨some d,.alloc zF,[],some (g,true)⟩
abbrev Fy:FuncId:=2
abbrev af4:FuncId:=3
abbrev ahu:FuncId:=8
abbrev vU:FuncId:=9
abbrev afL:FuncId:=10
abbrev ago:FuncId:=11
abbrev uS:FuncId:=12
abbrev wx:FuncId:=13
abbrev rW:FuncId:=14
abbrev rX:FuncId:=15
abbrev f4:FuncId:=16
abbrev vV:FuncId:=17
abbrev yC:FuncId:=18
abbrev gc:FuncId:=20
abbrev XM:FuncId:=21
abbrev jb:FuncId:=22
abbrev ve:FuncId:=23
abbrev xV:FuncId:=24
abbrev mi:FuncId:=25
abbrev rG:FuncId:=26
abbrev afX:FuncId:=27
abbrev nQ:FuncId:=28
abbrev agp:FuncId:=29
abbrev agr:FuncId:=30
abbrev XL:FuncId:=31
abbrev af9:FuncId:=32
abbrev qe:FuncId:=33
abbrev vf:FuncId:=34
abbrev jc:FuncId:=35
abbrev qf:FuncId:=36
abbrev s9:FuncId:=37
abbrev we:FuncId:=38
abbrev t6:FuncId:=39
abbrev zI:FuncId:=40
abbrev uq:FuncId:=41
abbrev tD:FuncId:=42
abbrev xT:FuncId:=43
abbrev wc:FuncId:=44
abbrev t8:FuncId:=45
abbrev gd:FuncId:=46
abbrev jd:FuncId:=47
abbrev ge:FuncId:=48
abbrev t9:FuncId:=49
abbrev ut:FuncId:=50
abbrev ud:FuncId:=51
abbrev rV:FuncId:=52
abbrev x7:FuncId:=53
abbrev rN:FuncId:=54
abbrev dq:FuncId:=55
abbrev uo:FuncId:=56
abbrev wC:FuncId:=57
abbrev ags:FuncId:=58
abbrev qd:FuncId:=59
abbrev gR:FuncId:=60
abbrev ll:FuncId:=61
abbrev p7:FuncId:=62
abbrev rc:FuncId:=63
abbrev gf:FuncId:=64
abbrev wE:FuncId:=65
abbrev ja:FuncId:=66
abbrev gQ:FuncId:=67
abbrev qB:FuncId:=68
abbrev cY:FuncId:=69
abbrev vD:FuncId:=70
abbrev t7:FuncId:=71
abbrev Zb:FuncId:=72
abbrev k9:FuncId:=73
abbrev s8:FuncId:=74
abbrev lj:FuncId:=75
abbrev cZ:FuncId:=76
abbrev w8:FuncId:=77
abbrev wd:FuncId:=78
abbrev qz:FuncId:=79
abbrev c6:FuncId:=80
abbrev qY:FuncId:=81
abbrev uR:FuncId:=82
abbrev je:FuncId:=83
abbrev uc:FuncId:=84
abbrev wZ:FuncId:=85
abbrev s6:FuncId:=86
abbrev rU:FuncId:=87
abbrev sd:FuncId:=88
abbrev qy:FuncId:=89
abbrev agq:FuncId:=90
abbrev ur:FuncId:=91
abbrev dv:FuncId:=92
abbrev du:FuncId:=93
abbrev xQ:FuncId:=94
abbrev c8:FuncId:=95
abbrev xt:FuncId:=96
abbrev s7:FuncId:=97
abbrev gP:FuncId:=98
abbrev gS:FuncId:=99
abbrev Zc:FuncId:=100
abbrev c7:FuncId:=101
abbrev li:FuncId:=102
abbrev rY:FuncId:=103
abbrev dt:FuncId:=104
abbrev rO:FuncId:=105
abbrev dr:FuncId:=106
abbrev xn:TypeId:=2
abbrev zd:TypeId:=3
abbrev uu:TypeId:=4
abbrev z8:TypeId:=33
abbrev zD:TypeId:=87
abbrev Z8:TypeId:=104
abbrev vZ:TypeId:=112
abbrev zh:TypeId:=116
theorem vB:Try.prog.underlying uu=some .bool:=by kernel_rfl
theorem Zv:kds Try.prog Op.maxDepth vZ=some [.b,.b]:=by kernel_rfl
theorem Zs:Try.prog.eqGuardType Try.prog.depth vZ=false:=by kernel_rfl
theorem Ze:agT Try.prog vZ=true:=by kernel_rfl
@[simp] theorem abU:Try.prog.underlying z8=some (.int .i64):=by kernel_rfl
@[simp] theorem aeX:Try.prog.underlying zd=some (.int .i64):=by kernel_rfl
@[simp] theorem adN:Try.prog.underlying xn=some (.int .i64):=by kernel_rfl
@[simp] theorem adi:Try.prog.underlying zD=some (.int .u32):=by kernel_rfl
@[simp] theorem aef:Try.prog.underlying uu=some .bool:=by kernel_rfl
@[simp] theorem adj:Try.prog.underlying zh=some (.int .u64):=by kernel_rfl
@[simp] theorem aeg:Try.prog.underlying Z8=some (.int .u64):=by kernel_rfl
def afQ:ze:=(.seq (rgN [oq 4 .mov [.c (bv false)]] [4] []) (.seq (.seq (rgN [Om 9 0,Om 10 1,OK 11 ahu 9 10,oq 12 (.un .not) [.t 11]] [9,10,11] []) (.cond (.t 12) (.seq (rgN [oq 13 (.call vU) [],Om 4 13] [0,1,12,13] []) .ret) .skip)) (.seq (rgN [Om 15 0,Om 16 1,OK 17 afL 15 16,Om 14 17,Oe 18 0 14,Oe 19 1 14,⟨some 5,.alloc [bv false,zA,zA,zA,zA],[],none⟩,Oz 5 5 18,Om 6 19] [12,15,16,17,14,18,19] []) (.seq (rgN [Om 21 0,Om 22 1,OK 23 ago 21 22,Om 20 23,Oe 24 0 20,Oe 25 1 20,⟨some 7,.alloc [bv false,zA,zA,zA,zA],[],none⟩,Oz 5 7 24,Om 8 25] [21,22,23,20,24,25] []) (.seq (.seq (rgN [Om 26 6,Om 27 8,Ob 28 .neq z8 26 27] [8,26,27] []) (.cond (.t 28) (.seq (rgN [oq 4 .mov [.c (bv false)]] [0,1,5,6,7,28] [5,7]) .ret) .skip)) (.seq (.seq (rgN [Om 29 6,Oj 30 .neq z8 29 0] [6,28,29] []) (.cond (.t 30) (.seq (rgN [OF 31 3 5,Ol 32 31,OL 33 32,Oj 34 .eql zd 33 0,Om 35 34,VF 36 4 5 35,Vl 37 36 35,VL 38 37 35,Vj 39 .eql zd 38 0 35,Oq 40 35 39,Om 41 40,⟨some 42,.call vU,[],some (41,true)⟩,Oq 43 41 42,Om 4 43] [0,1,5,7,30,31,32,33,34,35,36,37,38,39,40,41,42,43] [5,7]) .ret) .skip)) (.seq (rgN [OF 44 0 5,On 45 3 44,OF 46 0 7,On 47 3 46,OK 48 uS 45 47,Om 49 48,Vm 50 0 49,Vm 51 1 49,Vn 52 5 5 49,Vk 53 rW 52 49,⟨some 54,.call wx,[.t 50,.t 51,.t 53],some (49,true)⟩,Vj 55 .eql z8 54 0 49,Oq 56 49 55,Om 57 56,⟨some 58,.call vU,[],some (57,true)⟩,Oq 59 57 58,Om 4 59] [0,1,5,7,30,44,45,46,47,48,49,50,51,52,53,54,55,56,57,58,59] [5,7]) .ret)))))))
def afR:List zE:=[.t 4]
theorem afV:zt Try.prog af4=some (bare afQ,afR,60):=by kernel_rfl
def ahv:ze:=(.seq (rgN [oq 4 .mov [.c (bv false)]] [4] []) (.seq (rgN [Om 5 1,OL 6 5,Oj 7 .leq zd 6 4,Om 8 7,Vm 9 0 8,VL 10 9 8,Vj 11 .leq zd 10 5 8,Oq 12 8 11,Om 4 12] [0,1,5,6,7,8,9,10,11,12] []) .ret))
def ahy:List zE:=[.t 4]
theorem ajc:zt Try.prog ahu=some (bare ahv,ahy,13):=by kernel_rfl
def eU:ze:=(.seq (rgN [oq 0 .mov [.c (bv false)]] [0] []) (.seq (rgN [oq 17 (.mkslice 1 2 [iv 0] [0,1]) [.c (iv 6),.c (iv 6)],Om 1 17] [17] []) (.seq (rgN [oq 19 (.call ve) [],Om 20 1,OK 21 afL 19 20,Om 18 21,Oe 22 0 18,Oe 23 1 18,⟨some 2,.alloc [bv false,zA,zA,zA,zA],[],none⟩,Oz 5 2 22,Om 3 23] [19,20,21,18,22,23] []) (.seq (rgN [oq 25 (.call afL) [.c zA,.c zA],Om 24 25,Oe 26 0 24,Oe 27 1 24,⟨some 4,.alloc [bv false,zA,zA,zA,zA],[],none⟩,Oz 5 4 26,Om 5 27] [25,24,26,27] []) (.seq (rgN [oq 29 (.build [iv 0,iv 0] [(0,1),(1,1)]) [.c (iv 1),.c (iv 7)],oq 30 (.mkslice 2 1 [iv 0,iv 0] [0]) [.t 29],oq 31 (.mkslice 1 1 [iv 0] [0]) [.c (iv 6)],OK 32 afL 30 31,Om 28 32,Oe 33 0 28,Oe 34 1 28,⟨some 6,.alloc [bv false,zA,zA,zA,zA],[],none⟩,Oz 5 6 33,Om 7 34] [29,30,31,32,28,33,34,6] [6]) (.seq (rgN [oq 36 (.mk 1 8 [iv 0]) [.c (iv 9),.c (iv 9)],oq 37 (.callI afL) [.c zA,.t 36],Om 35 37,Oe 38 0 35,Oe 39 1 35,⟨some 8,.alloc [bv false,zA,zA,zA,zA],[],none⟩,Oz 5 8 38,Om 9 39] [36,37,35,38,39,8] [8]) (.seq (rgN [oq 41 (.build [iv 0,iv 0] [(0,1),(1,1)]) [.c (iv 4),.c (iv 1)],oq 42 (.mkslice 2 1 [iv 0,iv 0] [0]) [.t 41],Om 43 1,OK 44 afL 42 43,Om 40 44,Oe 45 0 40,Oe 46 1 40,⟨some 10,.alloc [bv false,zA,zA,zA,zA],[],none⟩,Oz 5 10 45,Om 11 46] [41,42,43,44,40,45,46,10] [10]) (.seq (.seq (.region true [36] [Om 47 3,Oj 48 .neq z8 47 0,Om 49 48,WF 50 0 2 49,Wn 51 3 50 49,⟨some 52,.call f4,[.c (iv 10)],some (49,false)⟩,WK 53 uS 51 52 49,⟨some 54,.un .not,[.t 53],some (49,false)⟩,Op 55 49 54,Om 56 55,⟨some 57,.call ve,[],some (56,false)⟩,Wm 58 1 56,Wn 59 5 2 56,Wk 60 rW 59 56,⟨some 61,.call wx,[.t 57,.t 58,.t 60],some (56,false)⟩,Wj 62 .neq z8 61 0 56,Op 63 56 62,Om 64 63,Wm 65 5 64,Wj 66 .neq z8 65 0 64,Op 67 64 66,Om 68 67,WF 69 0 4 68,Wn 70 3 69 68,⟨some 71,.call f4,[.c (iv 0)],some (68,false)⟩,WK 72 uS 70 71 68,⟨some 73,.un .not,[.t 72],some (68,false)⟩,Op 74 68 73,Om 75 74,Wm 76 7 75,Wj 77 .neq z8 76 6 75,Op 78 75 77,Om 79 78,Wm 80 9 79,Wj 81 .neq z8 80 3 79,Op 82 79 81,Om 83 82,Wm 84 11 83,Wj 85 .neq z8 84 4 83,Op 86 83 85] [2,3,4,5,7,9,11,47,48,49,50,51,52,53,54,55,56,57,58,59,60,61,62,63,64,65,66,67,68,69,70,71,72,73,74,75,76,77,78,79,80,81,82,83,84,85] [2,4]) (.cond (.t 86) (.seq (rgN [oq 0 .mov [.c (bv false)]] [1,86] []) .ret) .skip)) (.seq (rgN [oq 87 (.call f4) [.c (iv 5)],oq 88 (.call f4) [.c (iv 0)],oq 89 (.call f4) [.c (iv 1)],Oa 12,Oa 13,Oa 14,Oz 3 12 87,Oz 3 13 88,Oz 3 14 89] [86,87,88,89] []) (.seq (rgD [oq 90 (.call f4) [.c (iv 10)],On 91 3 12,On 92 3 12,⟨some 93,.mkslice 3 2 zF [0,1],[.t 91,.t 92],none⟩,On 94 3 13,On 95 3 13,On 96 3 14,⟨some 97,.mkslice 3 3 zF [0,1,2],[.t 94,.t 95,.t 96],none⟩,⟨some 98,.build [bv false,zA,zA,zA,zA] [(0,3),(3,1),(4,1)],[.t 90,.t 93,.t 97],none⟩,⟨some 15,.alloc [bv false,zA,zA,zA,zA],[],none⟩,Oz 5 15 98] [90,91,92,93,94,95,96,97,98] []) (.seq (rgD [oq 99 (.call f4) [.c (iv 10)],On 100 3 12,On 101 3 12,⟨some 102,.mkslice 3 2 zF [0,1],[.t 100,.t 101],none⟩,On 103 3 14,On 104 3 14,On 105 3 13,⟨some 106,.mkslice 3 3 zF [0,1,2],[.t 103,.t 104,.t 105],none⟩,⟨some 107,.build [bv false,zA,zA,zA,zA] [(0,3),(3,1),(4,1)],[.t 99,.t 102,.t 106],none⟩,⟨some 16,.alloc [bv false,zA,zA,zA,zA],[],none⟩,Oz 5 16 107] [12,13,14,99,100,101,102,103,104,105,106,107] [12,13,14]) (.seq (rgD [oq 108 (.call ve) [],Om 109 1,On 110 5 15,oq 111 (.call yC) [.t 108,.t 109,.t 110],Oj 112 .eql z8 111 0,Om 113 112,⟨some 114,.call ve,[],some (113,true)⟩,Vm 115 1 113,Vn 116 5 16 113,⟨some 117,.call yC,[.t 114,.t 115,.t 116],some (113,true)⟩,Vj 118 .eql z8 117 13 113,Oq 119 113 118,Om 120 119,⟨some 121,.call ve,[],some (120,true)⟩,Vm 122 1 120,⟨some 123,.build [bv false,zA,zA,zA,zA] [],[],some (120,true)⟩,⟨some 124,.call yC,[.t 121,.t 122,.t 123],some (120,true)⟩,Vj 125 .eql z8 124 13 120,Oq 126 120 125,Om 0 126] [1,15,16,108,109,110,111,112,113,114,115,116,117,118,119,120,121,122,123,124,125,126] [15,16]) .ret))))))))))))
def dd:List zE:=[.t 0]
theorem T4:zt Try.prog vU=some (bare eU,dd,127):=by kernel_rfl
def wP:ze:=(.seq (rgN [⟨some 4,.alloc [bv false,zA,zA,zA,zA],[],none⟩,Oc 5 0] [5] []) (.seq (.seq (rgN [Om 9 0,Om 10 1,OK 11 xV 9 10,Om 6 11] [9,10,11] []) (.seq (rgN [Om 12 6,Oj 13 .neq z8 12 0] [12] []) (.cond (.t 13) (.seq (rgN [⟨some 14,.build [bv false,zA,zA,zA,zA] [],[],none⟩,Om 15 6,Oz 5 4 14,Om 5 15] [0,1,6,13,14,15] []) .ret) .skip))) (.seq (rgN [Om 17 0,Om 18 1,OK 19 rG 17 18,Ok 20 mi 19,Om 16 20,Oe 21 0 16,Oe 22 1 16,⟨some 7,.alloc [iv 0,bv false,zA,zA,zA,zA,zA],[],none⟩,Oz 7 7 21,Om 8 22] [1,6,13,17,18,19,20,16,21,22] []) (.seq (.block 0 (.seq (rgN [Om 24 8,Oj 25 .neq z8 24 0,Om 23 25] [24,25] []) (.cond (.t 23) (.seq (rgN [⟨some 26,.build [bv false,zA,zA,zA,zA] [],[],none⟩,Om 27 8,Oz 5 4 26,Om 5 27] [0,7,8,23,26,27] [7]) .ret) (.seq (rgN [OF 29 0 7,Ol 30 29,Oj 31 .neq zd 30 1,Om 28 31] [8,23,29,30,31] []) (.cond (.t 28) (.seq (rgN [⟨some 32,.build [bv false,zA,zA,zA,zA] [],[],none⟩,Oz 5 4 32,Oc 5 6] [0,7,28,32] [7]) .ret) .skip))))) (.seq (rgD [OF 33 1 7,On 34 3 33,OF 35 5 7,Ol 36 35,OF 37 4 7,Ol 38 37,Om 39 0,OL 40 39,Om 41 0,OL 42 41,oq 43 (.slice 3 false true true) [.t 38,.t 40,.t 42],⟨some 44,.build [bv false,zA,zA,zA,zA] [(0,3),(3,1),(4,1)],[.t 34,.t 36,.t 43],none⟩,Oz 5 4 44,Oc 5 0] [0,7,28,33,34,35,36,37,38,39,40,41,42,43,44] [7]) .ret)))))
def wU:List zE:=[.cell 4 (some 5),.t 5]
theorem v8:zt Try.prog afL=some (bare wP,wU,45):=by kernel_rfl
def agk:ze:=(.seq (.seq (rgN [Om 32 9,Om 33 1,OL 34 33,Ob 35 .lss zd 32 34] [32,33,34] []) (.cond (.t 35) .skip (.exit 0))) (.seq (.block 1 (.seq (rgN [Om 38 1,Om 39 9,Oi 40 1 38 39,Ol 41 40,Oj 42 .gtr xn 41 0] [35,38,39,40,41] []) (.cond (.t 42) (.seq (rgN [Om 43 7,Om 44 9,oq 45 (.mkslice 1 1 [iv 0] [0]) [.t 44],oq 46 (.append 1 8) [.t 43,.t 45],Om 7 46] [42,43,44,45,46] []) (rgN [Om 47 8,Om 48 1,Om 49 9,Oi 50 1 48 49,Ol 51 50,oq 52 (.mkslice 1 1 [iv 0] [0]) [.t 51],oq 53 (.append 1 8) [.t 47,.t 52],Om 8 53] [47,48,49,50,51,52,53] [])) .skip))) (rgN [Om 36 9,Oj 37 .add zd 36 1,Om 9 37] [42,36,37] [])))
def agI:ze:=(.seq (.seq (rgN [Om 60 14,Om 61 7,OL 62 61,Ob 63 .lss zd 60 62] [60,61,62] []) (.cond (.t 63) .skip (.exit 4))) (.seq (.block 5 (.seq (.seq (rgD [Om 66 0,Om 67 11,Oi 68 2 66 67,OF 69 0 68,Ol 70 69,Om 71 7,Om 72 14,Oi 73 1 71 72,Ol 74 73,OK 75 nQ 70 74] [63,66,67,68,69,70,71,72,73,74] []) (.cond (.t 75) (rgN [Om 76 12,Om 77 13,Ob 78 .add zd 76 77,Om 12 78] [75,76,77,78] []) .skip)) (rgN [Om 79 13,oq 80 (.bin .mul zd (kc 2) (.tmp 79)) [.c (iv 2),.t 79],Om 13 80] [75,79,80] []))) (rgN [Om 64 14,Oj 65 .add zd 64 1,Om 14 65] [64,65] [])))
def ahh:ze:=(rgN [Om 81 10,Om 82 12,Om 83 0,Om 84 11,Oi 85 2 83 84,OF 86 1 85,Ol 87 86,oq 88 (.build [iv 0,iv 0] [(0,1),(1,1)]) [.t 82,.t 87],oq 89 (.mkslice 2 1 [iv 0,iv 0] [0]) [.t 88],oq 90 (.append 2 16) [.t 81,.t 89],Om 10 90] [12,13,14,63,81,82,83,84,85,86,87,88,89,90] [])
def ahi:ze:=(rgN [Om 58 11,Oj 59 .add zd 58 1,Om 11 59] [58,59] [])
def agJ:ze:=(.seq (.seq (rgN [Om 54 11,Om 55 0,OL 56 55,Ob 57 .lss zd 54 56] [54,55,56] []) (.cond (.t 57) .skip (.exit 2))) (.seq (.block 3 (.seq (rgN [Oc 12 0,Oc 13 1] [57] []) (.seq (.seq (rgN [Oc 14 0] [] []) (.block 4 (.loop agI))) ahh))) ahi))
def agK:ze:=(.seq (.seq (rgN [Om 103 17,Om 104 1,OL 105 104,Ob 106 .lss zd 103 105] [103,104,105] []) (.cond (.t 106) .skip (.exit 6))) (.seq (.block 7 (rgD [OF 109 3 16,Ol 110 109,Om 111 17,oq 112 (.call f4) [.c (iv 0)],Oi 113 3 110 111,Oz 3 113 112] [106,109,110,111,112,113] [])) (rgN [Om 107 17,Oj 108 .add zd 107 1,Om 17 108] [107,108] [])))
def agL:ze:=(.seq (.seq (rgN [Om 114 18,Om 115 7,OL 116 115,Ob 117 .lss zd 114 116] [114,115,116] []) (.cond (.t 117) .skip (.exit 8))) (.seq (.block 9 (rgD [ox (.start [121,122,123,124,125,126,127,128,129,130,131,132,133,134,120,135,136,137]) [],OF 121 3 16,Ol 122 121,Om 123 7,Om 124 18,Oi 125 1 123 124,Ol 126 125,OF 127 0 15,Ol 128 127,Om 129 18,Oi 130 1 128 129,Ol 131 130,OF 132 1 15,Ol 133 132,OK 134 XL 131 133,Om 120 134,Oe 135 0 120,Oe 136 1 120,Oi 137 3 122 126,Oz 3 137 135,oq 136 (.chk (.extract 1)) [.t 120]] [117,121,122,123,124,125,126,127,128,129,130,131,132,133,134,120,135,136,137] [])) (rgN [Om 118 18,Oj 119 .add zd 118 1,Om 18 119] [118,119] [])))
def ahj:ze:=(.seq (.region true [101] [ox (.start [139,140,141,142,143,144,138,145,146,147]) [],OF 139 0 15,Ol 140 139,Ok 141 af9 140,OF 142 1 15,Ol 143 142,OK 144 XL 141 143,Om 138 144,Oe 145 0 138,Oe 146 1 138,OF 147 0 16,Oz 3 147 145,oq 146 (.chk (.extract 1)) [.t 138]] [7,15,18,117,139,140,141,142,143,144,138,145,146,147] [15]) (.seq (rgN [On 148 5 16,Oz 5 4 148,Oc 5 0] [16,148] [16]) .ret))
def ahk:ze:=(.seq (.seq (rgN [Oc 18 0] [1,17,106] []) (.block 8 (.loop agL))) ahj)
def ahl:ze:=(.seq (rgN [Om 91 10,Om 92 8,Om 93 10,Om 94 8,OK 95 agr 93 94,⟨some 96,.build [zA,zA] [],[],none⟩,⟨some 97,.build [zA,iv 0,bv false] [],[],none⟩,oq 98 (.call agp) [.t 91,.t 92,.t 95,.t 96,.c (iv 0),.t 97],⟨some 15,.alloc [zA,iv 0,bv false],[],none⟩,Oz 3 15 98] [0,8,10,11,57,91,92,93,94,95,96,97,98] []) (.seq (rgN [Om 99 1,OL 100 99,⟨some 101,.mk 3 56 zF,[.t 100,.t 100],none⟩,⟨some 102,.build [bv false,zA,zA,zA,zA] [(3,1)],[.t 101],none⟩,⟨some 16,.alloc [bv false,zA,zA,zA,zA],[],none⟩,Oz 5 16 102] [99,100,101,102] []) (.seq (.seq (rgN [Oc 17 0] [] []) (.block 6 (.loop agK))) ahk)))
def aha:ze:=(.seq (rgN [oq 10 .mov [.c zA]] [9,35] []) (.seq (.seq (rgN [Oc 11 0] [] []) (.block 2 (.loop agJ))) ahl))
def agG:ze:=(.seq (rgN [⟨some 4,.alloc [bv false,zA,zA,zA,zA],[],none⟩,Oc 5 0] [5] []) (.seq (.seq (rgN [Om 19 0,Om 20 1,OK 21 rX 19 20,Om 6 21] [19,20,21] []) (.seq (rgN [Om 22 6,Oj 23 .neq z8 22 0] [22] []) (.cond (.t 23) (.seq (rgN [⟨some 24,.build [bv false,zA,zA,zA,zA] [],[],none⟩,Om 25 6,Oz 5 4 24,Om 5 25] [0,1,6,23,24,25] []) .ret) .skip))) (.seq (.seq (rgN [Om 26 0,Om 27 1,Om 28 1,oq 29 (.call afX) [.t 26,.t 27,.t 28,.c (iv 1)],oq 30 (.un .not) [.t 29]] [6,23,26,27,28,29] []) (.cond (.t 30) (.seq (rgN [⟨some 31,.build [bv false,zA,zA,zA,zA] [],[],none⟩,Oz 5 4 31,Oc 5 6] [0,1,30,31] []) .ret) .skip)) (.seq (rgN [oq 7 .mov [.c zA]] [30] []) (.seq (rgN [oq 8 .mov [.c zA]] [] []) (.seq (.seq (rgN [Oc 9 0] [] []) (.block 0 (.loop agk))) aha))))))
def agH:List zE:=[.cell 4 (some 5),.t 5]
theorem ag9:zt Try.prog ago=some (bare agG,agH,149):=by kernel_rfl
def ahg:ze:=(.seq (rgN [OB 2 0,OB 3 1,oq 4 .mov [.c (bv false)]] [0,1,4] []) (.seq (rgN [On 5 3 2,On 6 3 3,OK 7 qe 5 6,Om 4 7] [2,3,5,6,7] [2,3]) .ret))
def kU:List zE:=[.t 4]
theorem Z2:zt Try.prog uS=some (bare ahg,kU,8):=by kernel_rfl
def tt:ze:=(.seq (rgN [OB 5 2,Oc 6 0] [2,6] []) (.seq (.seq (rgN [Om 10 0,Om 11 1,OK 12 rX 10 11,Om 7 12] [10,11,12] []) (.seq (rgN [Om 13 7,Oj 14 .neq z8 13 0] [13] []) (.cond (.t 14) (.seq (rgN [Om 15 7,Om 6 15] [0,1,5,7,14,15] [5]) .ret) .skip))) (.seq (rgN [Om 17 0,Om 18 1,OF 19 4 5,Ol 20 19,oq 21 (.call vf) [.t 17,.t 18,.t 20],Om 16 21,Oe 22 0 16,Oe 23 1 16,Oa 8,Oz 3 8 22,Om 9 23] [7,14,17,18,19,20,21,16,22,23] []) (.seq (.seq (rgD [Om 24 9,oq 25 (.un .not) [.t 24],Om 26 25,Wm 27 0 26,Wm 28 1 26,WF 29 3 5 26,Wl 30 29 26,⟨some 31,.call vV,[.t 27,.t 28,.t 30],some (26,false)⟩,⟨some 32,.un .not,[.t 31],some (26,false)⟩,Op 33 26 32,Om 34 33,WF 35 3 5 34,Wl 36 35 34,Wk 37 XM 36 34,WF 38 0 5 34,Wn 39 3 38 34,WK 40 qe 37 39 34,⟨some 41,.un .not,[.t 40],some (34,false)⟩,Op 42 34 41,Om 43 42,Wn 44 3 8 43,WF 45 0 5 43,Wn 46 3 45 43,WK 47 qe 44 46 43,⟨some 48,.un .not,[.t 47],some (43,false)⟩,Op 49 43 48] [0,1,5,8,9,24,25,26,27,28,29,30,31,32,33,34,35,36,37,38,39,40,41,42,43,44,45,46,47,48] [5,8]) (.cond (.t 49) (.seq (rgN [Oc 6 13] [49] []) .ret) .skip)) (.seq (rgN [Oc 6 0] [49] []) .ret)))))
def tA:List zE:=[.t 6]
theorem qc:zt Try.prog wx=some (bare tt,tA,50):=by kernel_rfl
def eW:ze:=(.seq (rgN [OB 1 0,⟨some 2,.alloc [bv false,zA,zA,zA,zA],[],none⟩] [0] []) (.seq (rgN [OF 3 0 1,On 4 3 3,OF 5 3 1,Ol 6 5,OF 7 4 1,Ol 8 7,⟨some 9,.build [bv false,zA,zA,zA,zA] [(0,3),(3,1),(4,1)],[.t 4,.t 6,.t 8],none⟩,Oz 5 2 9] [1,3,4,5,6,7,8,9] [1]) .ret))
def df:List zE:=[.cell 2 (some 5)]
theorem T6:zt Try.prog rW=some (bare eW,df,10):=by kernel_rfl
def vK:ze:=(.seq (.seq (rgN [Om 16 6,Om 17 1,OL 18 17,Ob 19 .lss zd 16 18] [16,17,18] []) (.cond (.t 19) .skip (.exit 0))) (.seq (.block 1 (.seq (.seq (rgN [Om 22 1,Om 23 6,Oi 24 1 22 23,Ol 25 24,Oj 26 .lss xn 25 0,Om 27 26,Wm 28 1 27,Wm 29 6 27,Wi 30 1 28 29 27,Wl 31 30 27,Wj 32 .gtr xn 31 1000000 27,Op 33 27 32] [19,22,23,24,25,26,27,28,29,30,31,32] []) (.cond (.t 33) (.seq (rgN [Oc 4 4] [0,1,5,6,33] []) .ret) .skip)) (rgN [Om 34 5,oq 35 (.bin .mul zd (kc 2) (.tmp 34)) [.c (iv 2),.t 34],Om 5 35] [33,34,35] []))) (rgN [Om 20 6,Oj 21 .add zd 20 1,Om 6 21] [20,21] [])))
def x4:ze:=(.seq (.seq (rgN [Om 36 7,Om 37 0,OL 38 37,Ob 39 .lss zd 36 38] [36,37,38] []) (.cond (.t 39) .skip (.exit 2))) (.seq (.block 3 (.seq (rgN [Om 42 0,Om 43 7,Oi 44 2 42 43,OF 45 0 44,Ol 46 45,Oj 47 .lss zd 46 0,Om 48 47,Wm 49 0 48,Wm 50 7 48,Wi 51 2 49 50 48,WF 52 0 51 48,Wl 53 52 48,Wm 54 5 48,Wb 55 .geq zd 53 54 48,Op 56 48 55,Om 57 56,Wm 58 0 57,Wm 59 7 57,Wi 60 2 58 59 57,WF 61 1 60 57,Wl 62 61 57,Wj 63 .lss xn 62 0 57,Op 64 57 63,Om 65 64,Wm 66 0 65,Wm 67 7 65,Wi 68 2 66 67 65,WF 69 1 68 65,Wl 70 69 65,Wj 71 .gtr xn 70 8000000 65,Op 72 65 71] [39,42,43,44,45,46,47,48,49,50,51,52,53,54,55,56,57,58,59,60,61,62,63,64,65,66,67,68,69,70,71] []) (.cond (.t 72) (.seq (rgN [Oc 4 4] [0,5,7,72] []) .ret) .skip))) (rgN [Om 40 7,Oj 41 .add zd 40 1,Om 7 41] [72,40,41] [])))
def l7:ze:=(.seq (rgN [Oc 4 0] [0,5,7,39] []) .ret)
def l8:ze:=(.seq (.seq (rgN [Oc 7 0] [1,6,19] []) (.block 2 (.loop x4))) l7)
def r4:ze:=(.seq (rgN [Oc 4 0] [4] []) (.seq (.seq (rgN [Om 8 1,OL 9 8,Oj 10 .gtr zd 9 8,Om 11 10,Wm 12 0 11,WL 13 12 11,Wj 14 .gtr zd 13 152 11,Op 15 11 14] [8,9,10,11,12,13,14] []) (.cond (.t 15) (.seq (rgN [Oc 4 3] [0,1,15] []) .ret) .skip)) (.seq (rgN [Oc 5 1] [15] []) (.seq (.seq (rgN [Oc 6 0] [] []) (.block 0 (.loop vK))) l8))))
def xE:List zE:=[.t 4]
theorem T7:zt Try.prog rX=some (bare r4,xE,73):=by kernel_rfl
def aw:ze:=(.seq (rgN [Oa 2] [] []) (.seq (rgN [Om 6 0,oq 7 (.call XL) [.t 6,.c (iv 1)],Om 5 7,Oe 8 0 5,Oe 9 1 5,Oa 3,Oz 3 3 8,Om 4 9] [0,6,7,5,8,9,4] []) (.seq (rgN [On 10 3 3,Oz 3 2 10] [3,10] [3]) .ret)))
def aV:List zE:=[.cell 2 (some 3)]
theorem PZ:zt Try.prog f4=some (bare aw,aV,11):=by kernel_rfl
def ql:ze:=(.seq (.seq (rgN [Om 21 7,Om 22 1,OL 23 22,Ob 24 .lss zd 21 23] [21,22,23] []) (.cond (.t 24) .skip (.exit 0))) (.seq (.block 1 (.seq (rgD [Om 27 2,Om 28 7,Oi 29 3 27 28,On 30 3 29,Ok 31 qf 30,Oj 32 .lss zd 31 0,Om 33 32,Wm 34 2 33,Wm 35 7 33,Wi 36 3 34 35 33,Wn 37 3 36 33,Wm 38 1 33,Wm 39 7 33,Wi 40 1 38 39 33,Wl 41 40 33,Wk 42 f4 41 33,WK 43 gc 37 42 33,Wj 44 .gtr zd 43 0 33,Op 45 33 44] [24,27,28,29,30,31,32,33,34,35,36,37,38,39,40,41,42,43,44] []) (.cond (.t 45) (.seq (rgN [oq 6 .mov [.c (bv false)]] [0,1,2,7,45] []) .ret) .skip))) (rgN [Om 25 7,Oj 26 .add zd 25 1,Om 7 26] [45,25,26] [])))
def u0:ze:=(.seq (.seq (rgN [Om 53 10,Om 54 1,OL 55 54,Ob 56 .lss zd 53 55] [53,54,55] []) (.cond (.t 56) .skip (.exit 4))) (.seq (.block 5 (.seq (rgN [Om 59 0,Om 60 8,Oi 61 2 59 60,OF 62 0 61,Ol 63 62,Om 64 10,OK 65 nQ 63 64] [56,59,60,61,62,63,64] []) (.cond (.t 65) (rgD [On 66 3 9,Om 67 2,Om 68 10,Oi 69 3 67 68,On 70 3 69,OK 71 s9 66 70,Oz 3 9 71] [65,66,67,68,69,70,71] []) .skip))) (rgN [Om 57 10,Oj 58 .add zd 57 1,Om 10 58] [65,57,58] [])))
def l9:ze:=(.seq (rgD [On 72 3 9,Om 73 0,Om 74 8,Oi 75 2 73 74,OF 76 1 75,Ol 77 76,Ok 78 f4 77,OK 79 gc 72 78,Oj 80 .lss zd 79 0] [9,10,56,72,73,74,75,76,77,78,79] [9]) (.cond (.t 80) (.seq (rgN [oq 6 .mov [.c (bv false)]] [0,1,2,8,80] []) .ret) .skip))
def ke:ze:=(rgN [Om 50 8,Oj 51 .add zd 50 1,Om 8 51] [80,50,51] [])
def qm:ze:=(.seq (.seq (rgN [Om 46 8,Om 47 0,OL 48 47,Ob 49 .lss zd 46 48] [46,47,48] []) (.cond (.t 49) .skip (.exit 2))) (.seq (.block 3 (.seq (rgN [oq 52 (.call f4) [.c (iv 0)],Oa 9,Oz 3 9 52] [49,52] []) (.seq (.seq (rgN [Oc 10 0] [] []) (.block 4 (.loop u0))) l9))) ke))
def ki:ze:=(.seq (rgN [oq 6 .mov [.c (bv true)]] [0,1,2,8,49] []) .ret)
def kj:ze:=(.seq (.seq (rgN [Oc 8 0] [7,24] []) (.block 2 (.loop qm))) ki)
def r5:ze:=(.seq (rgN [oq 6 .mov [.c (bv false)]] [6] []) (.seq (.seq (rgN [Om 11 2,OL 12 11,Om 13 1,OL 14 13,Ob 15 .neq zd 12 14,Om 16 15,Wm 17 2 16,Wk 18 jc 17 16,⟨some 19,.un .not,[.t 18],some (16,false)⟩,Op 20 16 19] [11,12,13,14,15,16,17,18,19] []) (.cond (.t 20) (.seq (rgN [oq 6 .mov [.c (bv false)]] [0,1,2,20] []) .ret) .skip)) (.seq (.seq (rgN [Oc 7 0] [20] []) (.block 0 (.loop ql))) kj)))
def vj:List zE:=[.t 6]
theorem di:zt Try.prog vV=some (bare r5,vj,81):=by kernel_rfl
def uy:ze:=(.seq (rgN [Ob 45 .lss zd 44 43] [] []) (.seq (.cond (.t 45) .skip (.exit 0)) (.seq (.block 1 (.seq (rgN [Om 46 44,Oi 47 3 42 44,On 48 3 47,Oa 10,Om 9 46,Oz 3 10 48] [45,46,47,48] []) (.seq (rgN [On 49 3 8,On 50 3 10,OK 51 uq 49 50,Oz 3 8 51] [49,50,51] []) (.seq (rgD [On 52 3 10,Om 53 1,Om 54 9,Oi 55 1 53 54,Ol 56 55,Ok 57 zI 56,OK 58 tD 52 57,Oj 59 .gtr zd 58 0] [10,9,52,53,54,55,56,57,58] [10]) (.cond (.t 59) (.seq (rgN [Oc 6 13] [0,1,5,8,42,43,44,59] [5,8]) .ret) .skip))))) (rgN [Oj 60 .add zd 44 1,Om 44 60] [59,60] []))))
def uz:ze:=(.seq (rgN [Ob 64 .lss zd 63 62] [] []) (.seq (.cond (.t 64) .skip (.exit 2)) (.seq (.block 3 (.seq (rgN [Oi 65 2 61 63,On 66 2 65,oq 12 (.alloc [iv 0,iv 0]) [],Oz 2 12 66] [64,65,66] []) (.seq (rgN [oq 67 (.call zI) [.c (iv 0)],Oa 13,Oz 3 13 67] [67] []) (.seq (rgN [On 68 2 12,Om 69 1,OL 70 69,oq 71 (.mkfn wc) [.t 13,.t 5],oq 72 (.callI xT) [.t 68,.t 70,.t 71]] [68,69,70,71,72] []) (.seq (rgD [On 73 3 13,OF 74 1 12,Ol 75 74,Ok 76 zI 75,OK 77 tD 73 76,Oj 78 .lss zd 77 0] [12,13,73,74,75,76,77] [12,13]) (.cond (.t 78) (.seq (rgN [Oc 6 13] [0,1,5,8,61,62,63,78] [5,8]) .ret) .skip)))))) (rgN [Oj 79 .add zd 63 1,Om 63 79] [78,79] []))))
def qE:ze:=(.seq (.seq (rgD [On 80 3 8,OF 81 0 5,On 82 3 81,OK 83 tD 80 82,Oj 84 .neq zd 83 0,Om 85 84,Wm 86 0 85,Wm 87 1 85,WF 88 4 5 85,Wl 89 88 85,⟨some 90,.call t8,[.t 86,.t 87,.t 89],some (85,false)⟩,WF 91 0 5 85,Wn 92 3 91 85,WK 93 tD 90 92 85,Wj 94 .neq zd 93 0 85,Op 95 85 94] [0,1,5,8,61,62,63,64,80,81,82,83,84,85,86,87,88,89,90,91,92,93,94] [5,8]) (.cond (.t 95) (.seq (rgN [Oc 6 13] [95] []) .ret) .skip)) (.seq (rgN [Oc 6 0] [95] []) .ret))
def qF:ze:=(.seq (.seq (rgN [Om 61 0,OL 62 61,Oc 63 0] [42,43,44,45] []) (.block 2 (.loop uz))) qE)
def yZ:ze:=(.seq (rgN [OB 5 2,Oc 6 0] [2,6] []) (.seq (.seq (rgN [Om 14 0,Om 15 1,OK 16 xV 14 15,Om 7 16] [14,15,16] []) (.seq (rgN [Om 17 7,Oj 18 .neq z8 17 0] [17] []) (.cond (.t 18) (.seq (rgN [Om 19 7,Om 6 19] [0,1,5,7,18,19] [5]) .ret) .skip))) (.seq (.seq (rgN [OF 20 3 5,Ol 21 20,Om 22 1,OL 23 22,OK 24 we 21 23,oq 25 (.un .not) [.t 24],Om 26 25,WF 27 4 5 26,Wl 28 27 26,Wm 29 0 26,WL 30 29 26,WK 31 we 28 30 26,⟨some 32,.un .not,[.t 31],some (26,false)⟩,Op 33 26 32,Om 34 33,WF 35 0 5 34,Wn 36 3 35 34,Wk 37 t6 36 34,⟨some 38,.un .not,[.t 37],some (34,false)⟩,Op 39 34 38] [7,18,20,21,22,23,24,25,26,27,28,29,30,31,32,33,34,35,36,37,38] []) (.cond (.t 39) (.seq (rgN [Oc 6 13] [0,1,5,39] [5]) .ret) .skip)) (.seq (rgN [oq 40 (.call zI) [.c (iv 0)],Oa 8,Oz 3 8 40] [39,40] []) (.seq (.seq (rgN [OF 41 3 5,Ol 42 41,OL 43 42,Oc 44 0] [41] []) (.block 0 (.loop uy))) qF)))))
def yu:List zE:=[.t 6]
theorem v7:zt Try.prog yC=some (bare yZ,yu,96):=by kernel_rfl
def Ni:ze:=(.seq (rgN [OB 2 0,OB 3 1,Oc 4 0] [0,1,4] []) (.seq (rgN [On 5 3 2,On 6 3 3,OK 7 gd 5 6,Ok 8 qf 7,Om 4 8] [2,3,5,6,7,8] [2,3]) .ret))
def N7:List zE:=[.t 4]
theorem aaf:zt Try.prog gc=some (bare Ni,N7,9):=by kernel_rfl
def fc:ze:=(.seq (.seq (rgN [Om 6 4,Om 7 0,OL 8 7,Ob 9 .lss zd 6 8] [6,7,8] []) (.cond (.t 9) .skip (.exit 0))) (.seq (.block 1 (rgD [On 12 3 3,Om 13 0,Om 14 4,Oi 15 3 13 14,On 16 3 15,OK 17 s9 12 16,Oz 3 3 17] [9,12,13,14,15,16,17] [])) (rgN [Om 10 4,Oj 11 .add zd 10 1,Om 4 11] [10,11] [])))
def Yq:ze:=(.seq (rgN [On 18 3 3,Oz 3 2 18] [0,3,4,9,18] [3]) .ret)
def Nm:ze:=(.seq (rgN [Oa 2] [] []) (.seq (rgN [oq 5 (.call f4) [.c (iv 0)],Oa 3,Oz 3 3 5] [5] []) (.seq (.seq (rgN [Oc 4 0] [] []) (.block 0 (.loop fc))) Yq)))
def Mb:List zE:=[.cell 2 (some 3)]
theorem aak:zt Try.prog XM=some (bare Nm,Mb,19):=by kernel_rfl
def U3:ze:=(.seq (rgN [OB 1 0,oq 2 .mov [.c (bv false)]] [0,2] []) (.seq (.seq (rgN [OF 4 1 1,Ol 5 4,Ok 6 jd 5,oq 7 (.un .not) [.t 6],Om 8 7,WF 9 2 1 8,Wl 10 9 8,Wk 11 jd 10 8,⟨some 12,.un .not,[.t 11],some (8,false)⟩,Op 13 8 12,Om 14 13,WF 15 2 1 14,Wl 16 15 14,WL 17 16 14,Wj 18 .eql zd 17 0 14,Op 19 14 18] [4,5,6,7,8,9,10,11,12,13,14,15,16,17,18] []) (.cond (.t 19) (.seq (rgN [oq 2 .mov [.c (bv false)]] [1,19] [1]) .ret) .skip)) (.seq (.seq (rgN [OF 20 1 1,Ol 21 20,OL 22 21,Oj 23 .eql zd 22 0] [19,20,21,22] []) (.cond (.t 23) (.seq (rgN [OF 24 0 1,Ol 25 24,oq 26 (.un .not) [.t 25],Om 27 26,VF 28 2 1 27,Vl 29 28 27,VL 30 29 27,Vj 31 .eql zd 30 1 27,Oq 32 27 31,Om 33 32,VF 34 2 1 33,Vl 35 34 33,⟨some 36,.iaddrS 1,[.t 35,.c (iv 0)],some (33,true)⟩,Vl 37 36 33,⟨some 38,.bin .eql zD (.tmp 37) (.const (.int .u32 1)),[.t 37,.c (.val (.int .u32 1))],some (33,true)⟩,Oq 39 33 38,Om 2 39] [1,23,24,25,26,27,28,29,30,31,32,33,34,35,36,37,38,39] [1]) .ret) .skip)) (.seq (rgN [OF 40 1 1,Ol 41 40,OF 42 2 1,Ol 43 42,OK 44 ge 41 43,Om 3 44] [1,23,40,41,42,43,44] [1]) (.seq (rgN [Om 45 3,OL 46 45,Oj 47 .eql zd 46 1,Om 48 47,Vm 49 3 48,⟨some 50,.iaddrS 1,[.t 49,.c (iv 0)],some (48,true)⟩,Vl 51 50 48,⟨some 52,.bin .eql zD (.tmp 51) (.const (.int .u32 1)),[.t 51,.c (.val (.int .u32 1))],some (48,true)⟩,Oq 53 48 52,Om 2 53] [3,45,46,47,48,49,50,51,52,53] []) .ret)))))
def wy:List zE:=[.t 2]
theorem Fi:zt Try.prog jb=some (bare U3,wy,54):=by kernel_rfl
def eV:ze:=(.seq (rgN [oq 0 .mov [.c zA]] [0] []) (.seq (rgN [oq 1 (.build [iv 0,iv 0] [(0,1),(1,1)]) [.c (iv 1),.c (iv 4)],oq 2 (.build [iv 0,iv 0] [(0,1),(1,1)]) [.c (iv 2),.c (iv 4)],oq 3 (.build [iv 0,iv 0] [(0,1),(1,1)]) [.c (iv 3),.c (iv 10)],oq 4 (.mkslice 2 3 [iv 0,iv 0] [0,1,2]) [.t 1,.t 2,.t 3],Om 0 4] [1,2,3,4] []) .ret))
def de:List zE:=[.t 0]
theorem T5:zt Try.prog ve=some (bare eV,de,5):=by kernel_rfl
def xj:ze:=(.seq (rgN [Ob 20 .lss zd 19 18] [] []) (.seq (.cond (.t 20) .skip (.exit 0)) (.seq (.block 1 (.seq (rgN [Oi 21 1 17 19,Ol 22 21,Om 6 22] [20,21,22] []) (.seq (rgN [Om 23 6,Oj 24 .lss xn 23 0,Om 25 24,Wm 26 6 25,Wj 27 .gtr xn 26 1000000 25,Op 28 25 27] [6,23,24,25,26,27] []) (.cond (.t 28) (.seq (rgN [Oc 4 4] [0,1,17,18,19,28] []) .ret) .skip)))) (rgN [Oj 29 .add zd 19 1,Om 19 29] [28,29] []))))
def yr:ze:=(.seq (rgN [Ob 33 .lss zd 32 31] [] []) (.seq (.cond (.t 33) .skip (.exit 2)) (.seq (.block 3 (.seq (rgN [Oi 34 2 30 32,On 35 2 34,oq 8 (.alloc [iv 0,iv 0]) [],Oz 2 8 35] [33,34,35] []) (.seq (rgD [OF 36 0 8,Ol 37 36,Oj 38 .lss zd 37 0,Om 39 38,WF 40 0 8 39,Wl 41 40 39,Wm 42 1 39,WL 43 42 39,⟨some 44,.bin .shl zd (kc 1) (.tmp 43),[.c (iv 1),.t 43],some (39,false)⟩,Wb 45 .geq zd 41 44 39,Op 46 39 45,Om 47 46,WF 48 1 8 47,Wl 49 48 47,Wj 50 .lss xn 49 0 47,Op 51 47 50,Om 52 51,WF 53 1 8 52,Wl 54 53 52,Wj 55 .gtr xn 54 8000000 52,Op 56 52 55] [8,36,37,38,39,40,41,42,43,44,45,46,47,48,49,50,51,52,53,54,55] [8]) (.cond (.t 56) (.seq (rgN [Oc 4 4] [1,30,31,32,56] []) .ret) .skip)))) (rgN [Oj 57 .add zd 32 1,Om 32 57] [56,57] []))))
def tV:ze:=(.seq (rgN [Oc 4 0] [1,30,31,32,33] []) .ret)
def tX:ze:=(.seq (.seq (rgN [Om 30 0,OL 31 30,Oc 32 0] [0,17,18,19,20] []) (.block 2 (.loop yr))) tV)
def wG:ze:=(.seq (rgN [Oc 4 0] [4] []) (.seq (.seq (rgN [Om 9 1,OL 10 9,Oj 11 .gtr zd 10 8,Om 12 11,Wm 13 0 12,WL 14 13 12,Wj 15 .gtr zd 14 152 12,Op 16 12 15] [9,10,11,12,13,14,15] []) (.cond (.t 16) (.seq (rgN [Oc 4 3] [0,1,16] []) .ret) .skip)) (.seq (.seq (rgN [Om 17 1,OL 18 17,Oc 19 0] [16] []) (.block 0 (.loop xj))) tX)))
def yf:List zE:=[.t 4]
theorem j9:zt Try.prog xV=some (bare wG,yf,58):=by kernel_rfl
def jn:ze:=(.seq (rgN [OB 1 0,⟨some 2,.alloc [iv 0,bv false,zA,zA,zA,zA,zA],[],none⟩,Oc 3 0] [0,3] []) (.seq (.seq (rgN [On 10 2 1,Ok 11 t9 10,Om 4 11] [10,11] []) (.seq (rgN [Om 12 4,Oj 13 .neq z8 12 0] [12] []) (.cond (.t 13) (.seq (rgN [⟨some 14,.build [iv 0,bv false,zA,zA,zA,zA,zA] [],[],none⟩,Om 15 4,Oz 7 2 14,Om 3 15] [1,4,13,14,15] [1]) .ret) .skip))) (.seq (rgN [On 16 2 1,oq 17 (.callI ut) [.t 16],Om 5 17] [4,13,16,17] []) (.seq (.seq (rgN [Om 19 5,oq 20 (.callI ud) [.t 19],Om 18 20,Oe 21 0 18,Oe 22 1 18,Om 6 21,Om 7 22] [19,20,18,21,22] []) (.seq (rgN [Om 23 7,oq 24 (.un .not) [.t 23]] [7,23] []) (.cond (.t 24) (.seq (rgN [Om 25 6,⟨some 26,.build [iv 0,bv false,zA,zA,zA,zA,zA] [(0,1),(5,1)],[.c (iv 2),.t 25],none⟩,Oz 7 2 26,Oc 3 0] [1,5,6,24,25,26] [1]) .ret) .skip))) (.seq (rgN [Om 27 5,OF 28 0 1,Ol 29 28,oq 30 (.callI rV) [.t 27,.t 29]] [1,6,24,27,28,29,30] [1]) (.seq (.seq (rgN [Om 32 5,oq 33 (.callI x7) [.t 32],Om 31 33,Oe 34 0 31,Oe 35 1 31,Om 8 34,Om 9 35] [32,33,31,34,35] []) (.seq (rgN [Om 36 9,oq 37 (.un .not) [.t 36]] [9,36] []) (.cond (.t 37) (.seq (rgN [Om 38 5,Ok 39 rN 38,Om 40 5,Om 41 8,OK 42 dq 40 41,⟨some 43,.build [iv 0,bv false,zA,zA,zA,zA,zA] [(0,1),(4,1),(6,1)],[.c (iv 3),.t 39,.t 42],none⟩,Oz 7 2 43,Oc 3 0] [5,8,37,38,39,40,41,42,43] []) .ret) .skip))) (.seq (rgD [ox (.start [44,45,46,47,48,49,50,51]) [],Om 44 5,ON 45 44,OF 46 5 45,On 47 3 46,Om 48 5,Om 50 5,oq 49 (.callM rN [44,45,46,47,48,49,50,51]) [.t 48],oq 44 (.chk (.mov)) [.t 5],oq 45 (.chk (.nilChk)) [.t 44],oq 46 (.chk (.faddr 5)) [.t 45],oq 47 (.chk (.load (some 3))) [.t 46],oq 50 (.chk (.mov)) [.t 5],oq 51 (.callM uo [44,45,46,47,48,49,50,51]) [.t 50],oq 44 (.chk (.mov)) [.t 5],oq 45 (.chk (.nilChk)) [.t 44],oq 46 (.chk (.faddr 5)) [.t 45],oq 47 (.chk (.load (some 3))) [.t 46],⟨some 52,.build [iv 0,bv false,zA,zA,zA,zA,zA] [(0,1),(1,3),(4,1),(5,1)],[.c (iv 1),.t 47,.t 49,.t 51],none⟩,Oz 7 2 52,Oc 3 0] [5,8,37,44,45,46,47,48,50,49,51,52] []) .ret)))))))
def jD:List zE:=[.cell 2 (some 7),.t 3]
theorem cT:zt Try.prog mi=some (bare jn,jD,53):=by kernel_rfl
def vo:ze:=(.seq (rgN [Ob 21 .lss zd 20 19] [] []) (.seq (.cond (.t 21) .skip (.exit 0)) (.seq (.block 1 (.seq (rgN [Oi 22 2 18 20,On 23 2 22,oq 9 (.alloc [iv 0,iv 0]) [],Oz 2 9 23] [21,22,23] []) (rgD [OF 24 0 5,Ol 25 24,OF 26 1 9,Ol 27 26,Ok 28 zI 27,⟨some 29,.mkslice 3 1 zF [0],[.t 28],none⟩,oq 30 (.append 3 56) [.t 25,.t 29],OF 31 0 5,Oz 1 31 30] [9,24,25,26,27,28,29,30,31] [9]))) (rgN [Oj 32 .add zd 20 1,Om 20 32] [32] []))))
def uX:ze:=(.seq (rgN [Ob 60 .lss zd 59 58] [] []) (.seq (.cond (.t 60) .skip (.exit 4)) (.seq (.block 5 (.seq (rgN [Om 61 59,Om 13 61] [60,61] []) (rgN [OF 62 0 12,Ol 63 62,Om 64 13,On 65 3 6,Oi 66 3 63 64,Oz 3 66 65] [13,62,63,64,65,66] []))) (rgN [Oj 67 .add zd 59 1,Om 59 67] [67] []))))
def pe:ze:=(.seq (rgD [OF 68 0 12,Ol 69 68,Om 70 0,OL 71 70,Om 72 10,Ob 73 .add zd 71 72,oq 74 (.call zI) [.c (iv (-1))],Oi 75 3 69 73,Oz 3 75 74] [10,58,59,60,68,69,70,71,72,73,74,75] []) (rgN [OF 76 1 5,Ol 77 76,On 78 4 12,⟨some 79,.mkslice 4 1 [zA,bv false,zA,zA] [0],[.t 78],none⟩,oq 80 (.appendU 4 80) [.t 77,.t 79],OF 81 1 5,Oz 1 81 80] [12,76,77,78,79,80,81] [12]))
def uW:ze:=(rgN [Oj 82 .add zd 35 1,Om 35 82] [82] [])
def uY:ze:=(.seq (rgN [Ob 36 .lss zd 35 34] [] []) (.seq (.cond (.t 36) .skip (.exit 2)) (.seq (.block 3 (.seq (rgN [Om 37 35,Oi 38 1 33 35,Ol 39 38,Om 10 37,Om 11 39] [36,37,38,39] []) (.seq (rgD [OF 40 0 5,Ol 41 40,Om 42 11,oq 43 (.un .neg) [.t 42],Ok 44 zI 43,⟨some 45,.mkslice 3 1 zF [0],[.t 44],none⟩,oq 46 (.append 3 56) [.t 41,.t 45],OF 47 0 5,Oz 1 47 46] [11,40,41,42,43,44,45,46,47] []) (.seq (rgD [On 48 3 7,Om 49 0,OL 50 49,Om 51 1,OL 52 51,Ob 53 .add zd 50 52,⟨some 54,.mk 3 56 zF,[.t 53,.t 53],none⟩,⟨some 55,.build [zA,bv false,zA,zA] [(1,3),(0,1)],[.t 48,.t 54],none⟩,⟨some 12,.alloc [zA,bv false,zA,zA],[],none⟩,Oz 4 12 55] [48,49,50,51,52,53,54,55] []) (.seq (.seq (rgN [OF 56 0 12,Ol 57 56,OL 58 57,Oc 59 0] [56,57] []) (.block 4 (.loop uX))) pe))))) uW)))
def wk:ze:=(.seq (rgN [Ob 86 .lss zd 85 84] [] []) (.seq (.cond (.t 86) .skip (.exit 6)) (.seq (.block 7 (.seq (rgN [Om 87 85,Oi 88 2 83 85,On 89 2 88,oq 14 (.alloc [iv 0]) [],oq 15 (.alloc [iv 0,iv 0]) [],Oz 1 14 87,Oz 2 15 89] [86,87,88,89] []) (rgN [On 90 2 15,Om 91 1,OL 92 91,oq 93 (.mkfn wC) [.t 7,.t 5,.t 14],oq 94 (.callI xT) [.t 90,.t 92,.t 93]] [14,15,90,91,92,93,94] [14,15]))) (rgN [Oj 95 .add zd 85 1,Om 85 95] [95] []))))
def pg:ze:=(.seq (rgN [On 96 2 5,Oz 2 4 96] [1,5,7,83,84,85,86,96] [5,7]) .ret)
def pi:ze:=(.seq (.seq (rgN [Om 83 0,OL 84 83,Oc 85 0] [0,6,33,34,35,36] [6]) (.block 6 (.loop wk))) pg)
def pj:ze:=(.seq (.seq (rgN [Om 33 1,OL 34 33,Oc 35 0] [18,19,20,21] []) (.block 2 (.loop uY))) pi)
def mP:ze:=(.seq (rgN [⟨some 4,.alloc [zA,zA],[],none⟩] [] []) (.seq (rgN [⟨some 5,.alloc [zA,zA],[],none⟩] [] []) (.seq (rgN [oq 16 (.call zI) [.c (iv 0)],oq 17 (.call zI) [.c (iv 1)],Oa 6,Oa 7,Oz 3 6 16,Oz 3 7 17] [16,17] []) (.seq (.seq (rgN [Om 18 0,OL 19 18,Oc 20 0] [] []) (.block 0 (.loop vo))) pj))))
def mT:List zE:=[.cell 4 (some 2)]
theorem ai:zt Try.prog rG=some (bare mP,mT,97):=by kernel_rfl
def afW:ze:=(.seq (.seq (rgN [Om 13 9,Om 14 1,OL 15 14,Ob 16 .lss zd 13 15] [13,14,15] []) (.cond (.t 16) .skip (.exit 0))) (.seq (.block 1 (.seq (rgD [Om 19 2,Om 20 9,Oi 21 1 19 20,Ol 22 21,Oj 23 .lss xn 22 0,Om 24 23,Wm 25 2 24,Wm 26 9 24,Wi 27 1 25 26 24,Wl 28 27 24,Wm 29 3 24,Wm 30 1 24,Wm 31 9 24,Wi 32 1 30 31 24,Wl 33 32 24,Wb 34 .mul xn 29 33 24,Wb 35 .gtr xn 28 34 24,Op 36 24 35] [16,19,20,21,22,23,24,25,26,27,28,29,30,31,32,33,34,35] []) (.cond (.t 36) (.seq (rgN [oq 8 .mov [.c (bv false)]] [0,1,2,3,9,36] []) .ret) .skip))) (rgN [Om 17 9,Oj 18 .add zd 17 1,Om 9 18] [36,17,18] [])))
def af5:ze:=(.seq (.seq (rgN [Om 43 12,Om 44 1,OL 45 44,Ob 46 .lss zd 43 45] [43,44,45] []) (.cond (.t 46) .skip (.exit 4))) (.seq (.block 5 (.seq (rgN [Om 49 0,Om 50 10,Oi 51 2 49 50,OF 52 0 51,Ol 53 52,Om 54 12,OK 55 nQ 53 54] [46,49,50,51,52,53,54] []) (.cond (.t 55) (rgN [Om 56 11,Om 57 2,Om 58 12,Oi 59 1 57 58,Ol 60 59,Ob 61 .add xn 56 60,Om 11 61] [55,56,57,58,59,60,61] []) .skip))) (rgN [Om 47 12,Oj 48 .add zd 47 1,Om 12 48] [55,47,48] [])))
def agl:ze:=(.seq (rgN [Om 62 11,Om 63 3,Om 64 0,Om 65 10,Oi 66 2 64 65,OF 67 1 66,Ol 68 67,Ob 69 .mul xn 63 68,Ob 70 .lss xn 62 69] [11,12,46,62,63,64,65,66,67,68,69] []) (.cond (.t 70) (.seq (rgN [oq 8 .mov [.c (bv false)]] [0,1,2,3,10,70] []) .ret) .skip))
def agV:ze:=(rgN [Om 41 10,Oj 42 .add zd 41 1,Om 10 42] [70,41,42] [])
def agm:ze:=(.seq (.seq (rgN [Om 37 10,Om 38 0,OL 39 38,Ob 40 .lss zd 37 39] [37,38,39] []) (.cond (.t 40) .skip (.exit 2))) (.seq (.block 3 (.seq (rgN [Oc 11 0] [40] []) (.seq (.seq (rgN [Oc 12 0] [] []) (.block 4 (.loop af5))) agl))) agV))
def agW:ze:=(.seq (rgN [oq 8 .mov [.c (bv true)]] [0,1,2,3,10,40] []) .ret)
def agX:ze:=(.seq (.seq (rgN [Oc 10 0] [9,16] []) (.block 2 (.loop agm))) agW)
def ahb:ze:=(.seq (rgN [oq 8 .mov [.c (bv false)]] [8] []) (.seq (.seq (rgN [Oc 9 0] [] []) (.block 0 (.loop afW))) agX))
def af3:List zE:=[.t 8]
theorem aih:zt Try.prog afX=some (bare ahb,af3,71):=by kernel_rfl
def ne:ze:=(.seq (.seq (rgN [Om 6 5,Om 7 1,Ob 8 .lss zd 6 7] [6,7] []) (.cond (.t 8) .skip (.exit 0))) (.seq (.block 1 (rgN [Om 11 0,oq 12 (.bin .shr zd (.tmp 11) (.const (.int .u64 1))) [.t 11,.c (.val (.int .u64 1))],Om 0 12] [8,11,12] [])) (rgN [Om 9 5,Oj 10 .add zd 9 1,Om 5 10] [9,10] [])))
def gq:ze:=(.seq (rgN [Om 13 0,Oj 14 .and zd 13 1,Oj 15 .eql zd 14 1,Om 4 15] [0,1,5,8,13,14,15] []) .ret)
def aC:ze:=(.seq (rgN [oq 4 .mov [.c (bv false)]] [4] []) (.seq (.seq (rgN [Oc 5 0] [] []) (.block 0 (.loop ne))) gq))
def aW:List zE:=[.t 4]
theorem P0:zt Try.prog nQ=some (bare aC,aW,16):=by kernel_rfl
def agM:ze:=(.seq (.seq (rgN [Om 60 15,OF 61 0 8,Ol 62 61,OL 63 62,Ob 64 .lss zd 60 63] [60,61,62,63] []) (.cond (.t 64) .skip (.exit 0))) (.seq (.block 1 (.seq (rgD [ox (.start [67,68,69,70,71,72,73,74,75,76,77,78,79,80,81,82,83,84,85,86,87,88,89,16]) [],⟨some 67,.mkslice 1 0 [zA] [],[],none⟩,OF 68 0 9,Ol 69 68,OF 71 0 8,Ol 72 71,Om 73 15,Oi 74 1 72 73,Ol 75 74,⟨some 76,.mksliceL 1 1 [zA] [0],[.t 75],none⟩,oq 78 (.mkslice 1 0 [iv 0] []) [],OF 79 1 9,Ol 80 79,OF 82 1 8,Ol 83 82,Om 84 15,Oi 85 1 83 84,Ol 86 85,oq 87 (.mkslice 1 1 [iv 0] [0]) [.t 86],⟨some 16,.alloc [zA,zA],[],none⟩,oq 70 (.append 1 24) [.t 67,.t 69],oq 71 (.chk (.faddr 0)) [.t 8],oq 72 (.chk (.load none)) [.t 71],oq 73 (.chk (.mov)) [.t 15],oq 74 (.chk (.iaddrS 1)) [.t 72,.t 73],oq 75 (.chk (.load none)) [.t 74],oq 76 (.chk (.mksliceL 1 1 [zA] [0])) [.t 75],oq 78 (.chk (.mkslice 1 0 [iv 0] [])) [],oq 79 (.chk (.faddr 1)) [.t 9],oq 80 (.chk (.load none)) [.t 79],oq 82 (.chk (.faddr 1)) [.t 8],oq 83 (.chk (.load none)) [.t 82],oq 84 (.chk (.mov)) [.t 15],oq 85 (.chk (.iaddrS 1)) [.t 83,.t 84],oq 86 (.chk (.load none)) [.t 85],oq 87 (.chk (.mkslice 1 1 [iv 0] [0])) [.t 86],oq 16 (.chk (.alloc [zA,zA])) [],oq 77 (.append 1 24) [.t 70,.t 76],oq 78 (.chk (.mkslice 1 0 [iv 0] [])) [],oq 79 (.chk (.faddr 1)) [.t 9],oq 80 (.chk (.load none)) [.t 79],oq 82 (.chk (.faddr 1)) [.t 8],oq 83 (.chk (.load none)) [.t 82],oq 84 (.chk (.mov)) [.t 15],oq 85 (.chk (.iaddrS 1)) [.t 83,.t 84],oq 86 (.chk (.load none)) [.t 85],oq 87 (.chk (.mkslice 1 1 [iv 0] [0])) [.t 86],oq 16 (.chk (.alloc [zA,zA])) [],oq 81 (.append 1 8) [.t 78,.t 80],oq 82 (.chk (.faddr 1)) [.t 8],oq 83 (.chk (.load none)) [.t 82],oq 84 (.chk (.mov)) [.t 15],oq 85 (.chk (.iaddrS 1)) [.t 83,.t 84],oq 86 (.chk (.load none)) [.t 85],oq 87 (.chk (.mkslice 1 1 [iv 0] [0])) [.t 86],oq 16 (.chk (.alloc [zA,zA])) [],oq 88 (.append 1 8) [.t 81,.t 87],oq 16 (.chk (.alloc [zA,zA])) [],⟨some 89,.build [zA,zA] [(0,1),(1,1)],[.t 77,.t 88],none⟩,Oz 2 16 89] [64,67,68,69,71,72,73,74,75,76,78,79,80,82,83,84,85,86,87,70,77,81,88,89] []) (rgN [Om 90 0,Om 91 1,On 92 2 8,On 93 2 16,Om 94 15,Oj 95 .add zd 94 1,On 96 3 11,oq 97 (.call agp) [.t 90,.t 91,.t 92,.t 93,.t 95,.t 96],Oz 3 11 97] [16,90,91,92,93,94,95,96,97] [16]))) (rgN [Om 65 15,Oj 66 .add zd 65 1,Om 15 66] [65,66] [])))
def ahm:ze:=(.seq (rgN [On 98 3 11,Oz 3 12 98] [0,1,8,9,11,15,64,98] [8,9,11]) .ret)
def ag6:ze:=(.seq (rgN [OB 8 2,OB 9 3,OB 11 5,⟨some 12,.alloc [zA,iv 0,bv false],[],none⟩] [2,3,5] []) (.seq (.seq (rgN [OF 17 0 9,Ol 18 17,OL 19 18,Om 20 1,OL 21 20,Ob 22 .eql zd 19 21] [17,18,19,20,21] []) (.cond (.t 22) (.seq (rgN [On 24 2 9,Ok 25 ags 24,Om 23 25,Oe 26 0 23,Oe 27 1 23,Om 13 26,Om 14 27] [4,8,9,22,24,25,23,26,27] [8,9]) (.seq (.seq (rgN [Om 28 14,Oj 29 .eql xn 28 0,Om 30 29,Wm 31 0 30,Wm 32 1 30,Wm 33 13 30,Wm 34 14 30,⟨some 35,.call afX,[.t 31,.t 32,.t 33,.t 34],some (30,false)⟩,⟨some 36,.un .not,[.t 35],some (30,false)⟩,Op 37 30 36] [0,1,28,29,30,31,32,33,34,35,36] []) (.cond (.t 37) (.seq (rgN [On 38 3 11,Oz 3 12 38] [11,13,14,37,38] [11]) .ret) .skip)) (.seq (.seq (rgD [OF 39 2 11,Ol 40 39,oq 41 (.un .not) [.t 40],Om 42 41,Wm 43 13 42,Wk 44 af9 43 42,WF 45 1 11 42,Wl 46 45 42,Wb 47 .mul xn 44 46 42,WF 48 0 11 42,Wl 49 48 42,Wk 50 af9 49 42,Wm 51 14 42,Wb 52 .mul xn 50 51 42,Wb 53 .lss xn 47 52 42,Op 54 42 53] [37,39,40,41,42,43,44,45,46,47,48,49,50,51,52,53] []) (.cond (.t 54) (.seq (rgN [Om 55 13,Om 56 14,⟨some 57,.build [zA,iv 0,bv false] [(0,1),(1,1),(2,1)],[.t 55,.t 56,.c (bv true)],none⟩,Oz 3 12 57] [11,13,14,54,55,56,57] [11]) .ret) .skip)) (.seq (rgN [On 58 3 11,Oz 3 12 58] [11,13,14,54,58] [11]) .ret)))) .skip)) (.seq (.seq (rgN [Om 59 4,Om 15 59] [4,22,59] []) (.block 0 (.loop agM))) ahm)))
def af2:List zE:=[.cell 12 (some 3)]
theorem ahT:zt Try.prog agp=some (bare ag6,af2,99):=by kernel_rfl
def aga:ze:=(.seq (.seq (rgN [Om 17 8,Om 18 1,OL 19 18,Ob 20 .lss zd 17 19] [17,18,19] []) (.cond (.t 20) .skip (.exit 2))) (.seq (.block 3 (.seq (rgN [Om 23 0,Om 24 6,Oi 25 2 23 24,OF 26 0 25,Ol 27 26,Om 28 8,OK 29 nQ 27 28] [20,23,24,25,26,27,28] []) (.cond (.t 29) (rgN [Om 30 7,oq 31 (.mkslice 1 1 [iv 0] [0]) [.c (iv 1)],oq 32 (.append 1 8) [.t 30,.t 31],Om 7 32] [29,30,31,32] []) (rgN [Om 33 7,oq 34 (.mkslice 1 1 [iv 0] [0]) [.c (iv 0)],oq 35 (.append 1 8) [.t 33,.t 34],Om 7 35] [29,33,34,35] [])))) (rgN [Om 21 8,Oj 22 .add zd 21 1,Om 8 22] [21,22] [])))
def agC:ze:=(.seq (rgN [OF 36 0 5,Ol 37 36,Om 38 7,⟨some 39,.mksliceL 1 1 [zA] [0],[.t 38],none⟩,oq 40 (.append 1 24) [.t 37,.t 39],OF 41 0 5,Oz 1 41 40] [7,8,20,36,37,38,39,40,41] []) (rgD [OF 42 1 5,Ol 43 42,Om 44 0,Om 45 6,Oi 46 2 44 45,OF 47 1 46,Ol 48 47,oq 49 (.mkslice 1 1 [iv 0] [0]) [.t 48],oq 50 (.append 1 8) [.t 43,.t 49],OF 51 1 5,Oz 1 51 50] [42,43,44,45,46,47,48,49,50,51] []))
def agD:ze:=(rgN [Om 15 6,Oj 16 .add zd 15 1,Om 6 16] [15,16] [])
def agb:ze:=(.seq (.seq (rgN [Om 11 6,Om 12 0,OL 13 12,Ob 14 .lss zd 11 13] [11,12,13] []) (.cond (.t 14) .skip (.exit 0))) (.seq (.block 1 (.seq (rgN [oq 7 .mov [.c zA]] [14] []) (.seq (.seq (rgN [Oc 8 0] [] []) (.block 2 (.loop aga))) agC))) agD))
def agc:ze:=(.seq (.seq (rgN [Om 52 9,Om 53 1,OL 54 53,Ob 55 .lss zd 52 54] [52,53,54] []) (.cond (.t 55) .skip (.exit 4))) (.seq (.block 5 (.seq (rgN [Om 58 1,OL 59 58,oq 60 (.mk 1 8 [iv 0]) [.t 59,.t 59],Om 10 60] [55,58,59,60] []) (.seq (rgN [Om 61 10,Om 62 9,Oi 63 1 61 62,ox (.store 1) [.t 63,.c (iv 1)]] [61,62,63] []) (.seq (.region false [60] [OF 64 0 5,Ol 65 64,Om 66 10,Om 67 10,⟨some 68,.mksliceL 1 2 [zA] [0,1],[.t 66,.t 67],none⟩,oq 69 (.append 1 24) [.t 65,.t 68],OF 70 0 5,Oz 1 70 69] [10,64,65,66,67,68,69,70] []) (rgD [OF 71 1 5,Ol 72 71,Om 73 1,Om 74 9,Oi 75 1 73 74,Ol 76 75,oq 77 (.mkslice 1 2 [iv 0] [0,1]) [.c (iv 0),.t 76],oq 78 (.append 1 8) [.t 72,.t 77],OF 79 1 5,Oz 1 79 78] [71,72,73,74,75,76,77,78,79] []))))) (rgN [Om 56 9,Oj 57 .add zd 56 1,Om 9 57] [56,57] [])))
def agE:ze:=(.seq (rgN [On 80 2 5,Oz 2 4 80] [1,5,9,55,80] [5]) .ret)
def agF:ze:=(.seq (.seq (rgN [Oc 9 0] [0,6,14] []) (.block 4 (.loop agc))) agE)
def agY:ze:=(.seq (rgN [⟨some 4,.alloc [zA,zA],[],none⟩] [] []) (.seq (rgN [⟨some 5,.alloc [zA,zA],[],none⟩] [] []) (.seq (.seq (rgN [Oc 6 0] [] []) (.block 0 (.loop agb))) agF)))
def ag0:List zE:=[.cell 4 (some 2)]
theorem ahU:zt Try.prog agr=some (bare agY,ag0,81):=by kernel_rfl
def Nk:ze:=(.seq (rgN [Oa 4,Oc 5 0] [5] []) (.seq (rgN [Om 6 0,Oj 7 .lss xn 6 0,Om 8 1,Oj 9 .lss xn 8 0,Ob 10 .neq uu 7 9,Om 11 0,Ok 12 gR 11,Om 13 1,Ok 14 gR 13,oq 15 (.call qd) [.t 10,.t 12,.t 14],Oe 16 0 15,Oe 17 1 15,Oz 3 4 16,Om 5 17] [0,1,6,7,8,9,10,11,12,13,14,15,16,17] []) .ret))
def N9:List zE:=[.cell 4 (some 3),.t 5]
theorem aai:zt Try.prog XL=some (bare Nk,N9,18):=by kernel_rfl
def agN:ze:=(.seq (.seq (rgN [Om 5 4,Om 6 0,OL 7 6,Ob 8 .lss zd 5 7] [5,6,7] []) (.cond (.t 8) .skip (.exit 0))) (.seq (.block 1 (rgN [Om 11 3,Om 12 0,Om 13 4,Oi 14 1 12 13,Ol 15 14,Ob 16 .add xn 11 15,Om 3 16] [8,11,12,13,14,15,16] [])) (rgN [Om 9 4,Oj 10 .add zd 9 1,Om 4 10] [9,10] [])))
def ahn:ze:=(.seq (rgN [Om 17 3,Om 2 17] [0,3,4,8,17] []) .ret)
def ahR:ze:=(.seq (rgN [Oc 2 0] [2] []) (.seq (rgN [Oc 3 0] [] []) (.seq (.seq (rgN [Oc 4 0] [] []) (.block 0 (.loop agN))) ahn)))
def ahS:List zE:=[.t 2]
theorem aiN:zt Try.prog af9=some (bare ahR,ahS,18):=by kernel_rfl
def nV:ze:=(.seq (.seq (rgN [Om 30 5,OF 31 1 2,Ol 32 31,OL 33 32,Ob 34 .lss zd 30 33] [30,31,32,33] []) (.cond (.t 34) .skip (.exit 0))) (.seq (.block 1 (.seq (rgD [OF 37 1 2,Ol 38 37,Om 39 5,Oi 40 1 38 39,Ol 41 40,OF 42 1 3,Ol 43 42,Om 44 5,Oi 45 1 43 44,Ol 46 45,Ob 47 .neq zD 41 46] [34,37,38,39,40,41,42,43,44,45,46] []) (.cond (.t 47) (.seq (rgN [oq 4 .mov [.c (bv false)]] [2,3,5,47] [2,3]) .ret) .skip))) (rgN [Om 35 5,Oj 36 .add zd 35 1,Om 5 36] [47,35,36] [])))
def nW:ze:=(.seq (.seq (rgN [Om 48 6,OF 49 2 2,Ol 50 49,OL 51 50,Ob 52 .lss zd 48 51] [48,49,50,51] []) (.cond (.t 52) .skip (.exit 2))) (.seq (.block 3 (.seq (rgD [OF 55 2 2,Ol 56 55,Om 57 6,Oi 58 1 56 57,Ol 59 58,OF 60 2 3,Ol 61 60,Om 62 6,Oi 63 1 61 62,Ol 64 63,Ob 65 .neq zD 59 64] [52,55,56,57,58,59,60,61,62,63,64] []) (.cond (.t 65) (.seq (rgN [oq 4 .mov [.c (bv false)]] [2,3,6,65] [2,3]) .ret) .skip))) (rgN [Om 53 6,Oj 54 .add zd 53 1,Om 6 54] [65,53,54] [])))
def az:ze:=(.seq (rgN [oq 4 .mov [.c (bv true)]] [2,3,6,52] [2,3]) .ret)
def aA:ze:=(.seq (.seq (rgN [Oc 6 0] [5,34] []) (.block 2 (.loop nW))) az)
def lV:ze:=(.seq (rgN [OB 2 0,OB 3 1,oq 4 .mov [.c (bv false)]] [0,1,4] []) (.seq (.seq (rgN [OF 7 0 2,Ol 8 7,OF 9 0 3,Ol 10 9,Ob 11 .neq uu 8 10,Om 12 11,WF 13 1 2 12,Wl 14 13 12,WL 15 14 12,WF 16 1 3 12,Wl 17 16 12,WL 18 17 12,Wb 19 .neq zd 15 18 12,Op 20 12 19,Om 21 20,WF 22 2 2 21,Wl 23 22 21,WL 24 23 21,WF 25 2 3 21,Wl 26 25 21,WL 27 26 21,Wb 28 .neq zd 24 27 21,Op 29 21 28] [7,8,9,10,11,12,13,14,15,16,17,18,19,20,21,22,23,24,25,26,27,28] []) (.cond (.t 29) (.seq (rgN [oq 4 .mov [.c (bv false)]] [2,3,29] [2,3]) .ret) .skip)) (.seq (.seq (rgN [Oc 5 0] [29] []) (.block 0 (.loop nV))) aA)))
def qu:List zE:=[.t 4]
theorem Co:zt Try.prog qe=some (bare lV,qu,66):=by kernel_rfl
def qj:ze:=(.seq (.seq (rgN [Om 25 9,Om 26 0,OL 27 26,Ob 28 .lss zd 25 27] [25,26,27] []) (.cond (.t 28) .skip (.exit 0))) (.seq (.block 1 (.seq (.seq (rgN [Om 31 2,Om 32 9,Oi 33 3 31 32,On 34 3 33,Ok 35 qf 34,Oj 36 .lss zd 35 0] [28,31,32,33,34,35] []) (.cond (.t 36) (.seq (rgN [⟨some 37,.build zF [],[],none⟩,Oz 3 6 37,oq 7 .mov [.c (bv false)]] [0,1,2,8,9,36,37] [8]) .ret) .skip)) (rgD [On 38 3 8,Om 39 2,Om 40 9,Oi 41 3 39 40,On 42 3 41,Om 43 0,Om 44 9,Oi 45 2 43 44,OF 46 1 45,Ol 47 46,Ok 48 f4 47,OK 49 ll 42 48,OK 50 s9 38 49,Oz 3 8 50] [36,38,39,40,41,42,43,44,45,46,47,48,49,50] []))) (rgN [Om 29 9,Oj 30 .add zd 29 1,Om 9 30] [29,30] [])))
def uZ:ze:=(.seq (.seq (rgN [Om 58 12,Om 59 0,OL 60 59,Ob 61 .lss zd 58 60] [58,59,60] []) (.cond (.t 61) .skip (.exit 4))) (.seq (.block 5 (.seq (rgN [Om 64 0,Om 65 12,Oi 66 2 64 65,OF 67 0 66,Ol 68 67,Om 69 10,OK 70 nQ 68 69] [61,64,65,66,67,68,69] []) (.cond (.t 70) (rgD [On 71 3 11,Om 72 2,Om 73 12,Oi 74 3 72 73,On 75 3 74,OK 76 s9 71 75,Oz 3 11 76] [70,71,72,73,74,75,76] []) .skip))) (rgN [Om 62 12,Oj 63 .add zd 62 1,Om 12 63] [70,62,63] [])))
def lY:ze:=(.seq (rgN [On 77 3 11,Ok 78 qf 77,Oj 79 .gtr zd 78 0] [12,61,77,78] []) (.cond (.t 79) (rgD [On 80 3 8,On 81 3 11,Om 82 1,Om 83 10,Oi 84 1 82 83,Ol 85 84,Ok 86 f4 85,OK 87 ll 81 86,OK 88 gd 80 87,Oz 3 8 88] [11,79,80,81,82,83,84,85,86,87,88] [11]) .skip))
def qi:ze:=(rgN [Om 55 10,Oj 56 .add zd 55 1,Om 10 56] [11,79,55,56] [11])
def qk:ze:=(.seq (.seq (rgN [Om 51 10,Om 52 1,OL 53 52,Ob 54 .lss zd 51 53] [51,52,53] []) (.cond (.t 54) .skip (.exit 2))) (.seq (.block 3 (.seq (rgN [oq 57 (.call f4) [.c (iv (-1))],Oa 11,Oz 3 11 57] [54,57] []) (.seq (.seq (rgN [Oc 12 0] [] []) (.block 4 (.loop uZ))) lY))) qi))
def lZ:ze:=(.seq (rgN [On 89 3 8,Oz 3 6 89,oq 7 .mov [.c (bv true)]] [0,1,2,8,10,54,89] [8]) .ret)
def l0:ze:=(.seq (.seq (rgN [Oc 10 0] [9,28] []) (.block 2 (.loop qk))) lZ)
def rZ:ze:=(.seq (rgN [Oa 6,oq 7 .mov [.c (bv false)]] [7] []) (.seq (.seq (rgN [Om 13 2,OL 14 13,Om 15 0,OL 16 15,Ob 17 .neq zd 14 16,Om 18 17,Wm 19 2 18,Wk 20 jc 19 18,⟨some 21,.un .not,[.t 20],some (18,false)⟩,Op 22 18 21] [13,14,15,16,17,18,19,20,21] []) (.cond (.t 22) (.seq (rgN [⟨some 23,.build zF [],[],none⟩,Oz 3 6 23,oq 7 .mov [.c (bv false)]] [0,1,2,22,23] []) .ret) .skip)) (.seq (rgN [oq 24 (.call f4) [.c (iv 0)],Oa 8,Oz 3 8 24] [22,24] []) (.seq (.seq (rgN [Oc 9 0] [] []) (.block 0 (.loop qj))) l0))))
def tz:List zE:=[.cell 6 (some 3),.t 7]
theorem dh:zt Try.prog vf=some (bare rZ,tz,90):=by kernel_rfl
def px:ze:=(.seq (.seq (rgN [Om 4 3,Om 5 0,OL 6 5,Ob 7 .lss zd 4 6] [4,5,6] []) (.cond (.t 7) .skip (.exit 0))) (.seq (.block 1 (.seq (rgN [Om 10 0,Om 11 3,Oi 12 3 10 11,On 13 3 12,Ok 14 jb 13,oq 15 (.un .not) [.t 14]] [7,10,11,12,13,14] []) (.cond (.t 15) (.seq (rgN [oq 2 .mov [.c (bv false)]] [0,3,15] []) .ret) .skip))) (rgN [Om 8 3,Oj 9 .add zd 8 1,Om 3 9] [15,8,9] [])))
def dC:ze:=(.seq (rgN [oq 2 .mov [.c (bv true)]] [0,3,7] []) .ret)
def U4:ze:=(.seq (rgN [oq 2 .mov [.c (bv false)]] [2] []) (.seq (.seq (rgN [Oc 3 0] [] []) (.block 0 (.loop px))) dC))
def cn:List zE:=[.t 2]
theorem Fj:zt Try.prog jc=some (bare U4,cn,16):=by kernel_rfl
def fb:ze:=(.seq (rgN [OB 1 0,Oc 2 0] [0,2] []) (.seq (.seq (rgN [OF 3 0 1,Ol 4 3] [3] []) (.cond (.t 4) (.seq (rgN [Oc 2 (-1)] [1,4] [1]) .ret) .skip)) (.seq (.seq (rgN [OF 5 1 1,Ol 6 5,OL 7 6,Oj 8 .eql zd 7 0] [1,4,5,6,7] [1]) (.cond (.t 8) (.seq (rgN [Oc 2 0] [8] []) .ret) .skip)) (.seq (rgN [Oc 2 1] [8] []) .ret))))
def ef:List zE:=[.t 2]
theorem Cp:zt Try.prog qf=some (bare fb,ef,9):=by kernel_rfl
def XW:ze:=(.seq (rgN [OB 2 0,OB 3 1,Oa 4] [0,1] []) (.seq (rgD [OF 18 1 2,Ol 19 18,OF 20 2 3,Ol 21 20,OK 22 p7 19 21,OF 23 1 3,Ol 24 23,OF 25 2 2,Ol 26 25,OK 27 p7 24 26,Om 5 22,Om 6 27] [18,19,20,21,22,23,24,25,26,27] []) (.seq (rgN [OF 28 2 2,Ol 29 28,OF 30 2 3,Ol 31 30,OK 32 p7 29 31,Om 7 32] [28,29,30,31,32] []) (.seq (.seq (rgN [OF 33 0 2,Ol 34 33,OF 35 0 3,Ol 36 35,Ob 37 .eql uu 34 36] [33,34,35,36] []) (.cond (.t 37) (.seq (rgD [ox (.start [39,40,41,42,43,44,45,38,46,47,8]) [],OF 39 0 2,Ol 40 39,Om 41 5,Om 42 6,OK 43 rc 41 42,Om 44 7,oq 45 (.call qd) [.t 40,.t 43,.t 44],Om 38 45,Oe 46 0 38,Oe 47 1 38,Oa 8,Oz 3 8 46,oq 47 (.chk (.extract 1)) [.t 38],Om 9 47] [2,3,5,6,7,37,39,40,41,42,43,44,45,38,46,47,9] [2,3]) (.seq (rgN [On 48 3 8,Oz 3 4 48] [8,48] [8]) .ret)) .skip)) (.seq (.seq (rgN [Om 50 5,Om 51 6,OK 52 gf 50 51,Om 49 52,Oe 53 0 49,Oe 54 1 49,Om 10 53,Om 11 54] [37,50,51,52,49,53,54] []) (.seq (rgN [Om 55 11] [11] []) (.cond (.t 55) (.seq (rgN [OF 57 0 2,Ol 58 57,Om 59 10,Om 60 7,oq 61 (.call qd) [.t 58,.t 59,.t 60],Om 56 61,Oe 62 0 56,Oe 63 1 56,Oa 12,Oz 3 12 62,Om 13 63] [2,3,5,6,7,10,55,57,58,59,60,61,56,62,63,13] [2,3]) (.seq (rgN [On 64 3 12,Oz 3 4 64] [12,64] [12]) .ret)) .skip))) (.seq (rgN [Om 66 6,Om 67 5,OK 68 gf 66 67,Om 65 68,Oe 69 0 65,Oe 70 1 65,Om 14 69,Om 15 70] [2,5,6,10,55,66,67,68,65,69,70,15] [2]) (.seq (rgN [OF 72 0 3,Ol 73 72,Om 74 14,Om 75 7,oq 76 (.call qd) [.t 73,.t 74,.t 75],Om 71 76,Oe 77 0 71,Oe 78 1 71,Oa 16,Oz 3 16 77,Om 17 78] [3,7,14,72,73,74,75,76,71,77,78,17] [3]) (.seq (rgN [On 79 3 16,Oz 3 4 79] [16,79] [16]) .ret))))))))
def bO:List zE:=[.cell 4 (some 3)]
theorem aae:zt Try.prog s9=some (bare XW,bO,80):=by kernel_rfl
def xR:ze:=(.seq (rgN [Ob 14 .lss zd 13 12] [] []) (.seq (.cond (.t 14) .skip (.exit 0)) (.seq (.block 1 (.seq (rgN [Oi 15 3 11 13,On 16 3 15,Oa 6,Oz 3 6 16] [14,15,16] []) (.seq (rgN [On 17 3 6,Ok 18 t6 17,oq 19 (.un .not) [.t 18],Om 20 19,Wn 21 3 6 20,Wk 22 wE 21 20,Wj 23 .lss zd 22 0 20,Op 24 20 23] [6,17,18,19,20,21,22,23] [6]) (.cond (.t 24) (.seq (rgN [oq 4 .mov [.c (bv false)]] [11,12,13,24] []) .ret) .skip)))) (rgN [Oj 25 .add zd 13 1,Om 13 25] [24,25] []))))
def uO:ze:=(.seq (rgN [oq 4 .mov [.c (bv true)]] [11,12,13,14] []) .ret)
def vJ:ze:=(.seq (rgN [oq 4 .mov [.c (bv false)]] [4] []) (.seq (.seq (rgN [Om 7 0,OL 8 7,Om 9 1,Ob 10 .neq zd 8 9] [1,7,8,9] []) (.cond (.t 10) (.seq (rgN [oq 4 .mov [.c (bv false)]] [0,10] []) .ret) .skip)) (.seq (.seq (rgN [Om 11 0,OL 12 11,Oc 13 0] [0,10] []) (.block 0 (.loop xR))) uO)))
def xA:List zE:=[.t 4]
theorem kX:zt Try.prog we=some (bare vJ,xA,26):=by kernel_rfl
def UY:ze:=(.seq (rgN [OB 1 0,oq 2 .mov [.c (bv false)]] [0,2] []) (.seq (.seq (rgN [OF 3 1 1,Ol 4 3,Ok 5 ja 4,oq 6 (.un .not) [.t 5],Om 7 6,WF 8 2 1 7,Wl 9 8 7,Wk 10 ja 9 7,⟨some 11,.un .not,[.t 10],some (7,false)⟩,Op 12 7 11,Om 13 12,WF 14 2 1 13,Wl 15 14 13,WL 16 15 13,Wj 17 .eql zd 16 0 13,Op 18 13 17,Om 19 18,Wn 20 3 1 19,Wk 21 gQ 20 19,⟨some 22,.build [bv false,bv false] [(0,1),(1,1)],[.c (bv true),.c (bv true)],some (19,false)⟩,Wb 23 .eql vZ 21 22 19,Op 24 19 23] [3,4,5,6,7,8,9,10,11,12,13,14,15,16,17,18,19,20,21,22,23] []) (.cond (.t 24) (.seq (rgN [oq 2 .mov [.c (bv false)]] [1,24] [1]) .ret) .skip)) (.seq (rgN [OF 25 1 1,Ol 26 25,OF 27 2 1,Ol 28 27,OK 29 cY 26 28,oq 30 (.call vD) [.c (.val (.int .u64 1))],OK 31 qB 29 30,Oj 32 .eql zd 31 0,Om 2 32] [1,24,25,26,27,28,29,30,31,32] [1]) .ret)))
def mw:List zE:=[.t 2]
theorem Fc:zt Try.prog t6=some (bare UY,mw,33):=by kernel_rfl
def au:ze:=(.seq (rgN [Oa 2] [] []) (.seq (rgN [Om 3 0,Oj 4 .lss xn 3 0,Om 5 0,Ok 6 Zb 5,oq 7 (.call vD) [.c (.val (.int .u64 1))],oq 8 (.call t7) [.t 4,.t 6,.t 7],Oz 3 2 8] [0,3,4,5,6,7,8] []) .ret))
def aU:List zE:=[.cell 2 (some 3)]
theorem PY:zt Try.prog zI=some (bare au,aU,9):=by kernel_rfl
def XT:ze:=(.seq (rgN [OB 2 0,OB 3 1,Oa 4] [0,1] []) (.seq (rgN [On 13 3 2,On 14 3 3,OK 15 k9 13 14,Om 12 15,Oe 16 0 12,Oe 17 1 12,Om 5 16,Om 6 17] [13,14,15,12,16,17] []) (.seq (rgN [OF 18 2 2,Ol 19 18,OF 20 2 3,Ol 21 20,OK 22 s8 19 21,Om 7 22] [18,19,20,21,22] []) (.seq (.seq (rgN [OF 23 0 2,Ol 24 23,OF 25 0 3,Ol 26 25,Ob 27 .eql uu 24 26] [23,24,25,26] []) (.cond (.t 27) (.seq (rgD [OF 28 0 2,Ol 29 28,Om 30 5,Om 31 6,OK 32 lj 30 31,Om 33 7,oq 34 (.call t7) [.t 29,.t 32,.t 33],Oz 3 4 34] [2,3,5,6,7,27,28,29,30,31,32,33,34] [2,3]) .ret) .skip)) (.seq (.seq (rgN [Om 36 5,Om 37 6,OK 38 cZ 36 37,Om 35 38,Oe 39 0 35,Oe 40 1 35,Om 8 39,Om 9 40] [27,36,37,38,35,39,40] []) (.seq (rgN [Om 41 9] [9] []) (.cond (.t 41) (.seq (rgN [OF 42 0 2,Ol 43 42,Om 44 8,Om 45 7,oq 46 (.call t7) [.t 43,.t 44,.t 45],Oz 3 4 46] [2,3,5,6,7,8,41,42,43,44,45,46] [2,3]) .ret) .skip))) (.seq (rgN [Om 48 6,Om 49 5,OK 50 cZ 48 49,Om 47 50,Oe 51 0 47,Oe 52 1 47,Om 10 51,Om 11 52] [2,5,6,8,41,48,49,50,47,51,52,11] [2]) (.seq (rgN [OF 53 0 3,Ol 54 53,Om 55 10,Om 56 7,oq 57 (.call t7) [.t 54,.t 55,.t 56],Oz 3 4 57] [3,7,10,53,54,55,56,57] [3]) .ret)))))))
def bM:List zE:=[.cell 4 (some 3)]
theorem A3:zt Try.prog uq=some (bare XT,bM,58):=by kernel_rfl
def XU:ze:=(.seq (rgN [OB 2 0,OB 3 1,Oc 4 0] [0,1,4] []) (.seq (.seq (rgN [OF 7 0 2,Ol 8 7,OF 9 0 3,Ol 10 9,Ob 11 .neq uu 8 10] [7,8,9,10] []) (.cond (.t 11) (.seq (.seq (rgN [OF 12 0 2,Ol 13 12] [2,3,11,12] [2,3]) (.cond (.t 13) (.seq (rgN [Oc 4 (-1)] [13] []) .ret) .skip)) (.seq (rgN [Oc 4 1] [13] []) .ret)) .skip)) (.seq (rgN [On 15 3 2,On 16 3 3,OK 17 k9 15 16,Om 14 17,Oe 18 0 14,Oe 19 1 14,Om 5 18,Om 6 19] [3,11,15,16,17,14,18,19] [3]) (.seq (.seq (rgN [OF 20 0 2,Ol 21 20] [2,20] [2]) (.cond (.t 21) (.seq (rgN [Om 22 6,Om 23 5,OK 24 qB 22 23,Om 4 24] [5,6,21,22,23,24] []) .ret) .skip)) (.seq (rgN [Om 25 5,Om 26 6,OK 27 qB 25 26,Om 4 27] [5,6,21,25,26,27] []) .ret)))))
def bN:List zE:=[.t 4]
theorem A4:zt Try.prog tD=some (bare XU,bN,28):=by kernel_rfl
def wH:ze:=(.seq (rgN [Ob 9 .lss zd 8 7] [] []) (.seq (.cond (.t 9) .skip (.exit 0)) (.seq (.block 1 (.seq (rgN [Om 10 8,Om 6 10] [9,10] []) (.seq (rgN [OF 11 0 3,Ol 12 11,Om 13 6,Ob 14 .shr zd 12 13,Oj 15 .and zd 14 1,Oj 16 .eql zd 15 1] [11,12,13,14,15] []) (.cond (.t 16) (rgN [Om 17 2,Om 18 6,oq 19 .callvI [.t 17,.t 18]] [6,16,17,18,19] []) .skip)))) (rgN [Oj 20 .add zd 8 1,Om 8 20] [6,16,20] []))))
def pZ:ze:=(.seq (rgN [OB 3 0] [0] []) (.seq (rgN [Om 7 1,Oc 8 0] [1] []) (.block 0 (.loop wH))))
def p6:List zE:=[]
theorem dm:zt Try.prog xT=some (bare pZ,p6,21):=by kernel_rfl
def q8:ze:=(rgD [On 4 3 1,OF 5 3 2,Ol 6 5,Om 7 0,Oi 8 3 6 7,On 9 3 8,OK 10 uq 4 9,Oz 3 1 10] [0,4,5,6,7,8,9,10] [])
def pM:List zE:=[]
theorem eK:zt Try.prog wc=some (bare q8,pM,11):=by kernel_rfl
def uA:ze:=(.seq (rgN [Ob 23 .lss zd 22 21] [] []) (.seq (.cond (.t 23) .skip (.exit 0)) (.seq (.block 1 (.seq (rgN [Om 24 22,Om 10 24] [23,24] []) (rgD [Ol 25 9,Om 26 10,oq 27 (.call zI) [.c (iv 0)],Oi 28 3 25 26,Oz 3 28 27] [10,25,26,27,28] []))) (rgN [Oj 29 .add zd 22 1,Om 22 29] [29] []))))
def uB:ze:=(.seq (rgN [Ob 33 .lss zd 32 31] [] []) (.seq (.cond (.t 33) .skip (.exit 2)) (.seq (.block 3 (.seq (rgN [Om 34 32,Oi 35 2 30 32,On 36 2 35,oq 11 (.alloc [iv 0]) [],oq 12 (.alloc [iv 0,iv 0]) [],Oz 1 11 34,Oz 2 12 36] [33,34,35,36] []) (.seq (rgD [On 37 3 8,Ol 38 5,Ol 39 11,Oi 40 3 38 39,On 41 3 40,OF 42 1 12,Ol 43 42,Ok 44 zI 43,OK 45 w8 41 44,OK 46 uq 37 45,Oz 3 8 46] [37,38,39,40,41,42,43,44,45,46] []) (rgN [On 47 2 12,Om 48 1,OL 49 48,oq 50 (.mkfn wd) [.t 9,.t 5,.t 11],oq 51 (.callI xT) [.t 47,.t 49,.t 50]] [11,12,47,48,49,50,51] [11,12])))) (rgN [Oj 52 .add zd 32 1,Om 32 52] [52] []))))
def uC:ze:=(.seq (rgN [Ob 56 .lss zd 55 54] [] []) (.seq (.cond (.t 56) .skip (.exit 4)) (.seq (.block 5 (.seq (rgN [Om 57 55,Oi 58 3 53 55,On 59 3 58,Oa 14,Om 13 57,Oz 3 14 59] [56,57,58,59] []) (.seq (rgN [On 60 3 14,On 61 3 7,OK 62 tD 60 61,Oj 63 .gtr zd 62 0] [60,61,62] []) (.cond (.t 63) (rgD [On 64 3 8,Om 65 1,Om 66 13,Oi 67 1 65 66,Ol 68 67,Ok 69 zI 68,On 70 3 14,On 71 3 7,OK 72 qz 70 71,OK 73 w8 69 72,OK 74 qz 64 73,Oz 3 8 74] [14,13,63,64,65,66,67,68,69,70,71,72,73,74] [14]) .skip)))) (rgN [Oj 75 .add zd 55 1,Om 55 75] [14,13,63,75] [14]))))
def qG:ze:=(.seq (rgN [On 76 3 8,Oz 3 6 76] [1,7,8,53,54,55,56,76] [7,8]) .ret)
def qH:ze:=(.seq (.seq (rgN [Ol 53 9,OL 54 53,Oc 55 0] [5,9,30,31,32,33] [5,9]) (.block 4 (.loop uC))) qG)
def qI:ze:=(.seq (.seq (rgN [Om 30 0,OL 31 30,Oc 32 0] [0,21,22,23] []) (.block 2 (.loop uB))) qH)
def mj:ze:=(.seq (rgN [OB 5 2,Oa 6] [2] []) (.seq (rgN [oq 15 (.call zI) [.c (iv 1)],Oa 7,Oz 3 7 15] [15] []) (.seq (rgN [oq 16 (.call zI) [.c (iv 0)],Oa 8,Oz 3 8 16] [16] []) (.seq (rgN [Om 17 1,OL 18 17,⟨some 19,.mk 3 56 zF,[.t 18,.t 18],none⟩,⟨some 9,.alloc [zA],[],none⟩,Oz 1 9 19] [17,18,19] []) (.seq (.seq (rgN [Ol 20 9,OL 21 20,Oc 22 0] [20] []) (.block 0 (.loop uA))) qI)))))
def my:List zE:=[.cell 6 (some 3)]
theorem cS:zt Try.prog t8=some (bare mj,my,77):=by kernel_rfl
def Nl:ze:=(.seq (rgN [OB 2 0,OB 3 1,Oa 4] [0,1] []) (.seq (rgD [On 5 3 2,On 6 3 3,Ok 7 c6 6,OK 8 s9 5 7,Oz 3 4 8] [2,3,5,6,7,8] [2,3]) .ret))
def Ma:List zE:=[.cell 4 (some 3)]
theorem aaj:zt Try.prog gd=some (bare Nl,Ma,9):=by kernel_rfl
def dE:ze:=(.seq (rgN [oq 2 .mov [.c (bv false)]] [2] []) (.seq (rgN [Om 3 0,OL 4 3,Oj 5 .eql zd 4 0,Om 6 5,Wm 7 0 6,Wm 8 0 6,WL 9 8 6,Wj 10 .sub zd 9 1 6,Wi 11 1 7 10 6,Wl 12 11 6,⟨some 13,.bin .neq zD (.tmp 12) (.const (.int .u32 0)),[.t 12,.c (.val (.int .u32 0))],some (6,false)⟩,Op 14 6 13,Om 2 14] [0,3,4,5,6,7,8,9,10,11,12,13,14] []) .ret))
def cq:List zE:=[.t 2]
theorem Fk:zt Try.prog jd=some (bare dE,cq,15):=by kernel_rfl
def fg:ze:=(.seq (.seq (rgN [Om 8 1,OL 9 8,Oj 10 .gtr zd 9 0] [8,9] []) (.cond (.t 10) .skip (.exit 0))) (.block 1 (.seq (rgN [Om 12 0,Om 13 1,OK 14 qY 12 13,Om 11 14,Oe 15 0 11,Oe 16 1 11,Oe 17 2 11,Om 5 15,Om 6 16,Om 7 17] [0,10,12,13,14,11,15,16,17,5,7] []) (.seq (rgN [Om 18 1,Om 0 18] [1,18] []) (rgN [Om 19 6,Om 1 19] [6,19] [])))))
def Yu:ze:=(.seq (rgN [Om 20 0,Ok 21 uR 20,Om 4 21] [0,1,10,20,21] []) .ret)
def Nq:ze:=(.seq (rgN [oq 4 .mov [.c zA]] [4] []) (.seq (.block 0 (.loop fg)) Yu))
def Me:List zE:=[.t 4]
theorem aao:zt Try.prog ge=some (bare Nq,Me,22):=by kernel_rfl
def py:ze:=(.seq (rgN [Ob 23 .lss zd 22 21] [] []) (.seq (.cond (.t 23) .skip (.exit 0)) (.seq (.block 1 (.seq (rgN [Oi 24 4 20 22,On 25 4 24,⟨some 4,.alloc [zA,bv false,zA,zA],[],none⟩,Oz 4 4 25] [23,24,25] []) (.seq (rgN [OF 26 0 4,Ol 27 26,OL 28 27,OF 29 0 1,Ol 30 29,OL 31 30,Ob 32 .neq zd 28 31,Om 33 32,WF 34 0 4 33,Wl 35 34 33,Wk 36 je 35 33,⟨some 37,.un .not,[.t 36],some (33,false)⟩,Op 38 33 37,Om 39 38,WF 40 1 4 39,Wn 41 3 40 39,Wk 42 t6 41 39,⟨some 43,.un .not,[.t 42],some (39,false)⟩,Op 44 39 43] [4,26,27,28,29,30,31,32,33,34,35,36,37,38,39,40,41,42,43] [4]) (.cond (.t 44) (.seq (rgN [Oc 2 2] [1,20,21,22,44] [1]) .ret) .skip)))) (rgN [Oj 45 .add zd 22 1,Om 22 45] [44,45] []))))
def dJ:ze:=(.seq (rgN [Oc 2 0] [1,20,21,22,23] [1]) .ret)
def jm:ze:=(.seq (rgN [OB 1 0,Oc 2 0] [0,2] []) (.seq (.seq (rgN [OF 5 0 1,Ol 6 5,OL 7 6,Oj 8 .gtr zd 7 160,Om 9 8,WF 10 1 1 9,Wl 11 10 9,WL 12 11 9,Wj 13 .gtr zd 12 40 9,Op 14 9 13] [5,6,7,8,9,10,11,12,13] []) (.cond (.t 14) (.seq (rgN [Oc 2 3] [1,14] [1]) .ret) .skip)) (.seq (.seq (rgN [OF 15 0 1,Ol 16 15,Ok 17 je 16,oq 18 (.un .not) [.t 17]] [14,15,16,17] []) (.cond (.t 18) (.seq (rgN [Oc 2 2] [1,18] [1]) .ret) .skip)) (.seq (.seq (rgN [OF 19 1 1,Ol 20 19,OL 21 20,Oc 22 0] [18,19] []) (.block 0 (.loop py))) dJ))))
def uP:List zE:=[.t 2]
theorem Fp:zt Try.prog t9=some (bare jm,uP,46):=by kernel_rfl
def rJ:ze:=(.seq (rgN [Ob 20 .lss zd 19 18] [] []) (.seq (.cond (.t 20) .skip (.exit 0)) (.seq (.block 1 (.seq (rgN [Om 21 19,Om 4 21] [20,21] []) (.seq (rgN [Om 22 3,Om 23 3,ON 24 23,OF 25 9 24,Ol 26 25,Om 27 4,oq 28 (.mkslice 1 1 [iv 0] [0]) [.t 27],oq 29 (.appendU 1 8) [.t 26,.t 28],ON 30 22,OF 31 9 30,Oz 1 31 29] [4,22,23,24,25,26,27,28,29,30,31] []) (rgD [ox (.start [32,33,34,35,36,37,38,39]) [],Om 32 3,Om 33 3,ON 34 33,OF 35 4 34,Ol 36 35,oq 37 (.call zI) [.c (iv 0)],⟨some 38,.mkslice 3 1 zF [0],[.t 37],none⟩,oq 39 (.append 3 56) [.t 36,.t 38],oq 32 (.chk (.mov)) [.t 3],ON 40 32,OF 41 4 40,Oz 1 41 39] [32,33,34,35,36,37,38,39,40,41] [])))) (rgN [Oj 42 .add zd 19 1,Om 19 42] [42] []))))
def rL:ze:=(.seq (rgN [Ob 47 .lss zd 46 45] [] []) (.seq (.cond (.t 47) .skip (.exit 2)) (.seq (.block 3 (.seq (rgN [Om 48 46,Oi 49 4 44 46,On 50 4 49,⟨some 6,.alloc [zA,bv false,zA,zA],[],none⟩,Om 5 48,Oz 4 6 50] [47,48,49,50] []) (.seq (rgD [ox (.start [51,52,53,54,55,56,57,58,59,60,61]) [],Om 51 3,Om 52 3,ON 53 52,OF 54 2 53,Ol 55 54,⟨some 56,.mkslice 3 0 zF [],[],none⟩,OF 57 0 6,Ol 58 57,oq 59 (.append 3 56) [.t 56,.t 58],oq 51 (.chk (.mov)) [.t 3],oq 52 (.chk (.mov)) [.t 3],oq 53 (.chk (.nilChk)) [.t 52],oq 54 (.chk (.faddr 2)) [.t 53],oq 55 (.chk (.load none)) [.t 54],⟨some 60,.mksliceL 1 1 [zA] [0],[.t 59],none⟩,oq 61 (.appendU 1 24) [.t 55,.t 60],oq 51 (.chk (.mov)) [.t 3],ON 62 51,OF 63 2 62,Oz 1 63 61] [51,52,53,54,55,56,57,58,59,60,61,62,63] []) (.seq (rgD [ox (.start [64,65,66,67,68,69,70,71,72]) [],Om 64 3,Om 65 3,ON 66 65,OF 67 3 66,Ol 68 67,OF 69 1 6,On 70 3 69,⟨some 71,.mkslice 3 1 zF [0],[.t 70],none⟩,oq 72 (.appendU 3 56) [.t 68,.t 71],oq 64 (.chk (.mov)) [.t 3],ON 73 64,OF 74 3 73,Oz 1 74 72] [6,64,65,66,67,68,69,70,71,72,73,74] [6]) (rgD [ox (.start [75,76,77,78,79,80,81,82,83,84,85,86,87]) [],Om 75 3,Om 76 3,ON 77 76,OF 78 8 77,Ol 79 78,Om 80 3,ON 81 80,OF 82 0 81,Ol 83 82,Om 84 5,Ob 85 .add zd 83 84,oq 86 (.mkslice 1 1 [iv 0] [0]) [.t 85],oq 87 (.appendU 1 8) [.t 79,.t 86],oq 75 (.chk (.mov)) [.t 3],ON 88 75,OF 89 8 88,Oz 1 89 87] [5,75,76,77,78,79,80,81,82,83,84,85,86,87,88,89] []))))) (rgN [Oj 90 .add zd 46 1,Om 46 90] [90] []))))
def mQ:ze:=(.seq (rgN [Om 91 3,Om 2 91] [3,44,45,46,47,91] []) .ret)
def mS:ze:=(.seq (.seq (rgN [OF 43 1 1,Ol 44 43,OL 45 44,Oc 46 0] [1,18,19,20,43] [1]) (.block 2 (.loop rL))) mQ)
def gr:ze:=(.seq (rgN [OB 1 0,oq 2 .mov [.c (.val (.pointer none))]] [0,2] []) (.seq (rgD [OF 7 0 1,Ol 8 7,OL 9 8,OF 10 1 1,Ol 11 10,OL 12 11,oq 13 (.call zI) [.c (iv 0)],⟨some 14,.build [iv 0,iv 0,zA,zA,zA,bv false,zA,zA,zA,zA] [(0,1),(1,1),(5,3)],[.t 9,.t 12,.t 13],none⟩,OB 15 14,Om 3 15] [7,8,9,10,11,12,13,14,15] []) (.seq (.seq (rgN [OF 16 0 1,Ol 17 16,OL 18 17,Oc 19 0] [16,17] []) (.block 0 (.loop rJ))) mS)))
def gH:List zE:=[.t 2]
theorem UT:zt Try.prog ut=some (bare gr,gH,92):=by kernel_rfl
def ri:ze:=(.seq (rgN [Ob 15 .lss zd 14 13] [] []) (.seq (.cond (.t 15) .skip (.exit 0)) (.seq (.block 1 (.seq (rgN [Om 16 14,Oi 17 3 12 14,On 18 3 17,Oa 6,Om 5 16,Oz 3 6 18] [15,16,17,18] []) (.seq (rgD [On 19 3 6,Ok 20 wE 19,Oj 21 .lss zd 20 0,Om 22 21,Vm 23 4 22,Vj 24 .lss zd 23 0 22,Vm 25 24 22,Wn 26 3 6 25,Wm 27 0 25,WN 28 27 25,WF 29 3 28 25,Wl 30 29 25,Wm 31 4 25,Wi 32 3 30 31 25,Wn 33 3 32 25,WK 34 tD 26 33 25,Wj 35 .lss zd 34 0 25,Vp 36 25 35 22,Oq 37 22 36] [6,19,20,21,22,23,24,25,26,27,28,29,30,31,32,33,34,35,36] [6]) (.cond (.t 37) (rgN [Om 38 5,Om 4 38] [5,37,38] []) .skip)))) (rgN [Oj 39 .add zd 14 1,Om 14 39] [5,37,39] []))))
def na:ze:=(.seq (rgN [Ob 49 .lss zd 48 47] [] []) (.seq (.cond (.t 49) .skip (.exit 2)) (.seq (.block 3 (.seq (rgN [Om 50 48,Om 8 50] [49,50] []) (rgD [ox (.start [51,52,53,54,55,56,57,58,59,60,61,62,63,64,65]) [],Om 51 0,ON 52 51,OF 53 2 52,Ol 54 53,Om 55 8,Om 56 0,ON 57 56,OF 58 2 57,Ol 59 58,Om 60 8,Oi 61 1 59 60,Ol 62 61,On 63 3 7,⟨some 64,.mkslice 3 1 zF [0],[.t 63],none⟩,oq 65 (.append 3 56) [.t 62,.t 64],oq 51 (.chk (.mov)) [.t 0],oq 52 (.chk (.nilChk)) [.t 51],oq 53 (.chk (.faddr 2)) [.t 52],oq 54 (.chk (.load none)) [.t 53],oq 55 (.chk (.mov)) [.t 8],Oi 66 1 54 55,Oz 1 66 65] [8,51,52,53,54,55,56,57,58,59,60,61,62,63,64,65,66] []))) (rgN [Oj 67 .add zd 48 1,Om 48 67] [67] []))))
def rh:ze:=(.seq (rgD [ox (.start [68,69,70,71,72,73,74,75,76,77,78,79,80,81,82,83]) [],Om 68 0,Om 69 0,ON 70 69,OF 71 9 70,Ol 72 71,Om 73 0,ON 74 73,OF 75 0 74,Ol 76 75,Om 77 0,ON 78 77,OF 79 1 78,Ol 80 79,Ob 81 .add zd 76 80,oq 82 (.mkslice 1 1 [iv 0] [0]) [.t 81],oq 83 (.appendU 1 8) [.t 72,.t 82],oq 68 (.chk (.mov)) [.t 0],ON 84 68,OF 85 9 84,Oz 1 85 83] [47,48,49,68,69,70,71,72,73,74,75,76,77,78,79,80,81,82,83,84,85] []) (.seq (rgD [ox (.start [86,87,88,89,90,91,92,93]) [],Om 86 0,Om 87 0,ON 88 87,OF 89 4 88,Ol 90 89,On 91 3 7,⟨some 92,.mkslice 3 1 zF [0],[.t 91],none⟩,oq 93 (.append 3 56) [.t 90,.t 92],oq 86 (.chk (.mov)) [.t 0],ON 94 86,OF 95 4 94,Oz 1 95 93] [7,86,87,88,89,90,91,92,93,94,95] [7]) (.seq (rgN [Om 96 0,Om 97 4,Om 98 0,ON 99 98,OF 100 9 99,Ol 101 100,OL 102 101,Oj 103 .sub zd 102 1,oq 104 (.callI uc) [.t 96,.t 97,.t 103]] [4,96,97,98,99,100,101,102,103,104] []) (.seq (rgN [Om 105 0,oq 106 (.callI x7) [.t 105]] [105,106] []) (.seq (.seq (rgN [Om 107 0,ON 108 107,OF 109 5 108,On 110 3 109,Ok 111 wE 110,Oj 112 .lss zd 111 0] [107,108,109,110,111] []) (.cond (.t 112) (.seq (rgN [Om 113 0,oq 114 (.callI uo) [.t 113],Om 2 114,oq 3 .mov [.c (bv false)]] [0,112,113,114] []) .ret) .skip)) (.seq (rgN [Om 115 0,oq 116 (.callI wZ) [.t 115]] [0,112,115,116] []) (.seq (rgN [oq 2 .mov [.c zA],oq 3 .mov [.c (bv true)]] [] []) .ret)))))))
def p9:ze:=(.seq (.seq (rgN [Om 40 4,Oj 41 .lss zd 40 0] [12,13,14,15,40] []) (.cond (.t 41) (.seq (rgN [oq 2 .mov [.c zA],oq 3 .mov [.c (bv true)]] [0,4,41] []) .ret) .skip)) (.seq (rgN [oq 42 (.call zI) [.c (iv (-1))],Oa 7,Oz 3 7 42] [41,42] []) (.seq (.seq (rgN [Om 43 0,ON 44 43,OF 45 2 44,Ol 46 45,OL 47 46,Oc 48 0] [43,44,45,46] []) (.block 2 (.loop na))) rh)))
def jQ:ze:=(.seq (rgN [oq 2 .mov [.c zA],oq 3 .mov [.c (bv false)]] [2,3] []) (.seq (rgN [Oc 4 (-1)] [] []) (.seq (.seq (rgN [Om 9 0,ON 10 9,OF 11 3 10,Ol 12 11,OL 13 12,Oc 14 0] [9,10,11] []) (.block 0 (.loop ri))) p9)))
def tH:List zE:=[.t 2,.t 3]
theorem a6:zt Try.prog ud=some (bare jQ,tH,117):=by kernel_rfl
def uU:ze:=(.seq (rgN [Ob 27 .lss zd 26 25] [] []) (.seq (.cond (.t 27) .skip (.exit 0)) (.seq (.block 1 (.seq (rgN [Om 28 26,Oi 29 1 24 26,Ol 30 29,Om 5 28,Om 6 30] [27,28,29,30] []) (.seq (rgN [Om 31 4,Om 32 5,oq 33 (.call zI) [.c (iv 0)],Oi 34 3 31 32,Oz 3 34 33] [31,32,33,34] []) (.seq (rgN [Om 35 6,Om 36 0,ON 37 36,OF 38 0 37,Ol 39 38,Ob 40 .lss zd 35 39] [35,36,37,38,39] []) (.cond (.t 40) (rgN [Om 41 4,Om 42 5,Om 43 1,Om 44 6,Oi 45 3 43 44,On 46 3 45,Oi 47 3 41 42,Oz 3 47 46] [5,6,40,41,42,43,44,45,46,47] []) .skip))))) (rgN [Oj 48 .add zd 26 1,Om 26 48] [5,6,40,48] []))))
def uV:ze:=(.seq (rgN [Ob 102 .lss zd 101 100] [] []) (.seq (.cond (.t 102) .skip (.exit 4)) (.seq (.block 5 (.seq (rgN [Om 103 101,Oi 104 3 99 101,On 105 3 104,Oa 10,Om 9 103,Oz 3 10 105] [102,103,104,105] []) (.seq (rgN [On 106 3 10,Ok 107 wE 106,Oj 108 .neq zd 107 0] [106,107] []) (.cond (.t 108) (rgD [Om 109 4,Om 110 9,Om 111 4,Om 112 9,Oi 113 3 111 112,On 114 3 113,Om 115 1,Om 116 8,Oi 117 3 115 116,On 118 3 117,On 119 3 10,OK 120 w8 118 119,OK 121 qz 114 120,Oi 122 3 109 110,Oz 3 122 121] [10,9,108,109,110,111,112,113,114,115,116,117,118,119,120,121,122] [10]) .skip)))) (rgN [Oj 123 .add zd 101 1,Om 101 123] [10,9,108,123] [10]))))
def uT:ze:=(rgN [Oj 124 .add zd 54 1,Om 54 124] [8,99,100,101,102,7,72,124] [])
def vI:ze:=(.seq (rgN [Ob 55 .lss zd 54 53] [] []) (.seq (.cond (.t 55) .skip (.exit 2)) (.seq (.block 3 (.seq (rgN [Om 56 54,Oi 57 1 52 54,Ol 58 57,Om 7 56,Om 8 58] [55,56,57,58] []) (.seq (.seq (rgN [Om 59 8,Om 60 0,ON 61 60,OF 62 0 61,Ol 63 62,Ob 64 .geq zd 59 63,Om 65 64,Wm 66 1 65,Wm 67 8 65,Wi 68 3 66 67 65,Wn 69 3 68 65,Wk 70 wE 69 65,Wj 71 .eql zd 70 0 65,Op 72 65 71] [59,60,61,62,63,64,65,66,67,68,69,70,71] []) (.cond (.t 72) (.exit 3) .skip)) (.seq (rgD [Om 73 0,Om 74 0,ON 75 74,OF 76 5 75,On 77 3 76,Om 78 1,Om 79 8,Oi 80 3 78 79,On 81 3 80,Om 82 0,ON 83 82,OF 84 3 83,Ol 85 84,Om 86 7,Oi 87 3 85 86,On 88 3 87,OK 89 w8 81 88,OK 90 uq 77 89,ON 91 73,OF 92 5 91,Oz 3 92 90] [72,73,74,75,76,77,78,79,80,81,82,83,84,85,86,87,88,89,90,91,92] []) (.seq (rgN [Om 93 0,ON 94 93,OF 95 2 94,Ol 96 95,Om 97 7,Oi 98 1 96 97,Ol 99 98,OL 100 99,Oc 101 0] [7,93,94,95,96,97,98] []) (.block 4 (.loop uV))))))) uT)))
def lS:ze:=(rgN [Om 125 0,Om 126 4,ON 127 125,OF 128 4 127,Oz 1 128 126] [0,1,4,52,53,54,55,125,126,127,128] [])
def lT:ze:=(.seq (.seq (rgN [Om 49 0,ON 50 49,OF 51 8 50,Ol 52 51,OL 53 52,Oc 54 0] [24,25,26,27,49,50,51] []) (.block 2 (.loop vI))) lS)
def eT:ze:=(.seq (rgN [Om 11 0,oq 12 (.call zI) [.c (iv 0)],ON 13 11,OF 14 5 13,Oz 3 14 12] [11,12,13,14] []) (.seq (rgN [Om 15 0,ON 16 15,OF 17 9 16,Ol 18 17,OL 19 18,⟨some 20,.mk 3 56 zF,[.t 19,.t 19],none⟩,Om 4 20] [15,16,17,18,19,20] []) (.seq (.seq (rgN [Om 21 0,ON 22 21,OF 23 9 22,Ol 24 23,OL 25 24,Oc 26 0] [21,22,23] []) (.block 0 (.loop uU))) lT)))
def dc:List zE:=[]
theorem T3:zt Try.prog rV=some (bare eT,dc,129):=by kernel_rfl
def rI:ze:=(.seq (rgN [Om 6 0,oq 7 (.callI s6) [.t 6],Om 4 7] [6,7] []) (.seq (.seq (rgN [Om 8 4,Oj 9 .lss zd 8 0] [8] []) (.cond (.t 9) (.seq (rgN [Oc 2 0,oq 3 .mov [.c (bv true)]] [0,4,9] []) .ret) .skip)) (.seq (rgN [Om 10 0,Om 11 4,oq 12 (.callI rU) [.t 10,.t 11],Om 5 12] [9,10,11,12] []) (.seq (.seq (rgN [Om 13 5,Oj 14 .lss zd 13 0] [13] []) (.cond (.t 14) (.seq (rgN [Om 15 4,Om 2 15,oq 3 .mov [.c (bv false)]] [0,4,5,14,15] []) .ret) .skip)) (.seq (rgN [Om 16 0,Om 17 5,Om 18 4,oq 19 (.callI uc) [.t 16,.t 17,.t 18]] [4,5,14,16,17,18,19] []) (.goto 0))))))
def gm:ze:=(.seq (rgN [Oc 2 0,oq 3 .mov [.c (bv false)]] [2,3] []) (.again 0 rI))
def nH:List zE:=[.t 2,.t 3]
theorem US:zt Try.prog x7=some (bare gm,nH,20):=by kernel_rfl
def rg:ze:=(.seq (rgN [Ob 17 .lss zd 16 15] [] []) (.seq (.cond (.t 17) .skip (.exit 0)) (.seq (.block 1 (.seq (rgN [Om 18 16,Oi 19 1 14 16,Ol 20 19,Om 4 18,Om 5 20] [17,18,19,20] []) (.seq (rgN [Om 21 5,Om 22 0,ON 23 22,OF 24 0 23,Ol 25 24,Ob 26 .lss zd 21 25] [21,22,23,24,25] []) (.cond (.t 26) (rgN [Om 27 3,Om 28 5,Om 29 0,ON 30 29,OF 31 3 30,Ol 32 31,Om 33 4,Oi 34 3 32 33,On 35 3 34,Oi 36 3 27 28,Oz 3 36 35] [4,5,26,27,28,29,30,31,32,33,34,35,36] []) .skip)))) (rgN [Oj 37 .add zd 16 1,Om 16 37] [4,5,26,37] []))))
def gp:ze:=(.seq (rgN [Om 38 3,Om 2 38] [0,3,14,15,16,17,38] []) .ret)
def aq:ze:=(.seq (rgN [oq 2 .mov [.c zA]] [2] []) (.seq (rgN [Om 6 0,ON 7 6,OF 8 0 7,Ol 9 8,oq 10 (.callI sd) [.t 9],Om 3 10] [6,7,8,9,10] []) (.seq (.seq (rgN [Om 11 0,ON 12 11,OF 13 8 12,Ol 14 13,OL 15 14,Oc 16 0] [11,12,13] []) (.block 0 (.loop rg))) gp)))
def aT:List zE:=[.t 2]
theorem PX:zt Try.prog rN=some (bare aq,aT,39):=by kernel_rfl
def sr:ze:=(.seq (rgN [Ob 41 .lss zd 40 39] [] []) (.seq (.cond (.t 41) .skip (.exit 0)) (.seq (.block 1 (.seq (rgN [Om 42 40,Oi 43 1 38 40,Ol 44 43,Om 6 42,Om 7 44] [41,42,43,44] []) (.seq (rgN [Om 45 7,Om 46 0,ON 47 46,OF 48 0 47,Ol 49 48,Ob 50 .lss zd 45 49] [45,46,47,48,49] []) (.cond (.t 50) (rgN [Om 51 5,Om 52 7,Om 53 0,ON 54 53,OF 55 2 54,Ol 56 55,Om 57 6,Oi 58 1 56 57,Ol 59 58,Om 60 1,Oi 61 3 59 60,On 62 3 61,Ok 63 qy 62,Oi 64 3 51 52,Oz 3 64 63] [6,7,50,51,52,53,54,55,56,57,58,59,60,61,62,63,64] []) .skip)))) (rgN [Oj 65 .add zd 40 1,Om 40 65] [6,7,50,65] []))))
def lP:ze:=(.seq (rgN [Om 66 5,Om 4 66] [0,1,5,38,39,40,41,66] []) .ret)
def UX:ze:=(.seq (rgN [oq 4 .mov [.c zA]] [4] []) (.seq (rgN [Om 8 0,ON 9 8,OF 10 0 9,Ol 11 10,oq 12 (.callI sd) [.t 11],Om 5 12] [8,9,10,11,12] []) (.seq (.seq (rgD [Om 13 0,ON 14 13,OF 15 9 14,Ol 16 15,Om 17 1,Oi 18 1 16 17,Ol 19 18,Om 20 0,ON 21 20,OF 22 0 21,Ol 23 22,Ob 24 .lss zd 19 23] [13,14,15,16,17,18,19,20,21,22,23] []) (.cond (.t 24) (rgD [Om 25 5,Om 26 0,ON 27 26,OF 28 9 27,Ol 29 28,Om 30 1,Oi 31 1 29 30,Ol 32 31,oq 33 (.call zI) [.c (iv 1)],Oi 34 3 25 32,Oz 3 34 33] [24,25,26,27,28,29,30,31,32,33,34] []) .skip)) (.seq (.seq (rgN [Om 35 0,ON 36 35,OF 37 8 36,Ol 38 37,OL 39 38,Oc 40 0] [24,35,36,37] []) (.block 0 (.loop sr))) lP))))
def ah3:List zE:=[.t 4]
theorem Fb:zt Try.prog dq=some (bare UX,ah3,67):=by kernel_rfl
def xi:ze:=(.seq (rgN [Ob 17 .lss zd 16 15] [] []) (.seq (.cond (.t 17) .skip (.exit 0)) (.seq (.block 1 (.seq (rgN [Om 18 16,Oi 19 1 14 16,Ol 20 19,Om 4 18,Om 5 20] [17,18,19,20] []) (.seq (rgD [Om 21 5,Om 22 0,ON 23 22,OF 24 0 23,Ol 25 24,Ob 26 .geq zd 21 25,Om 27 26,Vm 28 5 27,Vm 29 0 27,VN 30 29 27,VF 31 0 30 27,Vl 32 31 27,Vm 33 0 27,VN 34 33 27,VF 35 1 34 27,Vl 36 35 27,Vb 37 .add zd 32 36 27,Vb 38 .lss zd 28 37 27,Oq 39 27 38] [21,22,23,24,25,26,27,28,29,30,31,32,33,34,35,36,37,38] []) (.cond (.t 39) (rgD [Om 40 3,Om 41 5,Om 42 0,ON 43 42,OF 44 0 43,Ol 45 44,Ob 46 .sub zd 41 45,Om 47 0,ON 48 47,OF 49 4 48,Ol 50 49,Om 51 4,Oi 52 3 50 51,On 53 3 52,Ok 54 qy 53,Oi 55 3 40 46,Oz 3 55 54] [4,5,39,40,41,42,43,44,45,46,47,48,49,50,51,52,53,54,55] []) .skip)))) (rgN [Oj 56 .add zd 16 1,Om 16 56] [4,5,39,56] []))))
def q7:ze:=(.seq (rgN [Om 57 3,Om 2 57] [0,3,14,15,16,17,57] []) .ret)
def lO:ze:=(.seq (rgN [oq 2 .mov [.c zA]] [2] []) (.seq (rgN [Om 6 0,ON 7 6,OF 8 1 7,Ol 9 8,oq 10 (.callI sd) [.t 9],Om 3 10] [6,7,8,9,10] []) (.seq (.seq (rgN [Om 11 0,ON 12 11,OF 13 9 12,Ol 14 13,OL 15 14,Oc 16 0] [11,12,13] []) (.block 0 (.loop xi))) q7)))
def kT:List zE:=[.t 2]
theorem cQ:zt Try.prog uo=some (bare lO,kT,58):=by kernel_rfl
def pY:ze:=(rgD [OF 5 1 2,Ol 6 5,Om 7 0,Oi 8 4 6 7,OF 9 0 8,Ol 10 9,Ol 11 3,On 12 3 1,Oi 13 3 10 11,Oz 3 13 12] [0,5,6,7,8,9,10,11,12,13] [])
def agZ:List zE:=[]
theorem dl:zt Try.prog wC=some (bare pY,agZ,14):=by kernel_rfl
def agh:ze:=(.seq (.seq (rgN [Om 23 9,Om 24 4,Ob 25 .lss zd 23 24] [23,24] []) (.cond (.t 25) .skip (.exit 2))) (.seq (.block 3 (.seq (rgN [oq 28 (.mkslice 1 0 [iv 0] []) [],OF 29 0 1,Ol 30 29,Om 31 9,Oi 32 1 30 31,Ol 33 32,oq 34 (.appendU 1 8) [.t 28,.t 33],Om 10 34] [25,28,29,30,31,32,33,34] []) (.seq (rgN [Om 35 10,Om 36 7,OF 37 1 1,Ol 38 37,Om 39 9,Oi 40 1 38 39,Ol 41 40,Oi 42 1 35 36,Oz 1 42 41] [35,36,37,38,39,40,41,42] []) (.region false [34] [Om 43 8,Om 44 10,⟨some 45,.mksliceL 1 1 [zA] [0],[.t 44],none⟩,oq 46 (.append 1 24) [.t 43,.t 45],Om 8 46] [10,43,44,45,46] [])))) (rgN [Om 26 9,Oj 27 .add zd 26 1,Om 9 27] [26,27] [])))
def agS:ze:=(.seq (rgN [Om 47 8,Ok 48 agq 47,Om 11 48] [8,9,25,47,48] []) (.seq (.seq (rgN [Om 49 5,Oj 50 .lss xn 49 0] [49] []) (.cond (.t 50) (rgN [Om 51 11,oq 52 (.un .neg) [.t 51],Om 11 52] [50,51,52] []) .skip)) (rgN [Om 53 6,Om 54 11,oq 55 (.mkslice 1 1 [iv 0] [0]) [.t 54],oq 56 (.append 1 8) [.t 53,.t 55],Om 6 56] [11,50,53,54,55,56] [])))
def age:ze:=(rgN [Om 21 7,Oj 22 .add zd 21 1,Om 7 22] [21,22] [])
def af1:ze:=(.seq (.seq (rgN [Om 18 7,Om 19 4,Ob 20 .lss zd 18 19] [18,19] []) (.cond (.t 20) .skip (.exit 0))) (.seq (.block 1 (.seq (rgN [oq 8 .mov [.c zA]] [20] []) (.seq (.seq (rgN [Oc 9 0] [] []) (.block 2 (.loop agh))) agS))) age))
def agf:ze:=(.seq (.seq (rgN [Om 57 5,Oj 58 .lss xn 57 0] [1,4,7,20,57] [1]) (.cond (.t 58) (rgN [Om 59 5,oq 60 (.un .neg) [.t 59],Om 5 60] [58,59,60] []) .skip)) (.seq (rgN [Om 61 6,Om 62 5,Om 2 61,Om 3 62] [5,6,58,61,62] []) .ret))
def ag5:ze:=(.seq (rgN [OB 1 0,oq 2 .mov [.c zA],Oc 3 0] [0,2,3] []) (.seq (rgN [OF 12 0 1,Ol 13 12,OL 14 13,Om 4 14] [12,13,14] []) (.seq (rgN [OF 15 0 1,Ol 16 15,Ok 17 agq 16,Om 5 17] [15,16,17] []) (.seq (rgN [oq 6 .mov [.c zA]] [] []) (.seq (.seq (rgN [Oc 7 0] [] []) (.block 0 (.loop af1))) agf)))))
def agt:List zE:=[.t 2,.t 3]
theorem ah7:zt Try.prog ags=some (bare ag5,agt,63):=by kernel_rfl
def SW:ze:=(.seq (rgN [Oa 6,Oc 7 0] [7] []) (.seq (.seq (rgN [Om 15 2,OL 16 15,Oj 17 .eql zd 16 0] [15,16] []) (.cond (.t 17) (.seq (rgN [⟨some 18,.build zF [],[],none⟩,Oz 3 6 18,Oc 7 8] [0,1,2,17,18] []) .ret) .skip)) (.seq (rgN [Om 19 1,Om 20 2,OK 21 ge 19 20,Om 8 21] [17,19,20,21] []) (.seq (rgN [Om 23 1,Om 24 8,OK 25 qY 23 24,Om 22 25,Oe 26 0 22,Oe 27 1 22,Oe 28 2 22,Om 9 26,Om 10 27,Om 11 28] [23,24,25,22,26,27,28,10,11] []) (.seq (rgN [Om 30 2,Om 31 8,OK 32 qY 30 31,Om 29 32,Oe 33 0 29,Oe 34 1 29,Oe 35 2 29,Om 12 33,Om 13 34,Om 14 35] [2,8,30,31,32,29,33,34,35,13,14] []) (.seq (rgN [Om 36 0,Om 37 36,Vm 38 1 37,VL 39 38 37,Vj 40 .gtr zd 39 0 37,Oq 41 37 40,Om 42 9,Om 43 12,⟨some 44,.build zF [(0,1),(1,1),(2,1)],[.t 41,.t 42,.t 43],none⟩,Oz 3 6 44,Oc 7 0] [0,1,9,12,36,37,38,39,40,41,42,43,44] []) .ret))))))
def ee:List zE:=[.cell 6 (some 3),.t 7]
theorem Cn:zt Try.prog qd=some (bare SW,ee,45):=by kernel_rfl
def Zh:ze:=(.seq (rgN [oq 2 .mov [.c zA]] [2] []) (.seq (.seq (rgN [Om 3 0,Oj 4 .lss xn 3 0] [3] []) (.cond (.t 4) (.seq (rgN [Om 5 0,Oj 6 .add xn 5 1,oq 7 (.un .neg) [.t 6],oq 8 (.conv xn zh) [.t 7],oq 9 (.bin .add zh (.tmp 8) (.const (.int .u64 1))) [.t 8,.c (.val (.int .u64 1))],Ok 10 ur 9,Om 2 10] [0,4,5,6,7,8,9,10] []) .ret) .skip)) (.seq (rgN [Om 11 0,oq 12 (.conv xn zh) [.t 11],Ok 13 ur 12,Om 2 13] [0,4,11,12,13] []) .ret)))
def ZH:List zE:=[.t 2]
theorem Cq:zt Try.prog gR=some (bare Zh,ZH,14):=by kernel_rfl
def Nj:ze:=(.seq (rgN [OB 2 0,OB 3 1,Oa 4] [0,1] []) (.seq (rgD [ox (.start [8,9,10,11,12,13,14,15,16,17,18,19,20,21,22,23,7,24,25,5]) [],OF 8 0 2,Ol 9 8,OF 10 0 3,Ol 11 10,Ob 12 .neq uu 9 11,OF 13 1 2,Ol 14 13,OF 15 1 3,Ol 16 15,OK 17 p7 14 16,OF 18 2 2,Ol 19 18,OF 20 2 3,Ol 21 20,OK 22 p7 19 21,oq 23 (.call qd) [.t 12,.t 17,.t 22],Om 7 23,Oe 24 0 7,Oe 25 1 7,Oa 5,Oz 3 5 24,oq 25 (.chk (.extract 1)) [.t 7],Om 6 25] [2,3,8,9,10,11,12,13,14,15,16,17,18,19,20,21,22,23,7,24,25,6] [2,3]) (.seq (rgN [On 26 3 5,Oz 3 4 26] [5,26] [5]) .ret)))
def N8:List zE:=[.cell 4 (some 3)]
theorem aag:zt Try.prog ll=some (bare Nj,N8,27):=by kernel_rfl
def mX:ze:=(.seq (.seq (rgN [Om 7 6,Om 8 1,OL 9 8,Ob 10 .lss zd 7 9] [7,8,9] []) (.cond (.t 10) .skip (.exit 0))) (.seq (.block 1 (rgN [Om 13 5,Om 14 0,Om 15 1,Om 16 6,Oi 17 1 15 16,Ol 18 17,oq 19 (.conv zD zh) [.t 18],OK 20 du 14 19,Om 21 6,OK 22 dv 20 21,OK 23 rc 13 22,Om 5 23] [10,13,14,15,16,17,18,19,20,21,22,23] [])) (rgN [Om 11 6,Oj 12 .add zd 11 1,Om 6 12] [11,12] [])))
def fh:ze:=(.seq (rgN [Om 24 5,Om 4 24] [0,1,5,6,10,24] []) .ret)
def Nr:ze:=(.seq (rgN [oq 4 .mov [.c zA]] [4] []) (.seq (rgN [oq 5 .mov [.c zA]] [] []) (.seq (.seq (rgN [Oc 6 0] [] []) (.block 0 (.loop mX))) fh)))
def Uu:List zE:=[.t 4]
theorem aap:zt Try.prog p7=some (bare Nr,Uu,25):=by kernel_rfl
def fe:ze:=(.seq (.seq (rgN [Om 9 7,Om 10 0,OL 11 10,Om 12 1,OL 13 12,⟨some 14,.mm .max #[zd,zd] zd,[.t 11,.t 13],none⟩,Ob 15 .leq zd 9 14] [9,10,11,12,13,14] []) (.cond (.t 15) .skip (.exit 0))) (.seq (.block 1 (.seq (rgN [Om 18 0,Om 19 7,OK 20 xQ 18 19,Om 21 1,Om 22 7,OK 23 xQ 21 22,Ob 24 .add zh 20 23,Om 25 6,Ob 26 .add zh 24 25,Om 8 26] [6,15,18,19,20,21,22,23,24,25,26] []) (.seq (rgN [Om 27 5,Om 28 8,oq 29 (.bin .rem zh (.tmp 28) (.const (.int .u64 4294967296))) [.t 28,.c (.val (.int .u64 4294967296))],oq 30 (.conv zh zD) [.t 29],oq 31 (.mkslice 1 1 [.val (.int .u32 0)] [0]) [.t 30],oq 32 (.append 1 4) [.t 27,.t 31],Om 5 32] [27,28,29,30,31,32] []) (rgN [Om 33 8,oq 34 (.bin .quo zh (.tmp 33) (.const (.int .u64 4294967296))) [.t 33,.c (.val (.int .u64 4294967296))],Om 6 34] [8,33,34] [])))) (rgN [Om 16 7,Oj 17 .add zd 16 1,Om 7 17] [16,17] [])))
def Yr:ze:=(.seq (rgN [Om 35 5,Ok 36 uR 35,Om 4 36] [0,1,5,6,7,15,35,36] []) .ret)
def Nn:ze:=(.seq (rgN [oq 4 .mov [.c zA]] [4] []) (.seq (rgN [oq 5 .mov [.c zA]] [] []) (.seq (rgN [oq 6 .mov [.c (.val (.int .u64 0))]] [] []) (.seq (.seq (rgN [Oc 7 0] [] []) (.block 0 (.loop fe))) Yr))))
def Mc:List zE:=[.t 4]
theorem aal:zt Try.prog rc=some (bare Nn,Mc,37):=by kernel_rfl
def fi:ze:=(.seq (.seq (rgN [Om 14 8,Om 15 0,OL 16 15,Ob 17 .lss zd 14 16] [14,15,16] []) (.cond (.t 17) .skip (.exit 0))) (.seq (.block 1 (.seq (rgN [Om 20 0,Om 21 8,OK 22 xQ 20 21,oq 23 (.bin .add zh (.const (.int .u64 4294967296)) (.tmp 22)) [.c (.val (.int .u64 4294967296)),.t 22],Om 24 1,Om 25 8,OK 26 xQ 24 25,Ob 27 .sub zh 23 26,Om 28 7,Ob 29 .sub zh 27 28,Om 9 29] [7,17,20,21,22,23,24,25,26,27,28,29] []) (.seq (rgN [Om 30 6,Om 31 9,oq 32 (.bin .rem zh (.tmp 31) (.const (.int .u64 4294967296))) [.t 31,.c (.val (.int .u64 4294967296))],oq 33 (.conv zh zD) [.t 32],oq 34 (.mkslice 1 1 [.val (.int .u32 0)] [0]) [.t 33],oq 35 (.append 1 4) [.t 30,.t 34],Om 6 35] [30,31,32,33,34,35] []) (rgN [Om 36 9,oq 37 (.bin .quo zh (.tmp 36) (.const (.int .u64 4294967296))) [.t 36,.c (.val (.int .u64 4294967296))],oq 38 (.bin .sub zh (.const (.int .u64 1)) (.tmp 37)) [.c (.val (.int .u64 1)),.t 37],Om 7 38] [9,36,37,38] [])))) (rgN [Om 18 8,Oj 19 .add zd 18 1,Om 8 19] [18,19] [])))
def Yv:ze:=(.seq (rgN [Om 39 6,Ok 40 uR 39,Om 4 40,oq 5 .mov [.c (bv true)]] [0,1,6,7,8,17,39,40] []) .ret)
def Ns:ze:=(.seq (rgN [oq 4 .mov [.c zA],oq 5 .mov [.c (bv false)]] [4,5] []) (.seq (.seq (rgN [Om 10 0,Om 11 1,OK 12 c8 10 11,Oj 13 .lss zd 12 0] [10,11,12] []) (.cond (.t 13) (.seq (rgN [oq 4 .mov [.c zA],oq 5 .mov [.c (bv false)]] [0,1,13] []) .ret) .skip)) (.seq (rgN [oq 6 .mov [.c zA]] [13] []) (.seq (rgN [oq 7 .mov [.c (.val (.int .u64 0))]] [] []) (.seq (.seq (rgN [Oc 8 0] [] []) (.block 0 (.loop fi))) Yv)))))
def Uv:List zE:=[.t 4,.t 5]
theorem aaq:zt Try.prog gf=some (bare Ns,Uv,41):=by kernel_rfl
def gX:ze:=(.seq (rgN [OB 1 0,Oc 2 0] [0,2] []) (.seq (.block 0 (.seq (rgN [OF 4 1 1,Ol 5 4,OL 6 5,Oj 7 .eql zd 6 0,Om 3 7] [4,5,6,7] []) (.cond (.t 3) (.seq (rgN [Oc 2 0] [1,3] [1]) .ret) (.seq (rgN [OF 9 0 1,Ol 10 9,Om 8 10] [1,3,9,10] [1]) (.cond (.t 8) (.seq (rgN [Oc 2 (-1)] [8] []) .ret) .skip))))) (.seq (rgN [Oc 2 1] [8] []) .ret)))
def f9:List zE:=[.t 2]
theorem Cj:zt Try.prog wE=some (bare gX,f9,11):=by kernel_rfl
def U0:ze:=(.seq (rgN [oq 2 .mov [.c (bv false)]] [2] []) (.seq (rgN [Om 3 0,Ok 4 xt 3,OL 5 4,Om 6 0,OL 7 6,Ob 8 .eql zd 5 7,Om 2 8] [0,3,4,5,6,7,8] []) .ret))
def TA:List zE:=[.t 2]
theorem Ff:zt Try.prog ja=some (bare U0,TA,9):=by kernel_rfl
def Yi:ze:=(.seq (rgN [OB 1 0,oq 2 (.alloc [bv false,bv false]) []] [0] []) (.seq (rgN [OF 3 0 1,Ol 4 3,OF 5 1 1,Ol 6 5,OL 7 6,Oj 8 .eql zd 7 0,oq 9 (.build [bv false,bv false] [(0,1),(1,1)]) [.t 4,.t 8],Oz 2 2 9] [1,3,4,5,6,7,8,9] [1]) .ret))
def Xa:List zE:=[.cell 2 (some 2)]
theorem Ka:zt Try.prog gQ=some (bare Yi,Xa,10):=by kernel_rfl
def po:ze:=(.seq (rgN [Ob 24 .lss zd 23 22] [] []) (.seq (.cond (.t 24) .skip (.exit 0)) (.seq (.block 1 (.seq (rgN [Om 25 23,Om 5 25] [24,25] []) (.seq (rgN [Om 26 0,OL 27 26,Oj 28 .sub zd 27 1,Om 29 5,Ob 30 .sub zd 28 29,Om 6 30] [5,26,27,28,29,30] []) (.seq (.seq (rgD [Om 31 0,Om 32 6,Oi 33 1 31 32,Ol 34 33,Om 35 1,Om 36 6,Oi 37 1 35 36,Ol 38 37,Ob 39 .lss zD 34 38] [31,32,33,34,35,36,37,38] []) (.cond (.t 39) (.seq (rgN [Oc 4 (-1)] [0,1,22,23,6,39] []) .ret) .skip)) (.seq (rgD [Om 40 0,Om 41 6,Oi 42 1 40 41,Ol 43 42,Om 44 1,Om 45 6,Oi 46 1 44 45,Ol 47 46,Ob 48 .gtr zD 43 47] [6,39,40,41,42,43,44,45,46,47] []) (.cond (.t 48) (.seq (rgN [Oc 4 1] [0,1,22,23,48] []) .ret) .skip)))))) (rgN [Oj 49 .add zd 23 1,Om 23 49] [48,49] []))))
def Yj:ze:=(.seq (rgN [Oc 4 0] [0,1,22,23,24] []) .ret)
def Nd:ze:=(.seq (rgN [Oc 4 0] [4] []) (.seq (rgN [Om 7 0,Ok 8 xt 7,Om 9 1,Ok 10 xt 9,Om 0 8,Om 1 10] [7,8,9,10] []) (.seq (.seq (rgN [Om 11 0,OL 12 11,Om 13 1,OL 14 13,Ob 15 .neq zd 12 14] [11,12,13,14] []) (.cond (.t 15) (.seq (.seq (rgN [Om 16 0,OL 17 16,Om 18 1,OL 19 18,Ob 20 .lss zd 17 19] [0,1,15,16,17,18,19] []) (.cond (.t 20) (.seq (rgN [Oc 4 (-1)] [20] []) .ret) .skip)) (.seq (rgN [Oc 4 1] [20] []) .ret)) .skip)) (.seq (.seq (rgN [Om 21 0,OL 22 21,Oc 23 0] [15,21] []) (.block 0 (.loop po))) Yj))))
def lC:List zE:=[.t 4]
theorem aaa:zt Try.prog qB=some (bare Nd,lC,50):=by kernel_rfl
def gZ:ze:=(.seq (.seq (rgN [Om 12 1,OL 13 12,Oj 14 .gtr zd 13 0] [12,13] []) (.cond (.t 14) .skip (.exit 0))) (.block 1 (.seq (rgN [Om 16 0,Om 17 1,OK 18 s7 16 17,Om 15 18,Oe 19 0 15,Oe 20 1 15,Oe 21 2 15,Om 5 19,Om 6 20,Om 7 21] [14,16,17,18,15,19,20,21,5] []) (.seq (.seq (rgN [Om 22 7,Oj 23 .neq z8 22 0] [7,22] []) (.cond (.t 23) (.exit 0) .skip)) (rgN [Om 24 1,Om 25 6,Om 0 24,Om 1 25] [6,23,24,25] [])))))
def Yl:ze:=(.seq (rgN [Om 26 0,Om 4 26] [0,1,6,23,14,26] []) .ret)
def Nf:ze:=(.seq (rgN [oq 4 .mov [.c zA]] [4] []) (.seq (rgN [Om 8 0,oq 9 (.call lj) [.t 8,.c zA],Om 10 1,oq 11 (.call lj) [.t 10,.c zA],Om 0 9,Om 1 11] [8,9,10,11] []) (.seq (.block 0 (.loop gZ)) Yl)))
def N5:List zE:=[.t 4]
theorem aab:zt Try.prog cY=some (bare Nf,N5,27):=by kernel_rfl
def dz:ze:=(.seq (rgN [oq 2 .mov [.c zA]] [2] []) (.seq (rgN [Om 3 0,oq 4 (.conv zh zD) [.t 3],Om 5 0,oq 6 (.bin .shr zh (.tmp 5) (.const (.int .u64 32))) [.t 5,.c (.val (.int .u64 32))],oq 7 (.conv zh zD) [.t 6],oq 8 (.mkslice 1 2 [.val (.int .u32 0)] [0,1]) [.t 4,.t 7],Ok 9 xt 8,Om 2 9] [0,3,4,5,6,7,8,9] []) .ret))
def cm:List zE:=[.t 2]
theorem QY:zt Try.prog vD=some (bare dz,cm,10):=by kernel_rfl
def SU:ze:=(.seq (rgN [Oa 6] [] []) (.seq (rgN [Om 10 0,Om 11 1,Om 12 2,oq 13 (.call gP) [.t 10,.t 11,.t 12],Om 9 13,Oe 14 0 9,Oe 15 1 9,Oa 7,Oz 3 7 14,Om 8 15] [0,1,2,10,11,12,13,9,14,15,8] []) (.seq (rgN [On 16 3 7,Oz 3 6 16] [7,16] [7]) .ret)))
def Qg:List zE:=[.cell 6 (some 3)]
theorem Ck:zt Try.prog t7=some (bare SU,Qg,17):=by kernel_rfl
def Zg:ze:=(.seq (rgN [oq 2 .mov [.c zA]] [2] []) (.seq (.seq (rgN [Om 3 0,Oj 4 .lss xn 3 0] [3] []) (.cond (.t 4) (.seq (rgN [Om 5 0,Oj 6 .add xn 5 1,oq 7 (.un .neg) [.t 6],oq 8 (.conv xn zh) [.t 7],oq 9 (.bin .add zh (.tmp 8) (.const (.int .u64 1))) [.t 8,.c (.val (.int .u64 1))],Ok 10 vD 9,Om 2 10] [0,4,5,6,7,8,9,10] []) .ret) .skip)) (.seq (rgN [Om 11 0,oq 12 (.conv xn zh) [.t 11],Ok 13 vD 12,Om 2 13] [0,4,11,12,13] []) .ret)))
def ZF:List zE:=[.t 2]
theorem Cl:zt Try.prog Zb=some (bare Zg,ZF,14):=by kernel_rfl
def UZ:ze:=(.seq (rgN [OB 2 0,OB 3 1,oq 4 .mov [.c zA],oq 5 .mov [.c zA]] [0,1,4,5] []) (.seq (rgD [OF 6 1 2,Ol 7 6,OF 8 2 3,Ol 9 8,OK 10 s8 7 9,OF 11 1 3,Ol 12 11,OF 13 2 2,Ol 14 13,OK 15 s8 12 14,Om 4 10,Om 5 15] [2,3,6,7,8,9,10,11,12,13,14,15] [2,3]) .ret))
def Tz:List zE:=[.t 4,.t 5]
theorem Fe:zt Try.prog k9=some (bare UZ,Tz,16):=by kernel_rfl
def g9:ze:=(.seq (rgN [Ob 24 .lss zd 23 22] [] []) (.seq (.cond (.t 24) .skip (.exit 2)) (.seq (.block 3 (.seq (rgN [Om 25 23,Om 8 25] [24,25] []) (.seq (rgD [Om 26 0,Om 27 6,Oi 28 1 26 27,Ol 29 28,oq 30 (.conv zD zh) [.t 29],Om 31 1,Om 32 8,Oi 33 1 31 32,Ol 34 33,oq 35 (.conv zD zh) [.t 34],Ob 36 .mul zh 30 35,Om 37 5,Om 38 6,Om 39 8,Ob 40 .add zd 38 39,Oi 41 1 37 40,Ol 42 41,oq 43 (.conv zD zh) [.t 42],Ob 44 .add zh 36 43,Om 45 7,Ob 46 .add zh 44 45,Om 9 46] [7,26,27,28,29,30,31,32,33,34,35,36,37,38,39,40,41,42,43,44,45,46] []) (rgN [Om 47 5,Om 48 6,Om 49 8,Ob 50 .add zd 48 49,Om 51 9,oq 52 (.conv zh zD) [.t 51],Om 53 9,oq 54 (.bin .shr zh (.tmp 53) (.const (.int .u64 32))) [.t 53,.c (.val (.int .u64 32))],Oi 55 1 47 50,Oz 1 55 52,Om 7 54] [8,9,47,48,49,50,51,52,53,54,55] [])))) (rgN [Oj 56 .add zd 23 1,Om 23 56] [56] []))))
def Ym:ze:=(rgN [Om 57 5,Om 58 6,Om 59 1,OL 60 59,Ob 61 .add zd 58 60,Om 62 7,oq 63 (.conv zh zD) [.t 62],Oi 64 1 57 61,Oz 1 64 63] [6,7,22,23,24,57,58,59,60,61,62,63,64] [])
def Yn:ze:=(rgN [Oj 65 .add zd 18 1,Om 18 65] [65] [])
def fa:ze:=(.seq (rgN [Ob 19 .lss zd 18 17] [] []) (.seq (.cond (.t 19) .skip (.exit 0)) (.seq (.block 1 (.seq (rgN [Om 20 18,Om 6 20] [19,20] []) (.seq (rgN [oq 7 .mov [.c (.val (.int .u64 0))]] [] []) (.seq (.seq (rgN [Om 21 1,OL 22 21,Oc 23 0] [21] []) (.block 2 (.loop g9))) Ym)))) Yn)))
def Yo:ze:=(.seq (.region false [15] [Om 66 5,Ok 67 xt 66,Om 4 67] [0,1,5,17,18,19,66,67] []) .ret)
def Ng:ze:=(.seq (rgN [oq 4 .mov [.c zA]] [4] []) (.seq (rgN [Om 10 0,OL 11 10,Om 12 1,OL 13 12,Ob 14 .add zd 11 13,oq 15 (.mk 1 4 [.val (.int .u32 0)]) [.t 14,.t 14],Om 5 15] [10,11,12,13,14,15] []) (.seq (.seq (rgN [Om 16 0,OL 17 16,Oc 18 0] [16] []) (.block 0 (.loop fa))) Yo)))
def N6:List zE:=[.t 4]
theorem aac:zt Try.prog s8=some (bare Ng,N6,68):=by kernel_rfl
def pm:ze:=(.seq (rgN [Ob 23 .lss zd 22 21] [] []) (.seq (.cond (.t 23) .skip (.exit 0)) (.seq (.block 1 (.seq (rgN [Om 24 22,Om 7 24] [23,24] []) (.seq (rgN [Om 25 0,Om 26 7,Oi 27 1 25 26,Ol 28 27,oq 29 (.conv zD zh) [.t 28],Om 30 6,Ob 31 .add zh 29 30,Om 8 31] [6,25,26,27,28,29,30,31] []) (.seq (.seq (rgN [Om 32 7,Om 33 1,OL 34 33,Ob 35 .lss zd 32 34] [32,33,34] []) (.cond (.t 35) (rgN [Om 36 8,Om 37 1,Om 38 7,Oi 39 1 37 38,Ol 40 39,oq 41 (.conv zD zh) [.t 40],Ob 42 .add zh 36 41,Om 8 42] [35,36,37,38,39,40,41,42] []) .skip)) (rgN [Om 43 5,Om 44 7,Om 45 8,oq 46 (.conv zh zD) [.t 45],Om 47 8,oq 48 (.bin .shr zh (.tmp 47) (.const (.int .u64 32))) [.t 47,.c (.val (.int .u64 32))],Oi 49 1 43 44,Oz 1 49 46,Om 6 48] [7,8,35,43,44,45,46,47,48,49] []))))) (rgN [Oj 50 .add zd 22 1,Om 22 50] [50] []))))
def gY:ze:=(.seq (rgN [Om 51 5,Om 52 0,OL 53 52,Om 54 6,oq 55 (.conv zh zD) [.t 54],Oi 56 1 51 53,Oz 1 56 55] [0,1,6,21,22,23,51,52,53,54,55,56] []) (.seq (.region false [19] [Om 57 5,Ok 58 xt 57,Om 4 58] [5,57,58] []) .ret))
def XV:ze:=(.seq (rgN [oq 4 .mov [.c zA]] [4] []) (.seq (.seq (rgN [Om 9 0,OL 10 9,Om 11 1,OL 12 11,Ob 13 .lss zd 10 12] [9,10,11,12] []) (.cond (.t 13) (rgN [Om 14 1,Om 15 0,Om 0 14,Om 1 15] [13,14,15] []) .skip)) (.seq (rgN [Om 16 0,OL 17 16,Oj 18 .add zd 17 1,oq 19 (.mk 1 4 [.val (.int .u32 0)]) [.t 18,.t 18],Om 5 19] [13,16,17,18,19] []) (.seq (rgN [oq 6 .mov [.c (.val (.int .u64 0))]] [] []) (.seq (.seq (rgN [Om 20 0,OL 21 20,Oc 22 0] [20] []) (.block 0 (.loop pm))) gY)))))
def Us:List zE:=[.t 4]
theorem A9:zt Try.prog lj=some (bare XV,Us,59):=by kernel_rfl
def mW:ze:=(.seq (rgN [Ob 24 .lss zd 23 22] [] []) (.seq (.cond (.t 24) .skip (.exit 0)) (.seq (.block 1 (.seq (rgN [Om 25 23,Om 8 25] [24,25] []) (.seq (rgN [Om 26 0,Om 27 8,Oi 28 1 26 27,Ol 29 28,oq 30 (.conv zD zh) [.t 29],Om 31 7,Ob 32 .sub zh 30 31,Om 9 32] [7,26,27,28,29,30,31,32] []) (.seq (.seq (rgN [Om 33 8,Om 34 1,OL 35 34,Ob 36 .lss zd 33 35] [33,34,35] []) (.cond (.t 36) (rgN [Om 37 9,Om 38 1,Om 39 8,Oi 40 1 38 39,Ol 41 40,oq 42 (.conv zD zh) [.t 41],Ob 43 .sub zh 37 42,Om 9 43] [36,37,38,39,40,41,42,43] []) .skip)) (rgN [Om 44 6,Om 45 8,Om 46 9,oq 47 (.conv zh zD) [.t 46],Om 48 9,oq 49 (.bin .shr zh (.tmp 48) (.const (.int .u64 63))) [.t 48,.c (.val (.int .u64 63))],Oi 50 1 44 45,Oz 1 50 47,Om 7 49] [8,9,36,44,45,46,47,48,49,50] []))))) (rgN [Oj 51 .add zd 23 1,Om 23 51] [51] []))))
def Yp:ze:=(.seq (.region false [20] [Om 52 6,Ok 53 xt 52,Om 4 53,oq 5 .mov [.c (bv true)]] [0,1,6,7,22,23,24,52,53] []) .ret)
def Nh:ze:=(.seq (rgN [oq 4 .mov [.c zA],oq 5 .mov [.c (bv false)]] [4,5] []) (.seq (rgN [Om 10 0,Ok 11 xt 10,Om 12 1,Ok 13 xt 12,Om 0 11,Om 1 13] [10,11,12,13] []) (.seq (.seq (rgN [Om 14 0,Om 15 1,OK 16 qB 14 15,Oj 17 .lss zd 16 0] [14,15,16] []) (.cond (.t 17) (.seq (rgN [oq 4 .mov [.c zA],oq 5 .mov [.c (bv false)]] [0,1,17] []) .ret) .skip)) (.seq (rgN [Om 18 0,OL 19 18,oq 20 (.mk 1 4 [.val (.int .u32 0)]) [.t 19,.t 19],Om 6 20] [17,18,19,20] []) (.seq (rgN [oq 7 .mov [.c (.val (.int .u64 0))]] [] []) (.seq (.seq (rgN [Om 21 0,OL 22 21,Oc 23 0] [21] []) (.block 0 (.loop mW))) Yp))))))
def Ut:List zE:=[.t 4,.t 5]
theorem aad:zt Try.prog cZ=some (bare Nh,Ut,54):=by kernel_rfl
def Na:ze:=(.seq (rgN [OB 2 0,OB 3 1,Oa 4] [0,1] []) (.seq (rgD [OF 5 0 2,Ol 6 5,OF 7 0 3,Ol 8 7,Ob 9 .neq uu 6 8,OF 10 1 2,Ol 11 10,OF 12 1 3,Ol 13 12,OK 14 s8 11 13,OF 15 2 2,Ol 16 15,OF 17 2 3,Ol 18 17,OK 19 s8 16 18,oq 20 (.call t7) [.t 9,.t 14,.t 19],Oz 3 4 20] [2,3,5,6,7,8,9,10,11,12,13,14,15,16,17,18,19,20] [2,3]) .ret))
def N2:List zE:=[.cell 4 (some 3)]
theorem A6:zt Try.prog w8=some (bare Na,N2,21):=by kernel_rfl
def q9:ze:=(rgD [Ol 5 1,Om 6 0,Ol 7 1,Om 8 0,Oi 9 3 7 8,On 10 3 9,Ol 11 2,Ol 12 3,Oi 13 3 11 12,On 14 3 13,OK 15 uq 10 14,Oi 16 3 5 6,Oz 3 16 15] [0,5,6,7,8,9,10,11,12,13,14,15,16] [])
def pN:List zE:=[]
theorem eL:zt Try.prog wd=some (bare q9,pN,17):=by kernel_rfl
def Nc:ze:=(.seq (rgN [OB 2 0,OB 3 1,Oa 4] [0,1] []) (.seq (rgD [On 5 3 2,On 6 3 3,Ok 7 qy 6,OK 8 uq 5 7,Oz 3 4 8] [2,3,5,6,7,8] [2,3]) .ret))
def N4:List zE:=[.cell 4 (some 3)]
theorem A8:zt Try.prog qz=some (bare Nc,N4,9):=by kernel_rfl
def bm:ze:=(.seq (rgN [OB 1 0,Oa 2] [0] []) (.seq (rgN [OF 3 0 1,Ol 4 3,oq 5 (.un .not) [.t 4],Om 6 5,VF 7 1 1 6,Vl 8 7 6,VL 9 8 6,Vj 10 .gtr zd 9 0 6,Oq 11 6 10,OF 12 1 1,Ol 13 12,OF 14 2 1,Ol 15 14,⟨some 16,.build zF [(0,1),(1,1),(2,1)],[.t 11,.t 13,.t 15],none⟩,Oz 3 2 16] [1,3,4,5,6,7,8,9,10,11,12,13,14,15,16] [1]) .ret))
def bP:List zE:=[.cell 2 (some 3)]
theorem aah:zt Try.prog c6=some (bare bm,bP,17):=by kernel_rfl
def mI:ze:=(.seq (.seq (rgN [Om 27 10,Oj 28 .geq zd 27 0] [27] []) (.cond (.t 28) .skip (.exit 0))) (.seq (.block 1 (.seq (rgN [Om 31 8,Om 32 8,OK 33 rc 31 32,Om 8 33] [28,31,32,33] []) (.seq (rgN [Om 34 9,Om 35 9,OK 36 rc 34 35,Om 37 0,Om 38 10,OK 39 c7 37 38,Ok 40 ur 39,OK 41 rc 36 40,Om 9 41] [34,35,36,37,38,39,40,41] []) (.seq (rgN [Om 42 9,Om 43 1,OK 44 c8 42 43,Oj 45 .geq zd 44 0] [42,43,44] []) (.cond (.t 45) (.seq (rgN [Om 47 9,Om 48 1,OK 49 gf 47 48,Om 46 49,Oe 50 0 46,Oe 51 1 46,Om 9 50] [45,47,48,49,46,50,51] []) (rgN [Om 52 8,oq 53 (.call ur) [.c (.val (.int .u64 1))],OK 54 rc 52 53,Om 8 54] [52,53,54] [])) .skip))))) (rgN [Om 29 10,Oj 30 .sub zd 29 1,Om 10 30] [45,29,30] [])))
def eX:ze:=(.seq (rgN [Om 55 8,Om 56 9,Om 4 55,Om 5 56,Oc 6 0] [0,1,8,9,10,28,55,56] []) .ret)
def Yt:ze:=(.seq (rgN [oq 4 .mov [.c zA],oq 5 .mov [.c zA],Oc 6 0] [4,5,6] []) (.seq (.seq (rgN [Om 11 1,OL 12 11,Oj 13 .eql zd 12 0] [11,12] []) (.cond (.t 13) (.seq (rgN [oq 4 .mov [.c zA],oq 5 .mov [.c zA],Oc 6 8] [0,1,13] []) .ret) .skip)) (.seq (rgN [Om 14 0,Ok 15 gS 14,Om 16 1,Ok 17 gS 16,⟨some 18,.mm .max #[zd,zd] zd,[.c (iv 1),.t 17],none⟩,Ob 19 .sub zd 15 18,Oj 20 .add zd 19 1,⟨some 21,.mm .max #[zd,zd] zd,[.c (iv 0),.t 20],none⟩,Om 7 21] [13,14,15,16,17,18,19,20,21] []) (.seq (rgN [oq 8 .mov [.c zA]] [] []) (.seq (rgN [Om 22 0,Om 23 7,OK 24 Zc 22 23,Om 9 24] [22,23,24] []) (.seq (.seq (rgN [Om 25 7,Oj 26 .sub zd 25 1,Om 10 26] [7,25,26] []) (.block 0 (.loop mI))) eX))))))
def Xb:List zE:=[.t 4,.t 5,.t 6]
theorem Kc:zt Try.prog qY=some (bare Yt,Xb,57):=by kernel_rfl
def nY:ze:=(.seq (.seq (rgN [Om 3 0,OL 4 3,Oj 5 .gtr zd 4 0,Om 6 5,Vm 7 0 6,Vm 8 0 6,VL 9 8 6,Vj 10 .sub zd 9 1 6,Vi 11 1 7 10 6,Vl 12 11 6,⟨some 13,.bin .eql zD (.tmp 12) (.const (.int .u32 0)),[.t 12,.c (.val (.int .u32 0))],some (6,true)⟩,Oq 14 6 13] [3,4,5,6,7,8,9,10,11,12,13] []) (.cond (.t 14) .skip (.exit 0))) (.block 1 (rgN [Om 15 0,Om 16 0,OL 17 16,Oj 18 .sub zd 17 1,oq 19 (.slice 1 false true false) [.t 15,.t 18],Om 0 19] [14,15,16,17,18,19] [])))
def jV:ze:=(.seq (rgN [oq 20 (.mkslice 1 0 [.val (.int .u32 0)] []) [],Om 21 0,oq 22 (.append 1 4) [.t 20,.t 21],Om 2 22] [0,14,20,21,22] []) .ret)
def SZ:ze:=(.seq (rgN [oq 2 .mov [.c zA]] [2] []) (.seq (.block 0 (.loop nY)) jV))
def ZJ:List zE:=[.t 2]
theorem Ct:zt Try.prog uR=some (bare SZ,ZJ,23):=by kernel_rfl
def ko:ze:=(.seq (rgN [Ob 8 .lss zd 7 6] [] []) (.seq (.cond (.t 8) .skip (.exit 0)) (.seq (.block 1 (.seq (rgN [Oi 9 3 5 7,On 10 3 9,Oa 4,Oz 3 4 10] [8,9,10] []) (.seq (rgN [On 11 3 4,Ok 12 t6 11,oq 13 (.un .not) [.t 12]] [4,11,12] [4]) (.cond (.t 13) (.seq (rgN [oq 2 .mov [.c (bv false)]] [5,6,7,13] []) .ret) .skip)))) (rgN [Oj 14 .add zd 7 1,Om 7 14] [13,14] []))))
def dK:ze:=(.seq (rgN [oq 2 .mov [.c (bv true)]] [5,6,7,8] []) .ret)
def U7:ze:=(.seq (rgN [oq 2 .mov [.c (bv false)]] [2] []) (.seq (.seq (rgN [Om 5 0,OL 6 5,Oc 7 0] [0] []) (.block 0 (.loop ko))) dK))
def ct:List zE:=[.t 2]
theorem Fq:zt Try.prog je=some (bare U7,ct,15):=by kernel_rfl
def p8:ze:=(.seq (rgN [Ob 44 .lss zd 43 42] [] []) (.seq (.cond (.t 44) .skip (.exit 0)) (.seq (.block 1 (.seq (rgN [Om 45 43,Oi 46 3 41 43,On 47 3 46,Oa 10,Om 9 45,Oz 3 10 47] [44,45,46,47] []) (rgN [Om 48 8,Om 49 9,On 50 3 10,On 51 3 6,OK 52 w8 50 51,Oi 53 3 48 49,Oz 3 53 52] [10,9,48,49,50,51,52,53] [10]))) (rgN [Oj 54 .add zd 43 1,Om 43 54] [54] []))))
def re:ze:=(.seq (rgN [Ob 74 .lss zd 73 72] [] []) (.seq (.cond (.t 74) .skip (.exit 2)) (.seq (.block 3 (.seq (rgN [Om 75 73,Om 12 75] [74,75] []) (.seq (rgN [Om 76 12,Om 77 1,Ob 78 .neq zd 76 77] [76,77] []) (.cond (.t 78) (rgD [ox (.start [80,81,82,83,84,85,86,87,88,89,90,91,92,93,94,95,96,97,98,99,100,101,102,103,104,105,106,107,79,108,109,110]) [],Om 80 0,ON 81 80,OF 82 2 81,Ol 83 82,Om 84 12,Om 85 0,ON 86 85,OF 87 3 86,Ol 88 87,Om 89 12,Om 90 0,ON 91 90,OF 92 2 91,Ol 93 92,Om 94 12,Oi 95 1 93 94,Ol 96 95,Om 97 0,ON 98 97,OF 99 3 98,Ol 100 99,Om 101 12,Oi 102 3 100 101,On 103 3 102,Om 104 2,Om 105 8,On 106 3 11,oq 107 (.call rY) [.t 96,.t 103,.t 104,.t 105,.t 106],Om 79 107,Oe 108 0 79,Oe 109 1 79,Oi 110 1 83 84,Oz 1 110 108,oq 89 (.chk (.mov)) [.t 12],oq 109 (.chk (.extract 1)) [.t 79],Oi 111 3 88 89,Oz 3 111 109] [12,78,80,81,82,83,84,85,86,87,88,89,90,91,92,93,94,95,96,97,98,99,100,101,102,103,104,105,106,107,79,108,109,110,111] []) .skip)))) (rgN [Oj 112 .add zd 73 1,Om 73 112] [12,78,112] []))))
def gn:ze:=(.seq (rgN [Om 113 0,ON 114 113,OF 115 4 114,Ol 116 115,Om 117 2,Oi 118 3 116 117,On 119 3 118,Oa 13,Oz 3 13 119] [72,73,74,113,114,115,116,117,118,119] []) (.seq (rgD [ox (.start [121,122,123,124,125,126,127,128,129,130,131,132,133,120,134,135,136,137]) [],Om 121 0,Om 122 0,ON 123 122,OF 124 4 123,Ol 125 124,Om 126 0,ON 127 126,OF 128 5 127,On 129 3 128,Om 130 2,Om 131 8,On 132 3 11,oq 133 (.call rY) [.t 125,.t 129,.t 130,.t 131,.t 132],Om 120 133,Oe 134 0 120,Oe 135 1 120,ON 136 121,OF 137 4 136,Oz 1 137 134,oq 135 (.chk (.extract 1)) [.t 120]] [121,122,123,124,125,126,127,128,129,130,131,132,133,120,134,135,136,137] []) (.seq (rgD [Om 138 0,Om 139 0,ON 140 139,OF 141 5 140,On 142 3 141,On 143 3 13,On 144 3 11,OK 145 w8 143 144,OK 146 uq 142 145,ON 147 138,OF 148 5 147,Oz 3 148 146] [13,138,139,140,141,142,143,144,145,146,147,148] [13]) (.seq (rgD [ox (.start [149,150,151,152,153,154,155,156,157,158,159,160,161]) [],Om 149 0,ON 150 149,OF 151 2 150,Ol 152 151,Om 153 1,Om 154 0,ON 155 154,OF 156 3 155,Ol 157 156,Om 158 1,Om 159 8,On 160 3 11,Oi 161 1 152 153,Oz 1 161 159,oq 158 (.chk (.mov)) [.t 1],oq 160 (.chk (.load (some 3))) [.t 11],Oi 162 3 157 158,Oz 3 162 160] [8,11,149,150,151,152,153,154,155,156,157,158,159,160,161,162] [11]) (rgD [ox (.start [163,164,165,166,167,168,169,170,171,172,173,174,175,176,177,178,179,180,181,182,183,184,185,186,187]) [],Om 163 0,ON 164 163,OF 165 8 164,Ol 166 165,Om 167 1,Om 168 0,ON 169 168,OF 170 9 169,Ol 171 170,Om 172 2,Om 173 0,ON 174 173,OF 175 9 174,Ol 176 175,Om 177 2,Oi 178 1 176 177,Ol 179 178,Om 180 0,ON 181 180,OF 182 8 181,Ol 183 182,Om 184 1,Oi 185 1 183 184,Ol 186 185,Oi 187 1 166 167,Oz 1 187 179,oq 172 (.chk (.mov)) [.t 2],Oi 188 1 171 172,Oz 1 188 186] [0,1,2,163,164,165,166,167,168,169,170,171,172,173,174,175,176,177,178,179,180,181,182,183,184,185,186,187,188] [])))))
def go:ze:=(.seq (rgN [Om 55 8,Om 56 2,On 57 3 6,Oi 58 3 55 56,Oz 3 58 57] [41,42,43,44,55,56,57,58] []) (.seq (.region true [34] [Om 59 0,ON 60 59,OF 61 3 60,Ol 62 61,Om 63 1,Oi 64 3 62 63,On 65 3 64,On 66 3 6,OK 67 w8 65 66,Oa 11,Oz 3 11 67] [6,59,60,61,62,63,64,65,66,67] [6]) (.seq (.seq (rgN [Om 68 0,ON 69 68,OF 70 2 69,Ol 71 70,OL 72 71,Oc 73 0] [68,69,70,71] []) (.block 2 (.loop re))) gn)))
def an:ze:=(.seq (rgD [ox (.start [15,16,17,18,19,20,21,22,23,24,25,26,14,27,28,6]) [],oq 15 (.call zI) [.c (iv 1)],Om 16 0,ON 17 16,OF 18 2 17,Ol 19 18,Om 20 1,Oi 21 1 19 20,Ol 22 21,Om 23 2,Oi 24 3 22 23,On 25 3 24,OK 26 li 15 25,Om 14 26,Oe 27 0 14,Oe 28 1 14,Oa 6,Oz 3 6 27,oq 28 (.chk (.extract 1)) [.t 14],Om 7 28] [15,16,17,18,19,20,21,22,23,24,25,26,14,27,28,7] []) (.seq (rgN [Om 29 0,ON 30 29,OF 31 9 30,Ol 32 31,OL 33 32,⟨some 34,.mk 3 56 zF,[.t 33,.t 33],none⟩,Om 8 34] [29,30,31,32,33,34] []) (.seq (.seq (rgN [Om 35 0,ON 36 35,OF 37 2 36,Ol 38 37,Om 39 1,Oi 40 1 38 39,Ol 41 40,OL 42 41,Oc 43 0] [35,36,37,38,39,40] []) (.block 0 (.loop p8))) go)))
def aS:List zE:=[]
theorem PW:zt Try.prog uc=some (bare an,aS,189):=by kernel_rfl
def vG:ze:=(.seq (rgN [Ob 42 .lss zd 41 40] [] []) (.seq (.cond (.t 42) .skip (.exit 2)) (.seq (.block 3 (.seq (rgN [Om 43 41,Oi 44 3 39 41,On 45 3 44,Oa 6,Om 5 43,Oz 3 6 45] [42,43,44,45] []) (.seq (rgN [On 46 3 6,Ok 47 wE 46,Oj 48 .neq zd 47 0] [6,46,47] [6]) (.cond (.t 48) (.seq (rgN [Om 49 0,Om 50 3,Om 51 5,oq 52 (.callI uc) [.t 49,.t 50,.t 51]] [3,39,40,41,5,48,49,50,51,52] []) (.exit 2)) .skip)))) (rgN [Oj 53 .add zd 41 1,Om 41 53] [5,48,53] []))))
def ss:ze:=(.exit 0)
def vE:ze:=(rgN [Oj 54 .add zd 25 1,Om 25 54] [3,32,54] [])
def xv:ze:=(.seq (rgN [Ob 26 .lss zd 25 24] [] []) (.seq (.cond (.t 26) .skip (.exit 0)) (.seq (.block 1 (.seq (rgN [Om 27 25,Oi 28 1 23 25,Ol 29 28,Om 3 27,Om 4 29] [26,27,28,29] []) (.seq (.seq (rgN [Om 30 4,Om 31 2,Ob 32 .neq zd 30 31] [4,30,31] []) (.cond (.t 32) (.exit 1) .skip)) (.seq (.seq (rgN [Om 33 0,ON 34 33,OF 35 2 34,Ol 36 35,Om 37 3,Oi 38 1 36 37,Ol 39 38,OL 40 39,Oc 41 0] [23,24,25,32,33,34,35,36,37,38] []) (.block 2 (.loop vG))) ss)))) vE)))
def vH:ze:=(.seq (rgN [Ob 74 .lss zd 73 72] [] []) (.seq (.cond (.t 74) .skip (.exit 6)) (.seq (.block 7 (.seq (rgN [Om 75 73,Oi 76 1 71 73,Ol 77 76,Om 9 75,Om 10 77] [74,75,76,77] []) (rgD [ox (.start [78,79,80,81,82,83,84,85,86,87,88,89,90,91,92]) [],Om 78 0,ON 79 78,OF 80 2 79,Ol 81 80,Om 82 9,⟨some 83,.mkslice 3 0 zF [],[],none⟩,Om 84 10,Om 85 7,oq 86 (.slice 3 false true false) [.t 84,.t 85],Om 88 10,Om 89 7,Oj 90 .add zd 89 1,oq 91 (.slice 3 true false false) [.t 88,.t 90],oq 87 (.append 3 56) [.t 83,.t 86],oq 78 (.chk (.mov)) [.t 0],oq 79 (.chk (.nilChk)) [.t 78],oq 80 (.chk (.faddr 2)) [.t 79],oq 81 (.chk (.load none)) [.t 80],oq 82 (.chk (.mov)) [.t 9],oq 88 (.chk (.mov)) [.t 10],oq 89 (.chk (.mov)) [.t 7],⟨some 90,.chk (.bin .add zd (.tmp 89) (kc 1)),[.t 89,.c (iv 1)],none⟩,oq 91 (.chk (.slice 3 true false false)) [.t 88,.t 90],oq 92 (.append 3 56) [.t 87,.t 91],oq 78 (.chk (.mov)) [.t 0],oq 79 (.chk (.nilChk)) [.t 78],oq 80 (.chk (.faddr 2)) [.t 79],oq 81 (.chk (.load none)) [.t 80],oq 82 (.chk (.mov)) [.t 9],Oi 93 1 81 82,Oz 1 93 92] [9,10,78,79,80,81,82,83,84,85,86,88,89,90,91,87,92,93] []))) (rgN [Oj 94 .add zd 73 1,Om 73 94] [94] []))))
def su:ze:=(.seq (rgD [ox (.start [95,96,97,98,99,100,101,102,103,104,105,106,107,108,109,110,111]) [],Om 95 0,oq 96 (.mkslice 1 0 [iv 0] []) [],Om 97 0,ON 98 97,OF 99 9 98,Ol 100 99,Om 101 7,oq 102 (.slice 1 false true false) [.t 100,.t 101],Om 104 0,ON 105 104,OF 106 9 105,Ol 107 106,Om 108 7,Oj 109 .add zd 108 1,oq 110 (.slice 1 true false false) [.t 107,.t 109],oq 103 (.appendU 1 8) [.t 96,.t 102],oq 95 (.chk (.mov)) [.t 0],oq 104 (.chk (.mov)) [.t 0],oq 105 (.chk (.nilChk)) [.t 104],oq 106 (.chk (.faddr 9)) [.t 105],oq 107 (.chk (.load none)) [.t 106],oq 108 (.chk (.mov)) [.t 7],⟨some 109,.chk (.bin .add zd (.tmp 108) (kc 1)),[.t 108,.c (iv 1)],none⟩,oq 110 (.chk (.slice 1 true false false)) [.t 107,.t 109],oq 111 (.appendU 1 8) [.t 103,.t 110],oq 95 (.chk (.mov)) [.t 0],ON 112 95,OF 113 9 112,Oz 1 113 111] [71,72,73,74,95,96,97,98,99,100,101,102,104,105,106,107,108,109,110,103,111,112,113] []) (.seq (rgD [ox (.start [114,115,116,117,118,119,120,121,122,123,124,125,126,127,128,129,130]) [],Om 114 0,⟨some 115,.mkslice 3 0 zF [],[],none⟩,Om 116 0,ON 117 116,OF 118 4 117,Ol 119 118,Om 120 7,oq 121 (.slice 3 false true false) [.t 119,.t 120],Om 123 0,ON 124 123,OF 125 4 124,Ol 126 125,Om 127 7,Oj 128 .add zd 127 1,oq 129 (.slice 3 true false false) [.t 126,.t 128],oq 122 (.append 3 56) [.t 115,.t 121],oq 114 (.chk (.mov)) [.t 0],oq 123 (.chk (.mov)) [.t 0],oq 124 (.chk (.nilChk)) [.t 123],oq 125 (.chk (.faddr 4)) [.t 124],oq 126 (.chk (.load none)) [.t 125],oq 127 (.chk (.mov)) [.t 7],⟨some 128,.chk (.bin .add zd (.tmp 127) (kc 1)),[.t 127,.c (iv 1)],none⟩,oq 129 (.chk (.slice 3 true false false)) [.t 126,.t 128],oq 130 (.append 3 56) [.t 122,.t 129],oq 114 (.chk (.mov)) [.t 0],ON 131 114,OF 132 4 131,Oz 1 132 130] [0,7,114,115,116,117,118,119,120,121,123,124,125,126,127,128,129,122,130,131,132] []) .ret))
def sx:ze:=(rgN [Oj 133 .add zd 60 1,Om 60 133] [7,67,133] [])
def wh:ze:=(.seq (rgN [Ob 61 .lss zd 60 59] [] []) (.seq (.cond (.t 61) .skip (.exit 4)) (.seq (.block 5 (.seq (rgN [Om 62 60,Oi 63 1 58 60,Ol 64 63,Om 7 62,Om 8 64] [61,62,63,64] []) (.seq (rgN [Om 65 8,Om 66 2,Ob 67 .eql zd 65 66] [8,65,66] []) (.cond (.t 67) (.seq (.seq (rgN [Om 68 0,ON 69 68,OF 70 2 69,Ol 71 70,OL 72 71,Oc 73 0] [2,58,59,60,67,68,69,70] []) (.block 6 (.loop vH))) su) .skip)))) sx)))
def vF:ze:=(.seq (rgN [Om 55 0,ON 56 55,OF 57 9 56,Ol 58 57,OL 59 58,Oc 60 0] [3,39,40,41,42,23,24,25,26,55,56,57] []) (.block 4 (.loop wh)))
def ux:ze:=(.seq (rgD [Om 11 0,ON 12 11,OF 13 0 12,Ol 14 13,Om 15 0,ON 16 15,OF 17 1 16,Ol 18 17,Ob 19 .add zd 14 18,Om 2 19] [11,12,13,14,15,16,17,18,19] []) (.seq (.seq (rgN [Om 20 0,ON 21 20,OF 22 8 21,Ol 23 22,OL 24 23,Oc 25 0] [20,21,22] []) (.block 0 (.loop xv))) vF))
def uK:List zE:=[]
theorem gI:zt Try.prog wZ=some (bare ux,uK,134):=by kernel_rfl
def rH:ze:=(.seq (rgN [Ob 12 .lss zd 11 10] [] []) (.seq (.cond (.t 12) .skip (.exit 0)) (.seq (.block 1 (.seq (rgN [Om 13 11,Oi 14 1 9 11,Ol 15 14,Om 4 13,Om 5 15] [12,13,14,15] []) (.seq (rgN [Om 16 0,ON 17 16,OF 18 4 17,Ol 19 18,Om 20 4,Oi 21 3 19 20,On 22 3 21,Ok 23 wE 22,Oj 24 .gtr zd 23 0,Om 25 24,Vm 26 3 25,Vj 27 .lss zd 26 0 25,Vm 28 27 25,Wm 29 5 28,Wm 30 0 28,WN 31 30 28,WF 32 9 31 28,Wl 33 32 28,Wm 34 3 28,Wi 35 1 33 34 28,Wl 36 35 28,Wb 37 .lss zd 29 36 28,Vp 38 28 37 25,Oq 39 25 38] [5,16,17,18,19,20,21,22,23,24,25,26,27,28,29,30,31,32,33,34,35,36,37,38] []) (.cond (.t 39) (rgN [Om 40 4,Om 3 40] [4,39,40] []) .skip)))) (rgN [Oj 41 .add zd 11 1,Om 11 41] [4,39,41] []))))
def mO:ze:=(.seq (rgN [Om 42 3,Om 2 42] [0,3,9,10,11,12,42] []) .ret)
def gl:ze:=(.seq (rgN [Oc 2 0] [2] []) (.seq (rgN [Oc 3 (-1)] [] []) (.seq (.seq (rgN [Om 6 0,ON 7 6,OF 8 9 7,Ol 9 8,OL 10 9,Oc 11 0] [6,7,8] []) (.block 0 (.loop rH))) mO)))
def gG:List zE:=[.t 2]
theorem UR:zt Try.prog s6=some (bare gl,gG,43):=by kernel_rfl
def qh:ze:=(.seq (rgN [Ob 18 .lss zd 17 16] [] []) (.seq (.cond (.t 18) .skip (.exit 0)) (.seq (.block 1 (.seq (rgN [Om 19 17,Oi 20 1 15 17,Ol 21 20,Om 7 19,Om 8 21] [18,19,20,21] []) (.seq (.seq (rgN [Om 22 8,Om 23 1,Oi 24 3 22 23,On 25 3 24,Ok 26 wE 25,Oj 27 .leq zd 26 0] [22,23,24,25,26] []) (.cond (.t 27) (.exit 1) .skip)) (.seq (rgD [ox (.start [29,30,31,32,33,34,35,36,37,38,39,40,28,41,42,9]) [],Om 29 0,ON 30 29,OF 31 3 30,Ol 32 31,Om 33 7,Oi 34 3 32 33,On 35 3 34,Om 36 8,Om 37 1,Oi 38 3 36 37,On 39 3 38,OK 40 li 35 39,Om 28 40,Oe 41 0 28,Oe 42 1 28,Oa 9,Oz 3 9 41,oq 42 (.chk (.extract 1)) [.t 28],Om 10 42] [8,27,29,30,31,32,33,34,35,36,37,38,39,40,28,41,42,10] []) (.seq (.seq (rgN [Om 43 5,Oj 44 .geq zd 43 0] [43] []) (.cond (.t 44) (.seq (rgN [On 45 3 9,On 46 3 6,OK 47 tD 45 46,Om 11 47] [44,45,46,47] []) (.block 2 (.seq (.seq (rgN [Om 49 11,Oj 50 .gtr zd 49 0,Om 48 50] [49,50] []) (.cond (.t 48) .skip (rgD [Om 51 11,Oj 52 .eql zd 51 0,Om 53 52,Vm 54 0 53,VN 55 54 53,VF 56 8 55 53,Vl 57 56 53,Vm 58 7 53,Vi 59 1 57 58 53,Vl 60 59 53,Vm 61 0 53,VN 62 61 53,VF 63 8 62 53,Vl 64 63 53,Vm 65 5 53,Vi 66 1 64 65 53,Vl 67 66 53,Vb 68 .gtr zd 60 67 53,Oq 69 53 68,Om 48 69] [11,51,52,53,54,55,56,57,58,59,60,61,62,63,64,65,66,67,68,69] []))) (.cond (.t 48) (.exit 1) .skip)))) .skip)) (rgD [Om 70 7,On 71 3 9,Om 5 70,Oz 3 6 71] [7,9,11,48,44,70,71] [9])))))) (rgN [Oj 72 .add zd 17 1,Om 17 72] [7,9,11,48,8,27,72] [9]))))
def lN:ze:=(.seq (rgN [Om 73 5,Om 4 73] [0,1,5,6,15,16,17,18,73] [6]) .ret)
def eS:ze:=(.seq (rgN [Oc 4 0] [4] []) (.seq (rgN [Oc 5 (-1)] [] []) (.seq (rgN [Oa 6] [] []) (.seq .skip (.seq (.seq (rgN [Om 12 0,ON 13 12,OF 14 2 13,Ol 15 14,OL 16 15,Oc 17 0] [12,13,14] []) (.block 0 (.loop qh))) lN)))))
def db:List zE:=[.t 4]
theorem T2:zt Try.prog rU=some (bare eS,db,74):=by kernel_rfl
def sB:ze:=(.seq (rgN [Ob 10 .lss zd 9 8] [] []) (.seq (.cond (.t 10) .skip (.exit 0)) (.seq (.block 1 (.seq (rgN [Om 11 9,Om 4 11] [10,11] []) (rgN [Om 12 3,Om 13 4,oq 14 (.call zI) [.c (iv 0)],Oi 15 3 12 13,Oz 3 15 14] [4,12,13,14,15] []))) (rgN [Oj 16 .add zd 9 1,Om 9 16] [16] []))))
def ku:ze:=(.seq (rgN [Om 17 3,Om 2 17] [3,8,9,10,17] []) .ret)
def dL:ze:=(.seq (rgN [oq 2 .mov [.c zA]] [2] []) (.seq (rgN [Om 5 0,⟨some 6,.mk 3 56 zF,[.t 5,.t 5],none⟩,Om 3 6] [0,5,6] []) (.seq (.seq (rgN [Om 7 3,OL 8 7,Oc 9 0] [7] []) (.block 0 (.loop sB))) ku)))
def cu:List zE:=[.t 2]
theorem TO:zt Try.prog sd=some (bare dL,cu,18):=by kernel_rfl
def Nb:ze:=(.seq (rgN [OB 1 0,Oa 2] [0] []) (.seq (rgN [OF 3 0 1,Ol 4 3,oq 5 (.un .not) [.t 4],OF 6 1 1,Ol 7 6,OF 8 2 1,Ol 9 8,oq 10 (.call t7) [.t 5,.t 7,.t 9],Oz 3 2 10] [1,3,4,5,6,7,8,9,10] [1]) .ret))
def N3:List zE:=[.cell 2 (some 3)]
theorem A7:zt Try.prog qy=some (bare Nb,N3,11):=by kernel_rfl
def agv:ze:=(.seq (.seq (rgN [Om 32 9,Om 33 0,OL 34 33,Ob 35 .lss zd 32 34] [32,33,34] []) (.cond (.t 35) .skip (.exit 4))) (.seq (.block 5 (.seq (rgN [Om 38 9,Om 39 5,Ob 40 .neq zd 38 39] [35,38,39] []) (.cond (.t 40) (rgN [Om 41 8,Om 42 0,Om 43 7,Oi 44 1 42 43,Ol 45 44,Om 46 9,Oi 47 1 45 46,Ol 48 47,oq 49 (.mkslice 1 1 [iv 0] [0]) [.t 48],oq 50 (.append 1 8) [.t 41,.t 49],Om 8 50] [40,41,42,43,44,45,46,47,48,49,50] []) .skip))) (rgN [Om 36 9,Oj 37 .add zd 36 1,Om 9 37] [40,36,37] [])))
def ahB:ze:=(rgN [Om 51 6,Om 52 8,⟨some 53,.mksliceL 1 1 [zA] [0],[.t 52],none⟩,oq 54 (.append 1 24) [.t 51,.t 53],Om 6 54] [8,9,35,51,52,53,54] [])
def ahC:ze:=(rgN [Om 30 7,Oj 31 .add zd 30 1,Om 7 31] [30,31] [])
def ag3:ze:=(.seq (.seq (rgN [Om 26 7,Om 27 0,OL 28 27,Ob 29 .lss zd 26 28] [26,27,28] []) (.cond (.t 29) .skip (.exit 2))) (.seq (.block 3 (.seq (rgN [oq 8 .mov [.c zA]] [29] []) (.seq (.seq (rgN [Oc 9 0] [] []) (.block 4 (.loop agv))) ahB))) ahC))
def ahD:ze:=(rgD [Om 55 3,Om 56 4,Om 57 0,oq 58 (.iaddrS 1) [.t 57,.c (iv 0)],Ol 59 58,Om 60 5,Oi 61 1 59 60,Ol 62 61,Ob 63 .mul xn 56 62,Om 64 6,Ok 65 agq 64,Ob 66 .mul xn 63 65,Ob 67 .add xn 55 66,Om 3 67] [6,7,29,55,56,57,58,59,60,61,62,63,64,65,66,67] [])
def ag1:ze:=(rgN [Om 68 4,oq 69 (.un .neg) [.t 68],Om 4 69] [25,68,69] [])
def ag2:ze:=(rgN [Om 17 5,Oj 18 .add zd 17 1,Om 5 18] [17,18] [])
def agw:ze:=(.seq (.seq (rgN [Om 13 5,Om 14 0,OL 15 14,Ob 16 .lss zd 13 15] [13,14,15] []) (.cond (.t 16) .skip (.exit 0))) (.seq (.block 1 (.seq (.seq (rgN [Om 19 0,oq 20 (.iaddrS 1) [.t 19,.c (iv 0)],Ol 21 20,Om 22 5,Oi 23 1 21 22,Ol 24 23,Oj 25 .neq xn 24 0] [16,19,20,21,22,23,24] []) (.cond (.t 25) (.seq (rgN [oq 6 .mov [.c zA]] [25] []) (.seq (.seq (rgN [Oc 7 1] [] []) (.block 2 (.loop ag3))) ahD)) .skip)) ag1)) ag2))
def ahE:ze:=(.seq (rgN [Om 70 3,Om 2 70] [0,3,4,5,16,70] []) .ret)
def ahw:ze:=(.seq (rgN [Oc 2 0] [2] []) (.seq (.seq (rgN [Om 10 0,OL 11 10,Oj 12 .eql zd 11 0] [10,11] []) (.cond (.t 12) (.seq (rgN [Oc 2 1] [0,12] []) .ret) .skip)) (.seq (rgN [Oc 3 0,Oc 4 1] [12] []) (.seq (.seq (rgN [Oc 5 0] [] []) (.block 0 (.loop agw))) ahE))))
def ahz:List zE:=[.t 2]
theorem aik:zt Try.prog agq=some (bare ahw,ahz,71):=by kernel_rfl
def dD:ze:=(.seq (rgN [oq 2 .mov [.c zA]] [2] []) (.seq (rgN [Om 3 0,oq 4 (.bin .rem zh (.tmp 3) (.const (.int .u64 4294967296))) [.t 3,.c (.val (.int .u64 4294967296))],oq 5 (.conv zh zD) [.t 4],Om 6 0,oq 7 (.bin .quo zh (.tmp 6) (.const (.int .u64 4294967296))) [.t 6,.c (.val (.int .u64 4294967296))],oq 8 (.conv zh zD) [.t 7],oq 9 (.mkslice 1 2 [.val (.int .u32 0)] [0,1]) [.t 5,.t 8],Ok 10 uR 9,Om 2 10] [0,3,4,5,6,7,8,9,10] []) .ret))
def co:List zE:=[.t 2]
theorem QZ:zt Try.prog ur=some (bare dD,co,11):=by kernel_rfl
def lX:ze:=(.seq (.seq (rgN [Om 7 6,Om 8 1,Ob 9 .lss zd 7 8] [7,8] []) (.cond (.t 9) .skip (.exit 0))) (.seq (.block 1 (rgN [Om 12 5,oq 13 (.mkslice 1 1 [.val (.int .u32 0)] [0]) [.c (.val (.int .u32 0))],oq 14 (.append 1 4) [.t 12,.t 13],Om 5 14] [9,12,13,14] [])) (rgN [Om 10 6,Oj 11 .add zd 10 1,Om 6 11] [10,11] [])))
def dI:ze:=(.seq (rgN [Om 15 5,Om 16 0,oq 17 (.append 1 4) [.t 15,.t 16],Ok 18 uR 17,Om 4 18] [0,1,5,6,9,15,16,17,18] []) .ret)
def U6:ze:=(.seq (rgN [oq 4 .mov [.c zA]] [4] []) (.seq (rgN [oq 5 .mov [.c zA]] [] []) (.seq (.seq (rgN [Oc 6 0] [] []) (.block 0 (.loop lX))) dI)))
def TE:List zE:=[.t 4]
theorem Fo:zt Try.prog dv=some (bare U6,TE,19):=by kernel_rfl
def lW:ze:=(.seq (.seq (rgN [Om 9 7,Om 10 0,OL 11 10,Ob 12 .leq zd 9 11] [9,10,11] []) (.cond (.t 12) .skip (.exit 0))) (.seq (.block 1 (.seq (rgN [Om 15 0,Om 16 7,OK 17 xQ 15 16,Om 18 1,Ob 19 .mul zh 17 18,Om 20 6,Ob 21 .add zh 19 20,Om 8 21] [6,12,15,16,17,18,19,20,21] []) (.seq (rgN [Om 22 5,Om 23 8,oq 24 (.bin .rem zh (.tmp 23) (.const (.int .u64 4294967296))) [.t 23,.c (.val (.int .u64 4294967296))],oq 25 (.conv zh zD) [.t 24],oq 26 (.mkslice 1 1 [.val (.int .u32 0)] [0]) [.t 25],oq 27 (.append 1 4) [.t 22,.t 26],Om 5 27] [22,23,24,25,26,27] []) (rgN [Om 28 8,oq 29 (.bin .quo zh (.tmp 28) (.const (.int .u64 4294967296))) [.t 28,.c (.val (.int .u64 4294967296))],Om 6 29] [8,28,29] [])))) (rgN [Om 13 7,Oj 14 .add zd 13 1,Om 7 14] [13,14] [])))
def dH:ze:=(.seq (rgN [Om 30 5,Ok 31 uR 30,Om 4 31] [0,1,5,6,7,12,30,31] []) .ret)
def U5:ze:=(.seq (rgN [oq 4 .mov [.c zA]] [4] []) (.seq (rgN [oq 5 .mov [.c zA]] [] []) (.seq (rgN [oq 6 .mov [.c (.val (.int .u64 0))]] [] []) (.seq (.seq (rgN [Oc 7 0] [] []) (.block 0 (.loop lW))) dH))))
def TD:List zE:=[.t 4]
theorem Fm:zt Try.prog du=some (bare U5,TD,32):=by kernel_rfl
def dF:ze:=(.seq (rgN [oq 4 .mov [.c (.val (.int .u64 0))]] [4] []) (.seq (.seq (rgN [Om 5 1,Om 6 0,OL 7 6,Ob 8 .lss zd 5 7] [5,6,7] []) (.cond (.t 8) (.seq (rgN [Om 9 0,Om 10 1,Oi 11 1 9 10,Ol 12 11,oq 13 (.conv zD zh) [.t 12],Om 4 13] [0,1,8,9,10,11,12,13] []) .ret) .skip)) (.seq (rgN [oq 4 .mov [.c (.val (.int .u64 0))]] [0,1,8] []) .ret)))
def cr:List zE:=[.t 4]
theorem Fl:zt Try.prog xQ=some (bare dF,cr,14):=by kernel_rfl
def ff:ze:=(.seq (.seq (rgN [Om 12 5,Oj 13 .geq zd 12 0] [12] []) (.cond (.t 13) .skip (.exit 0))) (.seq (.block 1 (.seq (.seq (rgN [Om 16 0,Om 17 5,OK 18 xQ 16 17,Om 19 1,Om 20 5,OK 21 xQ 19 20,Ob 22 .lss zh 18 21] [13,16,17,18,19,20,21] []) (.cond (.t 22) (.seq (rgN [Oc 4 (-1)] [0,1,5,22] []) .ret) .skip)) (.seq (rgN [Om 23 0,Om 24 5,OK 25 xQ 23 24,Om 26 1,Om 27 5,OK 28 xQ 26 27,Ob 29 .gtr zh 25 28] [22,23,24,25,26,27,28] []) (.cond (.t 29) (.seq (rgN [Oc 4 1] [0,1,5,29] []) .ret) .skip)))) (rgN [Om 14 5,Oj 15 .sub zd 14 1,Om 5 15] [29,14,15] [])))
def Ys:ze:=(.seq (rgN [Oc 4 0] [0,1,5,13] []) .ret)
def Np:ze:=(.seq (rgN [Oc 4 0] [4] []) (.seq (.seq (rgN [Om 6 0,OL 7 6,Om 8 1,OL 9 8,⟨some 10,.mm .max #[zd,zd] zd,[.t 7,.t 9],none⟩,Oj 11 .sub zd 10 1,Om 5 11] [6,7,8,9,10,11] []) (.block 0 (.loop ff))) Ys))
def bQ:List zE:=[.t 4]
theorem aan:zt Try.prog c8=some (bare Np,bQ,30):=by kernel_rfl
def nU:ze:=(.seq (.seq (rgN [Om 6 3,Oj 7 .gtr zd 6 0,Om 8 7,Vm 9 0 8,Vm 10 3 8,Vj 11 .sub zd 10 1 8,Vi 12 1 9 11 8,Vl 13 12 8,⟨some 14,.bin .eql zD (.tmp 13) (.const (.int .u32 0)),[.t 13,.c (.val (.int .u32 0))],some (8,true)⟩,Oq 15 8 14] [6,7,8,9,10,11,12,13,14] []) (.cond (.t 15) .skip (.exit 0))) (.block 1 (rgN [Om 16 3,Oj 17 .sub zd 16 1,Om 3 17] [15,16,17] [])))
def jS:ze:=(.seq (rgN [Om 18 0,Om 19 3,Om 20 3,oq 21 (.slice 1 false true true) [.t 18,.t 19,.t 20],Om 2 21] [0,3,15,18,19,20,21] []) .ret)
def SV:ze:=(.seq (rgN [oq 2 .mov [.c zA]] [2] []) (.seq (rgN [Om 4 0,OL 5 4,Om 3 5] [4,5] []) (.seq (.block 0 (.loop nU)) jS)))
def ZG:List zE:=[.t 2]
theorem Cm:zt Try.prog xt=some (bare SV,ZG,22):=by kernel_rfl
def tm:ze:=(.seq (.seq (rgN [Om 45 1,Om 46 1,OL 47 46,Oj 48 .sub zd 47 1,Oi 49 1 45 48,Ol 50 49,Om 51 9,Ob 52 .shl zD 50 51,oq 53 (.bin .lss zD (.tmp 52) (.const (.int .u32 2147483648))) [.t 52,.c (.val (.int .u32 2147483648))]] [45,46,47,48,49,50,51,52] []) (.cond (.t 53) .skip (.exit 0))) (.block 1 (rgN [Om 54 9,oq 55 (.bin .add Z8 (.tmp 54) (.const (.int .u64 1))) [.t 54,.c (.val (.int .u64 1))],Om 9 55] [53,54,55] [])))
def tp:ze:=(.seq (rgN [Ob 76 .lss zd 75 74] [] []) (.seq (.cond (.t 76) .skip (.exit 2)) (.seq (.block 3 (.seq (rgN [Om 77 75,Om 14 77] [76,77] []) (.seq (rgN [Om 78 13,Om 79 14,Ob 80 .sub zd 78 79,Om 15 80] [14,78,79,80] []) (rgN [Om 81 4,Om 82 15,Om 83 10,Om 84 15,Om 85 15,Om 86 12,Ob 87 .add zd 85 86,Oj 88 .add zd 87 1,Om 89 15,Om 90 12,Ob 91 .add zd 89 90,Oj 92 .add zd 91 1,oq 93 (.slice 1 true true true) [.t 83,.t 84,.t 88,.t 92],Om 94 11,oq 95 (.callI dr) [.t 93,.t 94],Oi 96 1 81 82,Oz 1 96 95] [15,81,82,83,84,85,86,87,88,89,90,91,92,93,94,95,96] [])))) (rgN [Oj 97 .add zd 75 1,Om 75 97] [97] []))))
def tq:ze:=(.seq (rgN [Ob 102 .lss zd 101 100] [] []) (.seq (.cond (.t 102) .skip (.exit 4)) (.seq (.block 5 (.seq (rgN [Om 103 101,Om 16 103] [102,103] []) (.seq (rgN [Om 104 5,Om 105 16,Om 106 10,Om 107 16,Oi 108 1 106 107,Ol 109 108,Om 110 9,Ob 111 .shr zD 109 110,Oi 112 1 104 105,Oz 1 112 111] [104,105,106,107,108,109,110,111,112] []) (.seq (rgN [Om 113 9,oq 114 (.bin .gtr Z8 (.tmp 113) (.const (.int .u64 0))) [.t 113,.c (.val (.int .u64 0))]] [113] []) (.cond (.t 114) (rgD [Om 115 5,Om 116 16,Oi 117 1 115 116,Ol 118 117,Om 119 10,Om 120 16,Oj 121 .add zd 120 1,Oi 122 1 119 121,Ol 123 122,Om 124 9,oq 125 (.bin .sub Z8 (.const (.int .u64 32)) (.tmp 124)) [.c (.val (.int .u64 32)),.t 124],Ob 126 .shl zD 123 125,Ob 127 .or zD 118 126,Oi 128 1 115 116,Oz 1 128 127] [16,114,115,116,117,118,119,120,121,122,123,124,125,126,127,128] []) .skip))))) (rgN [Oj 129 .add zd 101 1,Om 101 129] [16,114,129] []))))
def mH:ze:=(.seq (.region false [72,99] [Om 130 4,Ok 131 xt 130,Om 132 5,Ok 133 xt 132,Om 4 131,Om 5 133,Oc 6 0] [9,10,100,101,102,130,131,132,133] []) .ret)
def vW:ze:=(.seq (rgN [Om 98 12,oq 99 (.mk 1 4 [.val (.int .u32 0)]) [.t 98,.t 98],Om 5 99] [11,13,74,75,76,98,99] []) (.seq (.seq (rgN [Om 100 12,Oc 101 0] [12] []) (.block 4 (.loop tq))) mH))
def vX:ze:=(.seq (rgN [Om 56 0,Om 57 9,oq 58 (.callI rO) [.t 56,.t 57],Om 10 58] [53,56,57,58] []) (.seq (rgN [Om 59 1,Om 60 9,OK 61 rO 59 60,Ok 62 xt 61,Om 11 62] [59,60,61,62] []) (.seq (rgN [Om 63 11,OL 64 63,Om 65 0,OL 66 65,Om 67 1,OL 68 67,Ob 69 .sub zd 66 68,Om 12 64,Om 13 69] [0,1,63,64,65,66,67,68,69] []) (.seq (rgN [Om 70 13,Oj 71 .add zd 70 1,oq 72 (.mk 1 4 [.val (.int .u32 0)]) [.t 71,.t 71],Om 4 72] [70,71,72] []) (.seq (.seq (rgN [Om 73 13,Oj 74 .add zd 73 1,Oc 75 0] [73] []) (.block 2 (.loop tp))) vW)))))
def Yk:ze:=(.seq (rgN [oq 4 .mov [.c zA],oq 5 .mov [.c zA],Oc 6 0] [4,5,6] []) (.seq (rgN [Om 17 0,Ok 18 xt 17,Om 19 1,Ok 20 xt 19,Om 0 18,Om 1 20] [17,18,19,20] []) (.seq (.seq (rgN [Om 21 1,OL 22 21,Oj 23 .eql zd 22 0] [21,22] []) (.cond (.t 23) (.seq (rgN [oq 4 .mov [.c zA],oq 5 .mov [.c zA],Oc 6 8] [0,1,23] []) .ret) .skip)) (.seq (.seq (rgN [Om 24 0,Om 25 1,OK 26 qB 24 25,Oj 27 .lss zd 26 0] [23,24,25,26] []) (.cond (.t 27) (.seq (rgN [Om 28 0,oq 29 (.call lj) [.t 28,.c zA],oq 4 .mov [.c zA],Om 5 29,Oc 6 0] [0,1,27,28,29] []) .ret) .skip)) (.seq (.seq (rgN [Om 30 1,OL 31 30,Oj 32 .eql zd 31 1] [27,30,31] []) (.cond (.t 32) (.seq (rgN [Om 34 0,Om 35 1,oq 36 (.iaddrS 1) [.t 35,.c (iv 0)],Ol 37 36,OK 38 dt 34 37,Om 33 38,Oe 39 0 33,Oe 40 1 33,Om 7 39,Om 8 40] [0,1,32,34,35,36,37,38,33,39,40] []) (.seq (rgN [Om 41 7,Om 42 8,oq 43 (.conv zD zh) [.t 42],Ok 44 vD 43,Om 4 41,Om 5 44,Oc 6 0] [7,8,41,42,43,44] []) .ret)) .skip)) (.seq (rgN [oq 9 .mov [.c (.val (.int .u64 0))]] [32] []) (.seq (.block 0 (.loop tm)) vX)))))))
def ti:List zE:=[.t 4,.t 5,.t 6]
theorem Kb:zt Try.prog s7=some (bare Yk,ti,134):=by kernel_rfl
def SS:ze:=(.seq (rgN [Oa 6,Oc 7 0] [7] []) (.seq (.seq (rgN [Om 15 2,OL 16 15,Oj 17 .eql zd 16 0] [15,16] []) (.cond (.t 17) (.seq (rgN [⟨some 18,.build zF [],[],none⟩,Oz 3 6 18,Oc 7 8] [0,1,2,17,18] []) .ret) .skip)) (.seq (rgN [Om 19 1,Om 20 2,OK 21 cY 19 20,Om 8 21] [17,19,20,21] []) (.seq (rgN [Om 23 1,Om 24 8,OK 25 s7 23 24,Om 22 25,Oe 26 0 22,Oe 27 1 22,Oe 28 2 22,Om 9 26,Om 10 27,Om 11 28] [1,23,24,25,22,26,27,28,10] []) (.seq (rgN [Om 30 2,Om 31 8,OK 32 s7 30 31,Om 29 32,Oe 33 0 29,Oe 34 1 29,Oe 35 2 29,Om 12 33,Om 13 34,Om 14 35] [2,8,30,31,32,29,33,34,35,13] []) (.seq (.seq (rgN [Om 36 11,Oj 37 .neq z8 36 0,Om 38 37,Wm 39 14 38,Wj 40 .neq z8 39 0 38,Op 41 38 40] [11,14,36,37,38,39,40] []) (.cond (.t 41) (.seq (rgN [⟨some 42,.build zF [],[],none⟩,Oz 3 6 42,Oc 7 8] [0,9,12,41,42] []) .ret) .skip)) (.seq (rgN [Om 43 0,Om 44 43,Vm 45 9 44,VL 46 45 44,Vj 47 .gtr zd 46 0 44,Oq 48 44 47,Om 49 9,Om 50 12,⟨some 51,.build zF [(0,1),(1,1),(2,1)],[.t 48,.t 49,.t 50],none⟩,Oz 3 6 51,Oc 7 0] [0,9,12,41,43,44,45,46,47,48,49,50,51] []) .ret)))))))
def f8:List zE:=[.cell 6 (some 3),.t 7]
theorem Ci:zt Try.prog gP=some (bare SS,f8,52):=by kernel_rfl
def ag4:ze:=(.seq (.seq (rgN [Om 7 3,Oj 8 .gtr zd 7 0,Om 9 8,Vm 10 0 9,Vm 11 3 9,Vj 12 .sub zd 11 1 9,VK 13 c7 10 12 9,⟨some 14,.bin .eql zh (.tmp 13) (.const (.int .u64 0)),[.t 13,.c (.val (.int .u64 0))],some (9,true)⟩,Oq 15 9 14] [7,8,9,10,11,12,13,14] []) (.cond (.t 15) .skip (.exit 0))) (.block 1 (rgN [Om 16 3,Oj 17 .sub zd 16 1,Om 3 17] [15,16,17] [])))
def jT:ze:=(.seq (rgN [Om 18 3,Om 2 18] [0,3,15,18] []) .ret)
def SX:ze:=(.seq (rgN [Oc 2 0] [2] []) (.seq (rgN [Om 4 0,OL 5 4,oq 6 (.bin .mul zd (kc 32) (.tmp 5)) [.c (iv 32),.t 5],Om 3 6] [4,5,6] []) (.seq (.block 0 (.loop ag4)) jT)))
def ZI:List zE:=[.t 2]
theorem Cr:zt Try.prog gS=some (bare SX,ZI,19):=by kernel_rfl
def jU:ze:=(.seq (.seq (rgN [Om 10 6,Om 11 0,OL 12 11,Ob 13 .lss zd 10 12] [10,11,12] []) (.cond (.t 13) .skip (.exit 0))) (.seq (.block 1 (.seq (rgN [Om 16 0,Om 17 6,OK 18 xQ 16 17,Om 19 0,Om 20 6,Oj 21 .add zd 20 1,OK 22 xQ 19 21,oq 23 (.bin .mul zh (.tmp 22) (.const (.int .u64 4294967296))) [.t 22,.c (.val (.int .u64 4294967296))],Ob 24 .add zh 18 23,Om 7 24] [13,16,17,18,19,20,21,22,23,24] []) (rgN [Om 25 5,Om 26 7,Om 27 1,Oj 28 .rem zd 27 32,oq 29 (.bin .shl zh (.const (.int .u64 1)) (.tmp 28)) [.c (.val (.int .u64 1)),.t 28],Ob 30 .quo zh 26 29,oq 31 (.bin .rem zh (.tmp 30) (.const (.int .u64 4294967296))) [.t 30,.c (.val (.int .u64 4294967296))],oq 32 (.conv zh zD) [.t 31],oq 33 (.mkslice 1 1 [.val (.int .u32 0)] [0]) [.t 32],oq 34 (.append 1 4) [.t 25,.t 33],Om 5 34] [7,25,26,27,28,29,30,31,32,33,34] []))) (rgN [Om 14 6,Oj 15 .add zd 14 1,Om 6 15] [14,15] [])))
def aB:ze:=(.seq (rgN [Om 35 5,Ok 36 uR 35,Om 4 36] [0,1,5,6,13,35,36] []) .ret)
def SY:ze:=(.seq (rgN [oq 4 .mov [.c zA]] [4] []) (.seq (rgN [oq 5 .mov [.c zA]] [] []) (.seq (.seq (rgN [Om 8 1,Oj 9 .quo zd 8 32,Om 6 9] [8,9] []) (.block 0 (.loop jU))) aB)))
def Qh:List zE:=[.t 4]
theorem Cs:zt Try.prog Zc=some (bare SY,Qh,37):=by kernel_rfl
def No:ze:=(.seq (rgN [oq 4 .mov [.c (.val (.int .u64 0))]] [4] []) (.seq (rgD [Om 5 0,Om 6 1,Oj 7 .quo zd 6 32,OK 8 xQ 5 7,Om 9 1,Oj 10 .rem zd 9 32,oq 11 (.bin .shl zh (.const (.int .u64 1)) (.tmp 10)) [.c (.val (.int .u64 1)),.t 10],Ob 12 .quo zh 8 11,oq 13 (.bin .rem zh (.tmp 12) (.const (.int .u64 2))) [.t 12,.c (.val (.int .u64 2))],Om 4 13] [0,1,5,6,7,8,9,10,11,12,13] []) .ret))
def Md:List zE:=[.t 4]
theorem aam:zt Try.prog c7=some (bare No,Md,14):=by kernel_rfl
def P9:ze:=(.seq (rgN [OB 2 0,OB 3 1,Oa 4,Oc 5 0] [0,1,5] []) (.seq (rgD [OF 6 0 2,Ol 7 6,OF 8 0 3,Ol 9 8,Ob 10 .neq uu 7 9,OF 11 1 2,Ol 12 11,OF 13 2 3,Ol 14 13,OK 15 s8 12 14,OF 16 2 2,Ol 17 16,OF 18 1 3,Ol 19 18,OK 20 s8 17 19,oq 21 (.call gP) [.t 10,.t 15,.t 20],Oe 22 0 21,Oe 23 1 21,Oz 3 4 22,Om 5 23] [2,3,6,7,8,9,10,11,12,13,14,15,16,17,18,19,20,21,22,23] [2,3]) .ret))
def N1:List zE:=[.cell 4 (some 3),.t 5]
theorem A5:zt Try.prog li=some (bare P9,N1,24):=by kernel_rfl
def tc:ze:=(.seq (rgN [Ob 31 .lss zd 30 29] [] []) (.seq (.cond (.t 31) .skip (.exit 0)) (.seq (.block 1 (.seq (rgN [Om 32 30,Oi 33 3 28 30,On 34 3 33,Oa 15,Om 14 32,Oz 3 15 34] [31,32,33,34] []) (.block 2 (.seq (rgN [Om 47 14,Om 48 2,Ob 49 .eql zd 47 48,Om 46 49] [47,48,49] []) (.cond (.t 46) (rgD [Om 50 13,Om 51 14,On 52 3 12,Om 53 3,Om 54 14,Oi 55 3 53 54,On 56 3 55,OK 57 w8 52 56,Ok 58 qy 57,Oi 59 3 50 51,Oz 3 59 58] [15,14,46,50,51,52,53,54,55,56,57,58,59] [15]) (.seq (rgN [Om 61 3,Om 62 14,Oi 63 3 61 62,On 64 3 63,Ok 65 wE 64,Oj 66 .eql zd 65 0,Om 60 66] [46,61,62,63,64,65,66] []) (.cond (.t 60) (rgN [Om 67 13,Om 68 14,On 69 3 15,Oi 70 3 67 68,Oz 3 70 69] [15,14,60,67,68,69,70] [15]) (rgD [Om 35 13,Om 36 14,On 37 3 15,On 38 3 12,Om 39 3,Om 40 14,Oi 41 3 39 40,On 42 3 41,OK 43 w8 38 42,OK 44 qz 37 43,Oi 45 3 35 36,Oz 3 45 44] [15,14,60,35,36,37,38,39,40,41,42,43,44,45] [15])))))))) (rgN [Oj 71 .add zd 30 1,Om 30 71] [71] []))))
def km:ze:=(.seq (rgD [Om 72 13,On 73 3 6,On 74 3 12,On 75 3 9,OK 76 w8 74 75,OK 77 qz 73 76,Om 10 72,Oz 3 11 77] [2,3,6,9,12,13,28,29,30,31,72,73,74,75,76,77] [6,9,12]) .ret)
def eY:ze:=(.seq (rgN [OB 6 1,OB 9 4,oq 10 .mov [.c zA],Oa 11] [1,4,10] []) (.seq (rgN [Om 16 0,Om 17 2,Oi 18 3 16 17,On 19 3 18,Oa 12,Oz 3 12 19] [16,17,18,19] []) (.seq (.seq (rgN [On 20 3 12,Ok 21 wE 20,Oj 22 .eql zd 21 0] [20,21] []) (.cond (.t 22) (.seq (rgD [Om 23 0,On 24 3 6,Om 10 23,Oz 3 11 24] [0,2,3,6,9,12,22,23,24] [6,9,12]) .ret) .skip)) (.seq (rgN [Om 25 0,OL 26 25,⟨some 27,.mk 3 56 zF,[.t 26,.t 26],none⟩,Om 13 27] [22,25,26,27] []) (.seq (.seq (rgN [Om 28 0,OL 29 28,Oc 30 0] [0] []) (.block 0 (.loop tc))) km)))))
def mM:List zE:=[.t 10,.cell 11 (some 3)]
theorem T8:zt Try.prog rY=some (bare eY,mM,78):=by kernel_rfl
def lU:ze:=(.seq (rgN [Ob 17 .lss zd 16 15] [] []) (.seq (.cond (.t 17) .skip (.exit 0)) (.seq (.block 1 (.seq (rgN [Om 18 16,Om 8 18] [17,18] []) (.seq (rgN [Om 19 0,OL 20 19,Oj 21 .sub zd 20 1,Om 22 8,Ob 23 .sub zd 21 22,Om 9 23] [8,19,20,21,22,23] []) (.seq (rgN [Om 24 7,oq 25 (.bin .shl zh (.tmp 24) (.const (.int .u64 32))) [.t 24,.c (.val (.int .u64 32))],Om 26 0,Om 27 9,Oi 28 1 26 27,Ol 29 28,oq 30 (.conv zD zh) [.t 29],Ob 31 .or zh 25 30,Om 10 31] [7,24,25,26,27,28,29,30,31] []) (rgD [ox (.start [32,33,34,35,36,37,38,39,40,41,42,43]) [],Om 32 6,Om 33 9,Om 34 10,Om 35 1,oq 36 (.conv zD zh) [.t 35],Ob 37 .quo zh 34 36,oq 38 (.conv zh zD) [.t 37],Om 39 10,Om 40 1,oq 41 (.conv zD zh) [.t 40],Ob 42 .rem zh 39 41,Oi 43 1 32 33,Oz 1 43 38,oq 39 (.chk (.mov)) [.t 10],oq 40 (.chk (.mov)) [.t 1],oq 41 (.chk (.conv zD zh)) [.t 40],oq 42 (.chk (.bin .rem zh (.tmp 39) (.tmp 41))) [.t 39,.t 41],Om 7 42] [9,10,32,33,34,35,36,37,38,39,40,41,42,43] []))))) (rgN [Oj 44 .add zd 16 1,Om 16 44] [44] []))))
def dB:ze:=(.seq (.region false [13] [Om 45 6,Ok 46 xt 45,Om 47 7,oq 48 (.conv zh zD) [.t 47],Om 4 46,Om 5 48] [0,1,6,7,15,16,17,45,46,47,48] []) .ret)
def U2:ze:=(.seq (rgN [oq 4 .mov [.c zA],oq 5 .mov [.c (.val (.int .u32 0))]] [4,5] []) (.seq (rgN [Om 11 0,OL 12 11,oq 13 (.mk 1 4 [.val (.int .u32 0)]) [.t 12,.t 12],Om 6 13] [11,12,13] []) (.seq (rgN [oq 7 .mov [.c (.val (.int .u64 0))]] [] []) (.seq (.seq (rgN [Om 14 0,OL 15 14,Oc 16 0] [14] []) (.block 0 (.loop lU))) dB))))
def TC:List zE:=[.t 4,.t 5]
theorem Fh:zt Try.prog dt=some (bare U2,TC,49):=by kernel_rfl
def uE:ze:=(.seq (rgN [Ob 15 .lss zd 14 13] [] []) (.seq (.cond (.t 15) .skip (.exit 0)) (.seq (.block 1 (.seq (rgN [Om 16 14,Om 6 16] [15,16] []) (.seq (rgN [Om 17 0,Om 18 6,Oi 19 1 17 18,Ol 20 19,oq 21 (.conv zD zh) [.t 20],Om 22 1,Ob 23 .shl zh 21 22,Om 7 23] [17,18,19,20,21,22,23] []) (.seq (rgN [Om 24 5,Om 25 6,Oi 26 1 24 25,Ol 27 26,Om 28 7,oq 29 (.conv zh zD) [.t 28],Ob 30 .or zD 27 29,Oi 31 1 24 25,Oz 1 31 30] [24,25,26,27,28,29,30,31] []) (rgN [Om 32 5,Om 33 6,Oj 34 .add zd 33 1,Om 35 7,oq 36 (.bin .shr zh (.tmp 35) (.const (.int .u64 32))) [.t 35,.c (.val (.int .u64 32))],oq 37 (.conv zh zD) [.t 36],Oi 38 1 32 34,Oz 1 38 37] [6,7,32,33,34,35,36,37,38] []))))) (rgN [Oj 39 .add zd 14 1,Om 14 39] [39] []))))
def nd:ze:=(.seq (rgN [Om 40 5,Om 4 40] [0,1,5,13,14,15,40] []) .ret)
def jR:ze:=(.seq (rgN [oq 4 .mov [.c zA]] [4] []) (.seq (rgN [Om 8 0,OL 9 8,Oj 10 .add zd 9 1,oq 11 (.mk 1 4 [.val (.int .u32 0)]) [.t 10,.t 10],Om 5 11] [8,9,10,11] []) (.seq (.seq (rgN [Om 12 0,OL 13 12,Oc 14 0] [12] []) (.block 0 (.loop uE))) nd)))
def j4:List zE:=[.t 4]
theorem a7:zt Try.prog rO=some (bare jR,j4,41):=by kernel_rfl
def wl:ze:=(.seq (.seq (rgD [Om 48 7,oq 49 (.bin .geq zh (.tmp 48) (.const (.int .u64 4294967296))) [.t 48,.c (.val (.int .u64 4294967296))],Om 50 49,Wm 51 7 50,Wm 52 1 50,Wm 53 5 50,Wj 54 .sub zd 53 2 50,Wi 55 1 52 54 50,Wl 56 55 50,⟨some 57,.conv zD zh,[.t 56],some (50,false)⟩,Wb 58 .mul zh 51 57 50,Wm 59 8 50,⟨some 60,.bin .shl zh (.tmp 59) (.const (.int .u64 32)),[.t 59,.c (.val (.int .u64 32))],some (50,false)⟩,Wm 61 0 50,Wm 62 5 50,Wj 63 .sub zd 62 2 50,Wi 64 1 61 63 50,Wl 65 64 50,⟨some 66,.conv zD zh,[.t 65],some (50,false)⟩,Wb 67 .or zh 60 66 50,Wb 68 .gtr zh 58 67 50,Op 69 50 68] [48,49,50,51,52,53,54,55,56,57,58,59,60,61,62,63,64,65,66,67,68] []) (.cond (.t 69) .skip (.exit 0))) (.block 1 (.seq (rgN [Om 70 7,oq 71 (.bin .sub zh (.tmp 70) (.const (.int .u64 1))) [.t 70,.c (.val (.int .u64 1))],Om 7 71] [69,70,71] []) (.seq (rgN [Om 72 8,Om 73 1,Om 74 5,Oj 75 .sub zd 74 1,Oi 76 1 73 75,Ol 77 76,oq 78 (.conv zD zh) [.t 77],Ob 79 .add zh 72 78,Om 8 79] [72,73,74,75,76,77,78,79] []) (.seq (rgN [Om 80 8,oq 81 (.bin .geq zh (.tmp 80) (.const (.int .u64 4294967296))) [.t 80,.c (.val (.int .u64 4294967296))]] [80] []) (.cond (.t 81) (.exit 0) .skip))))))
def pq:ze:=(.seq (rgN [Ob 84 .lss zd 83 82] [] []) (.seq (.cond (.t 84) .skip (.exit 2)) (.seq (.block 3 (.seq (rgN [Om 85 83,Om 11 85] [84,85] []) (.seq (rgN [Om 86 7,Om 87 1,Om 88 11,Oi 89 1 87 88,Ol 90 89,oq 91 (.conv zD zh) [.t 90],Ob 92 .mul zh 86 91,Om 93 9,Ob 94 .add zh 92 93,Om 12 94] [9,86,87,88,89,90,91,92,93,94] []) (.seq (rgN [Om 95 12,oq 96 (.bin .shr zh (.tmp 95) (.const (.int .u64 32))) [.t 95,.c (.val (.int .u64 32))],Om 9 96] [95,96] []) (.seq (rgN [Om 97 0,Om 98 11,Oi 99 1 97 98,Ol 100 99,oq 101 (.conv zD zh) [.t 100],Om 102 12,oq 103 (.bin .and zh (.tmp 102) (.const (.int .u64 4294967295))) [.t 102,.c (.val (.int .u64 4294967295))],Ob 104 .sub zh 101 103,Om 105 10,Ob 106 .sub zh 104 105,Om 13 106] [10,12,97,98,99,100,101,102,103,104,105,106] []) (rgN [Om 107 0,Om 108 11,Om 109 13,oq 110 (.conv zh zD) [.t 109],Om 111 13,oq 112 (.bin .shr zh (.tmp 111) (.const (.int .u64 63))) [.t 111,.c (.val (.int .u64 63))],Oi 113 1 107 108,Oz 1 113 110,Om 10 112] [11,13,107,108,109,110,111,112,113] [])))))) (rgN [Oj 114 .add zd 83 1,Om 83 114] [114] []))))
def pw:ze:=(.seq (rgN [Ob 136 .lss zd 135 134] [] []) (.seq (.cond (.t 136) .skip (.exit 4)) (.seq (.block 5 (.seq (rgN [Om 137 135,Om 15 137] [136,137] []) (.seq (rgD [Om 138 0,Om 139 15,Oi 140 1 138 139,Ol 141 140,oq 142 (.conv zD zh) [.t 141],Om 143 1,Om 144 15,Oi 145 1 143 144,Ol 146 145,oq 147 (.conv zD zh) [.t 146],Ob 148 .add zh 142 147,Om 149 9,Ob 150 .add zh 148 149,Om 16 150] [9,138,139,140,141,142,143,144,145,146,147,148,149,150] []) (rgN [Om 151 0,Om 152 15,Om 153 16,oq 154 (.conv zh zD) [.t 153],Om 155 16,oq 156 (.bin .shr zh (.tmp 155) (.const (.int .u64 32))) [.t 155,.c (.val (.int .u64 32))],Oi 157 1 151 152,Oz 1 157 154,Om 9 156] [15,16,151,152,153,154,155,156,157] [])))) (rgN [Oj 158 .add zd 135 1,Om 135 158] [158] []))))
def sA:ze:=(.seq (rgN [Om 159 0,Om 160 5,Oi 161 1 159 160,Ol 162 161,Om 163 9,oq 164 (.conv zh zD) [.t 163],Ob 165 .add zD 162 164,Oi 166 1 159 160,Oz 1 166 165] [0,1,5,9,134,135,136,159,160,161,162,163,164,165,166] []) (.seq (rgN [Om 167 7,oq 168 (.bin .sub zh (.tmp 167) (.const (.int .u64 1))) [.t 167,.c (.val (.int .u64 1))],oq 169 (.conv zh zD) [.t 168],Om 4 169] [7,167,168,169] []) .ret))
def uD:ze:=(.seq (rgN [Om 115 0,Om 116 5,Oi 117 1 115 116,Ol 118 117,oq 119 (.conv zD zh) [.t 118],Om 120 9,Ob 121 .sub zh 119 120,Om 122 10,Ob 123 .sub zh 121 122,Om 14 123] [9,10,82,83,84,115,116,117,118,119,120,121,122,123] []) (.seq (rgN [Om 124 0,Om 125 5,Om 126 14,oq 127 (.conv zh zD) [.t 126],Oi 128 1 124 125,Oz 1 128 127] [124,125,126,127,128] []) (.seq (.seq (rgN [Om 129 14,oq 130 (.bin .shr zh (.tmp 129) (.const (.int .u64 63))) [.t 129,.c (.val (.int .u64 63))],oq 131 (.bin .eql zh (.tmp 130) (.const (.int .u64 0))) [.t 130,.c (.val (.int .u64 0))]] [14,129,130] []) (.cond (.t 131) (.seq (rgN [Om 132 7,oq 133 (.conv zh zD) [.t 132],Om 4 133] [0,1,5,7,131,132,133] []) .ret) .skip)) (.seq (rgN [oq 9 .mov [.c (.val (.int .u64 0))]] [131] []) (.seq (.seq (rgN [Om 134 5,Oc 135 0] [] []) (.block 4 (.loop pw))) sA)))))
def wQ:ze:=(.seq (rgN [oq 9 .mov [.c (.val (.int .u64 0))],oq 10 .mov [.c (.val (.int .u64 0))]] [8,81,69] []) (.seq (.seq (rgN [Om 82 5,Oc 83 0] [] []) (.block 2 (.loop pq))) uD))
def U1:ze:=(.seq (rgN [oq 4 .mov [.c (.val (.int .u32 0))]] [4] []) (.seq (rgN [Om 17 1,OL 18 17,Om 5 18] [17,18] []) (.seq (rgD [Om 19 0,Om 20 5,Oi 21 1 19 20,Ol 22 21,oq 23 (.conv zD zh) [.t 22],oq 24 (.bin .shl zh (.tmp 23) (.const (.int .u64 32))) [.t 23,.c (.val (.int .u64 32))],Om 25 0,Om 26 5,Oj 27 .sub zd 26 1,Oi 28 1 25 27,Ol 29 28,oq 30 (.conv zD zh) [.t 29],Ob 31 .or zh 24 30,Om 6 31] [19,20,21,22,23,24,25,26,27,28,29,30,31] []) (.seq (rgD [Om 32 6,Om 33 1,Om 34 5,Oj 35 .sub zd 34 1,Oi 36 1 33 35,Ol 37 36,oq 38 (.conv zD zh) [.t 37],Ob 39 .quo zh 32 38,Om 40 6,Om 41 1,Om 42 5,Oj 43 .sub zd 42 1,Oi 44 1 41 43,Ol 45 44,oq 46 (.conv zD zh) [.t 45],Ob 47 .rem zh 40 46,Om 7 39,Om 8 47] [6,32,33,34,35,36,37,38,39,40,41,42,43,44,45,46,47] []) (.seq (.block 0 (.loop wl)) wQ)))))
def TB:List zE:=[.t 4]
theorem Fg:zt Try.prog dr=some (bare U1,TB,170):=by kernel_rfl
end Go.Proofs.Ytbgnkodhpbkdoaa

namespace Go.Dig
def B:Nat:=4294967296
theorem yc:B=4294967296:=rfl
theorem afK:0<B:=by decide
theorem wT (k:Nat):0<B^k:=Nat.pow_pos afK
def val:List Nat→Nat
 | []=>0
 | d::l=>d+B*val l
def ok (l:List Nat):Prop:=∀ d∈l,d<B
def zf (x:Nat):List Nat:=if x=0 then [] else x%B::zf (x/B)
termination_by x
decreasing_by exact Nat.div_lt_self (by omega) (by decide)
theorem yt:zf 0=[]:=by rw[zf]; rfl
theorem ng {x:Nat} (h:x≠0):zf x=x%B::zf (x/B):=by rw[zf,if_neg h]
theorem zL (x:Nat):val (zf x)=x:=by
 induction x using Nat.strongRecOn with
 | ind x ih =>
  by_cases h:x=0
  ·subst h; rw[yt]; rfl
  ·rw[ng h,val,ih _ (Nat.div_lt_self (by omega) (by decide))]
   exact Nat.mod_add_div x B
theorem zq (x:Nat):ok (zf x):=by
 induction x using Nat.strongRecOn with
 | ind x ih =>
  by_cases h:x=0
  ·subst h; rw[yt]; intro d hd; cases hd
  ·rw[ng h]
   intro d hd
   rcases List.mem_cons.1 hd with rfl | hd
   ·exact Nat.mod_lt _ afK
   ·exact ih _ (Nat.div_lt_self (by omega) (by decide)) d hd
theorem yH {x:Nat}:zf x=[]↔x=0:=by
 constructor
 ·intro h; have:=zL x; rw[h] at this; exact this.symm
 ·rintro rfl; exact yt
theorem ft {x y:Nat} (h:zf x=zf y):x=y:=by rw[← zL x,h,zL]
theorem R3:ok []:=fun _ h=>by cases h
theorem Ul {d:Nat} {l:List Nat}:ok (d::l)↔d<B∧ok l:=by simp[ok]
theorem cd {a b:List Nat}:ok (a++b)↔ok a∧ok b:=by
 constructor
 ·intro h; exact ⟨fun d hd=>h d (by simp[hd]),fun d hd=>h d (by simp[hd])⟩
 ·rintro ⟨h1,h2⟩ d hd
  rcases List.mem_append.1 hd with hd | hd
  ·exact h1 d hd
  ·exact h2 d hd
theorem vY {a:List Nat} (h:ok a) (k:Nat):ok (a.take k):=fun d hd=>h d (List.mem_of_mem_take hd)
theorem Um {a:List Nat} (h:ok a) (k:Nat):ok (a.drop k):=fun d hd=>h d (List.mem_of_mem_drop hd)
theorem Y6 {a:List Nat} (h:ok a) {k x:Nat} (hx:x<B):ok (a.set k x):=fun d hd=>by
 rcases List.mem_or_eq_of_mem_set hd with hd | rfl
 ·exact h d hd
 ·exact hx
theorem R4 (n:Nat):ok (List.replicate n 0):=fun d hd=>by
 rw[List.eq_of_mem_replicate hd]; exact afK
theorem xz {a:List Nat} (h:ok a) {k:Nat} (hk:k<a.length):a[k]<B:=h _ (List.getElem_mem hk)
theorem val_append (a b:List Nat):val (a++b)=val a+B^a.length*val b:=by
 induction a with
 | nil=>simp[val]
 | cons d a ih=>simp only[List.cons_append,val,ih,List.length_cons,Nat.pow_succ,Nat.mul_add]; rw[Nat.mul_comm (B^a.length) B,Nat.mul_assoc]; omega
theorem ab (n:Nat):val (List.replicate n 0)=0:=by
 induction n with
 | zero=>rfl
 | succ n ih=>simp[List.replicate_succ,val,ih]
theorem wY {a:List Nat} (h:ok a):val a<B^a.length:=by
 induction a with
 | nil=>simp[val]
 | cons d a ih =>
  have h1:=(Ul.1 h).1
  have h2:=ih (Ul.1 h).2
  simp only[val,List.length_cons,Nat.pow_succ]
  have:B*(val a+1)≤B*B^a.length:=Nat.mul_le_mul_left _ h2
  rw[Nat.mul_add] at this
  rw[Nat.mul_comm (B^a.length)]
  omega
theorem y5 {a:List Nat} (h:ok a) {n:Nat} (hn:a.length≤n):val a<B^n :=
 Nat.lt_of_lt_of_le (wY h) (Nat.pow_le_pow_right afK hn)
theorem vw (a:List Nat) (k:Nat):val a=val (a.take k)+B^(min k a.length)*val (a.drop k):=by
 have:=val_append (a.take k) (a.drop k)
 rwa [List.take_append_drop,List.length_take] at this
theorem xF {a:List Nat} {k:Nat} (hk:k<a.length):val (a.take (k+1))=val (a.take k)+B^k*a[k]:=by
 rw[List.take_succ_eq_append_getElem hk,val_append,List.length_take,Nat.min_eq_left (by omega)]
 simp[val]
theorem Q8 {a:List Nat} (h:ok a) {k:Nat} (hk:k≤a.length):val (a.take k)=val a%B^k:=by
 have h1:=vw a k
 have h2:=wY (vY h k)
 rw[List.length_take,Nat.min_eq_left hk] at h2
 rw[Nat.min_eq_left hk] at h1
 rw[h1,Nat.add_mul_mod_self_left,Nat.mod_eq_of_lt h2]
theorem Z4 {a:List Nat} (h:ok a) {k:Nat} (hk:k≤a.length):val (a.drop k)=val a/B^k:=by
 have h1:=vw a k
 have h2:=wY (vY h k)
 rw[List.length_take,Nat.min_eq_left hk] at h2
 rw[Nat.min_eq_left hk] at h1
 rw[h1,Nat.add_mul_div_left _ _ (wT k),Nat.div_eq_of_lt h2,Nat.zero_add]
theorem nv {a:List Nat} (h:ok a) {k:Nat} (hk:k<a.length):a[k]=val a/B^k%B:=by
 rw[← Z4 h (by omega),List.drop_eq_getElem_cons hk,val,Nat.add_mul_mod_self_left,Nat.mod_eq_of_lt (xz h hk)]
def zo (n x:Nat):List Nat:=(List.range n).map fun i=>x/B^i%B
theorem zw {n x:Nat}:(zo n x).length=n:=by simp[zo]
theorem wR {n x k:Nat} (hk:k<(zo n x).length):(zo n x)[k]=x/B^k%B:=by simp[zo]
theorem yz {n x:Nat}:ok (zo n x):=fun d hd=>by
 simp only[zo,List.mem_map] at hd
 obtain ⟨i,_,rfl⟩:=hd
 exact Nat.mod_lt _ afK
theorem dM {a:List Nat} (h:ok a):zo a.length (val a)=a:=by
 apply List.ext_getElem
 ·simp[zo]
 ·intro i h1 h2
  rw[wR,← nv h h2]
theorem td {n x:Nat}:zo (n+1) x=zo n x++[x/B^n%B]:=by
 simp[zo,List.range_succ]
theorem jL {n x:Nat}:val (zo n x)=x%B^n:=by
 induction n with
 | zero=>simp[zo,val,Nat.mod_one]
 | succ n ih =>
  rw[td,val_append,ih,zw,Nat.pow_succ,Nat.mod_mul]
  simp[val]
theorem aa {a b:List Nat} (ha:ok a) (hb:ok b) (hl:a.length=b.length) (hv:val a=val b):a=b:=by
 rw[← dM ha,← dM hb,hl,hv]
def wo (n k S:Nat):List Nat:=zo k S++List.replicate (n-k) 0
theorem m4 {n S:Nat}:wo n 0 S=List.replicate n 0:=by simp[wo,zo]
theorem jv {n k S:Nat} (hk:k≤n):(wo n k S).length=n:=by simp[wo,zw]; omega
theorem dQ {n S:Nat}:wo n n S=zo n S:=by simp[wo]
theorem jw {n k S:Nat} (hk:k<n):(wo n k S).set k (S/B^k%B)=wo n (k+1) S:=by
 unfold wo
 obtain ⟨m,hm⟩:∃ m,n-k=m+1:=⟨n-k-1,by omega⟩
 have hm2:n-(k+1)=m:=by omega
 rw[hm,hm2,td,List.set_append_right _ _ (by rw[zw]; exact Nat.le_refl _),zw,Nat.sub_self,List.replicate_succ,List.set_cons_zero]
 simp
theorem yk {n x:Nat} (h:x<B^n):val (zo n x)=x:=by rw[jL,Nat.mod_eq_of_lt h]
theorem Nw {a:List Nat} (h:ok a) (hn:∀ hk:0<a.length,a[a.length-1]≠0):zf (val a)=a:=by
 induction a with
 | nil=>exact yt
 | cons d a ih =>
  have h1:=Ul.1 h
  by_cases ha:a=[]
  ·subst ha
   have:d≠0:=hn (by simp)
   have h2:(d+B*0)=d:=by omega
   simp only[val,h2]
   rw[ng this,Nat.mod_eq_of_lt h1.1,Nat.div_eq_of_lt h1.1,yt]
  ·have hpos:0<a.length:=by
    rcases a with _ | ⟨x,a⟩
    ·exact absurd rfl ha
    ·simp
   have hlast:∀ hk:0<a.length,a[a.length-1]≠0:=fun _=>by
    have:=hn (by simp)
    simp only[List.length_cons,Nat.add_sub_cancel] at this
    rw[List.getElem_cons] at this
    rw[dif_neg (by omega)] at this
    exact this
   have ih:=ih h1.2 hlast
   have hne:val a≠0:=by
    intro h0
    rw[h0,yt] at ih
    exact ha ih.symm
   have h0:d+B*val a≠0:=by
    have:0<B*val a:=Nat.mul_pos afK (by omega)
    omega
   simp only[val]
   rw[ng h0,Nat.add_mul_mod_self_left,Nat.mod_eq_of_lt h1.1,Nat.add_mul_div_left _ _ afK,Nat.div_eq_of_lt h1.1,Nat.zero_add,ih]
theorem js {x:Nat} (h:0<(zf x).length):(zf x)[(zf x).length-1]≠0:=by
 induction x using Nat.strongRecOn with
 | ind x ih =>
  by_cases h0:x=0
  ·subst h0; rw[yt] at h; simp at h
  ·have e:=ng h0
   by_cases h1:x/B=0
   ·have e2:zf x=[x%B]:=by rw[e,h1,yt]
    simp only[e2,List.length_singleton,Nat.sub_self,List.getElem_cons_zero]
    have:x<B:=by
     rcases Nat.lt_or_ge x B with h | h
     ·exact h
     ·have:=Nat.div_pos h afK; omega
    rw[Nat.mod_eq_of_lt this]; exact h0
   ·have hp:0<(zf (x/B)).length:=by
     rw[ng h1]; simp
    have:=ih _ (Nat.div_lt_self (by omega) (by decide)) hp
    simp only[e,List.length_cons,Nat.add_sub_cancel]
    rw[List.getElem_cons,dif_neg (by omega)]
    exact this
theorem zJ {x n:Nat}:(zf x).length≤n↔x<B^n:=by
 constructor
 ·intro h
  have:=y5 (zq x) h
  rwa [zL] at this
 ·intro h
  rcases Nat.lt_or_ge n (zf x).length with hlt | hge
  ·exfalso
   have hp:0<(zf x).length:=by omega
   have h1:=js hp
   have h2:=nv (zq x) (k:=(zf x).length-1) (by omega)
   rw[zL] at h2
   have h3:x/B^((zf x).length-1)=0:=by
    apply Nat.div_eq_of_lt
    exact Nat.lt_of_lt_of_le h (Nat.pow_le_pow_right afK (by omega))
   rw[h3] at h2
   exact h1 h2
  ·exact hge
theorem jX {x n:Nat}:n<(zf x).length↔B^n≤x:=by
 have:=@zJ x n
 omega
theorem Fr {a:List Nat} (h:ok a) {n:Nat} (hn:n≤a.length) (h0:∀ k (hk:k<a.length),n≤k→a[k]=0) (h1:∀ hk:0<n,a[n-1]'(by omega)≠0):a.take n=zf (val a):=by
 have hz:a.drop n=List.replicate (a.length-n) 0:=by
  apply List.ext_getElem
  ·simp
  ·intro i hi hj
   simp only[List.getElem_drop,List.getElem_replicate]
   exact h0 _ _ (by omega)
 have hv:val a=val (a.take n):=by
  rw[vw a n,hz,ab]; omega
 rw[hv]
 refine (Nw (vY h n) fun hk=>?_).symm
 simp only[List.length_take,Nat.min_eq_left hn] at hk ⊢
 simp only[List.getElem_take]
 exact h1 hk
theorem x9 {a:List Nat} (h:ok a):(zf (val a)).length≤a.length:=zJ.2 (wY h)
def itr {σ:Type} (f:Nat→σ→σ) (s:σ):Nat→σ
 | 0=>s
 | k+1=>f k (itr f s k)
theorem qp {x i:Nat} (h:i<(zf x).length):(zf x)[i]=x/B^i%B:=by
 rw[nv (zq x) h,zL]
theorem d5 {a:List Nat} (h:ok a):(zf (val a)).length≤a.length∧(∀ i (hi:i<a.length),(zf (val a)).length≤i→a[i]=0) ∧
  (∀ (_h0:0<(zf (val a)).length) (h1:(zf (val a)).length-1<a.length),a[(zf (val a)).length-1]≠0)∧a.take (zf (val a)).length=zf (val a):=by
 have h1:=x9 h
 have h2:∀ i (hi:i<a.length),(zf (val a)).length≤i→a[i]=0:=fun i hi hle=>by
  rw[nv h hi]
  have h3:=zJ.1 hle
  rw[Nat.div_eq_of_lt h3]
  rfl
 have h3:∀ (h0:0<(zf (val a)).length) (h1:(zf (val a)).length-1<a.length),a[(zf (val a)).length-1]≠0:=fun h0 h4=>by
  rw[nv h h4,← qp (by omega)]
  exact js h0
 exact ⟨h1,h2,h3,Fr h h1 (fun k hk hle=>h2 k hk hle) (fun h0=>h3 h0 (by omega))⟩
theorem aD {a b:List Nat} (ha:ok a) (_hb:ok b) (hl:a.length=b.length) {k:Nat} (hk:k<a.length) (heq:a.drop (k+1)=b.drop (k+1)) (hlt:a[k]<b[k]'(by omega)):val a<val b:=by
 have e1:=vw a (k+1)
 have e2:=vw b (k+1)
 rw[heq] at e1
 rw[Nat.min_eq_left (by omega)] at e1 e2
 have t1:=xF hk
 have t2:=xF (a:=b) (k:=k) (by omega)
 have l1:=wY (vY ha k)
 rw[List.length_take,Nat.min_eq_left (by omega)] at l1
 have:B^k*(a[k]+1)≤B^k*b[k]'(by omega):=Nat.mul_le_mul_left _ hlt
 rw[Nat.mul_add] at this
 omega
theorem jy {x y:Nat} (h:(zf x).length<(zf y).length):x<y:=by
 have h1:=zJ.1 (Nat.le_refl (zf x).length)
 have h2:=jX.1 h
 omega
theorem jp {L t R k:Nat}:(L+B^k*t+B^(k+1)*R)/B^k%B=(L/B^k+t)%B:=by
 have:L+B^k*t+B^(k+1)*R=L+B^k*(t+B*R):=by rw[Nat.pow_succ,Nat.mul_add,Nat.mul_assoc]; omega
 rw[this,Nat.add_mul_div_left _ _ (wT k),← Nat.add_assoc,Nat.add_mul_mod_self_left]
theorem jo {L t k:Nat}:(L+B^k*t)/B^(k+1)=(L/B^k+t)/B:=by
 rw[Nat.pow_succ,← Nat.div_div_eq_div_mul,Nat.add_mul_div_left _ _ (wT k)]
def bor (x y k:Nat):Nat:=if x%B^k<y%B^k then 1 else 0
theorem Yg {x y k:Nat}:bor x y k≤1:=by unfold bor; split<;>omega
theorem gW {x y:Nat}:bor x y 0=0:=by simp[bor,Nat.mod_one]
theorem A0 {x y P:Nat} (hP:0<P) (h:y≤x):(x-y)/P=x/P-y/P-(if x%P<y%P then 1 else 0)∧y/P+(if x%P<y%P then 1 else 0)≤x/P:=by
 have e1:=Nat.div_add_mod x P
 have e2:=Nat.div_add_mod y P
 have l1:=Nat.mod_lt x hP
 have l2:=Nat.mod_lt y hP
 have hq:y/P≤x/P:=Nat.div_le_div_right h
 generalize x/P=a at *
 generalize y/P=b at *
 generalize x%P=r at *
 generalize y%P=s at *
 obtain ⟨c,rfl⟩:∃ c,a=b+c:=⟨a-b,by omega⟩
 rw[Nat.mul_add] at e1
 by_cases hlt:r<s
 ·simp only[hlt,if_true]
  rcases c with _ | c
  ·simp at e1; omega
  ·rw[Nat.mul_add,Nat.mul_one] at e1
   have:x-y=P*c+(P+r-s):=by omega
   rw[this,Nat.mul_add_div hP,Nat.div_eq_of_lt (by omega)]
   omega
 ·simp only[hlt,if_false]
  have:x-y=P*c+(r-s):=by omega
  rw[this,Nat.mul_add_div hP,Nat.div_eq_of_lt (by omega)]
  omega
theorem jH {x y k:Nat} (h:y≤x):(((x-y)/B^k%B:Nat):Int)=((x/B^k%B:Nat)-(y/B^k%B:Nat)-(bor x y k:Nat):Int)%4294967296:=by
 obtain ⟨h1,h2⟩:=A0 (wT k) h
 have e:(if x%B^k<y%B^k then 1 else 0)=bor x y k:=rfl
 rw[e] at h1 h2
 rw[h1]
 generalize x/B^k=a at *
 generalize y/B^k=b at *
 generalize bor x y k=c at *
 rw[yc]
 omega
theorem gV {x y k:Nat}:bor x y (k+1)=if x/B^k%B<y/B^k%B+bor x y k then 1 else 0:=by
 unfold bor
 rw[Nat.pow_succ,Nat.mod_mul,Nat.mod_mul]
 have l1:=Nat.mod_lt x (wT k)
 have l2:=Nat.mod_lt y (wT k)
 generalize x/B^k%B=a
 generalize y/B^k%B=b
 generalize x%B^k=r at *
 generalize y%B^k=s at *
 generalize B^k=P at *
 rcases Nat.lt_trichotomy a b with h | h | h
 ·have:P*(a+1)≤P*b:=Nat.mul_le_mul_left _ h
  rw[Nat.mul_add] at this
  rw[if_pos (by omega),if_pos (by omega)]
 ·subst h
  by_cases hrs:r<s
  ·rw[if_pos (by omega),if_pos (by rw[if_pos hrs]; omega)]
  ·rw[if_neg (by omega),if_neg (by rw[if_neg hrs]; omega)]
 ·have:P*(b+1)≤P*a:=Nat.mul_le_mul_left _ h
  rw[Nat.mul_add] at this
  rw[if_neg (by omega),if_neg (by split<;>omega)]
theorem Ji {x i:Nat}:(zf x)[i]?.getD 0=x/B^i%B:=by
 by_cases h:i<(zf x).length
 ·rw[List.getElem?_eq_getElem h,Option.getD_some,qp h]
 ·rw[List.getElem?_eq_none (by omega),Option.getD_none]
  have:=zJ.1 (Nat.le_of_not_lt h)
  rw[Nat.div_eq_of_lt this]; rfl
end Go.Dig

namespace Go.Proofs.Ytbgnkodhpbkdoaa
open Go Go.Am Go.Dig
theorem zC {k:Nat} (h:k<4611686018427387904):IntKind.i64.wrap ((k:Int)+1)=((k+1:Nat):Int):=by
 rw[wrap64]<;>omega
abbrev uv (n:Nat):AV:=.val (.int .u32 (n:Int))
abbrev zH (a:List Nat):List (List AV):=a.map fun d=>[uv d]
abbrev nl (m:Am.Mode) (a:List Nat):AV:=.list 1 m (zH a)
abbrev nD (x:Nat):AV:=nl .plain (zf x)
theorem x5 {sz:Nat} {rows:List (List AV)}:AV.imp (.list sz .full rows) (.list sz .plain rows):=fun I w v h=>by
 cases h with
 | listNil _ _ a cap hm ho=>exact .listNil _ _ a cap (by simp) (by simp)
 | list _ _ _ b o cap g hcap hm ho hrow hcell hc=>exact .list _ _ _ b o cap g hcap (by simp) (by simp) hrow hcell hc
theorem Zu {sz:Nat} {rows:List (List AV)}:AV.imp (R8 sz rows) (.list sz .plain rows):=by
 unfold R8
 by_cases h:rows=[]
 ·subst h; simp only[if_true]; exact AV.imp_nil rfl
 ·simp only[h,if_false]; exact AV.imp.refl
theorem w32 (n:Nat):IntKind.u32.wrap (n:Int)=((n%B:Nat):Int):=by
 rw[IntKind.wrap_u32,yc]; omega
theorem w64 {n:Nat} (h:n<18446744073709551616):IntKind.u64.wrap (n:Int)=n:=IntWalk.u64_in n (by omega)
theorem vm {n:Int} (h:0≤n) (h2:n<18446744073709551616):IntKind.u64.wrap n=n:=IntWalk.u64_in n (by omega)
def QO (m:Am.Mode) (a:List Nat) (k:Nat):St:={env:=[(0,nl m a),(3,iv ((a.length-k:Nat):Int))],sto:=[]}
theorem xb {m:Am.Mode} {a:List Nat} (ha:ok a) (hn:a.length<1099511627776):zc Try.prog xt [nl m a] (nD (val a)):=by
 obtain ⟨h1,h2,h3,h4⟩:=d5 ha
 refine uN Cm (by simp) ?_
 simp[SV]
 generalize hT:(zf (val a)).length=T at h1 h2 h3 h4
 refine C3 (QO m a) (a.length-T) ?_ (fun k hk=>?_) ?_
 ·simp[QO]
 ·have hp:0<a.length-k:=by omega
  have hp2:k<a.length:=by omega
  have w:IntKind.i64.wrap (((a.length-k:Nat):Int)-1)=((a.length-(k+1):Nat):Int):=by rw[wrap64]<;>omega
  have hlt:a.length-(k+1)<a.length:=by omega
  have hz:=h2 (a.length-(k+1)) hlt (by omega)
  simp[nU,QO,hp,w,hlt,hz]
 ·have e:a.length-(a.length-T)=T:=by omega
  rcases T with _ | T
  ·have h5:zf (val a)=[]:=by rw[← h4]; rfl
   simp[nU,QO,jS,ZG]
   rw[show nD (val a)=.list 1 .plain [] by simp only[nD,nl,zH,h5,List.map_nil]]
   exact x5
  ·have w:IntKind.i64.wrap (((T+1:Nat):Int)-1)=(T:Int):=by rw[wrap64]<;>omega
   have hz:=h3 (by omega) (by omega)
   simp only[Nat.add_sub_cancel] at hz
   have hlt:T<a.length:=by omega
   have ht:List.take (T+1) (zH a)=zH (zf (val a)):=by rw[← h4]; simp
   have en:((T:Int)+1).toNat=T+1:=by omega
   have e0:(0:Int)≤(T:Int)+1:=by omega
   have e1:(T:Int)+1≤a.length:=by omega
   simp at w
   simp[nU,QO,e,w,hlt,hz,e0,e1,en,jS,ZG]
   first | (rw[ht]; exact x5) | (simp only[← List.map_take]; rw[h4]; exact x5)
theorem Za {m:Am.Mode} {a:List Nat} (ha:ok a) (hn:a.length<1099511627776):zc Try.prog ja [nl m a] (bv (decide (a=zf (val a)))):=by
 refine zG Ff (by simp) ?_
 simp[U0]
 refine za (xb (m:=stm m) ha hn) (by simp[rD]) (by simp) ?_
 obtain ⟨h1,h2,h3,h4⟩:=d5 ha
 have:decide ((((zf (val a)).length:Nat):Int)=(a.length:Int))=decide (a=zf (val a)):=by
  by_cases h:(zf (val a)).length=a.length
  ·have:a=zf (val a):=by rw[← h4,h]; simp
   simp[← this]
  ·have:a≠zf (val a):=fun e=>h (congrArg List.length e.symm)
   have h':¬ (((zf (val a)).length:Nat):Int)=(a.length:Int):=by omega
   simp[this]
   omega
 simp[TA]
 simpa using this
theorem Q9 (n:Int):IntKind.u64.wrap n=n%18446744073709551616:=by simp[IntKind.wrap,IntKind.bits,IntKind.signed]
abbrev ye (n:Nat):AV:=.val (.int .u64 (n:Int))
theorem ey (n:Nat):(n:Int).fdiv (2^min 32 IntKind.u64.bits)=((n/B:Nat):Int):=by
 have:min 32 IntKind.u64.bits=32:=rfl
 rw[this,Int.fdiv_eq_ediv_of_nonneg _ (by decide),yc]
 rfl
theorem xg {a:List Nat} {k d:Nat}:(zH a).set k [uv d]=zH (a.set k d):=by simp[List.map_set]
theorem sZ {b:List Nat} {k:Nat} (h:b.length≤k):val (b.take k)=val b:=by rw[List.take_of_length_le h]
theorem a9 {a:List Nat} (h:ok a) (k:Nat):val (a.take k)<B^k:=y5 (vY h k) (by simp; omega)
def low (a b:List Nat) (k:Nat):Nat:=val (a.take k)+val (b.take k)
def car (a b:List Nat) (k:Nat):Nat:=low a b k/B^k
theorem Yx {a b:List Nat} (ha:ok a) (hb:ok b) (k:Nat):car a b k≤1:=by
 have h1:=a9 ha k
 have h2:=a9 hb k
 have:low a b k<2*B^k:=by unfold low; omega
 have:=Nat.div_lt_of_lt_mul (Nat.mul_comm 2 _▸this)
 unfold car
 omega
theorem Zi {a b:List Nat}:car a b 0=0:=by simp[car,low,val]
theorem Tn {a b:List Nat} {k t R:Nat} (h:low a b (k+1)=low a b k+B^k*t) (hs:val a+val b=low a b (k+1)+B^(k+1)*R) :
  (val a+val b)/B^k%B=(car a b k+t)%B∧car a b (k+1)=(car a b k+t)/B:=by
 constructor
 ·rw[hs,h,jp]; rfl
 ·unfold car; rw[h,jo]
theorem EN (a b:List Nat) (k:Nat) (ha:k≤a.length) (hb:k≤b.length∨b.length≤k):∃ R,val a+val b=low a b k+B^k*R:=by
 have e1:=vw a k
 rw[Nat.min_eq_left ha] at e1
 rcases hb with hb | hb
 ·have e2:=vw b k
  rw[Nat.min_eq_left hb] at e2
  exact ⟨val (a.drop k)+val (b.drop k),by unfold low; rw[Nat.mul_add]; omega⟩
 ·exact ⟨val (a.drop k),by unfold low; rw[sZ hb]; omega⟩
theorem XP {a b:List Nat} {k:Nat} (hk:k<a.length) (hb:k<b.length∨b.length≤k):∃ t,t=car a b k+(a[k]+(b[k]?.getD 0))∧(val a+val b)/B^k%B=t%B∧car a b (k+1)=t/B:=by
 refine ⟨_,rfl,?_⟩
 obtain ⟨R,hR⟩:=EN a b (k+1) (by omega) (by omega)
 rcases hb with hb | hb
 ·rw[List.getElem?_eq_getElem hb,Option.getD_some]
  exact Tn (by unfold low; rw[xF hk,xF hb,Nat.mul_add]; omega) hR
 ·rw[List.getElem?_eq_none hb,Option.getD_none]
  exact Tn (by unfold low; rw[xF hk,sZ hb,sZ (show b.length≤k+1 by omega)]; simp; omega) hR
def mf (m1 m2:Am.Mode) (a b:List Nat) (k:Nat):St :=
 {env:=[(0,nl m1 a),(1,nl m2 b),(5,.sl 19 1 0 (a.length+1)),(6,ye (car a b k)),(21,iv a.length),(22,iv k)],sto:=[(19,.arr 1 (zH (wo (a.length+1) k (val a+val b))))]}
theorem SG {m1 m2:Am.Mode} {a b:List Nat} (ha:ok a) (hb:ok b) (hl:b.length≤a.length) (hn:a.length<1099511627775) :
  awp Try.prog (.loop pm) (mf m1 m2 a b 0) (wN 0 (sP Try.prog gY (eg Us (nD (val a+val b))))):=by
 have hS:val a+val b<B^(a.length+1):=by
  have h1:=wY ha
  have h2:=y5 hb hl
  rw[Nat.pow_succ,yc] at *
  omega
 refine zB (mf m1 m2 a b) (fun _=>True) a.length (by simp[mf]) trivial (fun k hk _=>?_) (fun _=>?_)
 ·have e:(k:Int)<a.length:=by omega
  have hc:=Yx ha hb k
  have hak:=xz ha hk
  have hfl:=jv (n:=a.length+1) (k:=k) (S:=val a+val b) (by omega)
  have hfk:k<(wo (a.length+1) k (val a+val b)).length:=by omega
  have hset:=jw (n:=a.length+1) (k:=k) (S:=val a+val b) (by omega)
  have e1:IntKind.u64.wrap ((a[k]:Nat):Int)=(a[k]:Nat):=w64 (by rw[yc] at hak; omega)
  obtain ⟨t,ht,g1,g2⟩:=XP (a:=a) (b:=b) hk (by omega)
  rw[g1] at hset
  obtain ⟨d,hd⟩:∃ d,t%B=d:=⟨_,rfl⟩
  obtain ⟨q,hq⟩:∃ q,t/B=q:=⟨_,rfl⟩
  have f1:IntKind.u32.wrap (t:Int)=(d:Int):=by rw[w32,hd]
  have f2:(t:Int).fdiv (2^min 32 IntKind.u64.bits)=(q:Int):=by rw[ey,hq]
  rw[hd] at hset
  have hset':(zH (wo (a.length+1) k (val a+val b))).set k [uv d]=zH (wo (a.length+1) (k+1) (val a+val b)):=by rw[xg,hset]
  rw[hq] at g2
  rw[yc] at hak
  have e4:IntKind.u64.wrap ((a[k]:Int)+(car a b k:Int))=((a[k]:Int)+(car a b k:Int)):=by rw[vm]<;>omega
  by_cases hkb:k<b.length
  ·have e2:(k:Int)<b.length:=by omega
   have hbk:=xz hb hkb
   rw[yc] at hbk
   rw[List.getElem?_eq_getElem hkb,Option.getD_some] at ht
   have e3:IntKind.u64.wrap ((b[k]:Nat):Int)=(b[k]:Nat):=w64 (by omega)
   have e5:IntKind.u64.wrap ((a[k]:Int)+(car a b k:Int)+(b[k]:Int))=(t:Int):=by rw[vm]<;>omega
   simp[pm,mf,e,e2,hk,hkb,e1,e3,e4,e5,xw,hfk,splice,f1,f2,hset',g2,zC (show k<4611686018427387904 by omega)]
   omega
  ·have e2:¬ (k:Int)<b.length:=by omega
   rw[List.getElem?_eq_none (by omega),Option.getD_none] at ht
   have e5:(a[k]:Int)+(car a b k:Int)=(t:Int):=by omega
   rw[e5] at e4
   simp[pm,mf,e,e2,hk,e1,e5,e4,xw,hfk,splice,f1,f2,hset',g2,zC (show k<4611686018427387904 by omega)]
   omega
 ·have hfl:=jv (n:=a.length+1) (k:=a.length) (S:=val a+val b) (by omega)
  have hfk:a.length<(wo (a.length+1) a.length (val a+val b)).length:=by omega
  have hset:=jw (n:=a.length+1) (k:=a.length) (S:=val a+val b) (by omega)
  have hc:=Yx ha hb a.length
  have hcl:(val a+val b)/B^a.length%B=car a b a.length:=by
   have h1:car a b a.length=(val a+val b)/B^a.length:=by
    unfold car low; rw[sZ (Nat.le_refl _),sZ hl]
   rw[← h1,Nat.mod_eq_of_lt (by rw[yc]; omega)]
  rw[hcl] at hset
  have hset':(zH (wo (a.length+1) a.length (val a+val b))).set a.length [uv (car a b a.length)]=zH (zo (a.length+1) (val a+val b)):=by rw[xg,hset,dQ]
  have f1:IntKind.u32.wrap (car a b a.length:Int)=(car a b a.length:Int):=IntWalk.u32_in _ (by omega)
  have hle:a.length+1≤(zo (a.length+1) (val a+val b)).length:=by rw[zw]; exact Nat.le_refl _
  have htk:(zH (zo (a.length+1) (val a+val b))).take (a.length+1)=zH (zo (a.length+1) (val a+val b)):=List.take_of_length_le (by rw[List.length_map,zw]; exact Nat.le_refl _)
  have key:=xb (m:=.plain) (a:=zo (a.length+1) (val a+val b)) yz (by rw[zw]; omega)
  rw[yk hS] at key
  simp[pm,mf,gY,hfk,splice,f1,hset',xf,uf,htk,hle]
  refine ⟨by omega,?_⟩
  refine za key (by simp) (by simp) ?_
  simp[Us]
  exact AV.imp.refl
theorem jf {m1 m2:Am.Mode} {a b:List Nat} (ha:ok a) (hb:ok b) (hna:a.length<1099511627775) (hnb:b.length<1099511627775):zc Try.prog lj [nl m1 a,nl m2 b] (nD (val a+val b)):=by
 refine uN A9 (by simp) ?_
 by_cases h:a.length<b.length
 ·have h':(a.length:Int)<b.length:=by omega
  have w:IntKind.i64.wrap ((b.length:Int)+1)=(b.length:Int)+1:=wrap64 (by omega) (by omega)
  have key:=SG (m1:=m2) (m2:=m1) hb ha (by omega) (by omega)
  rw[Nat.add_comm (val b)] at key
  have e1:((b.length:Int)+1).toNat=b.length+1:=by omega
  simp[XV,h',w,eMk,e1]
  refine ⟨by omega,by omega,by omega,?_⟩
  have e2:mf m2 m1 b a 0={env:=[(0,nl m2 b),(1,nl m1 a),(5,.sl 19 1 0 (b.length+1)),(6,ye 0),(21,iv b.length),(22,iv 0)],sto:=[(19,.arr 1 (List.replicate (b.length+1) [uv 0]))]}:=by
   simp[mf,Zi,m4]
  rw[e2] at key
  exact key
 ·have h':¬ (a.length:Int)<b.length:=by omega
  have w:IntKind.i64.wrap ((a.length:Int)+1)=(a.length:Int)+1:=wrap64 (by omega) (by omega)
  have key:=SG (m1:=m1) (m2:=m2) ha hb (by omega) (by omega)
  have e1:((a.length:Int)+1).toNat=a.length+1:=by omega
  simp[XV,h',w,eMk,e1]
  refine ⟨by omega,by omega,by omega,?_⟩
  have e2:mf m1 m2 a b 0={env:=[(0,nl m1 a),(1,nl m2 b),(5,.sl 19 1 0 (a.length+1)),(6,ye 0),(21,iv a.length),(22,iv 0)],sto:=[(19,.arr 1 (List.replicate (a.length+1) [uv 0]))]}:=by
   simp[mf,Zi,m4]
  rw[e2] at key
  exact key
end Go.Proofs.Ytbgnkodhpbkdoaa
