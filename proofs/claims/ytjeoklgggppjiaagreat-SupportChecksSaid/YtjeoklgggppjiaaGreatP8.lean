/- What the proof rests on, part 8: C Dig N0 IM GA CM N1 N1v N2 N3c Dig2 N4f N5 Dig3 Dig4 N6 N7 N8 N9 N10 Dig5 N11 N6b N12 N13 N14 F1 F3f F5 FR N3 N4 N20 N21. -/
import Derived.Test.YtjeoklgggppjiaaGreatP7
import Derived.Test.YtjeoklgggppjiaaGreatProg
set_option maxRecDepth 100000
set_option maxHeartbeats 4000000
namespace Go.Proofs.YtjeoklgggppjiaaGreat
open Go Go.Am
def tB:zc:=(.seq (rgN [Ob 22 .lss zb 21 20] [] []) (.seq (.cond (.t 22) .skip (.exit 0)) (.seq (.block 1 (.seq (rgN [Oi 23 4 19 21,On 24 4 23,⟨some 6,.alloc [zA,bv false,zA,zA],[],none⟩,Oz 4 6 24] [22,23,24] []) (.seq (rgD [OF 25 0 6,Ol 26 25,Om 27 1,OK 28 YO 26 27,OF 29 1 6,On 30 3 29,OK 31 s8 28 30,Oj 32 .gtr zb 31 0] [6,25,26,27,28,29,30,31] [6]) (.cond (.t 32) (.seq (rgN [oq 4 .mov [.c (bv false)]] [1,19,20,21,32] []) .ret) .skip)))) (rgN [Oj 33 .add zb 21 1,Om 21 33] [32,33] []))))
def nM:zc:=(.seq (rgN [oq 4 .mov [.c (bv true)]] [1,19,20,21,22] []) .ret)
def kE:zc:=(.seq (rgN [OB 2 0,oq 4 .mov [.c (bv false)]] [0,4] []) (.seq (.seq (rgN [On 7 2 2,Ok 8 ue 7,oq 9 (.un .not) [.t 8],Om 10 9,Wm 11 1 10,WF 12 0 2 10,Wl 13 12 10,WL 14 13 10,WK 15 vC 11 14 10,⟨some 16,.un .not,[.t 15],some (10,false)⟩,Op 17 10 16] [7,8,9,10,11,12,13,14,15,16] []) (.cond (.t 17) (.seq (rgN [oq 4 .mov [.c (bv false)]] [1,2,17] [2]) .ret) .skip)) (.seq (.seq (rgN [OF 18 1 2,Ol 19 18,OL 20 19,Oc 21 0] [2,17,18] [2]) (.block 0 (.loop tB))) nM)))
def k9:List zu:=[.t 4]
theorem YG:zj Tryz.prog rV=some (bare kE,k9,34):=by kernel_rfl
def qd:zc:=(.seq (rgN [Ob 23 .lss zb 22 21] [] []) (.seq (.cond (.t 23) .skip (.exit 0)) (.seq (.block 1 (.seq (rgN [Om 24 22,Om 6 24] [23,24] []) (.seq (rgD [On 25 2 2,Om 26 1,Om 27 6,oq 28 (.call nf) [.t 25,.t 26,.t 27],OF 29 0 2,Ol 30 29,Om 31 6,Oi 32 3 30 31,On 33 3 32,OK 34 s8 28 33,Oj 35 .lss zb 34 0] [6,25,26,27,28,29,30,31,32,33,34] []) (.cond (.t 35) (.seq (rgN [⟨some 36,.build zF [],[],none⟩,Oz 3 4 36,oq 5 .mov [.c (bv false)]] [1,2,21,22,35,36] [2]) .ret) .skip)))) (rgN [Oj 37 .add zb 22 1,Om 22 37] [35,37] []))))
def kD:zc:=(.seq (rgN [On 38 2 2,Om 39 1,OK 40 ne 38 39,Oz 3 4 40,oq 5 .mov [.c (bv true)]] [1,2,21,22,23,38,39,40] [2]) .ret)
def ef:zc:=(.seq (rgN [OB 2 0,Oa 4,oq 5 .mov [.c (bv false)]] [0,5] []) (.seq (.seq (rgN [On 7 2 2,Ok 8 ue 7,oq 9 (.un .not) [.t 8],Om 10 9,Wm 11 1 10,WF 12 1 2 10,Wl 13 12 10,WL 14 13 10,WK 15 vC 11 14 10,⟨some 16,.un .not,[.t 15],some (10,false)⟩,Op 17 10 16] [7,8,9,10,11,12,13,14,15,16] []) (.cond (.t 17) (.seq (rgN [⟨some 18,.build zF [],[],none⟩,Oz 3 4 18,oq 5 .mov [.c (bv false)]] [1,2,17,18] [2]) .ret) .skip)) (.seq (.seq (rgN [OF 19 0 2,Ol 20 19,OL 21 20,Oc 22 0] [17,19,20] []) (.block 0 (.loop qd))) kD)))
def eW:List zu:=[.cell 4 (some 3),.t 5]
theorem S2:zj Tryz.prog ma=some (bare ef,eW,41):=by kernel_rfl
def eh:zc:=(.seq (rgN [OB 2 0,Oa 4] [0] []) (.seq (rgN [OF 5 0 2,Ol 6 5,Om 7 1,OK 8 YO 6 7,Oz 3 4 8] [1,2,5,6,7,8] [2]) .ret))
def eX:List zu:=[.cell 4 (some 3)]
theorem S4:zj Tryz.prog mb=some (bare eh,eX,9):=by kernel_rfl
def ut:zc:=(.seq (rgN [Ob 19 .lss zb 18 17] [] []) (.seq (.cond (.t 19) .skip (.exit 0)) (.seq (.block 1 (.seq (rgN [Oi 20 3 16 18,On 21 3 20,Oa 6,Oz 3 6 21] [19,20,21] []) (.seq (rgN [On 22 3 6,Ok 23 wV 22,Oj 24 .lss zb 23 0] [6,22,23] [6]) (.cond (.t 24) (.seq (rgN [oq 4 .mov [.c (bv false)]] [16,17,18,24] []) .ret) .skip)))) (rgN [Oj 25 .add zb 18 1,Om 18 25] [24,25] []))))
def qe:zc:=(.seq (rgN [oq 4 .mov [.c (bv true)]] [16,17,18,19] []) .ret)
def nN:zc:=(.seq (rgN [oq 4 .mov [.c (bv false)]] [4] []) (.seq (.seq (rgN [Om 7 0,OL 8 7,Om 9 1,Ob 10 .neq zb 8 9,Om 11 10,Wm 12 0 11,Wk 13 wz 12 11,⟨some 14,.un .not,[.t 13],some (11,false)⟩,Op 15 11 14] [1,7,8,9,10,11,12,13,14] []) (.cond (.t 15) (.seq (rgN [oq 4 .mov [.c (bv false)]] [0,15] []) .ret) .skip)) (.seq (.seq (rgN [Om 16 0,OL 17 16,Oc 18 0] [0,15] []) (.block 0 (.loop ut))) qe)))
def n6:List zu:=[.t 4]
theorem cJ:zj Tryz.prog vC=some (bare nN,n6,26):=by kernel_rfl
def cZ:zc:=(.seq (rgN [Ob 13 .lss zb 12 11] [] []) (.seq (.cond (.t 13) .skip (.exit 0)) (.seq (.block 1 (.seq (rgN [Om 14 12,Om 6 14] [13,14] []) (rgD [Om 15 5,Om 16 0,Om 17 6,Oi 18 3 16 17,On 19 3 18,Om 20 1,Om 21 6,Oi 22 3 20 21,On 23 3 22,OK 24 wM 19 23,⟨some 25,.mkslice 3 1 zF [0],[.t 24],none⟩,oq 26 (.append 3 56) [.t 15,.t 25],Om 5 26] [6,15,16,17,18,19,20,21,22,23,24,25,26] []))) (rgN [Oj 27 .add zb 12 1,Om 12 27] [27] []))))
def Tx:zc:=(.seq (rgN [Om 28 5,Ok 29 Rf 28,Oz 3 4 29] [0,1,5,11,12,13,28,29] []) .ret)
def KK:zc:=(.seq (rgN [Oa 4] [] []) (.seq (rgN [oq 5 .mov [.c zA]] [] []) (.seq (.seq (rgN [Om 7 0,OL 8 7,Om 9 1,OL 10 9,⟨some 11,.mm .min #[zb,zb] zb,[.t 8,.t 10],none⟩,Oc 12 0] [7,8,9,10] []) (.block 0 (.loop cZ))) Tx)))
def JH:List zu:=[.cell 4 (some 3)]
theorem ael:zj Tryz.prog YO=some (bare KK,JH,30):=by kernel_rfl
def rq:zc:=(.seq (rgN [Ob 13 .lss zb 12 11] [] []) (.seq (.cond (.t 13) .skip (.exit 0)) (.seq (.block 1 (.seq (rgN [Om 14 12,Om 8 14] [13,14] []) (rgD [On 15 3 7,Om 16 1,Om 17 8,Oi 18 3 16 17,On 19 3 18,OF 20 1 3,Ol 21 20,Om 22 8,Oi 23 4 21 22,OF 24 0 23,Ol 25 24,Om 26 2,Oi 27 3 25 26,On 28 3 27,OK 29 wM 19 28,OK 30 tp 15 29,Oz 3 7 30] [8,15,16,17,18,19,20,21,22,23,24,25,26,27,28,29,30] []))) (rgN [Oj 31 .add zb 12 1,Om 12 31] [31] []))))
def m4:zc:=(.seq (rgN [On 32 3 7,Oz 3 6 32] [1,2,3,7,11,12,13,32] [3,7]) .ret)
def gF:zc:=(.seq (rgN [OB 3 0,Oa 6] [0] []) (.seq (rgN [oq 9 (.call zM) [.c (iv 0)],Oa 7,Oz 3 7 9] [9] []) (.seq (.seq (rgN [Om 10 1,OL 11 10,Oc 12 0] [10] []) (.block 0 (.loop rq))) m4)))
def fz:List zu:=[.cell 6 (some 3)]
theorem Tf:zj Tryz.prog nf=some (bare gF,fz,33):=by kernel_rfl
def rp:zc:=(.seq (rgN [Ob 15 .lss zb 14 13] [] []) (.seq (.cond (.t 15) .skip (.exit 0)) (.seq (.block 1 (.seq (rgN [Om 16 14,Om 6 16] [15,16] []) (rgD [On 17 3 5,Om 18 1,Om 19 6,Oi 20 3 18 19,On 21 3 20,OF 22 1 2,Ol 23 22,Om 24 6,Oi 25 4 23 24,OF 26 1 25,On 27 3 26,OK 28 wM 21 27,OK 29 tp 17 28,Oz 3 5 29] [6,17,18,19,20,21,22,23,24,25,26,27,28,29] []))) (rgN [Oj 30 .add zb 14 1,Om 14 30] [30] []))))
def mZ:zc:=(.seq (rgN [On 31 3 5,Oz 3 4 31] [1,2,5,13,14,15,31] [2,5]) .ret)
def gD:zc:=(.seq (rgN [OB 2 0,Oa 4] [0] []) (.seq (rgN [oq 7 (.call zM) [.c (iv 0)],Oa 5,Oz 3 5 7] [7] []) (.seq (.seq (rgN [Om 8 1,OL 9 8,OF 10 1 2,Ol 11 10,OL 12 11,⟨some 13,.mm .min #[zb,zb] zb,[.t 9,.t 12],none⟩,Oc 14 0] [8,9,10,11,12] []) (.block 0 (.loop rp))) mZ)))
def fw:List zu:=[.cell 4 (some 3)]
theorem Te:zj Tryz.prog ne=some (bare gD,fw,32):=by kernel_rfl
def c7:zc:=(.seq (rgN [Ob 10 .lss zb 9 8] [] []) (.seq (.cond (.t 10) .skip (.exit 0)) (.seq (.block 1 (.seq (rgN [Oi 11 3 7 9,On 12 3 11,Oa 5,Oz 3 5 12] [10,11,12] []) (rgN [On 13 3 3,On 14 3 5,OK 15 tp 13 14,Oz 3 3 15] [5,13,14,15] [5]))) (rgN [Oj 16 .add zb 9 1,Om 9 16] [16] []))))
def Tz:zc:=(.seq (rgN [On 17 3 3,Oz 3 2 17] [3,7,8,9,10,17] [3]) .ret)
def KO:zc:=(.seq (rgN [Oa 2] [] []) (.seq (rgN [oq 6 (.call zM) [.c (iv 0)],Oa 3,Oz 3 3 6] [6] []) (.seq (.seq (rgN [Om 7 0,OL 8 7,Oc 9 0] [0] []) (.block 0 (.loop c7))) Tz)))
def JL:List zu:=[.cell 2 (some 3)]
theorem aep:zj Tryz.prog Rf=some (bare KO,JL,18):=by kernel_rfl
end Go.Proofs.YtjeoklgggppjiaaGreat

namespace Go.Dig
def B:Nat:=4294967296
theorem z7:B=4294967296:=rfl
theorem zX:0<B:=by decide
theorem vr (k:Nat):0<B^k:=Nat.pow_pos zX
def val:List Nat→Nat
 | []=>0
 | d::l=>d+B*val l
def ok (l:List Nat):Prop:=∀ d∈l,d<B
def zf (x:Nat):List Nat:=if x=0 then [] else x%B::zf (x/B)
termination_by x
decreasing_by exact Nat.div_lt_self (by omega) (by decide)
theorem yl:zf 0=[]:=by rw[zf]; rfl
theorem lg {x:Nat} (h:x≠0):zf x=x%B::zf (x/B):=by rw[zf,if_neg h]
theorem zK (x:Nat):val (zf x)=x:=by
 induction x using Nat.strongRecOn with
 | ind x ih =>
  by_cases h:x=0
  ·subst h; rw[yl]; rfl
  ·rw[lg h,val,ih _ (Nat.div_lt_self (by omega) (by decide))]
   exact Nat.mod_add_div x B
theorem zx (x:Nat):ok (zf x):=by
 induction x using Nat.strongRecOn with
 | ind x ih =>
  by_cases h:x=0
  ·subst h; rw[yl]; intro d hd; cases hd
  ·rw[lg h]
   intro d hd
   rcases List.mem_cons.1 hd with rfl | hd
   ·exact Nat.mod_lt _ zX
   ·exact ih _ (Nat.div_lt_self (by omega) (by decide)) d hd
theorem yD {x:Nat}:zf x=[]↔x=0:=by
 constructor
 ·intro h; have:=zK x; rw[h] at this; exact this.symm
 ·rintro rfl; exact yl
theorem bz {x y:Nat} (h:zf x=zf y):x=y:=by rw[← zK x,h,zK]
theorem Mn:ok []:=fun _ h=>by cases h
theorem RJ {d:Nat} {l:List Nat}:ok (d::l)↔d<B∧ok l:=by simp[ok]
theorem Yb {a b:List Nat}:ok (a++b)↔ok a∧ok b:=by
 constructor
 ·intro h; exact ⟨fun d hd=>h d (by simp[hd]),fun d hd=>h d (by simp[hd])⟩
 ·rintro ⟨h1,h2⟩ d hd
  rcases List.mem_append.1 hd with hd | hd
  ·exact h1 d hd
  ·exact h2 d hd
theorem uM {a:List Nat} (h:ok a) (k:Nat):ok (a.take k):=fun d hd=>h d (List.mem_of_mem_take hd)
theorem RK {a:List Nat} (h:ok a) (k:Nat):ok (a.drop k):=fun d hd=>h d (List.mem_of_mem_drop hd)
theorem So {a:List Nat} (h:ok a) {k x:Nat} (hx:x<B):ok (a.set k x):=fun d hd=>by
 rcases List.mem_or_eq_of_mem_set hd with hd | rfl
 ·exact h d hd
 ·exact hx
theorem Mo (n:Nat):ok (List.replicate n 0):=fun d hd=>by
 rw[List.eq_of_mem_replicate hd]; exact zX
theorem xH {a:List Nat} (h:ok a) {k:Nat} (hk:k<a.length):a[k]<B:=h _ (List.getElem_mem hk)
theorem val_append (a b:List Nat):val (a++b)=val a+B^a.length*val b:=by
 induction a with
 | nil=>simp[val]
 | cons d a ih=>simp only[List.cons_append,val,ih,List.length_cons,Nat.pow_succ,Nat.mul_add]; rw[Nat.mul_comm (B^a.length) B,Nat.mul_assoc]; omega
theorem Xz (n:Nat):val (List.replicate n 0)=0:=by
 induction n with
 | zero=>rfl
 | succ n ih=>simp[List.replicate_succ,val,ih]
theorem vw {a:List Nat} (h:ok a):val a<B^a.length:=by
 induction a with
 | nil=>simp[val]
 | cons d a ih =>
  have h1:=(RJ.1 h).1
  have h2:=ih (RJ.1 h).2
  simp only[val,List.length_cons,Nat.pow_succ]
  have:B*(val a+1)≤B*B^a.length:=Nat.mul_le_mul_left _ h2
  rw[Nat.mul_add] at this
  rw[Nat.mul_comm (B^a.length)]
  omega
theorem yY {a:List Nat} (h:ok a) {n:Nat} (hn:a.length≤n):val a<B^n :=
 Nat.lt_of_lt_of_le (vw h) (Nat.pow_le_pow_right zX hn)
theorem v9 (a:List Nat) (k:Nat):val a=val (a.take k)+B^(min k a.length)*val (a.drop k):=by
 have:=val_append (a.take k) (a.drop k)
 rwa [List.take_append_drop,List.length_take] at this
theorem xK {a:List Nat} {k:Nat} (hk:k<a.length):val (a.take (k+1))=val (a.take k)+B^k*a[k]:=by
 rw[List.take_succ_eq_append_getElem hk,val_append,List.length_take,Nat.min_eq_left (by omega)]
 simp[val]
theorem Ly {a:List Nat} (h:ok a) {k:Nat} (hk:k≤a.length):val (a.take k)=val a%B^k:=by
 have h1:=v9 a k
 have h2:=vw (uM h k)
 rw[List.length_take,Nat.min_eq_left hk] at h2
 rw[Nat.min_eq_left hk] at h1
 rw[h1,Nat.add_mul_mod_self_left,Nat.mod_eq_of_lt h2]
theorem Tj {a:List Nat} (h:ok a) {k:Nat} (hk:k≤a.length):val (a.drop k)=val a/B^k:=by
 have h1:=v9 a k
 have h2:=vw (uM h k)
 rw[List.length_take,Nat.min_eq_left hk] at h2
 rw[Nat.min_eq_left hk] at h1
 rw[h1,Nat.add_mul_div_left _ _ (vr k),Nat.div_eq_of_lt h2,Nat.zero_add]
theorem lr {a:List Nat} (h:ok a) {k:Nat} (hk:k<a.length):a[k]=val a/B^k%B:=by
 rw[← Tj h (by omega),List.drop_eq_getElem_cons hk,val,Nat.add_mul_mod_self_left,Nat.mod_eq_of_lt (xH h hk)]
def zw (n x:Nat):List Nat:=(List.range n).map fun i=>x/B^i%B
theorem zB {n x:Nat}:(zw n x).length=n:=by simp[zw]
theorem vp {n x k:Nat} (hk:k<(zw n x).length):(zw n x)[k]=x/B^k%B:=by simp[zw]
theorem yw {n x:Nat}:ok (zw n x):=fun d hd=>by
 simp only[zw,List.mem_map] at hd
 obtain ⟨i,_,rfl⟩:=hd
 exact Nat.mod_lt _ zX
theorem ZN {a:List Nat} (h:ok a):zw a.length (val a)=a:=by
 apply List.ext_getElem
 ·simp[zw]
 ·intro i h1 h2
  rw[vp,← lr h h2]
theorem sx {n x:Nat}:zw (n+1) x=zw n x++[x/B^n%B]:=by
 simp[zw,List.range_succ]
theorem dk {n x:Nat}:val (zw n x)=x%B^n:=by
 induction n with
 | zero=>simp[zw,val,Nat.mod_one]
 | succ n ih =>
  rw[sx,val_append,ih,zB,Nat.pow_succ,Nat.mod_mul]
  simp[val]
theorem Xy {a b:List Nat} (ha:ok a) (hb:ok b) (hl:a.length=b.length) (hv:val a=val b):a=b:=by
 rw[← ZN ha,← ZN hb,hl,hv]
def wF (n k S:Nat):List Nat:=zw k S++List.replicate (n-k) 0
theorem jV {n S:Nat}:wF n 0 S=List.replicate n 0:=by simp[wF,zw]
theorem eJ {n k S:Nat} (hk:k≤n):(wF n k S).length=n:=by simp[wF,zB]; omega
theorem ZS {n S:Nat}:wF n n S=zw n S:=by simp[wF]
theorem eK {n k S:Nat} (hk:k<n):(wF n k S).set k (S/B^k%B)=wF n (k+1) S:=by
 unfold wF
 obtain ⟨m,hm⟩:∃ m,n-k=m+1:=⟨n-k-1,by omega⟩
 have hm2:n-(k+1)=m:=by omega
 rw[hm,hm2,sx,List.set_append_right _ _ (by rw[zB]; exact Nat.le_refl _),zB,Nat.sub_self,List.replicate_succ,List.set_cons_zero]
 simp
theorem yh {n x:Nat} (h:x<B^n):val (zw n x)=x:=by rw[dk,Nat.mod_eq_of_lt h]
theorem K9 {a:List Nat} (h:ok a) (hn:∀ hk:0<a.length,a[a.length-1]≠0):zf (val a)=a:=by
 induction a with
 | nil=>exact yl
 | cons d a ih =>
  have h1:=RJ.1 h
  by_cases ha:a=[]
  ·subst ha
   have:d≠0:=hn (by simp)
   have h2:(d+B*0)=d:=by omega
   simp only[val,h2]
   rw[lg this,Nat.mod_eq_of_lt h1.1,Nat.div_eq_of_lt h1.1,yl]
  ·have hpos:0<a.length:=by
    rcases a with _ | ⟨x,a⟩
    ·exact absurd rfl ha
    ·simp
   have hlast:∀ hk:0<a.length,a[a.length-1]≠0:=fun _=>by
    have:=hn (by simp)
    simp only[List.length_cons,Nat.add_sub_cancel] at this
    rw[List.getElem_cons] at this
    rw[dif_neg (by omega)] at this
    exact this
   have ih:=ih h1.2 hlast
   have hne:val a≠0:=by
    intro h0
    rw[h0,yl] at ih
    exact ha ih.symm
   have h0:d+B*val a≠0:=by
    have:0<B*val a:=Nat.mul_pos zX (by omega)
    omega
   simp only[val]
   rw[lg h0,Nat.add_mul_mod_self_left,Nat.mod_eq_of_lt h1.1,Nat.add_mul_div_left _ _ zX,Nat.div_eq_of_lt h1.1,Nat.zero_add,ih]
theorem eG {x:Nat} (h:0<(zf x).length):(zf x)[(zf x).length-1]≠0:=by
 induction x using Nat.strongRecOn with
 | ind x ih =>
  by_cases h0:x=0
  ·subst h0; rw[yl] at h; simp at h
  ·have e:=lg h0
   by_cases h1:x/B=0
   ·have e2:zf x=[x%B]:=by rw[e,h1,yl]
    simp only[e2,List.length_singleton,Nat.sub_self,List.getElem_cons_zero]
    have:x<B:=by
     rcases Nat.lt_or_ge x B with h | h
     ·exact h
     ·have:=Nat.div_pos h zX; omega
    rw[Nat.mod_eq_of_lt this]; exact h0
   ·have hp:0<(zf (x/B)).length:=by
     rw[lg h1]; simp
    have:=ih _ (Nat.div_lt_self (by omega) (by decide)) hp
    simp only[e,List.length_cons,Nat.add_sub_cancel]
    rw[List.getElem_cons,dif_neg (by omega)]
    exact this
theorem zE {x n:Nat}:(zf x).length≤n↔x<B^n:=by
 constructor
 ·intro h
  have:=yY (zx x) h
  rwa [zK] at this
 ·intro h
  rcases Nat.lt_or_ge n (zf x).length with hlt | hge
  ·exfalso
   have hp:0<(zf x).length:=by omega
   have h1:=eG hp
   have h2:=lr (zx x) (k:=(zf x).length-1) (by omega)
   rw[zK] at h2
   have h3:x/B^((zf x).length-1)=0:=by
    apply Nat.div_eq_of_lt
    exact Nat.lt_of_lt_of_le h (Nat.pow_le_pow_right zX (by omega))
   rw[h3] at h2
   exact h1 h2
  ·exact hge
theorem dB {x n:Nat}:n<(zf x).length↔B^n≤x:=by
 have:=@zE x n
 omega
theorem Br {a:List Nat} (h:ok a) {n:Nat} (hn:n≤a.length) (h0:∀ k (hk:k<a.length),n≤k→a[k]=0) (h1:∀ hk:0<n,a[n-1]'(by omega)≠0):a.take n=zf (val a):=by
 have hz:a.drop n=List.replicate (a.length-n) 0:=by
  apply List.ext_getElem
  ·simp
  ·intro i hi hj
   simp only[List.getElem_drop,List.getElem_replicate]
   exact h0 _ _ (by omega)
 have hv:val a=val (a.take n):=by
  rw[v9 a n,hz,Xz]; omega
 rw[hv]
 refine (K9 (uM h n) fun hk=>?_).symm
 simp only[List.length_take,Nat.min_eq_left hn] at hk ⊢
 simp only[List.getElem_take]
 exact h1 hk
theorem wq {a:List Nat} (h:ok a):(zf (val a)).length≤a.length:=zE.2 (vw h)
def itr {σ:Type} (f:Nat→σ→σ) (s:σ):Nat→σ
 | 0=>s
 | k+1=>f k (itr f s k)
theorem nw {x i:Nat} (h:i<(zf x).length):(zf x)[i]=x/B^i%B:=by
 rw[lr (zx x) h,zK]
theorem Z3 {a:List Nat} (h:ok a):(zf (val a)).length≤a.length∧(∀ i (hi:i<a.length),(zf (val a)).length≤i→a[i]=0) ∧
  (∀ (_h0:0<(zf (val a)).length) (h1:(zf (val a)).length-1<a.length),a[(zf (val a)).length-1]≠0)∧a.take (zf (val a)).length=zf (val a):=by
 have h1:=wq h
 have h2:∀ i (hi:i<a.length),(zf (val a)).length≤i→a[i]=0:=fun i hi hle=>by
  rw[lr h hi]
  have h3:=zE.1 hle
  rw[Nat.div_eq_of_lt h3]
  rfl
 have h3:∀ (h0:0<(zf (val a)).length) (h1:(zf (val a)).length-1<a.length),a[(zf (val a)).length-1]≠0:=fun h0 h4=>by
  rw[lr h h4,← nw (by omega)]
  exact eG h0
 exact ⟨h1,h2,h3,Br h h1 (fun k hk hle=>h2 k hk hle) (fun h0=>h3 h0 (by omega))⟩
theorem XR {a b:List Nat} (ha:ok a) (_hb:ok b) (hl:a.length=b.length) {k:Nat} (hk:k<a.length) (heq:a.drop (k+1)=b.drop (k+1)) (hlt:a[k]<b[k]'(by omega)):val a<val b:=by
 have e1:=v9 a (k+1)
 have e2:=v9 b (k+1)
 rw[heq] at e1
 rw[Nat.min_eq_left (by omega)] at e1 e2
 have t1:=xK hk
 have t2:=xK (a:=b) (k:=k) (by omega)
 have l1:=vw (uM ha k)
 rw[List.length_take,Nat.min_eq_left (by omega)] at l1
 have:B^k*(a[k]+1)≤B^k*b[k]'(by omega):=Nat.mul_le_mul_left _ hlt
 rw[Nat.mul_add] at this
 omega
theorem eP {x y:Nat} (h:(zf x).length<(zf y).length):x<y:=by
 have h1:=zE.1 (Nat.le_refl (zf x).length)
 have h2:=dB.1 h
 omega
theorem eE {L t R k:Nat}:(L+B^k*t+B^(k+1)*R)/B^k%B=(L/B^k+t)%B:=by
 have:L+B^k*t+B^(k+1)*R=L+B^k*(t+B*R):=by rw[Nat.pow_succ,Nat.mul_add,Nat.mul_assoc]; omega
 rw[this,Nat.add_mul_div_left _ _ (vr k),← Nat.add_assoc,Nat.add_mul_mod_self_left]
theorem eD {L t k:Nat}:(L+B^k*t)/B^(k+1)=(L/B^k+t)/B:=by
 rw[Nat.pow_succ,← Nat.div_div_eq_div_mul,Nat.add_mul_div_left _ _ (vr k)]
def bor (x y k:Nat):Nat:=if x%B^k<y%B^k then 1 else 0
theorem Tv {x y k:Nat}:bor x y k≤1:=by unfold bor; split<;>omega
theorem cY {x y:Nat}:bor x y 0=0:=by simp[bor,Nat.mod_one]
theorem aee {x y P:Nat} (hP:0<P) (h:y≤x):(x-y)/P=x/P-y/P-(if x%P<y%P then 1 else 0)∧y/P+(if x%P<y%P then 1 else 0)≤x/P:=by
 have e1:=Nat.div_add_mod x P
 have e2:=Nat.div_add_mod y P
 have l1:=Nat.mod_lt x hP
 have l2:=Nat.mod_lt y hP
 have hq:y/P≤x/P:=Nat.div_le_div_right h
 generalize x/P=a at *
 generalize y/P=b at *
 generalize x%P=r at *
 generalize y%P=s at *
 obtain ⟨c,rfl⟩:∃ c,a=b+c:=⟨a-b,by omega⟩
 rw[Nat.mul_add] at e1
 by_cases hlt:r<s
 ·simp only[hlt,if_true]
  rcases c with _ | c
  ·simp at e1; omega
  ·rw[Nat.mul_add,Nat.mul_one] at e1
   have:x-y=P*c+(P+r-s):=by omega
   rw[this,Nat.mul_add_div hP,Nat.div_eq_of_lt (by omega)]
   omega
 ·simp only[hlt,if_false]
  have:x-y=P*c+(r-s):=by omega
  rw[this,Nat.mul_add_div hP,Nat.div_eq_of_lt (by omega)]
  omega
theorem dd {x y k:Nat} (h:y≤x):(((x-y)/B^k%B:Nat):Int)=((x/B^k%B:Nat)-(y/B^k%B:Nat)-(bor x y k:Nat):Int)%4294967296:=by
 obtain ⟨h1,h2⟩:=aee (vr k) h
 have e:(if x%B^k<y%B^k then 1 else 0)=bor x y k:=rfl
 rw[e] at h1 h2
 rw[h1]
 generalize x/B^k=a at *
 generalize y/B^k=b at *
 generalize bor x y k=c at *
 rw[z7]
 omega
theorem cX {x y k:Nat}:bor x y (k+1)=if x/B^k%B<y/B^k%B+bor x y k then 1 else 0:=by
 unfold bor
 rw[Nat.pow_succ,Nat.mod_mul,Nat.mod_mul]
 have l1:=Nat.mod_lt x (vr k)
 have l2:=Nat.mod_lt y (vr k)
 generalize x/B^k%B=a
 generalize y/B^k%B=b
 generalize x%B^k=r at *
 generalize y%B^k=s at *
 generalize B^k=P at *
 rcases Nat.lt_trichotomy a b with h | h | h
 ·have:P*(a+1)≤P*b:=Nat.mul_le_mul_left _ h
  rw[Nat.mul_add] at this
  rw[if_pos (by omega),if_pos (by omega)]
 ·subst h
  by_cases hrs:r<s
  ·rw[if_pos (by omega),if_pos (by rw[if_pos hrs]; omega)]
  ·rw[if_neg (by omega),if_neg (by rw[if_neg hrs]; omega)]
 ·have:P*(b+1)≤P*a:=Nat.mul_le_mul_left _ h
  rw[Nat.mul_add] at this
  rw[if_neg (by omega),if_neg (by split<;>omega)]
theorem Df {x i:Nat}:(zf x)[i]?.getD 0=x/B^i%B:=by
 by_cases h:i<(zf x).length
 ·rw[List.getElem?_eq_getElem h,Option.getD_some,nw h]
 ·rw[List.getElem?_eq_none (by omega),Option.getD_none]
  have:=zE.1 (Nat.le_of_not_lt h)
  rw[Nat.div_eq_of_lt this]; rfl
end Go.Dig

namespace Go.Proofs.YtjeoklgggppjiaaGreat
open Go Go.Am Go.Dig
theorem zm {k:Nat} (h:k<4611686018427387904):IntKind.i64.wrap ((k:Int)+1)=((k+1:Nat):Int):=by
 rw[wrap64]<;>omega
abbrev uv (n:Nat):AV:=.val (.int .u32 (n:Int))
abbrev zG (a:List Nat):List (List AV):=a.map fun d=>[uv d]
abbrev nl (m:Am.Mode) (a:List Nat):AV:=.list 1 m (zG a)
abbrev nD (x:Nat):AV:=nl .plain (zf x)
theorem wk {sz:Nat} {rows:List (List AV)}:AV.imp (.list sz .full rows) (.list sz .plain rows):=fun I w v h=>by
 cases h with
 | listNil _ _ a cap hm ho=>exact .listNil _ _ a cap (by simp) (by simp)
 | list _ _ _ b o cap g hcap hm ho hrow hcell hc=>exact .list _ _ _ b o cap g hcap (by simp) (by simp) hrow hcell hc
theorem UE {sz:Nat} {rows:List (List AV)}:AV.imp (Ms sz rows) (.list sz .plain rows):=by
 unfold Ms
 by_cases h:rows=[]
 ·subst h; simp only[if_true]; exact AV.imp_nil rfl
 ·simp only[h,if_false]; exact AV.imp.refl
theorem w32 (n:Nat):IntKind.u32.wrap (n:Int)=((n%B:Nat):Int):=by
 rw[IntKind.wrap_u32,z7]; omega
theorem w64 {n:Nat} (h:n<18446744073709551616):IntKind.u64.wrap (n:Int)=n:=IntWalk.u64_in n (by omega)
theorem vS {n:Int} (h:0≤n) (h2:n<18446744073709551616):IntKind.u64.wrap n=n:=IntWalk.u64_in n (by omega)
abbrev dD:AV:=.list 0 .full []
theorem Z1 {sz:Nat} {m:Am.Mode} {rows:List (List AV)} (h:stm m=m):AV.imp (.list sz m rows) (.list sz .plain rows):=by
 cases m with
 | plain=>exact AV.imp.refl
 | full=>exact wk
 | own l=>cases h
def fc (xs ys:List AV):Prop:=xs.length=ys.length∧∀ (i:Nat) x y,xs[i]?=some x→ys[i]?=some y→AV.imp x y
theorem fe:fc [] []:=⟨rfl,fun i x y h=>by simp at h⟩
theorem yt {x y:AV} {xs ys:List AV} (h:AV.imp x y) (hs:fc xs ys):fc (x::xs) (y::ys) :=
 ⟨by simp[hs.1],fun i a b ha hb=>by
  cases i with
  | zero=>simp only[List.getElem?_cons_zero,Option.some.injEq] at ha hb; subst ha hb; exact h
  | succ i=>simp only[List.getElem?_cons_succ] at ha hb; exact hs.2 i a b ha hb⟩
theorem eM {xs:List AV}:fc xs xs:=⟨rfl,fun i x y h h'=>by rw[h] at h'; cases h'; exact AV.imp.refl⟩
theorem qW {α:Type} {l:List α} {i:Nat} (h:i<l.length):l[i]?=some l[i]:=by simp[h]
theorem co {xs ys:List AV} (h:fc xs ys):AV.imp (.agg xs) (.agg ys):=fun I w v hv=>by
 cases hv with
 | agg _ vs hs h1 hc =>
  refine .agg _ vs (by rw[hs,h.1]) h1 fun i c hi=>?_
  have:i<xs.length:=by rw[h.1]; exact (List.getElem?_eq_some_iff.1 hi).1
  exact h.2 i _ c (qW this) hi _ _ _ (hc i _ (qW this))
def AG (xs ys:List (List AV)):Prop:=xs.length=ys.length∧∀ (i:Nat) x y,xs[i]?=some x→ys[i]?=some y→fc x y
theorem AF {sz:Nat} {m:Am.Mode} {xs ys:List (List AV)} (hm:stm m=m) (h:AG xs ys):AV.imp (.list sz m xs) (.list sz .plain ys):=fun I w v hv=>by
 have hv:=Z1 hm I w v hv
 cases hv with
 | listNil _ _ a cap _ _ =>
  have:ys=[]:=List.eq_nil_of_length_eq_zero (by rw[← h.1]; rfl)
  subst this
  exact .listNil _ _ _ _ (fun h=>by cases h) (fun _ h=>by cases h)
 | list _ _ _ b o cap g hcap hm' ho hrow hcell hc =>
  have get:∀ (i:Nat) r,ys[i]?=some r→∃ r0,xs[i]?=some r0∧fc r0 r:=fun i r hi=>by
   have:i<xs.length:=by rw[h.1]; exact (List.getElem?_eq_some_iff.1 hi).1
   exact ⟨xs[i],qW this,h.2 i _ r (qW this) hi⟩
  rw[h.1]
  refine .list _ _ _ b o cap g (by rw[← h.1]; exact hcap) (fun h=>by cases h) (fun _ h=>by cases h) (fun i r hi=>?_) (fun i r j c hi hj=>?_) fun i r j c hi hj=>?_
  ·obtain ⟨r0,h1,h2⟩:=get i r hi
   rw[← h2.1]; exact hrow i r0 h1
  ·obtain ⟨r0,h1,h2⟩:=get i r hi
   have hj0:j<r0.length:=by rw[h2.1]; exact (List.getElem?_eq_some_iff.1 hj).1
   exact hcell i r0 j _ h1 (qW hj0)
  ·obtain ⟨r0,h1,h2⟩:=get i r hi
   have hj0:j<r0.length:=by rw[h2.1]; exact (List.getElem?_eq_some_iff.1 hj).1
   exact h2.2 j _ c (qW hj0) hj _ _ _ (hc i r0 j _ h1 (qW hj0))
noncomputable def apc (tok sz:Nat) (rows:List (List AV)):AV:=if rows.length=0 then dD else .list sz (.own tok) rows
noncomputable def plc (sz:Nat) (rows:List (List AV)):AV:=if rows.length=0 then dD else .list sz .plain rows
section
variable {tok sz l k:Nat} {rows:List (List AV)}
theorem rc (h:rows.length=0):apc tok sz rows=dD:=if_pos h
theorem xQ (h:¬ rows.length=0):apc tok sz rows=.list sz (.own tok) rows:=if_neg h
@[simp] theorem ajo:rf (apc tok sz rows)=true:=by unfold apc; split<;>rfl
@[simp] theorem Ej:strip (apc tok sz rows)=plc sz rows:=by unfold apc plc; split<;>rfl
@[simp] theorem ahF:cellsOf (apc tok sz rows)=some [apc tok sz rows]:=by unfold apc; split<;>rfl
@[simp] theorem aiN {σ:Nat→Option ze}:wP σ (apc tok sz rows)=some (plc sz rows):=by unfold apc plc; split<;>rfl
@[simp] theorem aih:zU k (apc tok sz rows)=false:=by unfold apc; split<;>rfl
theorem rZ (h:¬ tok=l):dg l (apc tok sz rows)=apc tok sz rows:=by
 unfold apc
 split
 ·simp
 ·simp only[dg]; rw[if_neg h]
@[simp] theorem ahH:cellsOf (plc sz rows)=some [plc sz rows]:=by unfold plc; split<;>rfl
@[simp] theorem aj7:rf (plc sz rows)=true:=by unfold plc; split<;>rfl
@[simp] theorem ah3:strip (plc sz rows)=plc sz rows:=by unfold plc; split<;>rfl
@[simp] theorem aj6:dg l (plc sz rows)=plc sz rows:=by unfold plc; split<;>simp
@[simp] theorem aiK:zU k (plc sz rows)=false:=by unfold plc; split<;>rfl
theorem cx {rows':List (List AV)} (h:AG rows rows'):AV.imp (plc sz rows) (.list sz .plain rows'):=by
 unfold plc
 split
 ·rename_i h0
  have:rows'=[]:=List.eq_nil_of_length_eq_zero (by rw[← h.1]; exact h0)
  subst this
  exact AV.imp_nil rfl
 ·exact AF rfl h
end
@[simp] theorem ahK {tok sz:Nat} {rows:List (List AV)} {K:AV→Option ze→Prop}:lX false K (apc tok sz rows)=K (.val (.int .i64 rows.length)) none:=by
 unfold apc; split
 ·rename_i h; rw[h]; simp[lX]
 ·simp[lX]
theorem kW {rows:List (List AV)}:AG rows rows:=⟨rfl,fun i x y h h'=>by rw[h] at h'; cases h'; exact eM⟩
theorem Q6 {f:FuncId} {args:List AV} {r r':AV} (h:zd Tryz.prog f args r) (hr:AV.imp r r'):zd Tryz.prog f args r':=fun I vs w h1 h2 h3 =>
 Calls.mono (h I vs w h1 h2 h3) fun _ _ ⟨v,e,hb,hv⟩=>⟨v,e,hb,hr _ _ _ hv⟩
theorem qt {f:FuncId} {xs ys:List AV} {r:AV} (h:zd Tryz.prog f ys r) (hi:fc xs ys):zd Tryz.prog f xs r:=fun I vs w h1 h2 h3 =>
 h I vs w h1 (by rw[h2,hi.1]) fun i y hy=>by
  have hx:i<xs.length:=by rw[hi.1]; exact (List.getElem?_eq_some_iff.1 hy).1
  exact hi.2 i _ y (qW hx) hy _ _ _ (h3 i _ (qW hx))
theorem abU {a a':AV} (h:AV.imp a a'):fc [a] [a']:=yt h fe
theorem T3 {a a' b b':AV} (h:AV.imp a a') (h2:AV.imp b b'):fc [a,b] [a',b']:=yt h (yt h2 fe)
theorem ag2 {a a' b b' c c':AV} (h:AV.imp a a') (h2:AV.imp b b') (h3:AV.imp c c'):fc [a,b,c] [a',b',c']:=yt h (yt h2 (yt h3 fe))
theorem yb {P:Program} {f:FuncId} {xs:List AV} {s:St} {dst:Option Nat} {K:St→Prop} (h:z5 P f xs s fun r s'=>s'.base=s.base∧K (s'.put dst r)):tG P f xs s dst K:=h
def EY (f:FuncId) (ds:List Nat) (s:St) (d:Option Nat) (K:St→Prop) (xs:List AV):Prop :=
 tI s.sto s.base ds∧∀ D:List Nat,z5 Tryz.prog f xs {s with env:=del D s.env} fun r s'=>∃ A:St,s'={A with env:=del D A.env}∧A.base=s.base∧tI A.sto A.base ds∧K (A.put d r)
@[simp] theorem ahY {f:FuncId} {ds:List Nat} {xs:List Opd} {d:Option Nat} {os:List zi} {s:St} {KS:St→Prop} :
  zl Tryz.prog (⟨d,.callM f ds,xs,none⟩::os) s KS=(yR Tryz.prog f=true∧EY f ds s d (dE Tryz.prog os KS) (xs.map (ev s))):=propext Iff.rfl
theorem AM {M:Nat} {D:List Nat} {env:List (Nat × AV)} (h:yH M env):yH M (del D env):=by
 intro p hp
 induction env with
 | nil=>cases hp
 | cons q env ih =>
  obtain ⟨m,x⟩:=q
  simp only[del] at hp
  split at hp
  ·exact ih (fun p hp=>h p (by simp[hp])) hp
  ·rcases List.mem_cons.1 hp with rfl | hp
   ·exact h _ (by simp)
   ·exact ih (fun p hp=>h p (by simp[hp])) hp
theorem mF {M:Nat} {n:Int}:Am.low M (iv n)=true:=rfl
theorem sX {M:Nat} {b:Bool}:Am.low M (bv b)=true:=rfl
theorem xB {M k off:Nat}:Am.low M (.ptr k off)=decide (k<M):=rfl
theorem LH {P:Program} {f:FuncId} {xs args:List AV} {s:St} {r:AV} {K:AV→St→Prop} (h:zd P f args r) (hs:yv (wP (lk s.sto)) xs=some args)
  (hp:xs.any sW=true→pf r=true) (hK:K r s):z5 P f xs s K:=by
 intro F a w I β lam hI vs hv hR
 obtain ⟨hl,hg⟩:=bU hs
 have done:∀ (J:Nat→Nat→Prop),(∀ b o,J b o→b<w.heap.size)→(∀ i x,args[i]?=some x→R0 J w x (vs.getD i undef)) →
   (∀ (w':World) (v:Value),R0 (fun b o=>(J b o∨w.heap.size≤b)∧b<w'.heap.size) w' r v→w.heap.size≤w'.heap.size→R0 (fun b o=>I b o∨(w.heap.size≤b∧b<w'.heap.size)) w' r v) →
   Calls P f vs w fun e w'=>∃ v,e=.returned v∧∃ r s' I' β' lam',K r s'∧Inv F s'.look (lk s'.sto) I' β' lam' a w'∧R I' w' β' lam' r v:=by
  intro J hJ hJR hres
  refine Calls.mono (h J vs w hJ (by omega) hJR) fun e w' ⟨v,he,hb,hr⟩=>⟨v,he,r,s,fun b o=>I b o∨(w.heap.size≤b∧b<w'.heap.size),β,lam,hK,?_,.base (hres w' v hr hb.size)⟩
  exact hI.grow hb (fun _ _ h=>.inl h) (fun _ _ h=>h)
 by_cases href:xs.any sW=true
 ·refine done (Seen I β lam) (fun b o h=>?_) (fun i x hi=>?_) (fun w' v hr _=>abY hr (hp href))
  ·rcases h with h | h
   ·exact hI.Isub _ _ h
   ·rcases h with ⟨k,h⟩ | ⟨l,p,cap,sz,h,h0⟩
    ·exact (hI.bnew _ _ h).2.1
    ·exact hI.hlm _ _ _ _ _ h h0
  ·obtain ⟨x',hx',hsn⟩:=hg i x hi
   exact (gn hI.hread hI.usto hsn (hR i x' hx')).1
 ·refine done I hI.Isub (fun i x hi=>?_) (fun w' v hr hle=>hr.mono (fun b o hb=>?_) (fun _ _ _ _ h=>h))
  ·obtain ⟨x',hx',hsn⟩:=hg i x hi
   refine (gn hI.hread hI.usto hsn (hR i x' hx')).2 ?_
   have:=List.any_eq_false.1 (by simpa using href) x' (List.mem_iff_getElem?.2 ⟨i,hx'⟩)
   simpa using this
  ·rcases hb.1 with h | h
   ·exact .inl h
   ·exact .inr ⟨h,hb.2⟩
theorem NC {f:FuncId} {ds:List Nat} {xs args:List AV} {s:St} {d:Option Nat} {r:AV} {K:St→Prop} (h:zd Tryz.prog f args r) (hf:tI s.sto s.base ds) (hs:yv (wP (lk s.sto)) xs=some args)
  (hp:xs.any sW=true→pf r=true) (hK:K (s.put d r)):EY f ds s d K xs :=
 ⟨hf,fun _=>LH h hs hp ⟨s,rfl,rfl,hf,hK⟩⟩
def Le (m:Am.Mode) (a:List Nat) (k:Nat):St:={env:=[(0,nl m a),(3,iv ((a.length-k:Nat):Int))],sto:=[]}
theorem xa {m:Am.Mode} {a:List Nat} (ha:ok a) (hn:a.length<1099511627776):zd Tryz.prog xD [nl m a] (nD (val a)):=by
 obtain ⟨h1,h2,h3,h4⟩:=Z3 ha
 refine wN abB (by simp) ?_
 simp[Nh]
 generalize hT:(zf (val a)).length=T at h1 h2 h3 h4
 refine acj (Le m a) (a.length-T) ?_ (fun k hk=>?_) ?_
 ·simp[Le]
 ·have hp:0<a.length-k:=by omega
  have hp2:k<a.length:=by omega
  have w:IntKind.i64.wrap (((a.length-k:Nat):Int)-1)=((a.length-(k+1):Nat):Int):=by rw[wrap64]<;>omega
  have hlt:a.length-(k+1)<a.length:=by omega
  have hz:=h2 (a.length-(k+1)) hlt (by omega)
  simp[lS,Le,hp,w,hlt,hz]
 ·have e:a.length-(a.length-T)=T:=by omega
  rcases T with _ | T
  ·have h5:zf (val a)=[]:=by rw[← h4]; rfl
   simp[lS,Le,du,UU]
   rw[show nD (val a)=.list 1 .plain [] by simp only[nD,nl,zG,h5,List.map_nil]]
   exact wk
  ·have w:IntKind.i64.wrap (((T+1:Nat):Int)-1)=(T:Int):=by rw[wrap64]<;>omega
   have hz:=h3 (by omega) (by omega)
   simp only[Nat.add_sub_cancel] at hz
   have hlt:T<a.length:=by omega
   have ht:List.take (T+1) (zG a)=zG (zf (val a)):=by rw[← h4]; simp
   have en:((T:Int)+1).toNat=T+1:=by omega
   have e0:(0:Int)≤(T:Int)+1:=by omega
   have e1:(T:Int)+1≤a.length:=by omega
   simp at w
   simp[lS,Le,e,w,hlt,hz,e0,e1,en,du,UU]
   first | (rw[ht]; exact wk) | (simp only[← List.map_take]; rw[h4]; exact wk)
theorem Uh {m:Am.Mode} {a:List Nat} (ha:ok a) (hn:a.length<1099511627776):zd Tryz.prog fT [nl m a] (bv (decide (a=zf (val a)))):=by
 refine zt Bh (by simp) ?_
 simp[Qp]
 refine za (xa (m:=stm m) ha hn) (by simp[po]) (by simp) ?_
 obtain ⟨h1,h2,h3,h4⟩:=Z3 ha
 have:decide ((((zf (val a)).length:Nat):Int)=(a.length:Int))=decide (a=zf (val a)):=by
  by_cases h:(zf (val a)).length=a.length
  ·have:a=zf (val a):=by rw[← h4,h]; simp
   simp[← this]
  ·have:a≠zf (val a):=fun e=>h (congrArg List.length e.symm)
   have h':¬ (((zf (val a)).length:Nat):Int)=(a.length:Int):=by omega
   simp[this]
   omega
 simp[QV]
 simpa using this
theorem LB (n:Int):IntKind.u64.wrap n=n%18446744073709551616:=by simp[IntKind.wrap,IntKind.bits,IntKind.signed]
abbrev z9 (n:Nat):AV:=.val (.int .u64 (n:Int))
theorem aw (n:Nat):(n:Int).fdiv (2^min 32 IntKind.u64.bits)=((n/B:Nat):Int):=by
 have:min 32 IntKind.u64.bits=32:=rfl
 rw[this,Int.fdiv_eq_ediv_of_nonneg _ (by decide),z7]
 rfl
theorem xh {a:List Nat} {k d:Nat}:(zG a).set k [uv d]=zG (a.set k d):=by simp[List.map_set]
theorem qE {b:List Nat} {k:Nat} (h:b.length≤k):val (b.take k)=val b:=by rw[List.take_of_length_le h]
theorem Ug {a:List Nat} (h:ok a) (k:Nat):val (a.take k)<B^k:=yY (uM h k) (by simp; omega)
def low (a b:List Nat) (k:Nat):Nat:=val (a.take k)+val (b.take k)
def car (a b:List Nat) (k:Nat):Nat:=low a b k/B^k
theorem TP {a b:List Nat} (ha:ok a) (hb:ok b) (k:Nat):car a b k≤1:=by
 have h1:=Ug ha k
 have h2:=Ug hb k
 have:low a b k<2*B^k:=by unfold low; omega
 have:=Nat.div_lt_of_lt_mul (Nat.mul_comm 2 _▸this)
 unfold car
 omega
theorem Up {a b:List Nat}:car a b 0=0:=by simp[car,low,val]
theorem QK {a b:List Nat} {k t R:Nat} (h:low a b (k+1)=low a b k+B^k*t) (hs:val a+val b=low a b (k+1)+B^(k+1)*R) :
  (val a+val b)/B^k%B=(car a b k+t)%B∧car a b (k+1)=(car a b k+t)/B:=by
 constructor
 ·rw[hs,h,eE]; rfl
 ·unfold car; rw[h,eD]
theorem AO (a b:List Nat) (k:Nat) (ha:k≤a.length) (hb:k≤b.length∨b.length≤k):∃ R,val a+val b=low a b k+B^k*R:=by
 have e1:=v9 a k
 rw[Nat.min_eq_left ha] at e1
 rcases hb with hb | hb
 ·have e2:=v9 b k
  rw[Nat.min_eq_left hb] at e2
  exact ⟨val (a.drop k)+val (b.drop k),by unfold low; rw[Nat.mul_add]; omega⟩
 ·exact ⟨val (a.drop k),by unfold low; rw[qE hb]; omega⟩
theorem Rk {a b:List Nat} {k:Nat} (hk:k<a.length) (hb:k<b.length∨b.length≤k):∃ t,t=car a b k+(a[k]+(b[k]?.getD 0))∧(val a+val b)/B^k%B=t%B∧car a b (k+1)=t/B:=by
 refine ⟨_,rfl,?_⟩
 obtain ⟨R,hR⟩:=AO a b (k+1) (by omega) (by omega)
 rcases hb with hb | hb
 ·rw[List.getElem?_eq_getElem hb,Option.getD_some]
  exact QK (by unfold low; rw[xK hk,xK hb,Nat.mul_add]; omega) hR
 ·rw[List.getElem?_eq_none hb,Option.getD_none]
  exact QK (by unfold low; rw[xK hk,qE hb,qE (show b.length≤k+1 by omega)]; simp; omega) hR
def ko (m1 m2:Am.Mode) (a b:List Nat) (k:Nat):St :=
 {env:=[(0,nl m1 a),(1,nl m2 b),(5,.sl 19 1 0 (a.length+1)),(6,z9 (car a b k)),(21,iv a.length),(22,iv k)],sto:=[(19,.arr 1 (zG (wF (a.length+1) k (val a+val b))))]}
theorem P1 {m1 m2:Am.Mode} {a b:List Nat} (ha:ok a) (hb:ok b) (hl:b.length≤a.length) (hn:a.length<1099511627775) :
  awp Tryz.prog (.loop mo) (ko m1 m2 a b 0) (wR 0 (ry Tryz.prog c8 (aj RP (nD (val a+val b))))):=by
 have hS:val a+val b<B^(a.length+1):=by
  have h1:=vw ha
  have h2:=yY hb hl
  rw[Nat.pow_succ,z7] at *
  omega
 refine zq (ko m1 m2 a b) (fun _=>True) a.length (by simp[ko]) trivial (fun k hk _=>?_) (fun _=>?_)
 ·have e:(k:Int)<a.length:=by omega
  have hc:=TP ha hb k
  have hak:=xH ha hk
  have hfl:=eJ (n:=a.length+1) (k:=k) (S:=val a+val b) (by omega)
  have hfk:k<(wF (a.length+1) k (val a+val b)).length:=by omega
  have hset:=eK (n:=a.length+1) (k:=k) (S:=val a+val b) (by omega)
  have e1:IntKind.u64.wrap ((a[k]:Nat):Int)=(a[k]:Nat):=w64 (by rw[z7] at hak; omega)
  obtain ⟨t,ht,g1,g2⟩:=Rk (a:=a) (b:=b) hk (by omega)
  rw[g1] at hset
  obtain ⟨d,hd⟩:∃ d,t%B=d:=⟨_,rfl⟩
  obtain ⟨q,hq⟩:∃ q,t/B=q:=⟨_,rfl⟩
  have f1:IntKind.u32.wrap (t:Int)=(d:Int):=by rw[w32,hd]
  have f2:(t:Int).fdiv (2^min 32 IntKind.u64.bits)=(q:Int):=by rw[aw,hq]
  rw[hd] at hset
  have hset':(zG (wF (a.length+1) k (val a+val b))).set k [uv d]=zG (wF (a.length+1) (k+1) (val a+val b)):=by rw[xh,hset]
  rw[hq] at g2
  rw[z7] at hak
  have e4:IntKind.u64.wrap ((a[k]:Int)+(car a b k:Int))=((a[k]:Int)+(car a b k:Int)):=by rw[vS]<;>omega
  by_cases hkb:k<b.length
  ·have e2:(k:Int)<b.length:=by omega
   have hbk:=xH hb hkb
   rw[z7] at hbk
   rw[List.getElem?_eq_getElem hkb,Option.getD_some] at ht
   have e3:IntKind.u64.wrap ((b[k]:Nat):Int)=(b[k]:Nat):=w64 (by omega)
   have e5:IntKind.u64.wrap ((a[k]:Int)+(car a b k:Int)+(b[k]:Int))=(t:Int):=by rw[vS]<;>omega
   simp[mo,ko,e,e2,hk,hkb,e1,e3,e4,e5,wE,hfk,splice,f1,f2,hset',g2,zm (show k<4611686018427387904 by omega)]
   omega
  ·have e2:¬ (k:Int)<b.length:=by omega
   rw[List.getElem?_eq_none (by omega),Option.getD_none] at ht
   have e5:(a[k]:Int)+(car a b k:Int)=(t:Int):=by omega
   rw[e5] at e4
   simp[mo,ko,e,e2,hk,e1,e5,e4,wE,hfk,splice,f1,f2,hset',g2,zm (show k<4611686018427387904 by omega)]
   omega
 ·have hfl:=eJ (n:=a.length+1) (k:=a.length) (S:=val a+val b) (by omega)
  have hfk:a.length<(wF (a.length+1) a.length (val a+val b)).length:=by omega
  have hset:=eK (n:=a.length+1) (k:=a.length) (S:=val a+val b) (by omega)
  have hc:=TP ha hb a.length
  have hcl:(val a+val b)/B^a.length%B=car a b a.length:=by
   have h1:car a b a.length=(val a+val b)/B^a.length:=by
    unfold car low; rw[qE (Nat.le_refl _),qE hl]
   rw[← h1,Nat.mod_eq_of_lt (by rw[z7]; omega)]
  rw[hcl] at hset
  have hset':(zG (wF (a.length+1) a.length (val a+val b))).set a.length [uv (car a b a.length)]=zG (zw (a.length+1) (val a+val b)):=by rw[xh,hset,ZS]
  have f1:IntKind.u32.wrap (car a b a.length:Int)=(car a b a.length:Int):=IntWalk.u32_in _ (by omega)
  have hle:a.length+1≤(zw (a.length+1) (val a+val b)).length:=by rw[zB]; exact Nat.le_refl _
  have htk:(zG (zw (a.length+1) (val a+val b))).take (a.length+1)=zG (zw (a.length+1) (val a+val b)):=List.take_of_length_le (by rw[List.length_map,zB]; exact Nat.le_refl _)
  have key:=xa (m:=.plain) (a:=zw (a.length+1) (val a+val b)) yw (by rw[zB]; omega)
  rw[yh hS] at key
  simp[mo,ko,c8,hfk,splice,f1,hset',xA,v4,htk,hle]
  refine ⟨by omega,?_⟩
  refine za key (by simp) (by simp) ?_
  simp[RP]
  exact AV.imp.refl
theorem fY {m1 m2:Am.Mode} {a b:List Nat} (ha:ok a) (hb:ok b) (hna:a.length<1099511627775) (hnb:b.length<1099511627775):zd Tryz.prog j8 [nl m1 a,nl m2 b] (nD (val a+val b)):=by
 refine wN aeq (by simp) ?_
 by_cases h:a.length<b.length
 ·have h':(a.length:Int)<b.length:=by omega
  have w:IntKind.i64.wrap ((b.length:Int)+1)=(b.length:Int)+1:=wrap64 (by omega) (by omega)
  have key:=P1 (m1:=m2) (m2:=m1) hb ha (by omega) (by omega)
  rw[Nat.add_comm (val b)] at key
  have e1:((b.length:Int)+1).toNat=b.length+1:=by omega
  simp[Ro,h',w,eMk,e1]
  refine ⟨by omega,by omega,by omega,?_⟩
  have e2:ko m2 m1 b a 0={env:=[(0,nl m2 b),(1,nl m1 a),(5,.sl 19 1 0 (b.length+1)),(6,z9 0),(21,iv b.length),(22,iv 0)],sto:=[(19,.arr 1 (List.replicate (b.length+1) [uv 0]))]}:=by
   simp[ko,Up,jV]
  rw[e2] at key
  exact key
 ·have h':¬ (a.length:Int)<b.length:=by omega
  have w:IntKind.i64.wrap ((a.length:Int)+1)=(a.length:Int)+1:=wrap64 (by omega) (by omega)
  have key:=P1 (m1:=m1) (m2:=m2) ha hb (by omega) (by omega)
  have e1:((a.length:Int)+1).toNat=a.length+1:=by omega
  simp[Ro,h',w,eMk,e1]
  refine ⟨by omega,by omega,by omega,?_⟩
  have e2:ko m1 m2 a b 0={env:=[(0,nl m1 a),(1,nl m2 b),(5,.sl 19 1 0 (a.length+1)),(6,z9 0),(21,iv a.length),(22,iv 0)],sto:=[(19,.arr 1 (List.replicate (a.length+1) [uv 0]))]}:=by
   simp[ko,Up,jV]
  rw[e2] at key
  exact key
def yV (x y:Nat):Int:=if x<y then -1 else if y<x then 1 else 0
def Xo (x y:Nat) (k:Nat):St:={env:=[(0,nD x),(1,nD y),(22,iv (zf x).length),(23,iv k)],sto:=[]}
theorem kQ {m1 m2:Am.Mode} {a b:List Nat} (ha:ok a) (hb:ok b) (hna:a.length<1099511627776) (hnb:b.length<1099511627776):zd Tryz.prog nG [nl m1 a,nl m2 b] (iv (yV (val a) (val b))):=by
 refine zt aer (by simp) ?_
 simp[KP]
 refine za (xa (m:=stm m1) ha hna) (by simp[po]) (by simp) ?_
 simp
 refine za (xa (m:=stm m2) hb hnb) (by simp[po]) (by simp) ?_
 have lx:=wq ha
 have ly:=wq hb
 generalize val a=x at *
 generalize val b=y at *
 by_cases hl:(zf x).length=(zf y).length
 ·have hl':(((zf x).length:Nat):Int)=((zf y).length:Int):=by omega
  simp[hl']
  refine zq (Xo x y) (fun k=>(zf x).drop ((zf x).length-k)=(zf y).drop ((zf x).length-k)) (zf x).length (by simp[Xo,hl]) (by simp[hl]) (fun k hk hi=>?_) (fun hi=>?_)
  ·have e:(k:Int)<(zf x).length:=by omega
   have w:IntKind.i64.wrap (((zf x).length:Int)-1-k)=(((zf x).length-1-k:Nat):Int):=by rw[wrap64]<;>omega
   have w0:IntKind.i64.wrap (((zf x).length:Int)-1)=((zf x).length:Int)-1:=by rw[wrap64]<;>omega
   obtain ⟨j,hj⟩:∃ j,(zf x).length-1-k=j:=⟨_,rfl⟩
   rw[hj] at w
   have hjx:j<(zf x).length:=by omega
   have hjy:j<(zf y).length:=by omega
   have ejx:(j:Int)<(zf x).length:=by omega
   have ejy:(j:Int)<(zf y).length:=by omega
   have hd:(zf x).drop (j+1)=(zf y).drop (j+1):=by
    have:j+1=(zf x).length-k:=by omega
    rw[this]; exact hi
   rcases Nat.lt_trichotomy (zf x)[j] (zf y)[j] with h | h | h
   ·have hlt:=XR (zx x) (zx y) hl hjx hd h
    rw[zK,zK] at hlt
    have hc:yV x y=-1:=by simp[yV,hlt]
    simp[mq,Xo,e,w0,w,hjx,hjy,ejx,ejy,h,gl,hc]
   ·have hnext:(zf x).drop ((zf x).length-(k+1))=(zf y).drop ((zf x).length-(k+1)):=by
     have:(zf x).length-(k+1)=j:=by omega
     rw[this,List.drop_eq_getElem_cons hjx,List.drop_eq_getElem_cons hjy,h,hd]
    simp[mq,Xo,e,w0,w,hjx,hjy,ejx,ejy,h,zm (show k<4611686018427387904 by omega),hnext]
   ·have hlt:=XR (zx y) (zx x) hl.symm hjy hd.symm h
    rw[zK,zK] at hlt
    have hn:¬ (zf x)[j]<(zf y)[j]:=by omega
    have hc:yV x y=1:=by
     have:¬ x<y:=by omega
     simp[yV,hlt,this]
    simp[mq,Xo,e,w0,w,hjx,hjy,ejx,ejy,h,hn,gl,hc]
  ·have hxy:x=y:=bz (by simpa using hi)
   have hc:yV x y=0:=by simp[yV,hxy]
   simp[mq,Xo,TB,gl,hc]
 ·have hl':¬ (((zf x).length:Nat):Int)=((zf y).length:Int):=by omega
  by_cases hlt:(zf x).length<(zf y).length
  ·have hlt':(((zf x).length:Nat):Int)<((zf y).length:Int):=by omega
   have hc:yV x y=-1:=by simp[yV,eP hlt]
   simp[hl',hlt',gl,hc]
  ·have hlt':¬ (((zf x).length:Nat):Int)<((zf y).length:Int):=by omega
   have h2:=eP (show (zf y).length<(zf x).length by omega)
   have hc:yV x y=1:=by
    have:¬ x<y:=by omega
    simp[yV,h2,this]
   simp[hl',hlt',gl,hc]
theorem abL (u v:Int):IntKind.u64.wrap (IntKind.u64.wrap u-v)=IntKind.u64.wrap (u-v):=by
 rw[LB,LB,LB]; omega
theorem PT (u:Int):IntKind.u32.wrap (IntKind.u64.wrap u)=u%4294967296:=by
 rw[LB,IntKind.wrap_u32]; omega
theorem PQ {u:Int} (h1:-8589934592≤u) (h2:u<8589934592):(IntKind.u64.wrap u).fdiv (2^min 63 IntKind.u64.bits)=if u<0 then 1 else 0:=by
 have:min 63 IntKind.u64.bits=63:=rfl
 rw[this,Int.fdiv_eq_ediv_of_nonneg _ (by decide),LB]
 have:(2:Int)^63=9223372036854775808:=by decide
 rw[this]
 split<;>omega
end Go.Proofs.YtjeoklgggppjiaaGreat

namespace Go.Dig
theorem XA {o:List Nat} {j d:Nat} (hj:j<o.length):val (o.set j d)+B^j*o[j]=val o+B^j*d:=by
 induction o generalizing j with
 | nil=>simp at hj
 | cons x o ih =>
  rcases j with _ | j
  ·simp[val]; omega
  ·simp only[List.length_cons,Nat.add_lt_add_iff_right] at hj
   have:=ih hj
   simp only[List.set_cons_succ,val,List.getElem_cons_succ,Nat.pow_succ]
   have e1:B^j*B*o[j]=B*(B^j*o[j]):=by rw[Nat.mul_comm (B^j) B,Nat.mul_assoc]
   have e2:B^j*B*d=B*(B^j*d):=by rw[Nat.mul_comm (B^j) B,Nat.mul_assoc]
   rw[e1,e2]
   have e3:B*(val (o.set j d)+B^j*o[j])=B*(val o+B^j*d):=by rw[this]
   rw[Nat.mul_add,Nat.mul_add] at e3
   omega
def lC (a b:List Nat) (i k:Nat) (s:List Nat × Nat):List Nat × Nat :=
 let t:=a.getD i 0*b.getD k 0+s.1.getD (i+k) 0+s.2
 (s.1.set (i+k) (t%B),t/B)
def rx (a b:List Nat):Nat→List Nat
 | 0=>List.replicate (a.length+b.length) 0
 | i+1=>let s:=itr (lC a b i) (rx a b i,0) b.length; s.1.set (i+b.length) s.2
def wl (a b:List Nat) (i k:Nat):List Nat × Nat:=itr (lC a b i) (rx a b i,0) k
theorem DF {a b:List Nat} {i:Nat}:wl a b i 0=(rx a b i,0):=rfl
theorem QN {a b:List Nat} {i:Nat}:rx a b (i+1)=(wl a b i b.length).1.set (i+b.length) (wl a b i b.length).2:=rfl
theorem QM {a b:List Nat} {i k:Nat}:wl a b i (k+1)=lC a b i k (wl a b i k):=rfl
structure Zx (a b o:List Nat) (c i k:Nat):Prop where
 len:o.length=a.length+b.length
 ok:ok o
 lt:c<B
 val:val o+B^(i+k)*c=val (a.take i)*val b+B^i*(a.getD i 0*val (b.take k))
 zero:∀ j (hj:j<o.length),i+b.length≤j→o[j]=0
theorem uc {a:List Nat} (h:ok a) (i:Nat):a.getD i 0<B:=by
 rw[List.getD_eq_getElem?_getD]
 by_cases hi:i<a.length
 ·rw[List.getElem?_eq_getElem hi]; exact xH h hi
 ·rw[List.getElem?_eq_none (by omega)]; exact zX
theorem eS {x y z w:Nat} (hx:x<B) (hy:y<B) (hz:z<B) (hw:w<B):x*y+z+w<B*B:=by
 have h:x*y≤(B-1)*(B-1):=Nat.mul_le_mul (by omega) (by omega)
 have:(B-1)*(B-1)+(B-1)+(B-1)<B*B:=by decide
 omega
theorem AX {a b o:List Nat} {c i k:Nat} (ha:ok a) (hb:ok b) (hi:i<a.length) (hk:k<b.length) (h:Zx a b o c i k) :
  Zx a b (lC a b i k (o,c)).1 (lC a b i k (o,c)).2 i (k+1):=by
 have hlen:=h.len
 have hik:i+k<o.length:=by omega
 obtain ⟨t,ht⟩:∃ t,t=a.getD i 0*b.getD k 0+o.getD (i+k) 0+c:=⟨_,rfl⟩
 have hbd:=eS (uc ha i) (uc hb k) (uc h.ok (i+k)) h.lt
 rw[← ht] at hbd
 simp only[lC,← ht]
 constructor
 ·simp[hlen]
 ·exact So h.ok (Nat.mod_lt _ zX)
 ·exact Nat.div_lt_of_lt_mul hbd
 ·have e1:=XA (o:=o) (j:=i+k) (d:=t%B) hik
  have e2:=Nat.mod_add_div t B
  have e3:=h.val
  have e4:=xK hk
  have e5:o.getD (i+k) 0=o[i+k]:=by simp[hik]
  have e6:b.getD k 0=b[k]:=by simp[hk]
  rw[e5,e6] at ht
  rw[e4]
  have e7:B^(i+(k+1))*(t/B)=B^(i+k)*(B*(t/B)):=by rw[← Nat.add_assoc,Nat.pow_succ,Nat.mul_assoc]
  rw[e7]
  have e8:B^(i+k)*(t%B)+B^(i+k)*(B*(t/B))=B^(i+k)*t:=by rw[← Nat.mul_add,e2]
  have e9:B^(i+k)*t=B^(i+k)*(a.getD i 0*b[k])+B^(i+k)*o[i+k]+B^(i+k)*c:=by rw[ht,Nat.mul_add,Nat.mul_add]
  have e10:B^i*(a.getD i 0*(val (b.take k)+B^k*b[k]))=B^i*(a.getD i 0*val (b.take k))+B^(i+k)*(a.getD i 0*b[k]):=by
   rw[Nat.mul_add,Nat.mul_add,Nat.pow_add]
   congr 1
   rw[Nat.mul_assoc]
   congr 1
   rw[Nat.mul_left_comm]
  rw[e10]
  omega
 ·intro j hj hle
  simp only[List.length_set] at hj
  rw[List.getElem_set_ne (by omega)]
  exact h.zero j hj hle
theorem eT {a b:List Nat} {i:Nat} (ha:ok a) (hb:ok b) (hi:i<a.length) (h:Zx a b (rx a b i) 0 i 0):∀ k,k≤b.length→Zx a b (wl a b i k).1 (wl a b i k).2 i k
 | 0,_=>h
 | k+1,hk=>by rw[QM]; exact AX ha hb hi (by omega) (eT ha hb hi h k (by omega))
theorem Z9 {a b:List Nat} (ha:ok a) (hb:ok b):∀ i,i≤a.length→Zx a b (rx a b i) 0 i 0
 | 0,_=>⟨by simp[rx],Mo _,zX,by simp[rx,Xz,val],fun j hj _=>by simp[rx]⟩
 | i+1,hi=>by
  have ih:=Z9 ha hb i (by omega)
  have h:=eT ha hb (by omega) ih b.length (Nat.le_refl _)
  have hlen:=h.len
  have hib:i+b.length<(wl a b i b.length).1.length:=by omega
  rw[QN]
  have hz:=h.zero (i+b.length) hib (Nat.le_refl _)
  have hv:=XA (d:=(wl a b i b.length).2) hib
  have h3:=h.val
  rw[hz,Nat.mul_zero,Nat.add_zero] at hv
  refine ⟨by simp[hlen],So h.ok h.lt,zX,?_,?_⟩
  ·rw[hv,h3,List.take_of_length_le (Nat.le_refl b.length)]
   have:val (a.take (i+1))=val (a.take i)+B^i*a.getD i 0:=by
    rw[xK (by omega)]; simp[show i<a.length by omega]
   rw[this,Nat.add_mul,Nat.mul_assoc]
   simp[val]
  ·intro j hj hle
   simp only[List.length_set] at hj
   rw[List.getElem_set_ne (by omega)]
   exact h.zero j hj (by omega)
theorem adc {a b:List Nat} (ha:ok a) (hb:ok b):ok (rx a b a.length)∧(rx a b a.length).length=a.length+b.length∧val (rx a b a.length)=val a*val b:=by
 have h:=Z9 ha hb a.length (Nat.le_refl _)
 refine ⟨h.ok,h.len,?_⟩
 have:=h.val
 simp[val] at this
 exact this
def vv (n D i:Nat):List Nat:=List.replicate (n-i) 0++(zw n D).drop (n-i)
theorem Ub {n D:Nat}:vv n D 0=List.replicate n 0:=by
 simp[vv,zB]
theorem SF {n D:Nat}:vv n D n=zw n D:=by simp[vv]
theorem SG {n D i:Nat} (_h:i≤n):(vv n D i).length=n:=by simp[vv,zB]; try omega
theorem SH {n D i:Nat} (h:i<n):(vv n D i).set (n-1-i) (D/B^(n-1-i)%B)=vv n D (i+1):=by
 obtain ⟨j,hj⟩:∃ j,n-1-i=j:=⟨_,rfl⟩
 have h1:n-i=j+1:=by omega
 have h2:n-(i+1)=j:=by omega
 unfold vv
 rw[hj,h1,h2,List.replicate_succ']
 rw[List.append_assoc,List.set_append_right _ _ (by simp)]
 simp only[List.length_replicate,Nat.sub_self]
 have hlt:j<(zw n D).length:=by rw[zB]; omega
 rw[List.drop_eq_getElem_cons hlt,vp]
 rfl
theorem SI {A d:Nat} (hd:0<d):(A/B%d*B+A%B)/d=A/d%B∧(A/B%d*B+A%B)%d=A%d∧A/B%d*B+A%B<d*B:=by
 have hA:=Nat.div_add_mod A B
 have h1:=Nat.div_add_mod (A/B) d
 have hm:=Nat.mod_lt (A/B) hd
 have hb:=Nat.mod_lt A zX
 have hlt:A/B%d*B+A%B<d*B:=by
  have:(A/B%d+1)*B≤d*B:=Nat.mul_le_mul_right _ hm
  rw[Nat.add_mul] at this
  omega
 have key:A=d*(A/B/d*B)+(A/B%d*B+A%B):=by
  have e:B*(A/B)=B*(d*(A/B/d)+A/B%d):=by rw[h1]
  rw[Nat.mul_add] at e
  have e2:d*(A/B/d*B)=B*(d*(A/B/d)):=by rw[← Nat.mul_assoc,Nat.mul_comm]
  rw[e2,Nat.mul_comm (A/B%d)]
  omega
 generalize A/B%d*B+A%B=t at *
 generalize A/B/d=g at *
 have hq:t/d<B:=Nat.div_lt_of_lt_mul hlt
 refine ⟨?_,?_,hlt⟩
 ·rw[key,Nat.mul_add_div hd,Nat.add_comm (g*B) _,Nat.add_mul_mod_self_right,Nat.mod_eq_of_lt hq]
 ·rw[key,Nat.mul_add_mod]
end Go.Dig

namespace Go.Proofs.YtjeoklgggppjiaaGreat
open Go Go.Am Go.Dig
theorem qV {x:Nat} (h:x<18446744073709551616):zd Tryz.prog uf [z9 x] (nD x):=by
 have f2:(x:Int).fdiv (2^min 32 IntKind.u64.bits)=((x/B:Nat):Int):=aw x
 have f1:=w32 x
 have f3:=w32 (x/B)
 obtain ⟨d0,h0⟩:∃ d,x%B=d:=⟨_,rfl⟩
 obtain ⟨q,hq⟩:∃ q,x/B=q:=⟨_,rfl⟩
 obtain ⟨d1,h1⟩:∃ d,q%B=d:=⟨_,rfl⟩
 rw[hq] at f2 f3
 rw[h0] at f1
 rw[h1] at f3
 have hok:ok [d0,d1]:=by
  intro d hd
  simp at hd
  rcases hd with rfl | rfl
  ·rw[← h0]; exact Nat.mod_lt _ zX
  ·rw[← h1]; exact Nat.mod_lt _ zX
 have hv:val [d0,d1]=x:=by
  have e1:=Nat.mod_add_div x B
  have hq2:q<B:=by rw[← hq,z7]; omega
  rw[Nat.mod_eq_of_lt hq2] at h1
  simp only[val,Nat.mul_zero,Nat.add_zero]
  rw[← h1,← h0,← hq]
  exact e1
 have key:=xa (m:=.full) (a:=[d0,d1]) hok (by simp)
 rw[hv] at key
 refine zt Ln (by simp) ?_
 simp[ZB,wE,f1,f2,f3,uB]
 refine za key (by simp) (by simp) ?_
 simp[Yg]
theorem or_hi {r a:Nat} (hr:r<B) (ha:a<B):r4 .or .u64 ((r*B:Nat):Int) (a:Int)=((r*B+a:Nat):Int):=by
 rw[z7] at *
 have hbits:IntKind.u64.bits=64:=rfl
 simp only[r4]
 rw[BitVec.toNat_or]
 have e1:(BitVec.ofInt IntKind.u64.bits ((r*4294967296:Nat):Int)).toNat=r*4294967296:=by rw[hbits,BitVec.toNat_ofInt]; omega
 have e2:(BitVec.ofInt IntKind.u64.bits (a:Int)).toNat=a:=by rw[hbits,BitVec.toNat_ofInt]; omega
 rw[e1,e2]
 have h3:=Nat.shiftLeft_add_eq_or_of_lt (i:=32) (b:=a) (by omega) r
 rw[Nat.shiftLeft_eq] at h3
 have:(2:Nat)^32=4294967296:=by decide
 rw[this] at h3
 rw[← h3]
 exact w64 (by omega)
theorem PP {r:Nat} (hr:r<B):IntKind.u64.wrap ((r:Int)*2^min 32 IntKind.u64.bits)=((r*B:Nat):Int):=by
 have:min 32 IntKind.u64.bits=32:=rfl
 rw[this]
 have:(2:Int)^32=4294967296:=by decide
 rw[this]
 rw[z7] at *
 rw[vS]<;>omega
def FR (m:Am.Mode) (a:List Nat) (d i:Nat):St :=
 {env:=[(0,nl m a),(1,uv d),(6,.sl 13 1 0 a.length),(7,z9 (val a/B^(a.length-i)%d)),(15,iv a.length),(16,iv i)],sto:=[(13,.arr 1 (zG (vv a.length (val a/d) i)))]}
theorem Ks {m:Am.Mode} {a:List Nat} {d:Nat} (ha:ok a) (hn:a.length<1099511627776) (h0:0<d) (hd:d<B) (f1:stm m=m) :
  zd Tryz.prog Zt [nl m a,uv d] (.tuple [nD (val a/d),uv (val a%d)]):=by
 refine wN Bj (by simp) ?_
 simp[Qr,eMk]
 refine ⟨by omega,by omega,?_⟩
 have hz:val a/B^a.length%d=0:=by rw[Nat.div_eq_of_lt (vw ha)]; exact Nat.zero_mod _
 refine zq (FR m a d) (fun _=>True) a.length (by simp[FR,Ub,hz]) trivial (fun i hi _=>?_) (fun _=>?_)
 ·have e:(i:Int)<a.length:=by omega
  obtain ⟨k,hk⟩:∃ k,a.length-1-i=k:=⟨_,rfl⟩
  have hk1:a.length-i=k+1:=by omega
  have hk2:a.length-(i+1)=k:=by omega
  have hka:k<a.length:=by omega
  have w0:IntKind.i64.wrap ((a.length:Int)-1)=(a.length:Int)-1:=by rw[wrap64]<;>omega
  have w1:IntKind.i64.wrap ((a.length:Int)-1-i)=(k:Int):=by rw[wrap64]<;>omega
  obtain ⟨s1,s2,s3⟩:=SI (A:=val a/B^k) h0
  rw[← lr ha hka,Nat.div_div_eq_div_mul,← Nat.pow_succ] at s1 s2 s3
  obtain ⟨r,hr⟩:∃ r,val a/B^(k+1)%d=r:=⟨_,rfl⟩
  have hrd:r<d:=by rw[← hr]; exact Nat.mod_lt _ h0
  have hrB:r<B:=by omega
  have hak:=xH ha hka
  have hor:=or_hi hrB hak
  have hsh:=PP hrB
  rw[Nat.succ_eq_add_one,hr] at s1 s2 s3
  obtain ⟨t,ht⟩:∃ t,r*B+a[k]=t:=⟨_,rfl⟩
  obtain ⟨rb,hrb⟩:∃ rb,r*B=rb:=⟨_,rfl⟩
  rw[ht] at hor s1 s2 s3
  rw[hrb] at hor hsh
  have hset:=SH (n:=a.length) (D:=val a/d) hi
  rw[hk,Nat.div_div_eq_div_mul,Nat.mul_comm d,← Nat.div_div_eq_div_mul,← s1] at hset
  obtain ⟨q,hq⟩:∃ q,t/d=q:=⟨_,rfl⟩
  obtain ⟨r2,hr2⟩:∃ r2,t%d=r2:=⟨_,rfl⟩
  rw[hq] at hset s1
  rw[hr2] at s2
  have hqB:q<B:=by rw[s1]; exact Nat.mod_lt _ zX
  have hset':(zG (vv a.length (val a/d) i)).set k [uv q]=zG (vv a.length (val a/d) (i+1)):=by rw[xh,hset]
  have htB:t<18446744073709551616:=by
   have:d*B≤B*B:=Nat.mul_le_mul_right _ (by omega)
   have hBB:B*B=18446744073709551616:=by decide
   omega
  have hfl:=SG (D:=val a/d) (show i≤a.length by omega)
  have hkl:k<(vv a.length (val a/d) i).length:=by omega
  rw[z7] at hak hqB hd
  have u1:IntKind.u64.wrap ((a[k]:Nat):Int)=(a[k]:Nat):=w64 (by omega)
  have u2:IntKind.u64.wrap (d:Int)=d:=w64 (by omega)
  have hd0:¬ (d:Int)=0:=by omega
  have hd0n:¬ d=0:=by omega
  have u3:IntKind.u64.wrap ((t:Int).tdiv d)=(q:Int):=by
   rw[show (t:Int).tdiv d=((t/d:Nat):Int) from rfl,hq]; exact w64 (by omega)
  have u3':IntKind.u64.wrap ((t:Int)/d)=(q:Int):=by
   rw[show (t:Int)/d=((t/d:Nat):Int) by simp,hq]; exact w64 (by omega)
  have u4:(t:Int).tmod d=(r2:Int):=by rw[show (t:Int).tmod d=((t%d:Nat):Int) from rfl,hr2]
  have u5:IntKind.u32.wrap (q:Int)=q:=IntWalk.u32_in _ (by omega)
  simp[gH,FR,e,w0,w1,hka,hkl,hk1,hk2,hr,vP,hsh,u1,hor,u2,tf,qo,hd0n,u3',u4,u5,splice,hset',s2,zm (show i<4611686018427387904 by omega)]
 ·have htk:(zG (zw a.length (val a/d))).take a.length=zG (zw a.length (val a/d)):=List.take_of_length_le (by rw[List.length_map,zB]; exact Nat.le_refl _)
  have hle2:a.length≤(zw a.length (val a/d)).length:=by rw[zB]; exact Nat.le_refl _
  have key:=xa (m:=.plain) (a:=zw a.length (val a/d)) yw (by rw[zB]; omega)
  have hlt:val a/d<B^a.length:=Nat.lt_of_le_of_lt (Nat.div_le_self _ _) (vw ha)
  rw[yh hlt] at key
  have hr:val a%d<d:=Nat.mod_lt _ h0
  have u5:IntKind.u32.wrap ((val a%d:Nat):Int)=(val a%d:Nat):=IntWalk.u32_in _ (by rw[z7] at hd; omega)
  obtain ⟨r,hr2⟩:∃ r,val a%d=r:=⟨_,rfl⟩
  have hr3:val a/B^(a.length-a.length)%d=r:=by simp[hr2]
  rw[hr2] at u5 ⊢
  simp[gH,FR,SF,ZC,xA,Uz f1,v4,htk,hle2,hr2]
  refine za key (by simp) (by simp) ?_
  simp[QX,u5]
  exact AV.imp.refl
end Go.Proofs.YtjeoklgggppjiaaGreat

namespace Go.Dig
def mJ (w u2 v1 v2:Nat):Nat:=min (B-1) ((w*B+u2)/(v1*B+v2))
def Lr (g r u2 v2:Nat):Prop:=B≤g∨r*B+u2<g*v2
theorem adF {w u2 v1 v2:Nat} (h1:0<v1) (hu:u2<B):mJ w u2 v1 v2≤w/v1:=by
 unfold mJ
 refine Nat.le_trans (Nat.min_le_right _ _) ?_
 rw[Nat.le_div_iff_mul_le h1]
 have h:=Nat.div_mul_le_self (w*B+u2) (v1*B+v2)
 generalize (w*B+u2)/(v1*B+v2)=q at *
 rw[Nat.mul_add,← Nat.mul_assoc] at h
 apply Nat.le_of_not_lt
 intro hlt
 have:(w+1)*B≤q*v1*B:=Nat.mul_le_mul_right _ hlt
 rw[Nat.add_mul] at this
 omega
theorem aJ {g r w u2 v1 v2:Nat} (h1:0<v1) (hr:w=g*v1+r):Lr g r u2 v2↔mJ w u2 v1 v2<g:=by
 have hV:0<v1*B+v2:=by have:=Nat.mul_pos h1 zX; omega
 have key:g≤(w*B+u2)/(v1*B+v2)↔g*v2≤r*B+u2:=by
  rw[Nat.le_div_iff_mul_le hV,hr,Nat.mul_add,Nat.add_mul,← Nat.mul_assoc]
  omega
 unfold Lr mJ
 have hB:=zX
 constructor
 ·rintro (h | h)
  ·exact Nat.lt_of_le_of_lt (Nat.min_le_left _ _) (by omega)
  ·exact Nat.lt_of_le_of_lt (Nat.min_le_right _ _) (by omega)
 ·intro h
  apply Classical.byContradiction
  intro hno
  have h2:g≤B-1:=by
   apply Nat.le_of_not_lt; intro h3; exact hno (.inl (by omega))
  have h3:g≤(w*B+u2)/(v1*B+v2):=key.2 (by
   apply Nat.le_of_not_lt; intro h4; exact hno (.inr h4))
  have:=Nat.le_min.2 ⟨h2,h3⟩
  omega
theorem BS {g r w u2 v1 v2:Nat} (_h1:0<v1) (hr:w=g*v1+r) (hw:w≤v1*B+(B-1)) (hv2:v2<B) (hrB:B≤r):¬ Lr g r u2 v2:=by
 have hg:g≤B-1:=by
  apply Nat.le_of_not_lt
  intro h
  have:B*v1≤g*v1:=Nat.mul_le_mul_right _ (by omega)
  rw[Nat.mul_comm v1] at hw
  have:=zX
  omega
 rintro (h | h)
 ·have:=zX; omega
 ·have h2:g*v2≤(B-1)*(B-1):=Nat.mul_le_mul hg (by omega)
  have h3:B*B≤r*B:=Nat.mul_le_mul_right _ hrB
  have h4:(B-1)*(B-1)<B*B:=by decide
  omega
theorem Fh {w u2 v1 v2 U V P Q R:Nat} (h1:0<v1) (hu2:u2<B) (hv2:v2<B) (hU:U=(w*B+u2)*P+R) (hR:R<P) (hV:V=(v1*B+v2)*P+Q) (hQ:Q<P) (hUV:U<V*B) :
  U/V≤mJ w u2 v1 v2∧mJ w u2 v1 v2≤U/V+1:=by
 have hP:0<P:=by omega
 have hV2:0<v1*B+v2:=by have:=Nat.mul_pos h1 zX; omega
 have hVpos:0<V:=by have:=Nat.mul_pos hV2 hP; omega
 constructor
 ·unfold mJ
  refine Nat.le_min.2 ⟨?_,?_⟩
  ·have:U/V<B:=Nat.div_lt_of_lt_mul hUV
   omega
  ·rw[Nat.le_div_iff_mul_le hV2]
   have h:=Nat.div_mul_le_self U V
   generalize U/V=q at *
   have h2:q*((v1*B+v2)*P)≤q*V:=Nat.mul_le_mul_left _ (by omega)
   rw[← Nat.mul_assoc] at h2
   apply Nat.le_of_not_lt
   intro hlt
   have:(w*B+u2+1)*P≤q*(v1*B+v2)*P:=Nat.mul_le_mul_right _ hlt
   rw[Nat.add_mul] at this
   omega
 ·have hq1:mJ w u2 v1 v2≤B-1:=Nat.min_le_left _ _
  have hq2:mJ w u2 v1 v2*(v1*B+v2)≤w*B+u2:=by
   have:mJ w u2 v1 v2≤(w*B+u2)/(v1*B+v2):=Nat.min_le_right _ _
   exact Nat.le_trans (Nat.mul_le_mul_right _ this) (Nat.div_mul_le_self _ _)
  generalize mJ w u2 v1 v2=g at *
  rcases g with _ | g
  ·exact Nat.zero_le _
  ·have:g≤U/V:=by
    rw[Nat.le_div_iff_mul_le hVpos]
    -- (g+1) V2 P≤U,and V<(V2+1) P,g+1≤B-1≤v1 B
    have e1:(g+1)*(v1*B+v2)*P≤(w*B+u2)*P:=Nat.mul_le_mul_right _ hq2
    have e2:g*V≤g*((v1*B+v2)*P+P):=Nat.mul_le_mul_left _ (by omega)
    have e3:g*P≤(v1*B+v2)*P:=Nat.mul_le_mul_right _ (by
     have:1*B≤v1*B:=Nat.mul_le_mul_right _ h1
     omega)
    rw[Nat.add_mul,Nat.one_mul,Nat.add_mul] at e1
    rw[Nat.mul_add,← Nat.mul_assoc] at e2
    omega
   omega
theorem adb {g:Nat} {v:List Nat} {k:Nat} (hk:k<v.length):(g*val v)/B^k%B=(g*v[k]+g*val (v.take k)/B^k)%B∧g*val (v.take (k+1))/B^(k+1)=(g*v[k]+g*val (v.take k)/B^k)/B:=by
 have e1:=xK hk
 have e2:=v9 v (k+1)
 rw[Nat.min_eq_left (by omega)] at e2
 constructor
 ·rw[e2,e1,Nat.mul_add,Nat.mul_add,Nat.mul_left_comm g (B^k),Nat.mul_left_comm g (B^(k+1)),eE,Nat.add_comm]
 ·rw[e1,Nat.mul_add,Nat.mul_left_comm g (B^k),eD,Nat.add_comm]
theorem Z8 {g:Nat} {v:List Nat} (hv:ok v) (hg:g<B) (k:Nat):g*val (v.take k)/B^k<B:=by
 apply Nat.div_lt_of_lt_mul
 have h1:=yY (uM hv k) (n:=k) (by simp; omega)
 have:g*val (v.take k)≤B*val (v.take k):=Nat.mul_le_mul_right _ (by omega)
 have h2:B*val (v.take k)<B*B^k:=Nat.mul_lt_mul_of_pos_left h1 zX
 rw[Nat.mul_comm (B^k)]
 omega
def yQ (Z:Nat) (u:List Nat) (k:Nat):List Nat:=zw k Z++u.drop k
theorem Z7 {Z:Nat} {u:List Nat}:yQ Z u 0=u:=by simp[yQ,zw]
theorem fj {Z:Nat} {u:List Nat} {k:Nat} (h:k≤u.length):(yQ Z u k).length=u.length:=by simp[yQ,zB]; omega
theorem bX {Z:Nat} {u:List Nat} {k:Nat} (h:k<u.length):(yQ Z u k)[k]'(by rw[fj (by omega)]; exact h)=u[k]:=by
 unfold yQ
 rw[List.getElem_append_right (by rw[zB]; exact Nat.le_refl _)]
 simp[zB]
theorem bY {Z:Nat} {u:List Nat} {k:Nat} (h:k<u.length):(yQ Z u k).set k (Z/B^k%B)=yQ Z u (k+1):=by
 unfold yQ
 rw[List.set_append_right _ _ (by rw[zB]; exact Nat.le_refl _),zB,Nat.sub_self,List.drop_eq_getElem_cons h,List.set_cons_zero,sx]
 simp
theorem Md {Z:Nat} {u:List Nat} {n:Nat} (h:u.length=n):yQ Z u n=zw n Z:=by
 unfold yQ; rw[List.drop_of_length_le (by omega)]; simp
theorem QB {n x:Nat}:zw n (x+B^n)=zw n x:=by
 refine Xy yw yw (by rw[zB,zB]) ?_
 rw[dk,dk,Nat.add_mod_right]
theorem EQ {U n k:Nat} (hk:k<n):(U+B^n)/B^k%B=U/B^k%B:=by
 have h:=QB (n:=n) (x:=U)
 have h1:k<(zw n (U+B^n)).length:=by rw[zB]; exact hk
 have h2:k<(zw n U).length:=by rw[zB]; exact hk
 rw[← vp h1,← vp h2]
 simp only[h]
def seg (W:List Nat) (off:Nat) (X:List Nat):List Nat:=W.take off++X++W.drop (off+X.length)
theorem gm {W X:List Nat} {off:Nat} (h:off+X.length≤W.length):(seg W off X).length=W.length:=by simp[seg]; omega
theorem Xm {W X:List Nat} {off i:Nat} (h:off+X.length≤W.length) (hi:i<X.length):(seg W off X)[off+i]'(by rw[gm h]; omega)=X[i]:=by
 unfold seg
 rw[List.getElem_append_left (by simp; omega),List.getElem_append_right (by simp; omega)]
 congr 1
 simp; omega
theorem Xn {W X:List Nat} {off i d:Nat} (h:off+X.length≤W.length) (hi:i<X.length):(seg W off X).set (off+i) d=seg W off (X.set i d):=by
 unfold seg
 rw[List.length_set,List.set_append_left _ _ (by simp; omega),List.set_append_right _ _ (by simp; omega)]
 have:off+i-(List.take off W).length=i:=by simp; omega
 rw[this]
theorem aaS {W:List Nat} {off n:Nat} (h:off+n≤W.length):seg W off ((W.drop off).take n)=W:=by
 unfold seg
 have:((W.drop off).take n).length=n:=by simp; omega
 rw[this]
 rw[List.append_assoc,← List.drop_drop,List.take_append_drop,List.take_append_drop]
theorem SD {N L i t:Nat} (hL:L<B^(i+1)) (hi:i+1<N) (hlt:L+B^i*t<B^N) (ht:(L/B^i+t)/B<B) :
  ((zw N L).set i ((L/B^i+t)%B)).set (i+1) ((L/B^i+t)/B)=zw N (L+B^i*t):=by
 have hLN:L<B^N:=Nat.lt_of_lt_of_le hL (Nat.pow_le_pow_right zX (by omega))
 have hlen:=zB (n:=N) (x:=L)
 have ho:ok (zw N L):=yw
 have hd1:(L/B^i+t)%B<B:=Nat.mod_lt _ zX
 refine Xy (So (So ho hd1) ht) yw (by simp[zB]) ?_
 rw[yh hlt]
 have e1:=XA (o:=zw N L) (j:=i) (d:=(L/B^i+t)%B) (by omega)
 have e2:=XA (o:=(zw N L).set i ((L/B^i+t)%B)) (j:=i+1) (d:=(L/B^i+t)/B) (by simp; omega)
 rw[yh hLN,vp] at e1
 rw[List.getElem_set_ne (by omega),vp,Nat.div_eq_of_lt hL] at e2
 have h0:0%B=0:=rfl
 rw[h0,Nat.mul_zero,Nat.add_zero] at e2
 have hc:L/B^i<B:=Nat.div_lt_of_lt_mul (by rw[← Nat.pow_succ]; exact hL)
 rw[Nat.mod_eq_of_lt hc] at e1
 have e3:=Nat.mod_add_div (L/B^i+t) B
 have e4:B^(i+1)*((L/B^i+t)/B)=B^i*(B*((L/B^i+t)/B)):=by rw[Nat.pow_succ,Nat.mul_assoc]
 have e5:B^i*((L/B^i+t)%B)+B^i*(B*((L/B^i+t)/B))=B^i*(L/B^i)+B^i*t:=by rw[← Nat.mul_add,e3,Nat.mul_add]
 rw[e2,e4]
 omega
theorem Dy {c a bits:Nat} (hb:bits<32) (hc:c<2^bits) (_ha:a<B):c ||| (a*2^bits%B)=c+a*2^bits%B∧c+a*2^bits%B=(c+a*2^bits)%B∧a*2^bits/B=(c+a*2^bits)/B∧c+a*2^bits%B<B:=by
 have hB:B=2^(32-bits)*2^bits:=by
  rw[← Nat.pow_add,Nat.sub_add_cancel (by omega)]; rfl
 have hm:a*2^bits%B=(a%2^(32-bits))*2^bits:=by
  rw[hB,Nat.mul_mod_mul_right]
 have hlt:a%2^(32-bits)<2^(32-bits):=Nat.mod_lt _ (Nat.pow_pos (by omega))
 have hd:=Nat.div_add_mod (a*2^bits) B
 have hsum:c+a*2^bits%B<B:=by
  rw[hm]
  have:(a%2^(32-bits)+1)*2^bits≤2^(32-bits)*2^bits:=Nat.mul_le_mul_right _ hlt
  rw[Nat.add_mul,← hB] at this
  omega
 refine ⟨?_,?_,?_,hsum⟩
 ·rw[hm]
  have h:=Nat.shiftLeft_add_eq_or_of_lt hc (a%2^(32-bits))
  rw[Nat.shiftLeft_eq] at h
  rw[Nat.or_comm,← h]; omega
 ·have:c+a*2^bits=c+a*2^bits%B+B*(a*2^bits/B):=by omega
  rw[this,Nat.add_mul_mod_self_left,Nat.mod_eq_of_lt hsum]
 ·have:c+a*2^bits=c+a*2^bits%B+B*(a*2^bits/B):=by omega
  rw[this,Nat.add_mul_div_left _ _ zX,Nat.div_eq_of_lt hsum,Nat.zero_add]
def shL (a:List Nat) (bits i:Nat):Nat:=val (a.take i)*2^bits
theorem MM {a:List Nat} {bits:Nat}:shL a bits 0=0:=by simp[shL,val]
theorem fo {bits:Nat} (hb:bits<32):2^bits<B:=by
 have:2^bits<2^32:=Nat.pow_lt_pow_right (by omega) hb
 exact this
theorem SC {a:List Nat} {bits i:Nat} (ha:ok a):shL a bits i<B^i*2^bits:=by
 unfold shL
 exact Nat.mul_lt_mul_of_pos_right (yY (uM ha i) (by simp; omega)) (Nat.pow_pos (by omega))
theorem ML {a:List Nat} {bits i:Nat} (hi:i<a.length):shL a bits (i+1)=shL a bits i+B^i*(a[i]*2^bits):=by
 unfold shL
 rw[xK hi,Nat.add_mul,Nat.mul_assoc]
theorem J7 {a:List Nat} {bits:Nat}:shL a bits a.length=val a*2^bits:=by
 unfold shL; rw[List.take_of_length_le (Nat.le_refl _)]
theorem TT {n:Nat}:zw n 0=List.replicate n 0:=by
 refine Xy yw (Mo n) (by simp[zB]) ?_
 rw[dk,Xz,Nat.zero_mod]
end Go.Dig

namespace Go.Proofs.YtjeoklgggppjiaaGreat
open Go Go.Am Go.Dig
theorem aaj {c x:Nat} (hc:c<B) (hx:x<B) (h:c ||| x<B):r4 .or .u32 (c:Int) (x:Int)=((c ||| x:Nat):Int):=by
 rw[z7] at *
 have hbits:IntKind.u32.bits=32:=rfl
 simp only[r4]
 rw[BitVec.toNat_or]
 have e1:(BitVec.ofInt IntKind.u32.bits (c:Int)).toNat=c:=by rw[hbits,BitVec.toNat_ofInt]; omega
 have e2:(BitVec.ofInt IntKind.u32.bits (x:Int)).toNat=x:=by rw[hbits,BitVec.toNat_ofInt]; omega
 rw[e1,e2]
 exact IntWalk.u32_in _ (by omega)
def Yz (a:List Nat) (m:Am.Mode) (σ:List (Nat × ze)) (out:List (List (Nat × AV))) (b bits i:Nat):St :=
 {env:=[(0,nl m a),(1,z9 bits),(5,.sl (b+11) 1 0 (a.length+1)),(13,iv a.length),(14,iv i)],sto:=pt σ (b+11) (.arr 1 (zG (zw (a.length+1) (shL a bits i)))),out:=out,base:=b}
theorem aaV {m:Am.Mode} {a:List Nat} {bits:Nat} {s:St} {K:AV→St→Prop} (b:Nat) (ha:ok a) (hn:a.length<1099511627775) (hb:bits<32) (hf:lk s.sto (b+11)=none)
  (h:K (.sl (b+11) 1 0 (a.length+1)) ⟨s.env,pt s.sto (b+11) (.arr 1 (zG (zw (a.length+1) (val a*2^bits)))),s.out,s.base⟩):z5 Tryz.prog pK [nl m a,z9 bits] s K:=by
 obtain ⟨env,σ,out,base⟩:=s
 simp only at hf h
 refine va b Ue (by simp) ?_
 have w:IntKind.i64.wrap ((a.length:Int)+1)=(a.length:Int)+1:=wrap64 (by omega) (by omega)
 have e1:((a.length:Int)+1).toNat=a.length+1:=by omega
 simp[dt,w,eMk,e1,hf]
 refine ⟨by omega,by omega,by omega,?_⟩
 refine zq (Yz a m σ (env::out) b bits) (fun _=>True) a.length (by simp[Yz,MM,TT]; exact .inl rfl) trivial (fun i hi _=>?_) (fun _=>?_)
 ·have e:(i:Int)<a.length:=by omega
  have hpow:=fo hb
  have hak:=xH ha hi
  have hL:=SC (bits:=bits) (i:=i) ha
  have hLB:shL a bits i<B^(i+1):=by
   have:B^i*2^bits≤B^i*B:=Nat.mul_le_mul_left _ (by omega)
   rw[Nat.pow_succ]; omega
  have hc:shL a bits i/B^i<2^bits:=Nat.div_lt_of_lt_mul hL
  obtain ⟨o1,o2,o3,o4⟩:=Dy (c:=shL a bits i/B^i) (a:=a[i]) hb hc hak
  have hsucc:=ML (bits:=bits) hi
  have hL2:=SC (bits:=bits) (i:=i+1) ha
  have hLN:shL a bits (i+1)<B^(a.length+1):=by
   have h1:B^(i+1)*2^bits≤B^(i+1)*B:=Nat.mul_le_mul_left _ (by omega)
   have h3:B^(i+1+1)=B^(i+1)*B:=Nat.pow_succ _ _
   have h2:B^(i+1+1)≤B^(a.length+1):=Nat.pow_le_pow_right zX (by omega)
   omega
  have htB:(shL a bits i/B^i+a[i]*2^bits)/B<B:=by
   rw[← o3]
   apply Nat.div_lt_of_lt_mul
   exact Nat.mul_lt_mul_of_lt_of_lt hak hpow
  have hstep:=SD (N:=a.length+1) (i:=i) (t:=a[i]*2^bits) hLB (by omega) (by rw[← hsucc]; exact hLN) htB
  rw[← hsucc,← o2,← o3] at hstep
  have hlen:=zB (n:=a.length+1) (x:=shL a bits i)
  have hi1:i<(zw (a.length+1) (shL a bits i)).length:=by omega
  have hget:(zw (a.length+1) (shL a bits i))[i]=shL a bits i/B^i:=by
   rw[vp,Nat.mod_eq_of_lt (Nat.lt_trans hc hpow)]
  obtain ⟨c,hcE⟩:∃ c,shL a bits i/B^i=c:=⟨_,rfl⟩
  obtain ⟨t,htE⟩:∃ t,a[i]*2^bits=t:=⟨_,rfl⟩
  have htlt:t<B*B:=by rw[← htE]; exact Nat.mul_lt_mul_of_lt_of_lt hak hpow
  rw[hcE,htE] at o1 o4 hstep
  rw[hcE] at hget hc
  obtain ⟨x,hxE⟩:∃ x,t%B=x:=⟨_,rfl⟩
  obtain ⟨q,hqE⟩:∃ q,t/B=q:=⟨_,rfl⟩
  rw[hxE] at o1 o4 hstep
  rw[hqE] at hstep
  have hxB:x<B:=by rw[← hxE]; exact Nat.mod_lt _ zX
  have hqB:q<B:=by rw[← hqE]; exact Nat.div_lt_of_lt_mul htlt
  have hor:=aaj (c:=c) (x:=x) (by omega) hxB (by rw[o1]; exact o4)
  rw[o1] at hor
  obtain ⟨y,hyE⟩:∃ y,c+x=y:=⟨_,rfl⟩
  rw[hyE] at hor hstep
  have hBB:B*B=18446744073709551616:=by decide
  rw[hBB] at htlt
  have f1:IntKind.u32.wrap (t:Int)=(x:Int):=by rw[w32,hxE]
  have f2:(t:Int).fdiv (2^min 32 IntKind.u64.bits)=(q:Int):=by rw[aw,hqE]
  have f3:IntKind.u32.wrap (q:Int)=q:=IntWalk.u32_in _ (by rw[z7] at hqB; omega)
  have u1:IntKind.u64.wrap ((a[i]:Nat):Int)=(a[i]:Nat):=w64 (by rw[z7] at hak; omega)
  have hmin:min bits IntKind.u64.bits=bits:=by
   have:IntKind.u64.bits=64:=rfl
   omega
  have u2:IntKind.u64.wrap (((a[i]:Nat):Int)*2^bits)=(t:Int):=by
   rw[show ((a[i]:Nat):Int)*2^bits=((a[i]*2^bits:Nat):Int) by simp,htE]; exact w64 htlt
  have hset:((zG (zw (a.length+1) (shL a bits i))).set i [uv y]).set (i+1) [uv q]=zG (zw (a.length+1) (shL a bits (i+1))):=by
   rw[xh,xh,hstep]
  have wi:IntKind.i64.wrap ((i:Int)+1)=(i:Int)+1:=wrap64 (by omega) (by omega)
  have ei1:(i:Int)<a.length+1:=by omega
  have e2:((i:Int)+1).toNat=i+1:=by omega
  have e3:(0:Int)≤(i:Int)+1:=by omega
  have hi2:i+1<(zw (a.length+1) (shL a bits i)).length:=by omega
  have hnb:¬ ((bits:Int)<0):=by omega
  simp[tE,Yz,e,hi,hi1,hi2,ei1,e2,e3,hget,hor,u1,vP,wE,hmin,u2,f1,f2,f3,wi,splice,hset]
 ·have:zw (a.length+1) (shL a bits a.length)=zw (a.length+1) (val a*2^bits):=by rw[J7]
  simp[tE,Yz,lb,dF,this]
  exact h
def gK (w v1 k:Nat):Nat:=w/v1-k
def rK (w v1 k:Nat):Nat:=w%v1+k*v1
theorem GP {w v1 k:Nat} (hk:k≤w/v1):w=gK w v1 k*v1+rK w v1 k:=by
 unfold gK rK
 have h:=Nat.div_add_mod w v1
 have:(w/v1-k)*v1+k*v1=v1*(w/v1):=by rw[← Nat.add_mul,Nat.sub_add_cancel hk,Nat.mul_comm]
 omega
structure cO (W v:List Nat) (off e:Nat):Prop where
 okW:ok W
 okv:ok v
 hv:v.length=e+2
 hW:off+e+3≤W.length
 small:W.length<1099511627776
def rB (W:List Nat) (off e:Nat):Nat:=W.getD (off+(e+2)) 0*B+W.getD (off+(e+1)) 0
def Yt (m:Am.Mode) (W v:List Nat) (σ:List (Nat × ze)) (out:List (List (Nat × AV))) (b j off e k:Nat):St :=
 {env:=[(0,.sl j 1 off (e+3)),(1,nl m v),(5,iv ((e:Int)+2)),(7,z9 (gK (rB W off e) (v.getD (e+1) 0) k)),(8,z9 (rK (rB W off e) (v.getD (e+1) 0) k))],sto:=σ,out:=out,base:=b}
theorem LN {m:Am.Mode} {W v:List Nat} {σ:List (Nat × ze)} {out:List (List (Nat × AV))} {b j off e:Nat} {K:Exit→St→Prop} (h:cO W v off e) (hj:lk σ j=some (.arr 1 (zG W)))
  (h1:0<v.getD (e+1) 0) (hw:rB W off e≤v.getD (e+1) 0*B+(B-1)) (g:Nat) (hg:g=mJ (rB W off e) (W.getD (off+e) 0) (v.getD (e+1) 0) (v.getD e 0))
  (hK:∀ r q y,(q=69∨q=81)→awp Tryz.prog vn {env:=[(0,.sl j 1 off (e+3)),(1,nl m v),(5,iv ((e:Int)+2)),(7,z9 g),(8,r),(q,y)],sto:=σ,out:=out,base:=b} K) :
  awp Tryz.prog (.loop wD) (Yt m W v σ out b j off e 0) (wR 0 (ry Tryz.prog vn K)):=by
 have hvl:=h.hv
 have hWl:=h.hW
 have hsm:=h.small
 have hv0:e<v.length:=by omega
 have hv1:e+1<v.length:=by omega
 have hW0:off+e<W.length:=by omega
 have q1:v.getD (e+1) 0=v[e+1]:=by simp[hv1]
 have q2:v.getD e 0=v[e]:=by simp[hv0]
 have q3:W.getD (off+e) 0=W[off+e]:=by simp[hW0]
 have hu2:W.getD (off+e) 0<B:=uc h.okW _
 have hv2B:v.getD e 0<B:=uc h.okv _
 have hv1B:v.getD (e+1) 0<B:=uc h.okv _
 have hwB:rB W off e<B*B:=by
  have a1:=uc h.okW (off+(e+2))
  have a2:=uc h.okW (off+(e+1))
  have:(W.getD (off+(e+2)) 0+1)*B≤B*B:=Nat.mul_le_mul_right _ a1
  unfold rB
  rw[Nat.add_mul] at this
  omega
 generalize hwe:rB W off e=w at *
 generalize hv1e:v.getD (e+1) 0=v1 at *
 generalize hu2e:W.getD (off+e) 0=u2 at *
 generalize hv2e:v.getD e 0=v2 at *
 have hle:=adF (w:=w) (v2:=v2) h1 hu2
 rw[← hg] at hle
 rw[show B*B=18446744073709551616 by decide] at hwB
 have hst:∀ k,Yt m W v σ out b j off e k={env:=[(0,.sl j 1 off (e+3)),(1,nl m v),(5,iv ((e:Int)+2)),(7,z9 (gK w v1 k)),(8,z9 (rK w v1 k))],sto:=σ,out:=out,base:=b}:=fun k=>by
  rw[Yt,hwe,hv1e]
 have i1:IntKind.i64.wrap ((e:Int))=e:=wrap64 (by omega) (by omega)
 have i2:IntKind.i64.wrap ((e:Int)+1)=(e:Int)+1:=wrap64 (by omega) (by omega)
 have i5:IntKind.i64.wrap ((e:Int)+2-1)=(e:Int)+1:=by rw[wrap64]<;>omega
 have i6:IntKind.i64.wrap ((e:Int)+2-2)=(e:Int):=by rw[wrap64]<;>omega
 have i3:((e:Int)+1).toNat=e+1:=by omega
 have i4:(0:Int)≤(e:Int)+1:=by omega
 have c1:IntKind.u64.wrap (v1:Int)=v1:=w64 (by rw[z7] at hv1B; omega)
 have c2:IntKind.u64.wrap (v2:Int)=v2:=w64 (by rw[z7] at hv2B; omega)
 have c3:IntKind.u64.wrap (u2:Int)=u2:=w64 (by rw[z7] at hu2; omega)
 have p1:v[e+1]=v1:=by rw[← q1]
 have p2:v[e]=v2:=by rw[← q2]
 have p3:W[off+e]=u2:=by rw[← q3]
 have x1:(e:Int)<v.length:=by omega
 have x2:(e:Int)+1<v.length:=by omega
 have x3:(e:Int)<(e:Int)+3:=by omega
 refine zq (Yt m W v σ out b j off e) (fun k=>rK w v1 k<B) (w/v1-g) (by rw[hst]; simp) ?_ (fun k hk hr=>?_) (fun hr=>?_)
 ·show rK w v1 0<B
  unfold rK
  rw[Nat.zero_mul,Nat.add_zero]
  exact Nat.lt_trans (Nat.mod_lt w h1) hv1B
 ·have hkw:k≤w/v1:=Nat.le_trans (Nat.le_of_lt hk) (Nat.sub_le _ _)
  have hkw2:k+1≤w/v1:=Nat.le_trans hk (Nat.sub_le _ _)
  have heq:=GP (w:=w) (v1:=v1) (k:=k) hkw
  have hbig:=(aJ (u2:=u2) (v2:=v2) h1 heq).2 (by rw[← hg]; unfold gK; omega)
  have hgk:gK w v1 (k+1)+1=gK w v1 k:=by unfold gK; omega
  have hrk:rK w v1 (k+1)=rK w v1 k+v1:=by unfold rK; rw[Nat.add_mul]; omega
  have heq2:=GP (w:=w) (v1:=v1) (k:=k+1) (by omega)
  have hbrk:=fun hB=>BS (u2:=u2) (v2:=v2) h1 heq2 hw hv2B hB
  have hgle:gK w v1 k≤w:=by
   have:w/v1≤w:=Nat.div_le_self _ _
   unfold gK; omega
  have hend:B≤rK w v1 (k+1)→gK w v1 (k+1)=g:=fun hB=>by
   have:=hbrk hB
   rw[aJ h1 heq2,← hg] at this
   unfold gK at *
   omega
  rw[hst]
  have hgsub:IntKind.u64.wrap ((gK w v1 k:Int)-1)=(gK w v1 (k+1):Int):=by rw[vS]<;>omega
  have hradd:IntKind.u64.wrap ((rK w v1 k:Int)+(v1:Int))=(rK w v1 (k+1):Int):=by
   rw[z7] at hr hv1B
   rw[vS]<;>omega
  have rest:∀ K2,(∀ q y,(q=69∨q=81)→(¬ B≤rK w v1 (k+1)→K2 Exit.normal {env:=[(0,.sl j 1 off (e+3)),(1,nl m v),(5,iv ((e:Int)+2)),(7,z9 (gK w v1 (k+1))),(8,z9 (rK w v1 (k+1))),(q,y)],sto:=σ,out:=out,base:=b}) ∧
    (B≤rK w v1 (k+1)→K2 (Exit.exit 0) {env:=[(0,.sl j 1 off (e+3)),(1,nl m v),(5,iv ((e:Int)+2)),(7,z9 (gK w v1 (k+1))),(8,z9 (rK w v1 (k+1))),(q,y)],sto:=σ,out:=out,base:=b})) →
    awp Tryz.prog wD {env:=[(0,.sl j 1 off (e+3)),(1,nl m v),(5,iv ((e:Int)+2)),(7,z9 (gK w v1 k)),(8,z9 (rK w v1 k))],sto:=σ,out:=out,base:=b} K2:=by
   intro K2 hK2
   by_cases hB:B≤gK w v1 k
   ·have hB':(4294967296:Int)≤gK w v1 k:=by rw[z7] at hB; omega
    by_cases hBr:B≤rK w v1 (k+1)
    ·have hBr':(4294967296:Int)≤rK w v1 (k+1):=by rw[z7] at hBr; omega
     simp[wD,hB',hBr',hgsub,i5,i3,i4,x2,hv1,p1,c1,hradd]
     exact (hK2 _ _ (by simp)).2 hBr
    ·have hBr':¬ (4294967296:Int)≤rK w v1 (k+1):=by rw[z7] at hBr; omega
     simp[wD,hB',hBr',hgsub,i5,i3,i4,x2,hv1,p1,c1,hradd]
     exact (hK2 _ _ (by simp)).1 hBr
   ·have hB':¬ (4294967296:Int)≤gK w v1 k:=by rw[z7] at hB; omega
    have hlt:rK w v1 k*B+u2<gK w v1 k*v2:=hbig.resolve_left hB
    have hor:=or_hi hr hu2
    have hsh:=PP hr
    have hpl:gK w v1 k*v2<18446744073709551616:=by
     have:gK w v1 k*v2≤(B-1)*(B-1):=Nat.mul_le_mul (by omega) (by omega)
     have:(B-1)*(B-1)<18446744073709551616:=by decide
     omega
    obtain ⟨p,hp⟩:∃ p,gK w v1 k*v2=p:=⟨_,rfl⟩
    obtain ⟨rb,hrb⟩:∃ rb,rK w v1 k*B=rb:=⟨_,rfl⟩
    rw[hp] at hlt hpl
    rw[hrb] at hlt hor hsh
    have hmul:IntKind.u64.wrap ((gK w v1 k:Int)*(v2:Int))=(p:Int):=by
     rw[show (gK w v1 k:Int)*(v2:Int)=((gK w v1 k*v2:Nat):Int) by simp,hp]; exact w64 hpl
    have hlt':(rb:Int)+(u2:Int)<(p:Int):=by omega
    simp only[Int.natCast_add] at hor
    by_cases hBr:B≤rK w v1 (k+1)
    ·have hBr':(4294967296:Int)≤rK w v1 (k+1):=by rw[z7] at hBr; omega
     simp[wD,hB',hBr',hgsub,i1,i5,i3,i4,x1,x2,x3,hv0,hv1,hW0,p1,p2,p3,c1,c2,c3,hj,hmul,vP,hsh,hor,hlt',hradd]
     exact (hK2 _ _ (by simp)).2 hBr
    ·have hBr':¬ (4294967296:Int)≤rK w v1 (k+1):=by rw[z7] at hBr; omega
     simp[wD,hB',hBr',hgsub,i1,i5,i3,i4,x1,x2,x3,hv0,hv1,hW0,p1,p2,p3,c1,c2,c3,hj,hmul,vP,hsh,hor,hlt',hradd]
     exact (hK2 _ _ (by simp)).1 hBr
  refine rest _ fun q y hq=>⟨fun hB=>?_,fun hB=>?_⟩
  ·rw[YC,hst]
   refine ⟨by rcases hq with rfl | rfl<;>simp,by omega⟩
  ·have:=hend hB
   rw[this]
   exact hK _ _ _ hq
 ·have hgk:gK w v1 (w/v1-g)=g:=by unfold gK; omega
  have heq:=GP (w:=w) (v1:=v1) (k:=w/v1-g) (by omega)
  have hnb:=fun hb=>(aJ (u2:=u2) (v2:=v2) h1 heq).1 hb
  rw[hgk,← hg] at hnb
  have hB:¬ B≤g:=fun hb=>Nat.lt_irrefl _ (hnb (.inl hb))
  have hlt:¬ rK w v1 (w/v1-g)*B+u2<g*v2:=fun hb=>Nat.lt_irrefl _ (hnb (.inr hb))
  have hB':¬ (4294967296:Int)≤g:=by rw[z7] at hB; omega
  have hor:=or_hi hr hu2
  have hsh:=PP hr
  have hst2:Yt m W v σ out b j off e (w/v1-g)={env:=[(0,.sl j 1 off (e+3)),(1,nl m v),(5,iv ((e:Int)+2)),(7,z9 g),(8,z9 (rK w v1 (w/v1-g)))],sto:=σ,out:=out,base:=b}:=by
   rw[hst,hgk]
  rw[hst2]
  clear hst2 heq
  generalize rK w v1 (w/v1-g)=r at *
  obtain ⟨p,hp⟩:∃ p,g*v2=p:=⟨_,rfl⟩
  obtain ⟨rb,hrb⟩:∃ rb,r*B=rb:=⟨_,rfl⟩
  have hpl:g*v2<18446744073709551616:=by
   have:g*v2≤(B-1)*(B-1):=Nat.mul_le_mul (by omega) (by omega)
   have:(B-1)*(B-1)<18446744073709551616:=by decide
   omega
  rw[hp] at hlt hpl
  rw[hrb] at hlt hor hsh
  have hmul:IntKind.u64.wrap ((g:Int)*(v2:Int))=(p:Int):=by
   rw[show (g:Int)*(v2:Int)=((g*v2:Nat):Int) by simp,hp]; exact w64 hpl
  have hlt':¬ (rb:Int)+(u2:Int)<(p:Int):=by omega
  simp only[Int.natCast_add] at hor
  simp[wD,hB',i1,x1,x3,hv0,hW0,p2,p3,c2,c3,hj,hmul,vP,hsh,hor,hlt']
  exact hK _ _ _ (by simp)
theorem acf {p:Nat} (hp:p<18446744073709551616):r4 .and .u64 (p:Int) 4294967295=((p%B:Nat):Int):=by
 have hbits:IntKind.u64.bits=64:=rfl
 simp only[r4]
 rw[BitVec.toNat_and]
 have e1:(BitVec.ofInt IntKind.u64.bits (p:Int)).toNat=p:=by rw[hbits,BitVec.toNat_ofInt]; omega
 have e2:(BitVec.ofInt IntKind.u64.bits 4294967295).toNat=4294967295:=rfl
 rw[e1,e2]
 have h:=Nat.and_two_pow_sub_one_eq_mod p 32
 have:(2:Nat)^32-1=4294967295:=by decide
 rw[this] at h
 rw[h,show (2:Nat)^32=B from rfl]
 exact w64 (Nat.lt_trans (Nat.mod_lt _ zX) (by decide))
def cK (g:Nat) (v:List Nat) (k:Nat):Nat:=g*val (v.take k)/B^k
def Yu (m:Am.Mode) (W v u:List Nat) (σ:List (Nat × ze)) (out:List (List (Nat × AV))) (b j off e g x T k:Nat):St :=
 {env:=[(0,.sl j 1 off (e+3)),(1,nl m v),(5,iv ((e:Int)+2)),(7,z9 g),(9,z9 (cK g v k)),(10,z9 (bor x T k)),(82,iv ((e:Int)+2)),(83,iv k)],sto:=pt σ j (.arr 1 (zG (seg W off (yQ (x-T) u k)))),out:=out,base:=b}
section
variable {m:Am.Mode} {W v:List Nat} {σ:List (Nat × ze)} {out:List (List (Nat × AV))} {b j off e g x:Nat} {K:Exit→St→Prop} (h:cO W v off e) (hj:lk σ j=some (.arr 1 (zG W)))
  (hg:g<B) (hx:∀ k,k<e+3→x/B^k%B=W.getD (off+k) 0) (hT:g*val v≤x)
include h hj hg hx hT
omit hj in
theorem QA {s:St} (hs:lu s (Yu m W v ((W.drop off).take (e+3)) σ out b j off e g x (g*val v) 0))
  (hK:awp Tryz.prog tD {env:=[(0,.sl j 1 off (e+3)),(1,nl m v),(5,iv ((e:Int)+2)),(7,z9 g),(9,z9 (cK g v (e+2))),(10,z9 (bor x (g*val v) (e+2))),(82,iv ((e:Int)+2)),(83,iv ((e:Int)+2)),(84,bv false)],sto:=pt σ j (.arr 1 (zG (seg W off (yQ (x-g*val v) ((W.drop off).take (e+3)) (e+2))))),out:=out,base:=b} K) :
  awp Tryz.prog (.loop mr) s (wR 2 (ry Tryz.prog tD K)):=by
 have hvl:=h.hv
 have hWl:=h.hW
 have hsm:=h.small
 generalize hue:(W.drop off).take (e+3)=u at *
 have hul:u.length=e+3:=by rw[← hue]; simp; omega
 refine zq (Yu m W v u σ out b j off e g x (g*val v)) (fun _=>True) (e+2) hs trivial (fun k hk _=>?_) (fun _=>?_)
 ·have hkv:k<v.length:=by omega
  have hku:k<u.length:=by omega
  have hvB:=xH h.okv hkv
  have hWk:off+k<W.length:=by omega
  have huk:u[k]=W[off+k]:=by subst hue; simp
  have hq:W.getD (off+k) 0=W[off+k]:=by simp[hWk]
  have hukB:u[k]<B:=by rw[huk]; exact xH h.okW hWk
  have hcB:cK g v k<B:=Z8 h.okv hg k
  obtain ⟨m1,m2⟩:=adb (g:=g) hkv
  have hsd:=dd (k:=k) hT
  have hbs:=cX (x:=x) (y:=g*val v) (k:=k)
  have hb1:=Tv (x:=x) (y:=g*val v) (k:=k)
  rw[hx k (by omega),hq,← huk,m1] at hsd hbs
  have hck:cK g v (k+1)=(g*v[k]+cK g v k)/B:=m2
  change (((x-g*val v)/B^k%B:Nat):Int)=((u[k]:Nat)-((g*v[k]+cK g v k)%B:Nat)-(bor x (g*val v) k:Nat):Int)%4294967296 at hsd
  change bor x (g*val v) (k+1)=if u[k]<(g*v[k]+cK g v k)%B+bor x (g*val v) k then 1 else 0 at hbs
  have hpB:g*v[k]+cK g v k<18446744073709551616:=by
   have:=eS hg hvB hcB zX
   have hBB:B*B=18446744073709551616:=by decide
   omega
  have hmx:=bY (Z:=x-g*val v) hku
  have hml:=fj (Z:=x-g*val v) (u:=u) (k:=k) (by omega)
  have hmg:=bX (Z:=x-g*val v) hku
  have hsl:=gm (W:=W) (X:=yQ (x-g*val v) u k) (off:=off) (by rw[hml]; omega)
  have hsg:=Xm (W:=W) (X:=yQ (x-g*val v) u k) (off:=off) (i:=k) (by rw[hml]; omega) (by omega)
  have hss:=Xn (W:=W) (X:=yQ (x-g*val v) u k) (off:=off) (i:=k) (d:=(x-g*val v)/B^k%B) (by rw[hml]; omega) (by omega)
  rw[hmx] at hss
  rw[hmg] at hsg
  obtain ⟨d,hd⟩:∃ d,(x-g*val v)/B^k%B=d:=⟨_,rfl⟩
  rw[hd] at hss hsd
  obtain ⟨p,hp⟩:∃ p,g*v[k]+cK g v k=p:=⟨_,rfl⟩
  obtain ⟨gv,hgv⟩:∃ gv,g*v[k]=gv:=⟨_,rfl⟩
  rw[hp] at hsd hbs hck hpB
  rw[hgv] at hp
  obtain ⟨pl,hpl⟩:∃ pl,p%B=pl:=⟨_,rfl⟩
  rw[hpl] at hsd hbs
  have hplB:pl<B:=by rw[← hpl]; exact Nat.mod_lt _ zX
  obtain ⟨c2,hc2⟩:∃ c2,p/B=c2:=⟨_,rfl⟩
  rw[hc2] at hck
  rw[Yu]
  generalize bor x (g*val v) k=b0 at *
  generalize hb2:bor x (g*val v) (k+1)=b2 at *
  have hA:off+k<(seg W off (yQ (x-g*val v) u k)).length:=by omega
  have hset:(zG (seg W off (yQ (x-g*val v) u k))).set (off+k) [uv d]=zG (seg W off (yQ (x-g*val v) u (k+1))):=by rw[xh,hss]
  have hst1:Yu m W v u σ out b j off e g x (g*val v) (k+1)={env:=[(0,.sl j 1 off (e+3)),(1,nl m v),(5,iv ((e:Int)+2)),(7,z9 g),(9,z9 c2),(10,z9 b2),(82,iv ((e:Int)+2)),(83,iv ((k:Int)+1))],sto:=pt σ j (.arr 1 (zG (seg W off (yQ (x-g*val v) u (k+1))))),out:=out,base:=b}:=by
   rw[Yu,hck,hb2]; rfl
  clear hd
  generalize huk2:u[k]=uk at *
  have ek:(k:Int)<(e:Int)+2:=by omega
  have ekv:(k:Int)<v.length:=by omega
  have ek3:(k:Int)<(e:Int)+3:=by omega
  have u1:IntKind.u64.wrap ((v[k]:Nat):Int)=(v[k]:Nat):=w64 (Nat.lt_trans hvB (by decide))
  have u2:IntKind.u64.wrap ((g:Int)*(v[k]:Int))=(gv:Int):=by
   rw[show (g:Int)*(v[k]:Int)=((g*v[k]:Nat):Int) by simp,hgv]; exact w64 (by omega)
  have u3:IntKind.u64.wrap ((gv:Int)+(cK g v k:Int))=(p:Int):=by rw[vS]<;>omega
  have u4:(p:Int).fdiv (2^min 32 IntKind.u64.bits)=(c2:Int):=by rw[aw,hc2]
  have u5:=acf hpB
  rw[hpl] at u5
  rw[z7] at hukB hplB
  have u6:IntKind.u64.wrap (uk:Int)=uk:=w64 (by omega)
  have u7:=abL ((uk:Int)-(pl:Int)) (b0:Int)
  have u8:=PT ((uk:Int)-(pl:Int)-(b0:Int))
  rw[← hsd] at u8
  have u9:=PQ (u:=(uk:Int)-(pl:Int)-(b0:Int)) (by omega) (by omega)
  have u10:(if (uk:Int)-(pl:Int)-(b0:Int)<0 then (1:Int) else 0)=(b2:Int):=by
   rw[hbs]; split<;>split<;>omega
  rw[u10] at u9
  have w1:IntKind.i64.wrap ((k:Int)+1)=(k:Int)+1:=wrap64 (by omega) (by omega)
  simp[mr,ek,ekv,ek3,hkv,u1,u2,u3,u4,u5,u6,u7,u8,u9,hA,hsg,splice,hset,w1,wE,hst1]
 ·simp[mr,Yu]
  exact hK
end
def U5 (m:Am.Mode) (W v z:List Nat) (σ:List (Nat × ze)) (out:List (List (Nat × AV))) (b j off e g k:Nat):St :=
 {env:=[(0,.sl j 1 off (e+3)),(1,nl m v),(5,iv ((e:Int)+2)),(7,z9 g),(9,z9 (car z v k)),(134,iv ((e:Int)+2)),(135,iv k)],sto:=pt σ j (.arr 1 (zG (seg W off (yQ (val z+val v) z k)))),out:=out,base:=b}
section
variable {m:Am.Mode} {W v z:List Nat} {σ:List (Nat × ze)} {out:List (List (Nat × AV))} {b j off e g:Nat} {K:Exit→St→Prop} (h:cO W v off e) (hz:ok z) (hzl:z.length=e+3)
include h hz hzl
theorem Gu {s:St} (hs:lu s (U5 m W v z σ out b j off e g 0))
  (hK:awp Tryz.prog qg {env:=[(0,.sl j 1 off (e+3)),(1,nl m v),(5,iv ((e:Int)+2)),(7,z9 g),(9,z9 (car z v (e+2))),(134,iv ((e:Int)+2)),(135,iv ((e:Int)+2)),(136,bv false)],sto:=pt σ j (.arr 1 (zG (seg W off (yQ (val z+val v) z (e+2))))),out:=out,base:=b} K) :
  awp Tryz.prog (.loop mu) s (wR 4 (ry Tryz.prog qg K)):=by
 have hvl:=h.hv
 have hWl:=h.hW
 have hsm:=h.small
 refine zq (U5 m W v z σ out b j off e g) (fun _=>True) (e+2) hs trivial (fun k hk _=>?_) (fun _=>?_)
 ·have hkv:k<v.length:=by omega
  have hkz:k<z.length:=by omega
  have hvB:=xH h.okv hkv
  have hzB:=xH hz hkz
  have hc:=TP hz h.okv k
  obtain ⟨t,ht,g1,g2⟩:=Rk (a:=z) (b:=v) hkz (by omega)
  rw[List.getElem?_eq_getElem hkv,Option.getD_some] at ht
  have hmx:=bY (Z:=val z+val v) hkz
  have hml:=fj (Z:=val z+val v) (u:=z) (k:=k) (by omega)
  have hmg:=bX (Z:=val z+val v) hkz
  have hsl:=gm (W:=W) (X:=yQ (val z+val v) z k) (off:=off) (by rw[hml]; omega)
  have hsg:=Xm (W:=W) (X:=yQ (val z+val v) z k) (off:=off) (i:=k) (by rw[hml]; omega) (by omega)
  have hss:=Xn (W:=W) (X:=yQ (val z+val v) z k) (off:=off) (i:=k) (d:=(val z+val v)/B^k%B) (by rw[hml]; omega) (by omega)
  rw[hmx,g1] at hss
  rw[hmg] at hsg
  obtain ⟨d,hd⟩:∃ d,t%B=d:=⟨_,rfl⟩
  obtain ⟨q,hq⟩:∃ q,t/B=q:=⟨_,rfl⟩
  rw[hd] at hss
  rw[hq] at g2
  have hA:off+k<(seg W off (yQ (val z+val v) z k)).length:=by omega
  have hset:(zG (seg W off (yQ (val z+val v) z k))).set (off+k) [uv d]=zG (seg W off (yQ (val z+val v) z (k+1))):=by rw[xh,hss]
  have hst1:U5 m W v z σ out b j off e g (k+1)={env:=[(0,.sl j 1 off (e+3)),(1,nl m v),(5,iv ((e:Int)+2)),(7,z9 g),(9,z9 q),(134,iv ((e:Int)+2)),(135,iv ((k:Int)+1))],sto:=pt σ j (.arr 1 (zG (seg W off (yQ (val z+val v) z (k+1))))),out:=out,base:=b}:=by
   rw[U5,g2]; rfl
  rw[U5]
  generalize car z v k=c at *
  generalize hzk:z[k]=zk at *
  generalize hvk:v[k]=vk at *
  rw[z7] at hvB hzB
  have ek:(k:Int)<(e:Int)+2:=by omega
  have ekv:(k:Int)<v.length:=by omega
  have ek3:(k:Int)<(e:Int)+3:=by omega
  have f1:IntKind.u32.wrap (t:Int)=(d:Int):=by rw[w32,hd]
  have f2:(t:Int).fdiv (2^min 32 IntKind.u64.bits)=(q:Int):=by rw[aw,hq]
  have u1:IntKind.u64.wrap (vk:Int)=vk:=w64 (by omega)
  have u2:IntKind.u64.wrap (zk:Int)=zk:=w64 (by omega)
  have u3:IntKind.u64.wrap ((zk:Int)+(vk:Int))=(zk:Int)+vk:=by rw[vS]<;>omega
  have u4:IntKind.u64.wrap ((zk:Int)+(vk:Int)+(c:Int))=(t:Int):=by rw[vS]<;>omega
  have w1:IntKind.i64.wrap ((k:Int)+1)=(k:Int)+1:=wrap64 (by omega) (by omega)
  simp[mu,ek,ekv,ek3,hkv,hvk,u1,u2,u3,u4,f1,f2,hA,hsg,splice,hset,w1,wE,hst1]
 ·simp[mu,U5]
  exact hK
theorem BO (hg:0<g) (hgB:g<B):awp Tryz.prog qg {env:=[(0,.sl j 1 off (e+3)),(1,nl m v),(5,iv ((e:Int)+2)),(7,z9 g),(9,z9 (car z v (e+2))),(134,iv ((e:Int)+2)),(135,iv ((e:Int)+2)),(136,bv false)],sto:=pt σ j (.arr 1 (zG (seg W off (yQ (val z+val v) z (e+2))))),out:=out,base:=b}
  (fun ex s=>ex=.ret∧s={env:=[(4,uv (g-1))],sto:=pt σ j (.arr 1 (zG (seg W off (zw (e+3) (val z+val v))))),out:=out,base:=b}):=by
 have hvl:=h.hv
 have hWl:=h.hW
 have hsm:=h.small
 have hkz:e+2<z.length:=by omega
 have hzB:=xH hz hkz
 have hc:=TP hz h.okv (e+2)
 obtain ⟨t,ht,g1,g2⟩:=Rk (a:=z) (b:=v) hkz (by omega)
 rw[List.getElem?_eq_none (by omega),Option.getD_none] at ht
 have hmx:=bY (Z:=val z+val v) hkz
 have hml:=fj (Z:=val z+val v) (u:=z) (k:=e+2) (by omega)
 have hmg:=bX (Z:=val z+val v) hkz
 have hsl:=gm (W:=W) (X:=yQ (val z+val v) z (e+2)) (off:=off) (by rw[hml]; omega)
 have hsg:=Xm (W:=W) (X:=yQ (val z+val v) z (e+2)) (off:=off) (i:=e+2) (by rw[hml]; omega) (by omega)
 have hss:=Xn (W:=W) (X:=yQ (val z+val v) z (e+2)) (off:=off) (i:=e+2) (d:=(val z+val v)/B^(e+2)%B) (by rw[hml]; omega) (by omega)
 rw[hmx,g1,show e+2+1=e+3 from rfl,Md hzl] at hss
 rw[hmg] at hsg
 obtain ⟨d,hd⟩:∃ d,t%B=d:=⟨_,rfl⟩
 rw[hd] at hss
 have hA:off+(e+2)<(seg W off (yQ (val z+val v) z (e+2))).length:=by omega
 have hset:(zG (seg W off (yQ (val z+val v) z (e+2)))).set (off+(e+2)) [uv d]=zG (seg W off (zw (e+3) (val z+val v))):=by rw[xh,hss]
 generalize car z v (e+2)=c at *
 generalize hzk:z[e+2]=zk at *
 have e1:((e:Int)+2).toNat=e+2:=by omega
 have e2:(0:Int)≤(e:Int)+2:=by omega
 have e3:(e:Int)+2<(e:Int)+3:=by omega
 have u1:IntKind.u32.wrap (c:Int)=c:=IntWalk.u32_in _ (by omega)
 have u2:IntKind.u32.wrap ((zk:Int)+(c:Int))=(d:Int):=by
  have:(zk:Int)+(c:Int)=(t:Int):=by omega
  rw[this,w32,hd]
 rw[z7] at hgB
 have u3:IntKind.u64.wrap ((g:Int)-1)=((g-1:Nat):Int):=by rw[vS]<;>omega
 have u4:IntKind.u32.wrap ((g-1:Nat):Int)=((g-1:Nat):Int):=IntWalk.u32_in _ (by omega)
 simp[qg,e1,e2,e3,hA,hsg,u1,u2,u3,u4,splice,hset]
end
theorem Sa {α:Type} {l:List (Nat × α)} {n:Nat} {x:α} (h:lk l n=some x):lk (pt l n x)=lk l:=by
 funext i
 rw[wg]
 split
 ·subst i; exact h.symm
 ·rfl
section
variable {m:Am.Mode} {W v:List Nat} {σ:List (Nat × ze)} {out:List (List (Nat × AV))} {b j off e g x:Nat} {K:Exit→St→Prop} (h:cO W v off e)
  (hg:g<B) (hx:∀ k,k<e+3→x/B^k%B=W.getD (off+k) 0) (hT:g*val v≤x) (hZ:x-g*val v<B^(e+3))
include h hg hx hT hZ
theorem Gv (hK0:bor x (g*val v) (e+3)=0→K .ret {env:=[(4,uv g)],sto:=pt σ j (.arr 1 (zG (seg W off (zw (e+3) (x-g*val v))))),out:=out,base:=b})
  (hK1:bor x (g*val v) (e+3)=1→0<g∧K .ret {env:=[(4,uv (g-1))],sto:=pt σ j (.arr 1 (zG (seg W off (zw (e+3) (x-g*val v+val v))))),out:=out,base:=b}) :
  awp Tryz.prog tD {env:=[(0,.sl j 1 off (e+3)),(1,nl m v),(5,iv ((e:Int)+2)),(7,z9 g),(9,z9 (cK g v (e+2))),(10,z9 (bor x (g*val v) (e+2))),(82,iv ((e:Int)+2)),(83,iv ((e:Int)+2)),(84,bv false)],sto:=pt σ j (.arr 1 (zG (seg W off (yQ (x-g*val v) ((W.drop off).take (e+3)) (e+2))))),out:=out,base:=b} K:=by
 have hvl:=h.hv
 have hWl:=h.hW
 have hsm:=h.small
 generalize hue:(W.drop off).take (e+3)=u at *
 have hul:u.length=e+3:=by rw[← hue]; simp; omega
 have hku:e+2<u.length:=by omega
 have hWk:off+(e+2)<W.length:=by omega
 have huk:u[e+2]=W[off+(e+2)]:=by subst hue; simp
 have hq:W.getD (off+(e+2)) 0=W[off+(e+2)]:=by simp[hWk]
 have hukB:u[e+2]<B:=by rw[huk]; exact xH h.okW hWk
 have hcB:cK g v (e+2)<B:=Z8 h.okv hg (e+2)
 have hcT:g*val v/B^(e+2)%B=cK g v (e+2):=by
  have:cK g v (e+2)=g*val v/B^(e+2):=by unfold cK; rw[List.take_of_length_le (by omega)]
  rw[← this,Nat.mod_eq_of_lt hcB]
 have hsd:=dd (k:=e+2) hT
 have hbs:=cX (x:=x) (y:=g*val v) (k:=e+2)
 have hb1:=Tv (x:=x) (y:=g*val v) (k:=e+2)
 rw[hx (e+2) (by omega),hq,← huk,hcT] at hsd hbs
 have hmx:=bY (Z:=x-g*val v) hku
 rw[show e+2+1=e+3 from rfl,Md hul] at hmx
 have hml:=fj (Z:=x-g*val v) (u:=u) (k:=e+2) (by omega)
 have hmg:=bX (Z:=x-g*val v) hku
 have hsl:=gm (W:=W) (X:=yQ (x-g*val v) u (e+2)) (off:=off) (by rw[hml]; omega)
 have hsg:=Xm (W:=W) (X:=yQ (x-g*val v) u (e+2)) (off:=off) (i:=e+2) (by rw[hml]; omega) (by omega)
 have hss:=Xn (W:=W) (X:=yQ (x-g*val v) u (e+2)) (off:=off) (i:=e+2) (d:=(x-g*val v)/B^(e+2)%B) (by rw[hml]; omega) (by omega)
 rw[hmx] at hss
 rw[hmg] at hsg
 obtain ⟨d,hd⟩:∃ d,(x-g*val v)/B^(e+2)%B=d:=⟨_,rfl⟩
 rw[hd] at hss hsd
 rw[show e+2+1=e+3 from rfl] at hbs
 have hA:off+(e+2)<(seg W off (yQ (x-g*val v) u (e+2))).length:=by omega
 have hset:(zG (seg W off (yQ (x-g*val v) u (e+2)))).set (off+(e+2)) [uv d]=zG (seg W off (zw (e+3) (x-g*val v))):=by rw[xh,hss]
 have hg0:bor x (g*val v) (e+3)=1→0<g:=fun h1=>by
  rcases Nat.eq_zero_or_pos g with h0 | h0
  ·exfalso
   rw[h0,Nat.zero_mul] at h1
   simp[bor] at h1
  ·exact h0
 generalize cK g v (e+2)=c at *
 generalize bor x (g*val v) (e+2)=b0 at *
 generalize hb2:bor x (g*val v) (e+3)=b2 at *
 generalize huk2:u[e+2]=uk at *
 clear hd
 have e1:((e:Int)+2).toNat=e+2:=by omega
 have e2:(0:Int)≤(e:Int)+2:=by omega
 have e3:(e:Int)+2<(e:Int)+3:=by omega
 rw[z7] at hukB hcB
 have u6:IntKind.u64.wrap (uk:Int)=uk:=w64 (by omega)
 have u7:=abL ((uk:Int)-(c:Int)) (b0:Int)
 have u8:=PT ((uk:Int)-(c:Int)-(b0:Int))
 have hsd':((d:Nat):Int)=((uk:Int)-(c:Int)-(b0:Int))%4294967296:=hsd
 rw[← hsd'] at u8
 have u9:=PQ (u:=(uk:Int)-(c:Int)-(b0:Int)) (by omega) (by omega)
 have u10:(if (uk:Int)-(c:Int)-(b0:Int)<0 then (1:Int) else 0)=(b2:Int):=by
  rw[hbs]; split<;>split<;>omega
 rw[u10] at u9
 have hgB:=hg
 rw[z7] at hgB
 have u11:IntKind.u32.wrap (g:Int)=(g:Int):=IntWalk.u32_in _ (by omega)
 have hb2v:b2=0∨b2=1:=by rw[hbs]; split<;>simp
 rcases hb2v with h0 | h0
 ·subst h0
  simp[tD,e1,e2,e3,hA,hsg,u6,u7,u8,u9,u11,wE,splice,hset]
  exact hK0 rfl
 ·subst h0
  obtain ⟨hgp,hfin⟩:=hK1 rfl
  simp[tD,e1,e2,e3,hA,hsg,u6,u7,u8,u9,wE,splice,hset]
  refine Gu (m:=m) (σ:=σ) (out:=out) (b:=b) (j:=j) (g:=g) h (yw (n:=e+3) (x:=x-g*val v)) zB ?_ ?_
  ·simp[U5,Z7,Up]
  ·refine xR (fun ex s hs=>?_) (BO h (yw (n:=e+3) (x:=x-g*val v)) zB hgp hg)
   rw[yh hZ] at hs
   obtain ⟨rfl,rfl⟩:=hs
   exact hfin
theorem Qz (hj:lk σ j=some (.arr 1 (zG W))) {r y:AV} {q:Nat} (hq:q=69∨q=81) (hK0:bor x (g*val v) (e+3)=0→K .ret {env:=[(4,uv g)],sto:=pt σ j (.arr 1 (zG (seg W off (zw (e+3) (x-g*val v))))),out:=out,base:=b})
  (hK1:bor x (g*val v) (e+3)=1→0<g∧K .ret {env:=[(4,uv (g-1))],sto:=pt σ j (.arr 1 (zG (seg W off (zw (e+3) (x-g*val v+val v))))),out:=out,base:=b}) :
  awp Tryz.prog vn {env:=[(0,.sl j 1 off (e+3)),(1,nl m v),(5,iv ((e:Int)+2)),(7,z9 g),(8,r),(q,y)],sto:=σ,out:=out,base:=b} K:=by
 have hl:=Gv (m:=m) (σ:=σ) (out:=out) (b:=b) (j:=j) h hg hx hT hZ hK0 hK1
 have hc0:cK g v 0=0:=by simp[cK,val]
 have hs:=aaS (W:=W) (off:=off) (n:=e+3) (by have:=h.hW; omega)
 rcases hq with rfl | rfl
 ·simp[vn]
  refine QA h hg hx hT ?_ hl
  simp[Yu,Z7,hs,hc0,cY]
  exact .inr (.inl (Sa hj))
 ·simp[vn]
  refine QA h hg hx hT ?_ hl
  simp[Yu,Z7,hs,hc0,cY]
  exact .inr (.inl (Sa hj))
end
theorem Bu {v:List Nat} {e:Nat} (h:v.length=e+2):val v=(v.getD (e+1) 0*B+v.getD e 0)*B^e+val (v.take e):=by
 have h1:=v9 v e
 have h2:v.drop e=[v[e],v[e+1]]:=by
  rw[List.drop_eq_getElem_cons (by omega),List.drop_eq_getElem_cons (by omega),List.drop_of_length_le (by omega)]
 rw[Nat.min_eq_left (by omega),h2] at h1
 have q1:v.getD (e+1) 0=v[e+1]:=by simp[h]
 have q2:v.getD e 0=v[e]:=by simp[h]
 rw[h1,q1,q2]
 simp only[val,Nat.mul_zero,Nat.add_zero]
 grind
theorem Bv {u:List Nat} {e:Nat} (h:u.length=e+3):val u=((u.getD (e+2) 0*B+u.getD (e+1) 0)*B+u.getD e 0)*B^e+val (u.take e):=by
 have h1:=v9 u e
 have h2:u.drop e=[u[e],u[e+1],u[e+2]]:=by
  rw[List.drop_eq_getElem_cons (by omega),List.drop_eq_getElem_cons (by omega),List.drop_eq_getElem_cons (by omega),List.drop_of_length_le (by omega)]
 rw[Nat.min_eq_left (by omega),h2] at h1
 have q0:u.getD (e+2) 0=u[e+2]:=by simp[h]
 have q1:u.getD (e+1) 0=u[e+1]:=by simp[h]
 have q2:u.getD e 0=u[e]:=by simp[h]
 rw[h1,q0,q1,q2]
 simp only[val,Nat.mul_zero,Nat.add_zero]
 grind
theorem agn {t v1 v2 u2 P Q R U V:Nat} (_hP:0<P) (hU:U=(t*B+u2)*P+R) (hV:V=(v1*B+v2)*P+Q) (hQ:Q<P) (hv2:v2<B) (hlt:U<V*B):t≤v1*B+(B-1):=by
 have a1:t*B*P≤U:=by
  rw[hU]
  have:t*B*P≤(t*B+u2)*P:=Nat.mul_le_mul_right _ (Nat.le_add_right _ _)
  exact Nat.le_trans this (Nat.le_add_right _ _)
 have a2:V≤(v1*B+B)*P:=by
  rw[hV]
  have h1:(v1*B+v2+1)*P≤(v1*B+B)*P:=Nat.mul_le_mul_right _ (by omega)
  rw[Nat.add_mul,Nat.one_mul] at h1
  exact Nat.le_trans (Nat.add_le_add_left (Nat.le_of_lt hQ) _) h1
 have a3:V*B≤(v1*B+B)*P*B:=Nat.mul_le_mul_right _ a2
 have a4:t*(P*B)<(v1*B+B)*(P*B):=by
  rw[← Nat.mul_assoc,← Nat.mul_assoc]
  rw[Nat.mul_assoc t,Nat.mul_comm B P,← Nat.mul_assoc] at a1
  exact Nat.lt_of_le_of_lt a1 (Nat.lt_of_lt_of_le hlt a3)
 have a5:=Nat.lt_of_mul_lt_mul_right a4
 have:=zX
 generalize v1*B=q at *
 omega
theorem acV {w v1:Nat}:gK w v1 0=w/v1:=Nat.sub_zero _
theorem adH {w v1:Nat}:rK w v1 0=w%v1:=by unfold rK; rw[Nat.zero_mul,Nat.add_zero]
theorem Rb {a c:Nat} (ha:a<B) (hc:c<B):a*B+c<18446744073709551616:=by
 have:(a+1)*B≤B*B:=Nat.mul_le_mul_right _ ha
 have hBB:B*B=18446744073709551616:=by decide
 rw[Nat.add_mul,hBB,Nat.one_mul] at this
 exact Nat.lt_of_lt_of_le (Nat.add_lt_add_left hc _) this
theorem Aa {z n:Nat}:zw n (z+B^n)=zw n z:=QB
theorem acH {m:Am.Mode} {W v:List Nat} {σ:List (Nat × ze)} {out:List (List (Nat × AV))} {b j off e g U Q R:Nat} {K:Exit→St→Prop} (h:cO W v off e) (hg:g<B) (hj:lk σ j=some (.arr 1 (zG W)))
  {r y:AV} {q:Nat} (hq:q=69∨q=81) (hx:∀ k,k<e+3→U/B^k%B=W.getD (off+k) 0) (hUN:U<B^(e+3)) (hTN:g*val v<B^(e+3)) (hmod:val v*Q+R=U) (hR:R<val v) (hc:Q≤g∧g≤Q+1)
  (hK:∀ ex s,ex=.ret→s={env:=[(4,uv Q)],sto:=pt σ j (.arr 1 (zG (seg W off (zw (e+3) R)))),out:=out,base:=b}→K ex s) :
  awp Tryz.prog vn {env:=[(0,.sl j 1 off (e+3)),(1,nl m v),(5,iv ((e:Int)+2)),(7,z9 g),(8,r),(q,y)],sto:=σ,out:=out,base:=b} K:=by
 rcases Nat.lt_or_ge U (g*val v) with hlt | hle
 ·have hgQ:g=Q+1:=by
   rcases Nat.lt_or_ge Q g with h1 | h1
   ·omega
   ·exfalso
    have:g*val v≤Q*val v:=Nat.mul_le_mul_right _ h1
    rw[Nat.mul_comm] at hmod
    omega
  subst hgQ
  have hz:U+B^(e+3)-(Q+1)*val v+val v=R+B^(e+3):=by
   rw[Nat.add_mul,Nat.one_mul] at *
   rw[Nat.mul_comm] at hmod
   omega
  refine Qz (x:=U+B^(e+3)) h hg (fun k hk=>?_) (by omega) (by omega) hj hq (fun h0=>?_) (fun _=>⟨by omega,?_⟩)
  ·rw[EQ hk]; exact hx k hk
  ·exfalso
   simp only[bor,Nat.add_mod_right,Nat.mod_eq_of_lt hUN,Nat.mod_eq_of_lt hTN,if_pos hlt] at h0
   exact absurd h0 (by decide)
  ·refine hK _ _ rfl ?_
   rw[hz,Aa,Nat.add_sub_cancel]
 ·have hgQ:g=Q:=by
   rcases Nat.lt_or_ge Q g with h1 | h1
   ·exfalso
    have:(Q+1)*val v≤g*val v:=Nat.mul_le_mul_right _ h1
    rw[Nat.add_mul,Nat.one_mul] at this
    rw[Nat.mul_comm] at hmod
    omega
   ·omega
  subst hgQ
  have hz:U-g*val v=R:=by
   rw[Nat.mul_comm] at hmod
   omega
  refine Qz (x:=U) h hg hx hle (by omega) hj hq (fun _=>?_) (fun h1=>?_)
  ·exact hK _ _ rfl (by rw[hz])
  ·exfalso
   simp only[bor,Nat.mod_eq_of_lt hUN,Nat.mod_eq_of_lt hTN,if_neg (Nat.not_lt.mpr hle)] at h1
   exact absurd h1 (by decide)
theorem afd {m:Am.Mode} {W v:List Nat} {s:St} {K:AV→St→Prop} (b:Nat) {j off e U:Nat} (h:cO W v off e) (hj:lk s.sto j=some (.arr 1 (zG W)))
  (h1:0<v.getD (e+1) 0) (hU:U=val ((W.drop off).take (e+3))) (hlt:U<val v*B)
  (hK:K (uv (U/val v)) ⟨s.env,pt s.sto j (.arr 1 (zG (seg W off (zw (e+3) (U%val v))))),s.out,s.base⟩):z5 Tryz.prog Zs [.sl j 1 off (e+3),nl m v] s K:=by
 obtain ⟨env,σ,out,base⟩:=s
 simp only at hj hK
 have hvl:=h.hv
 have hWl:=h.hW
 have hsm:=h.small
 have hul:((W.drop off).take (e+3)).length=e+3:=by simp; omega
 have hug:∀ k,k<e+3→((W.drop off).take (e+3)).getD k 0=W.getD (off+k) 0:=fun k hk=>by
  simp[List.getD,hk]
 have hvV:=Bu hvl
 have huU:=Bv hul
 rw[← hU,hug _ (by omega),hug _ (by omega),hug _ (by omega)] at huU
 have okv2:ok ((W.drop off).take (e+3)):=uM (RK h.okW off) _
 have hv2:v.getD e 0<B:=uc h.okv _
 have hu2:W.getD (off+e) 0<B:=uc h.okW _
 have hQ:val (v.take e)<B^e:=yY (uM h.okv e) (by simp; omega)
 have hR:val (((W.drop off).take (e+3)).take e)<B^e:=yY (uM okv2 e) (by simp; omega)
 have hclose:=Fh (w:=rB W off e) h1 hu2 hv2 huU hR hvV hQ hlt
 have hw:rB W off e≤v.getD (e+1) 0*B+(B-1):=by
  exact agn (Nat.pow_pos zX) huU hvV hQ hv2 hlt
 have hv1:e+1<v.length:=by omega
 have hWa:off+(e+2)<W.length:=by omega
 have hWb:off+(e+1)<W.length:=by omega
 refine va b Bi (by simp) ?_
 have p1:v.getD (e+1) 0=v[e+1]:=by simp[hv1]
 have p2:W.getD (off+(e+2)) 0=W[off+(e+2)]:=by simp[hWa]
 have p3:W.getD (off+(e+1)) 0=W[off+(e+1)]:=by simp[hWb]
 have b1:v[e+1]<B:=xH h.okv hv1
 have b2:W[off+(e+2)]<B:=xH h.okW hWa
 have b3:W[off+(e+1)]<B:=xH h.okW hWb
 have hsh:=PP b2
 have hwe:rB W off e=W[off+(e+2)]*B+W[off+(e+1)]:=by rw[rB,p2,p3]
 have hor:r4 .or .u64 ((W[off+(e+2)]*B:Nat):Int) (W[off+(e+1)]:Int)=((rB W off e:Nat):Int):=by rw[hwe]; exact or_hi b2 b3
 have hwB:rB W off e<18446744073709551616:=by rw[hwe]; exact Rb b2 b3
 have fin:∀ K2:Exit→St→Prop,(∀ ex s,ex=.ret→s={env:=[(4,uv (U/val v))],sto:=pt σ j (.arr 1 (zG (seg W off (zw (e+3) (U%val v))))),out:=env::out,base:=b}→K2 ex s) →
   awp Tryz.prog (.loop wD) (Yt m W v σ (env::out) b j off e 0) (wR 0 (ry Tryz.prog vn K2)):=by
  intro K2 hK2
  have hw3:∀ k,k<e+3→U/B^k%B=W.getD (off+k) 0:=fun k hk=>by
   have hd:=ZN okv2
   rw[hul,← hU] at hd
   have h2:k<(zw (e+3) U).length:=by rw[zB]; exact hk
   rw[← vp h2,← hug k hk,← hd]
   simp[List.getD,h2]
  have hUN:U<B^(e+3):=by rw[hU]; exact yY okv2 (Nat.le_of_eq hul)
  have hVpos:0<val v:=by
   have hpp:=Nat.pow_pos (n:=e) zX
   rw[hvV]
   exact Nat.lt_of_lt_of_le (Nat.mul_pos (Nat.lt_of_lt_of_le (Nat.mul_pos h1 zX) (Nat.le_add_right _ _)) hpp) (Nat.le_add_right _ _)
  have hgB:mJ (rB W off e) (W.getD (off+e) 0) (v.getD (e+1) 0) (v.getD e 0)<B:=Nat.lt_of_le_of_lt (Nat.min_le_left _ _) (by decide)
  refine LN h hj h1 hw _ rfl fun r q y hq=>?_
  generalize mJ (rB W off e) (W.getD (off+e) 0) (v.getD (e+1) 0) (v.getD e 0)=g at *
  have hmod:val v*(U/val v)+U%val v=U:=Nat.div_add_mod U (val v)
  have hml:=Nat.mod_lt U hVpos
  have hVN:val v<B^(e+2):=yY h.okv (Nat.le_of_eq hvl)
  have hTN:g*val v<B^(e+3):=by
   rw[show e+3=(e+2)+1 from rfl,Nat.pow_succ,Nat.mul_comm]
   exact Nat.mul_lt_mul_of_lt_of_lt hVN hgB
  exact acH h hgB hj hq hw3 hUN hTN hmod hml hclose hK2
 have st0:Yt m W v σ (env::out) b j off e 0={env:=[(0,.sl j 1 off (e+3)),(1,nl m v),(5,iv ((e:Int)+2)),(7,z9 (rB W off e/v.getD (e+1) 0)),(8,z9 (rB W off e%v.getD (e+1) 0))],sto:=σ,out:=env::out,base:=b}:=by
  rw[Yt,acV,adH]
 rw[st0] at fin
 clear hwe
 clear st0 hclose hw huU hvV
 obtain ⟨rb,hrb⟩:∃ rb,W[off+(e+2)]*B=rb:=⟨_,rfl⟩
 rw[hrb] at hor hsh
 generalize rB W off e=w at *
 rw[p1] at fin h1
 generalize g1:v[e+1]=v1 at *
 generalize g2:W[off+(e+2)]=w3 at *
 generalize g3:W[off+(e+1)]=w2 at *
 have t1:IntKind.u64.wrap ((w:Int).tdiv v1)=((w/v1:Nat):Int):=by
  rw[← Int.ofNat_tdiv]
  exact w64 (Nat.lt_of_le_of_lt (Nat.div_le_self _ _) hwB)
 have t2:((w:Int).tmod v1)=((w%v1:Nat):Int):=by rw[← Int.ofNat_tmod]
 have t3:IntKind.u64.wrap ((w:Int)/v1)=((w/v1:Nat):Int):=by
  rw[← Int.natCast_ediv]
  exact w64 (Nat.lt_of_le_of_lt (Nat.div_le_self _ _) hwB)
 generalize w/v1=q at *
 generalize w%v1=r at *
 have hv10:¬ v1=0:=by omega
 have c0:(e:Int)+2<(e:Int)+3:=by omega
 have c1:((e:Int)+2).toNat=e+2:=by omega
 have c2:((e:Int)+1).toNat=e+1:=by omega
 have c3:(0:Int)≤(e:Int)+2:=by omega
 have c4:(0:Int)≤(e:Int)+1:=by omega
 have c5:(e:Int)+1<(e:Int)+3:=by omega
 have i5:IntKind.i64.wrap ((e:Int)+2-1)=(e:Int)+1:=by rw[wrap64]<;>omega
 have hlen:(v.length:Int)=(e:Int)+2:=by omega
 rw[z7] at b1 b2 b3
 have u1:IntKind.u64.wrap (v1:Int)=v1:=w64 (by omega)
 have u2:IntKind.u64.wrap (w3:Int)=w3:=w64 (by omega)
 have u3:IntKind.u64.wrap (w2:Int)=w2:=w64 (by omega)
 simp[Qq,hj,g1,g2,g3,c0,c1,c2,c3,c4,c5,i5,hlen,u1,u2,u3,hWa,hWb,hv1,hv10,vP,hsh,hor,tf,qo,t2,t3]
 refine fin _ fun ex s he hs=>?_
 subst he hs
 simp[QW]
 exact hK
end Go.Proofs.YtjeoklgggppjiaaGreat

namespace Go.Dig
def lz (t:Nat):Nat:=31-Nat.log2 t
theorem PK {t:Nat}:lz t<32:=by unfold lz; omega
theorem afA {t:Nat} (ht:t<B):Nat.log2 t<32:=by
 rcases Nat.eq_zero_or_pos t with h | h
 ·subst h; decide
 ·exact (Nat.log2_lt (by omega)).2 ht
theorem AQ {t k:Nat} (_ht:t<B) (hk:k<lz t):t*2^k<2147483648:=by
 have h1:t<2^(Nat.log2 t+1):=Nat.lt_log2_self
 have h2:t*2^k<2^(Nat.log2 t+1)*2^k:=Nat.mul_lt_mul_of_pos_right h1 (Nat.pow_pos (by omega))
 rw[← Nat.pow_add] at h2
 have h3:2^(Nat.log2 t+1+k)≤2^31:=Nat.pow_le_pow_right (by omega) (by unfold lz at hk; omega)
 have h4:(2:Nat)^31=2147483648:=by decide
 omega
theorem Mb {t:Nat} (h0:0<t) (ht:t<B):2147483648≤t*2^lz t∧t*2^lz t<B:=by
 have hl:=afA ht
 constructor
 ·have h1:2^Nat.log2 t≤t:=Nat.log2_self_le (by omega)
  have h2:2^Nat.log2 t*2^lz t≤t*2^lz t:=Nat.mul_le_mul_right _ h1
  rw[← Nat.pow_add,show Nat.log2 t+lz t=31 by unfold lz; omega] at h2
  have h4:(2:Nat)^31=2147483648:=by decide
  omega
 ·have h1:t<2^(Nat.log2 t+1):=Nat.lt_log2_self
  have h2:t*2^lz t<2^(Nat.log2 t+1)*2^lz t:=Nat.mul_lt_mul_of_pos_right h1 (Nat.pow_pos (by omega))
  rw[← Nat.pow_add,show Nat.log2 t+1+lz t=32 by unfold lz; omega] at h2
  exact h2
theorem LO {x n:Nat} (h1:B^n≤x) (h2:x<B^(n+1)):(zf x).length=n+1:=by
 have a:=zE.2 h2
 have b:=dB.2 h1
 omega
theorem di {D n:Nat} (h:(zf D).length=n+1):B^n≤D∧D<B^(n+1)∧0<D/B^n∧D/B^n<B:=by
 have a:B^n≤D:=dB.1 (by omega)
 have b:D<B^(n+1):=zE.1 (by omega)
 refine ⟨a,b,Nat.div_pos a (vr n),Nat.div_lt_of_lt_mul ?_⟩
 rw[← Nat.pow_succ]; exact b
theorem CC {D n N:Nat} (h:(zf D).length=n+1) (hN:N=lz (D/B^n)):B^n≤D*2^N∧D*2^N<B^(n+1)∧(zf (D*2^N)).length=n+1:=by
 obtain ⟨a,b,c,d⟩:=di h
 have hl:=(Mb c d).2
 rw[← hN] at hl
 have hN32:N<32:=by rw[hN]; exact PK
 have hB:B=2^(32-N)*2^N:=by
  rw[← Nat.pow_add,Nat.sub_add_cancel (by omega)]; rfl
 have h1:D/B^n+1≤2^(32-N):=by
  have h0:=hl
  generalize D/B^n=t at *
  rw[hB] at h0
  exact Nat.lt_of_mul_lt_mul_right h0
 have h2:D<(D/B^n+1)*B^n:=by
  have:=Nat.lt_mul_div_succ D (vr n)
  rw[Nat.mul_comm] at this
  exact this
 have h3:D<2^(32-N)*B^n:=Nat.lt_of_lt_of_le h2 (Nat.mul_le_mul_right _ h1)
 have h4:D*2^N<2^(32-N)*B^n*2^N:=Nat.mul_lt_mul_of_pos_right h3 (Nat.pow_pos (by omega))
 have h5:2^(32-N)*B^n*2^N=B^(n+1):=by
  rw[Nat.mul_right_comm,← hB,Nat.pow_succ,Nat.mul_comm]
 have h6:B^n≤D*2^N:=Nat.le_trans a (Nat.le_mul_of_pos_right _ (Nat.pow_pos (by omega)))
 rw[h5] at h4
 exact ⟨h6,h4,LO h6 h4⟩
def rst (A V j:Nat):Nat:=A/B^j%V*B^j+A%B^j
theorem Sx {A V j n:Nat} (hV:V<B^n) (h0:0<V):rst A V j<B^(j+n):=by
 have h1:A/B^j%V+1≤B^n:=Nat.le_trans (Nat.mod_lt _ h0) (Nat.le_of_lt hV)
 have h2:(A/B^j%V+1)*B^j≤B^n*B^j:=Nat.mul_le_mul_right _ h1
 have h3:A%B^j<B^j:=Nat.mod_lt _ (vr j)
 have h4:B^(j+n)=B^n*B^j:=by rw[Nat.pow_add,Nat.mul_comm]
 unfold rst
 rw[h4]
 rw[Nat.add_mul,Nat.one_mul] at h2
 omega
theorem aaK {A V:Nat}:rst A V 0=A%V:=by simp[rst,Nat.mod_one]
theorem adS {A V j:Nat} (h:A/B^j<V):rst A V j=A:=by
 unfold rst
 rw[Nat.mod_eq_of_lt h,Nat.mul_comm]
 exact Nat.div_add_mod A (B^j)
theorem adQ {A V j:Nat}:rst A V j%B^j=A%B^j:=by
 unfold rst
 rw[Nat.add_comm,Nat.add_mul_mod_self_right,Nat.mod_mod]
theorem adR {A V j:Nat}:rst A V (j+1)/B^j=A/B^j/B%V*B+A/B^j%B:=by
 unfold rst
 rw[show A/B^(j+1)=A/B^j/B by rw[Nat.pow_succ,Nat.div_div_eq_div_mul]]
 have h1:A%B^(j+1)=A%B^j+B^j*(A/B^j%B):=by rw[Nat.pow_succ,Nat.mod_mul]
 rw[h1,Nat.pow_succ]
 have h2:A/B^j/B%V*(B^j*B)+(A%B^j+B^j*(A/B^j%B))=A%B^j+(A/B^j/B%V*B+A/B^j%B)*B^j:=by grind
 rw[h2,Nat.add_mul_div_right _ _ (vr j),Nat.div_eq_of_lt (Nat.mod_lt _ (vr j)),Nat.zero_add]
theorem aaJ {A V j L n:Nat} (hV:V<B^n) (h0:0<V) (hL:j+n+1≤L):seg (zw L (rst A V (j+1))) j (zw (n+1) (A/B^j%V))=zw L (rst A V j):=by
 have hlen:j+(zw (n+1) (A/B^j%V)).length≤(zw L (rst A V (j+1))).length:=by rw[zB,zB]; omega
 have hlt1:=Sx (A:=A) (j:=j+1) hV h0
 have hlt0:=Sx (A:=A) (j:=j) hV h0
 have hle:B^(j+1+n)≤B^L:=Nat.pow_le_pow_right zX (by omega)
 have hle0:B^(j+n)≤B^L:=Nat.pow_le_pow_right zX (by omega)
 have hL1:rst A V (j+1)<B^L:=Nat.lt_of_lt_of_le hlt1 hle
 have o1:ok (zw L (rst A V (j+1))):=yw
 refine Xy ?_ yw (by rw[gm hlen,zB,zB]) ?_
 ·unfold seg
  exact Yb.2 ⟨Yb.2 ⟨uM o1 _,yw⟩,RK o1 _⟩
 ·unfold seg
  rw[val_append,val_append,Ly o1 (by rw[zB]; omega),Tj o1 (by rw[zB,zB]; omega),yh hL1,yh (Nat.lt_of_lt_of_le hlt0 hle0)]
  have hz:rst A V (j+1)/B^(j+(zw (n+1) (A/B^j%V)).length)=0:=by
   rw[zB]
   exact Nat.div_eq_of_lt (by rw[show j+(n+1)=j+1+n by omega]; exact hlt1)
  have hl:(List.take j (zw L (rst A V (j+1)))).length=j:=by simp[zB]; omega
  have hx:A/B^j%V<B^(n+1):=Nat.lt_trans (Nat.lt_trans (Nat.mod_lt _ h0) hV) (Nat.pow_lt_pow_right (by decide) (by omega))
  rw[hz,hl,yh hx,Nat.mul_zero,Nat.add_zero]
  have h1:rst A V (j+1)%B^j=A%B^j:=by
   have h2:rst A V (j+1)%B^(j+1)%B^j=A%B^(j+1)%B^j:=by rw[adQ]
   rw[Nat.mod_mod_of_dvd _ (Nat.pow_dvd_pow B (by omega)),Nat.mod_mod_of_dvd _ (Nat.pow_dvd_pow B (by omega))] at h2
   exact h2
  rw[h1]
  unfold rst
  rw[Nat.mul_comm,Nat.add_comm]
theorem Cv {A V j:Nat} (h0:0<V):(rst A V (j+1)/B^j)/V=A/V/B^j%B∧(rst A V (j+1)/B^j)%V=A/B^j%V∧rst A V (j+1)/B^j<V*B:=by
 obtain ⟨s1,s2,s3⟩:=SI (A:=A/B^j) h0
 rw[adR]
 refine ⟨?_,s2,s3⟩
 rw[s1,Nat.div_div_eq_div_mul,Nat.div_div_eq_div_mul,Nat.mul_comm]
theorem CE {X N i:Nat} (hN:N<32):(X/2^N)/B^i%B=(X/B^i%B)/2^N+(X/B^(i+1)%B)*2^(32-N)%B ∧
  (X/B^i%B)/2^N ||| (X/B^(i+1)%B)*2^(32-N)%B=(X/B^i%B)/2^N+(X/B^(i+1)%B)*2^(32-N)%B:=by
 have hB:B=2^(32-N)*2^N:=by
  rw[← Nat.pow_add,Nat.sub_add_cancel (by omega)]; rfl
 have hP:0<2^N:=Nat.pow_pos (by omega)
 have hM:0<2^(32-N):=Nat.pow_pos (by omega)
 rw[show X/2^N/B^i=X/B^i/2^N by rw[Nat.div_div_eq_div_mul,Nat.div_div_eq_div_mul,Nat.mul_comm],show X/B^(i+1)=X/B^i/B by rw[Nat.pow_succ,Nat.div_div_eq_div_mul]]
 generalize X/B^i=Y
 have hx:Y%B/2^N<2^(32-N):=by
  apply Nat.div_lt_of_lt_mul
  rw[Nat.mul_comm,← hB]; exact Nat.mod_lt _ zX
 have hc:∀ q,q*2^(32-N)%B=(q%2^N)*2^(32-N):=fun q=>by
  have h:=Nat.mul_mod_mul_right (2^(32-N)) q (2^N)
  rw[Nat.mul_comm (2^N) (2^(32-N)),← hB] at h
  exact h
 have hY:Y/2^N=Y/B*2^(32-N)+Y%B/2^N:=by
  have h1:Y=Y%B+2^N*(Y/B*2^(32-N)):=by
   have h2:=Nat.mod_add_div Y B
   have h3:2^N*(Y/B*2^(32-N))=B*(Y/B):=by
    have:2^N*(Y/B*2^(32-N))=2^(32-N)*2^N*(Y/B):=by
     generalize Y/B=z
     generalize (2:Nat)^N=p
     generalize (2:Nat)^(32-N)=m
     grind
    rw[this,← hB]
   rw[h3]; exact h2.symm
  have h4:Y/2^N=(Y%B+2^N*(Y/B*2^(32-N)))/2^N:=by rw[← h1]
  rw[h4,Nat.add_mul_div_left _ _ hP,Nat.add_comm]
 have hd:2^N ∣ B:=⟨2^(32-N),by rw[hB,Nat.mul_comm]⟩
 rw[hY,hc (Y/B%B),Nat.mod_mod_of_dvd _ hd]
 generalize hq:Y/B%2^N=a
 have ha:a<2^N:=by rw[← hq]; exact Nat.mod_lt _ hP
 generalize Y%B/2^N=c at *
 have hlt:a*2^(32-N)+c<B:=by
  have h1:(a+1)*2^(32-N)≤2^N*2^(32-N):=Nat.mul_le_mul_right _ ha
  rw[Nat.mul_comm (2^N),← hB,Nat.add_mul,Nat.one_mul] at h1
  omega
 constructor
 ·have h2:=hc (Y/B)
  rw[hq] at h2
  rw[Nat.add_mod,h2,Nat.mod_eq_of_lt (a:=c) (by omega),Nat.mod_eq_of_lt hlt,Nat.add_comm]
 ·have h:=Nat.two_pow_add_eq_or_of_lt hx a
  rw[Nat.or_comm,Nat.mul_comm a,← h,Nat.add_comm]
structure PE (A D n m N X V:Nat):Prop where
 N32:N<32
 X_eq:X=A*2^N
 V_eq:V=D*2^N
 Xlt:X<B^(n+2+m+1)
 Vlen:(zf V).length=n+2
 Vpos:0<V
 Vlt:V<B^(n+2)
 top:X/B^(m+1)<V
 q:X/V=A/D
 r:X%V=(A%D)*2^N
 vtop:0<(zf V).getD (n+1) 0
theorem agM {A D n m:Nat} (hA:(zf A).length=n+2+m) (hD:(zf D).length=n+2):PE A D n m (lz (D/B^(n+1))) (A*2^lz (D/B^(n+1))) (D*2^lz (D/B^(n+1))):=by
 have hN32:lz (D/B^(n+1))<32:=PK
 obtain ⟨h1,h2,h3⟩:=CC (n:=n+1) hD rfl
 obtain ⟨h4,h5,h6,h7⟩:=di (n:=n+1) hD
 have hP:0<2^lz (D/B^(n+1)):=Nat.pow_pos (by omega)
 have hAlt:A<B^(n+2+m):=zE.1 (Nat.le_of_eq hA)
 generalize lz (D/B^(n+1))=N at *
 obtain ⟨k1,k2,k3,k4⟩:=di (n:=n+1) h3
 refine ⟨hN32,rfl,rfl,?_,h3,Nat.lt_of_lt_of_le (vr _) h1,h2,?_,Nat.mul_div_mul_right _ _ hP,Nat.mul_mod_mul_right _ _ _,?_⟩
 ·have:2^N≤B:=Nat.le_of_lt (fo hN32)
  rw[Nat.pow_succ]
  exact Nat.lt_of_lt_of_le (Nat.mul_lt_mul_of_pos_right hAlt hP) (Nat.mul_le_mul_left _ this)
 ·apply Nat.div_lt_of_lt_mul
  have a1:A*2^N<B^(n+2+m)*2^N:=Nat.mul_lt_mul_of_pos_right hAlt hP
  have a2:B^(n+1)*2^N≤D*2^N:=Nat.mul_le_mul_right _ h4
  have a3:B^(m+1)*(B^(n+1)*2^N)≤B^(m+1)*(D*2^N):=Nat.mul_le_mul_left _ a2
  have a4:B^(n+2+m)=B^(m+1)*B^(n+1):=by rw[← Nat.pow_add]; congr 1; omega
  rw[a4,Nat.mul_assoc] at a1
  exact Nat.lt_of_lt_of_le a1 a3
 ·have hl:n+1<(zf (D*2^N)).length:=by rw[h3]; omega
  have:(zf (D*2^N)).getD (n+1) 0=D*2^N/B^(n+1):=by
   rw[List.getD_eq_getElem?_getD,List.getElem?_eq_getElem hl,Option.getD_some,nw,Nat.mod_eq_of_lt k4]
  rw[this]
  exact k3
theorem adT {A V j n L:Nat} (hV:V<B^n) (h0:0<V) (hL:j+n+1≤L):rst A V (j+1)/B^j=val (((zw L (rst A V (j+1))).drop j).take (n+1)):=by
 have o1:ok (zw L (rst A V (j+1))):=yw
 have hlt1:=Sx (A:=A) (j:=j+1) hV h0
 have hL1:rst A V (j+1)<B^L:=Nat.lt_of_lt_of_le hlt1 (Nat.pow_le_pow_right zX (by omega))
 have hlen:n+1≤((zw L (rst A V (j+1))).drop j).length:=by rw[List.length_drop,zB]; omega
 rw[Ly (RK o1 _) hlen,Tj o1 (by rw[zB]; omega),yh hL1,Nat.mod_eq_of_lt]
 apply Nat.div_lt_of_lt_mul
 rw[← Nat.pow_add,show j+(n+1)=j+1+n by omega]
 exact hlt1
end Go.Dig

namespace Go.Proofs.YtjeoklgggppjiaaGreat
open Go Go.Am Go.Dig
def Xp (A D k:Nat):St:={env:=[(0,nD A),(1,nD D),(9,z9 k)],sto:=[]}
abbrev bB (A D:Nat):AV:=AV.tuple [nD (A/D),nD (A%D),iv 0]
theorem NZ {x1 x2 x3 y1 y2 y3:AV} (h1:AV.imp x1 y1) (h2:AV.imp x2 y2) (h3:AV.imp x3 y3):AV.imp (.tuple [x1,x2,x3]) (.tuple [y1,y2,y3]):=fun I w v hv=>by
 cases hv with
 | tuple cells vs hs hc =>
  refine .tuple _ _ (by simpa using hs) fun i c hi=>?_
  match i,hi with
  | 0,hi=>simp at hi; subst hi; exact h1 _ _ _ (hc 0 x1 rfl)
  | 1,hi=>simp at hi; subst hi; exact h2 _ _ _ (hc 1 x2 rfl)
  | 2,hi=>simp at hi; subst hi; exact h3 _ _ _ (hc 2 x3 rfl)
  | i+3,hi=>simp at hi
theorem fb {f:FuncId} {x y y' r:AV} (h:zd Tryz.prog f [x,y'] r) (hy:AV.imp y y'):zd Tryz.prog f [x,y] r:=fun I vs w h1 h2 h3 =>
 h I vs w h1 h2 fun i a hi=>by
  match i,hi with
  | 0,hi=>exact h3 0 a hi
  | 1,hi=>simp at hi; subst hi; exact hy _ _ _ (h3 1 y rfl)
  | i+2,hi=>simp at hi
theorem sK {sz:Nat}:AV.imp (.list sz .full []) (nD 0):=by
 rw[nD,yl]
 exact AV.imp_nil rfl
theorem ES {m1 m2:Am.Mode} {a c:List Nat} (ha:ok a) (hc:ok c) (hna:a.length<549755813888) (hnc:c.length<549755813888) (f1:stm m1=m1) (f2:stm m2=m2) (hD:val c≠0)
  (hmain:∀ n m,(zf (val c)).length=n+2→(zf (val a)).length=n+2+m→val c≤val a →
   awp Tryz.prog (.loop sQ) (Xp (val a) (val c) 0) (wR 0 (ry Tryz.prog uJ (aj sF (bB (val a) (val c)))))) :
  zd Tryz.prog qI [nl m1 a,nl m2 c] (bB (val a) (val c)):=by
 have k1:=xa (m:=m1) ha (by omega)
 have k2:=xa (m:=m2) hc (by omega)
 have hla:=wq ha
 have hlc:=wq hc
 generalize val a=A at *
 generalize val c=D at *
 have kc:=kQ (m1:=.plain) (m2:=.plain) (zx A) (zx D) (by omega) (by omega)
 rw[zK,zK] at kc
 have hl0:¬ (zf D).length=0:=by rw[List.length_eq_zero_iff,yD]; exact hD
 have hl0':¬ zf D=[]:=by rw[yD]; exact hD
 refine wN F5 (by simp) ?_
 simp[TC]
 refine za k1 (by simp[f1]) (by simp) ?_
 simp
 refine za k2 (by simp[f2]) (by simp) ?_
 simp[hl0]
 refine za kc (by simp) (by simp) ?_
 by_cases hlt:A<D
 ·have hc1:yV A D=-1:=by simp[yV,hlt]
  simp[hc1]
  have ka:=fY (m1:=.plain) (m2:=.plain) (a:=zf A) (b:=[]) (zx A) Mn (by omega) (by simp)
  rw[zK] at ka
  refine za (fb ka (AV.imp_nil (sz:=0) rfl)) (by simp) (by simp) ?_
  simp[sF,val]
  rw[bB,Nat.div_eq_of_lt hlt,Nat.mod_eq_of_lt hlt]
  exact NZ sK AV.imp.refl AV.imp.refl
 ·have hc1:¬ yV A D<0:=by simp only[yV,if_neg hlt]; split<;>omega
  by_cases h1:(zf D).length=1
  ·have h1z:((zf D).length:Int)=1:=by omega
   have h10:0<(zf D).length:=by omega
   have hDB:D<B:=by
    have:=zE.1 (Nat.le_of_eq h1)
    simpa using this
   have hg:(zf D)[0]=D:=by rw[nw]; simp[Nat.mod_eq_of_lt hDB]
   have ks:=Ks (m:=.plain) (a:=zf A) (d:=D) (zx A) (by omega) (by omega) hDB rfl
   rw[zK] at ks
   have hm:A%D<D:=Nat.mod_lt _ (by omega)
   generalize hq:A%D=r at *
   rw[z7] at hDB
   have kf:=qV (x:=r) (by omega)
   have u1:IntKind.u64.wrap (r:Int)=r:=w64 (by omega)
   simp[hc1,h1z,h10,hg]
   refine za ks (by simp) (by simp) ?_
   simp[u1]
   refine za kf (by simp) (by simp) ?_
   simp[sF]
   rw[bB,hq]
   exact AV.imp.refl
  ·have h1z:¬ ((zf D).length:Int)=1:=by omega
   simp[hc1,h1z]
   obtain ⟨n,hn⟩:∃ n,(zf D).length=n+2:=⟨(zf D).length-2,by omega⟩
   have hle:(zf D).length≤(zf A).length:=by
    rcases Nat.lt_or_ge (zf A).length (zf D).length with h2 | h2
    ·exact absurd (eP h2) hlt
    ·exact h2
   obtain ⟨m,hm⟩:∃ m,(zf A).length=n+2+m:=⟨(zf A).length-(n+2),by omega⟩
   exact hmain n m hn hm (by omega)
theorem Pp {m:Am.Mode} {a:List Nat} {bits:Nat} (ha:ok a) (hn:a.length<1099511627775) (hb:bits<32):zd Tryz.prog pK [nl m a,z9 bits] (nl .plain (zw (a.length+1) (val a*2^bits))):=by
 refine wN Ue (by simp) ?_
 have w:IntKind.i64.wrap ((a.length:Int)+1)=(a.length:Int)+1:=wrap64 (by omega) (by omega)
 have e1:((a.length:Int)+1).toNat=a.length+1:=by omega
 simp[dt,w,eMk,e1]
 refine ⟨by omega,by omega,by omega,?_⟩
 refine zq (Yz a m [] [] 0 bits) (fun _=>True) a.length (by simp[Yz,MM,TT]) trivial (fun i hi _=>?_) (fun _=>?_)
 ·have e:(i:Int)<a.length:=by omega
  have hpow:=fo hb
  have hak:=xH ha hi
  have hL:=SC (bits:=bits) (i:=i) ha
  have hLB:shL a bits i<B^(i+1):=by
   have:B^i*2^bits≤B^i*B:=Nat.mul_le_mul_left _ (by omega)
   rw[Nat.pow_succ]; omega
  have hc:shL a bits i/B^i<2^bits:=Nat.div_lt_of_lt_mul hL
  obtain ⟨o1,o2,o3,o4⟩:=Dy (c:=shL a bits i/B^i) (a:=a[i]) hb hc hak
  have hsucc:=ML (bits:=bits) hi
  have hL2:=SC (bits:=bits) (i:=i+1) ha
  have hLN:shL a bits (i+1)<B^(a.length+1):=by
   have h1:B^(i+1)*2^bits≤B^(i+1)*B:=Nat.mul_le_mul_left _ (by omega)
   have h3:B^(i+1+1)=B^(i+1)*B:=Nat.pow_succ _ _
   have h2:B^(i+1+1)≤B^(a.length+1):=Nat.pow_le_pow_right zX (by omega)
   omega
  have htB:(shL a bits i/B^i+a[i]*2^bits)/B<B:=by
   rw[← o3]
   apply Nat.div_lt_of_lt_mul
   exact Nat.mul_lt_mul_of_lt_of_lt hak hpow
  have hstep:=SD (N:=a.length+1) (i:=i) (t:=a[i]*2^bits) hLB (by omega) (by rw[← hsucc]; exact hLN) htB
  rw[← hsucc,← o2,← o3] at hstep
  have hlen:=zB (n:=a.length+1) (x:=shL a bits i)
  have hi1:i<(zw (a.length+1) (shL a bits i)).length:=by omega
  have hget:(zw (a.length+1) (shL a bits i))[i]=shL a bits i/B^i:=by
   rw[vp,Nat.mod_eq_of_lt (Nat.lt_trans hc hpow)]
  obtain ⟨c,hcE⟩:∃ c,shL a bits i/B^i=c:=⟨_,rfl⟩
  obtain ⟨t,htE⟩:∃ t,a[i]*2^bits=t:=⟨_,rfl⟩
  have htlt:t<B*B:=by rw[← htE]; exact Nat.mul_lt_mul_of_lt_of_lt hak hpow
  rw[hcE,htE] at o1 o4 hstep
  rw[hcE] at hget hc
  obtain ⟨x,hxE⟩:∃ x,t%B=x:=⟨_,rfl⟩
  obtain ⟨q,hqE⟩:∃ q,t/B=q:=⟨_,rfl⟩
  rw[hxE] at o1 o4 hstep
  rw[hqE] at hstep
  have hxB:x<B:=by rw[← hxE]; exact Nat.mod_lt _ zX
  have hqB:q<B:=by rw[← hqE]; exact Nat.div_lt_of_lt_mul htlt
  have hor:=aaj (c:=c) (x:=x) (by omega) hxB (by rw[o1]; exact o4)
  rw[o1] at hor
  obtain ⟨y,hyE⟩:∃ y,c+x=y:=⟨_,rfl⟩
  rw[hyE] at hor hstep
  have hBB:B*B=18446744073709551616:=by decide
  rw[hBB] at htlt
  have f1:IntKind.u32.wrap (t:Int)=(x:Int):=by rw[w32,hxE]
  have f2:(t:Int).fdiv (2^min 32 IntKind.u64.bits)=(q:Int):=by rw[aw,hqE]
  have f3:IntKind.u32.wrap (q:Int)=q:=IntWalk.u32_in _ (by rw[z7] at hqB; omega)
  have u1:IntKind.u64.wrap ((a[i]:Nat):Int)=(a[i]:Nat):=w64 (by rw[z7] at hak; omega)
  have hmin:min bits IntKind.u64.bits=bits:=by
   have:IntKind.u64.bits=64:=rfl
   omega
  have u2:IntKind.u64.wrap (((a[i]:Nat):Int)*2^bits)=(t:Int):=by
   rw[show ((a[i]:Nat):Int)*2^bits=((a[i]*2^bits:Nat):Int) by simp,htE]; exact w64 htlt
  have hset:((zG (zw (a.length+1) (shL a bits i))).set i [uv y]).set (i+1) [uv q]=zG (zw (a.length+1) (shL a bits (i+1))):=by
   rw[xh,xh,hstep]
  have wi:IntKind.i64.wrap ((i:Int)+1)=(i:Int)+1:=wrap64 (by omega) (by omega)
  have ei1:(i:Int)<a.length+1:=by omega
  have e2:((i:Int)+1).toNat=i+1:=by omega
  have e3:(0:Int)≤(i:Int)+1:=by omega
  have hi2:i+1<(zw (a.length+1) (shL a bits i)).length:=by omega
  have hnb:¬ ((bits:Int)<0):=by omega
  simp[tE,Yz,e,hi,hi1,hi2,ei1,e2,e3,hget,hor,u1,vP,wE,hmin,u2,f1,f2,f3,wi,splice,hset]
 ·have:zw (a.length+1) (shL a bits a.length)=zw (a.length+1) (val a*2^bits):=by rw[J7]
  have hlt:(zw (a.length+1) (val a*2^bits)).length=a.length+1:=zB
  have ht:List.take (a.length+1) (zG (zw (a.length+1) (val a*2^bits)))=zG (zw (a.length+1) (val a*2^bits)):=List.take_of_length_le (by rw[List.length_map,hlt]; exact Nat.le_refl _)
  simp[tE,Yz,lb,dF,this,hlt,ht]
  exact AV.imp.refl
theorem ac5 {t:Nat} (h0:0<t) (ht:t<B):∃ p,t*2^lz t=p∧2147483648≤p∧p<4294967296:=⟨_,rfl,(Mb h0 ht).1,(Mb h0 ht).2⟩
theorem Ab {A D n _m:Nat} {K:Exit→St→Prop} (hD:(zf D).length=n+2) (hn:n<549755813888)
  (hK:∀ q y,(q=53)→awp Tryz.prog uJ {env:=[(0,nD A),(1,nD D),(9,z9 (lz (D/B^(n+1)))),(q,y)],sto:=[]} K) :
  awp Tryz.prog (.loop sQ) (Xp A D 0) (wR 0 (ry Tryz.prog uJ K)):=by
 obtain ⟨_,_,ht0,htB⟩:True∧True∧0<D/B^(n+1)∧D/B^(n+1)<B:=⟨trivial,trivial,(di (n:=n+1) hD).2.2⟩
 have hg:(zf D)[n+1]'(by omega)=D/B^(n+1):=by rw[nw,Nat.mod_eq_of_lt htB]
 have hlen:((zf D).length:Int)=(n:Int)+2:=by omega
 have w0:IntKind.i64.wrap ((n:Int)+2-1)=(n:Int)+1:=by rw[wrap64]<;>omega
 have e1:((n:Int)+1).toNat=n+1:=by omega
 have e2:(0:Int)≤(n:Int)+1:=by omega
 have e3:n+1<(zf D).length:=by omega
 generalize D/B^(n+1)=t at *
 refine zq (Xp A D) (fun _=>True) (lz t) (by simp[Xp]) trivial (fun k hk _=>?_) (fun _=>?_)
 ·have hs:=AQ htB hk
  have h32:=PK (t:=t)
  obtain ⟨p,hp⟩:∃ p,t*2^k=p:=⟨_,rfl⟩
  rw[hp] at hs
  have hmin:min k IntKind.u32.bits=k:=by
   have:IntKind.u32.bits=32:=rfl
   omega
  have u1:IntKind.u32.wrap ((t:Int)*2^k)=(p:Int):=by
   rw[show (t:Int)*2^k=((t*2^k:Nat):Int) by simp,hp]; exact IntWalk.u32_in _ (by omega)
  have u2:IntKind.u64.wrap ((k:Int)+1)=(k:Int)+1:=vS (by omega) (by omega)
  have c1:(p:Int)<2147483648:=by omega
  have c2:¬ ((k:Int)<0):=by omega
  simp[sQ,Xp,hlen,w0,e1,e2,e3,hg,vP,hmin,u1,u2,c1,c2]
 ·have h32:=PK (t:=t)
  obtain ⟨p,hp,h1,h2⟩:=ac5 ht0 htB
  have hk0:=hK _ (bv false) rfl
  clear hK
  generalize lz t=k at *
  have hmin:min k IntKind.u32.bits=k:=by
   have:IntKind.u32.bits=32:=rfl
   omega
  have u1:IntKind.u32.wrap ((t:Int)*2^k)=(p:Int):=by
   rw[show (t:Int)*2^k=((t*2^k:Nat):Int) by simp,hp]; exact IntWalk.u32_in _ (by omega)
  have c1:¬ (p:Int)<2147483648:=by omega
  have c3:¬ p<2147483648:=by omega
  have c2:¬ ((k:Int)<0):=by omega
  simp[sQ,Xp,hlen,w0,e1,e2,e3,hg]
  rw[vP c2,Int.toNat_natCast,hmin,u1]
  generalize (p:Int)=z at *
  simp[c1]
  exact hk0
def pn (A D n m N X V k:Nat):St :=
 {env:=[(4,.sl 72 1 0 (m+1)),(9,z9 N),(10,.sl 1011 1 0 (n+2+m+1)),(11,nD V),(12,iv ((n:Int)+2)),(13,iv m),(74,iv ((m:Int)+1)),(75,iv k)],
  sto:=[(72,.arr 1 (zG (vv (m+1) (A/D) k))),(1011,.arr 1 (zG (zw (n+2+m+1) (rst X V (m+1-k)))))]}
theorem acJ {A D n m N X V:Nat} {K:Exit→St→Prop} (hA:(zf A).length=n+2+m) (hD:(zf D).length=n+2) (hn:n+m<274877906944) {y:AV} (h:PE A D n m N X V)
  (hK:∀ s,lu s (pn A D n m N X V 0)→awp Tryz.prog (.loop sS) s (wR 2 (ry Tryz.prog uI K))) :
  awp Tryz.prog uJ {env:=[(0,nD A),(1,nD D),(9,z9 N),(53,y)],sto:=[]} K:=by
 have hN32:=h.N32
 have kt:=xa (m:=.plain) (a:=zw (n+2+1) V) yw (by rw[zB]; omega)
 have hVlt:V<B^(n+2+1):=Nat.lt_trans h.Vlt (Nat.pow_lt_pow_right (by decide) (by omega))
 rw[yh hVlt] at kt
 have hVl:=h.Vlen
 have w1:IntKind.i64.wrap ((n:Int)+2+m-(n+2))=(m:Int):=by rw[wrap64]<;>omega
 have w2:IntKind.i64.wrap ((m:Int)+1)=(m:Int)+1:=by rw[wrap64]<;>omega
 have e1:((m:Int)+1).toNat=m+1:=by omega
 have e2:(zw (n+2+1) V).length=n+2+1:=zB
 have e3:(zG (zw (n+2+1) V)).length=n+2+1:=by rw[List.length_map,e2]
 simp[uJ]
 refine ⟨rfl,?_⟩
 refine aaV 1000 (zx A) (by omega) hN32 (by simp) ?_
 simp
 have ks:=Pp (m:=.plain) (bits:=N) (zx D) (by omega) hN32
 rw[zK,← h.V_eq,hD] at ks
 refine za ks (by simp) (by simp) ?_
 simp
 refine za kt (by simp) (by simp) ?_
 simp[hVl,hA,hD,w1,w2,eMk,e1]
 refine ⟨by omega,by omega,by omega,?_⟩
 rw[zK,← h.X_eq]
 have hz:rst X V (m+1)=X:=adS h.top
 refine hK _ ?_
 simp[pn,hz,Ub,qz]
theorem Ad {A D n m N X V:Nat} {K:Exit→St→Prop} (hn:n+m<274877906944) (h:PE A D n m N X V)
  (hK:∀ q y,q=76→awp Tryz.prog uI {(pn A D n m N X V (m+1)) with env:=(pn A D n m N X V (m+1)).env++[(q,y)]} K) :
  ∀ s,lu s (pn A D n m N X V 0)→awp Tryz.prog (.loop sS) s (wR 2 (ry Tryz.prog uI K)):=by
 intro s hs
 refine zq (pn A D n m N X V) (fun _=>True) (m+1) hs trivial (fun k hk _=>?_) (fun _=>?_)
 ·obtain ⟨j,hj⟩:∃ j,m-k=j:=⟨_,rfl⟩
  have hj1:m+1-k=j+1:=by omega
  have hj2:m+1-(k+1)=j:=by omega
  have hj3:m+1-1-k=j:=by omega
  have hlt:=Sx (A:=X) (j:=j+1) h.Vlt h.Vpos
  obtain ⟨d1,d2,d3⟩:=Cv (A:=X) (j:=j) h.Vpos
  have hstep:=aaJ (A:=X) (V:=V) (j:=j) (L:=n+2+m+1) h.Vlt h.Vpos (by omega)
  have hval:=adT (A:=X) (V:=V) (j:=j) (n:=n+2) (L:=n+2+m+1) h.Vlt h.Vpos (by omega)
  have hset:=SH (n:=m+1) (D:=A/D) (i:=k) hk
  rw[hj3] at hset
  rw[h.q] at d1
  have hql:=SG (D:=A/D) (show k≤m+1 by omega)
  have hVl:=h.Vlen
  have e:(k:Int)<(m:Int)+1:=by omega
  have w1:IntKind.i64.wrap ((m:Int)-k)=(j:Int):=by rw[wrap64]<;>omega
  have w2:IntKind.i64.wrap ((j:Int)+(n+2))=(j:Int)+(n+2):=by rw[wrap64]<;>omega
  have w3:IntKind.i64.wrap ((j:Int)+(n+2)+1)=(j:Int)+(n+2)+1:=by rw[wrap64]<;>omega
  have w4:IntKind.i64.wrap ((k:Int)+1)=(k:Int)+1:=by rw[wrap64]<;>omega
  have w5:((j:Int)+(n+2)+1).toNat-j=n+3:=by omega
  have ok:cO (zw (n+2+m+1) (rst X V (j+1))) (zf V) j n:=⟨yw,zx _,hVl,by rw[zB]; omega,by rw[zB]; omega⟩
  simp[sS,pn,e,w1,w2,w3,hj1,w5]
  refine ⟨by omega,by omega,rfl,?_⟩
  refine afd 3000 ok (by simp) h.vtop hval (by rw[zK]; exact d3) ?_
  have w6:j<(vv (m+1) (A/D) k).length:=by omega
  have w7:(j:Int)<(m:Int)+1:=by omega
  simp only[zK,d1,d2,hstep]
  generalize hd:A/D/B^j%B=d at *
  have hset':(zG (vv (m+1) (A/D) k)).set j [uv d]=zG (vv (m+1) (A/D) (k+1)):=by rw[xh,hset]
  simp[w6,w7,splice,hset',w4,hj2,pn]
 ·simp[sS,pn]
  have:=hK _ (bv false) rfl
  simp[pn] at this
  exact this
def Xq (Q R n m N Y k:Nat):St :=
 {env:=[(4,.sl 72 1 0 (m+1)),(5,.sl 99 1 0 (n+2)),(9,z9 N),(10,.sl 1011 1 0 (n+2+m+1)),(100,iv ((n:Int)+2)),(101,iv k)],
  sto:=[(72,.arr 1 (zG (zw (m+1) Q))),(1011,.arr 1 (zG (zw (n+2+m+1) Y))),(99,.arr 1 (zG (wF (n+2) k R)))]}
theorem ER {R N i:Nat} (hN:N<32):∃ a c d,R*2^N/B^i%B/2^N=a∧(R*2^N/B^(i+1)%B)*2^(32-N)%B=c∧R/B^i%B=d∧a ||| c=d∧a<B∧c<B∧d<B∧(N=0→a=d):=by
 obtain ⟨h1,h2⟩:=CE (X:=R*2^N) (i:=i) hN
 have hP:0<2^N:=Nat.pow_pos (by omega)
 rw[Nat.mul_div_cancel _ hP] at h1
 refine ⟨_,_,_,rfl,rfl,rfl,by rw[h2,← h1],Nat.lt_of_le_of_lt (Nat.div_le_self _ _) (Nat.mod_lt _ zX),Nat.mod_lt _ zX,Nat.mod_lt _ zX,fun h0=>?_⟩
 subst h0
 rw[Nat.pow_zero,Nat.mul_one,Nat.div_one]
theorem ahc {a c d:Nat} (ha:a<B) (hc:c<B) (h:a ||| c=d) (hd:d<B):r4 .or .u32 (a:Int) (c:Int)=(d:Int):=by
 have:=aaj (c:=a) (x:=c) ha hc (by rw[h]; exact hd)
 rw[h] at this
 exact this
theorem acI {A D n m N X V:Nat} (hn:n+m<274877906944) (hD:(zf D).length=n+2) (h:PE A D n m N X V) :
  ∀ q y,q=76→awp Tryz.prog uI {(pn A D n m N X V (m+1)) with env:=(pn A D n m N X V (m+1)).env++[(q,y)]} (aj sF (bB A D)):=by
 intro q y hq
 subst hq
 have hN:=h.N32
 have hY:rst X V 0=A%D*2^N:=by rw[aaK,h.r]
 have hDlt:D<B^(n+2):=zE.1 (Nat.le_of_eq hD)
 have hD0:0<D:=by
  rcases Nat.eq_zero_or_pos D with h0 | h0
  ·subst h0; simp[yl] at hD
  ·exact h0
 have hRlt:A%D<B^(n+2):=Nat.lt_trans (Nat.mod_lt _ hD0) hDlt
 have hQlt:A/D<B^(m+1):=by
  rw[← h.q]
  apply Nat.div_lt_of_lt_mul
  have h1:=Nat.lt_mul_div_succ X (vr (m+1))
  have h2:B^(m+1)*(X/B^(m+1)+1)≤B^(m+1)*V:=Nat.mul_le_mul_left _ h.top
  rw[Nat.mul_comm V]
  exact Nat.lt_of_lt_of_le h1 h2
 have w1:((n:Int)+2).toNat=n+2:=by omega
 have kq:=xa (m:=.plain) (a:=zw (m+1) (A/D)) yw (by rw[zB]; omega)
 have kr:=xa (m:=.plain) (a:=zw (n+2) (A%D)) yw (by rw[zB]; omega)
 rw[yh hQlt] at kq
 rw[yh hRlt] at kr
 have lp:∀ s,lu s (Xq (A/D) (A%D) n m N (A%D*2^N) 0)→awp Tryz.prog (.loop sU) s (wR 4 (ry Tryz.prog jp (aj sF (bB A D)))):=by
  intro s hs
  refine zq (Xq (A/D) (A%D) n m N (A%D*2^N)) (fun _=>True) (n+2) hs trivial (fun i hi _=>?_) (fun _=>?_)
  ·obtain ⟨a,c,d,h1,h2,h3,h4,h5,h6,h7,h8⟩:=ER (R:=A%D) (i:=i) hN
   have hL:=zB (n:=n+2+m+1) (x:=A%D*2^N)
   have i1:i<(zw (n+2+m+1) (A%D*2^N)).length:=by omega
   have i2:i+1<(zw (n+2+m+1) (A%D*2^N)).length:=by omega
   have g1:=vp i1
   have g2:=vp i2
   have hset:=eK (S:=A%D) hi
   rw[h3] at hset
   have hfl:=eJ (n:=n+2) (k:=i) (S:=A%D) (by omega)
   have i3:i<(wF (n+2) i (A%D)).length:=by omega
   have hor:=ahc h5 h6 h4 h7
   have hmin:min N IntKind.u32.bits=N:=by
    have:IntKind.u32.bits=32:=rfl
    omega
   have hmin2:min (32-N) IntKind.u32.bits=32-N:=by
    have:IntKind.u32.bits=32:=rfl
    omega
   have i4:i+1<n+2+m+1:=by omega
   have s1:∀ y0 a:Nat,y0/2^N=a→(y0:Int).fdiv (2^N)=(a:Int):=fun y0 a h=>by
    rw[show (2:Int)^N=((2^N:Nat):Int) by simp,← Int.ofNat_fdiv,h]
   have s2:∀ y1 c:Nat,y1*2^(32-N)%B=c→IntKind.u32.wrap ((y1:Int)*2^(32-N))=(c:Int):=fun y1 c h=>by
    rw[show (y1:Int)*2^(32-N)=((y1*2^(32-N):Nat):Int) by simp,w32,h]
   have s1':=s1 _ _ h1
   have s2':=s2 _ _ h2
   clear s1 s2 h1 h2
   rw[← g1] at s1'
   rw[← g2] at s2'
   clear g1 g2
   generalize A%D*2^N=Y at *
   generalize A%D=R at *
   generalize hy0:(zw (n+2+m+1) Y)[i]=y0 at *
   generalize hy1:(zw (n+2+m+1) Y)[i+1]=y1 at *
   have hset':(zG (wF (n+2) i R)).set i [uv d]=zG (wF (n+2) (i+1) R):=by rw[xh,hset]
   have e:(i:Int)<(n:Int)+2:=by omega
   have e2:(i:Int)<(n:Int)+2+m+1:=by omega
   have e3:(i:Int)+1<(n:Int)+2+m+1:=by omega
   have e4:((i:Int)+1).toNat=i+1:=by omega
   have e5:(0:Int)≤(i:Int)+1:=by omega
   have w2:IntKind.i64.wrap ((i:Int)+1)=(i:Int)+1:=by rw[wrap64]<;>omega
   have w3:IntKind.u64.wrap ((32:Int)-N)=32-N:=vS (by omega) (by omega)
   have w4:((32:Int)-N).toNat=32-N:=by omega
   have w5:¬ ((32:Int)-N<0):=by omega
   rcases Nat.eq_zero_or_pos N with hN0 | hN0
   ·have ha:=h8 hN0
    have hN1:¬ 0<N:=by omega
    subst ha
    simp[sU,Xq,e,e2,hy0,i1,i3,wE,hmin,s1',hN1,splice,hset',w2]
   ·simp[sU,Xq,e,e2,e3,e4,e5,hy0,hy1,i1,i2,i3,wE,vP,hmin,hmin2,s1',s2',hN0,splice,hset',w2,w3,w4,w5,hor]
  ·have l1:∀ k z,k≤(zw k z).length:=fun k z=>Nat.le_of_eq zB.symm
   have l2:∀ k z,List.take k (zG (zw k z))=zG (zw k z):=fun k z=>List.take_of_length_le (by rw[List.length_map,zB]; exact Nat.le_refl _)
   simp[sU,Xq,ZS,jp,xA,v4,l1,l2]
   refine za kq (by simp) (by simp) ?_
   simp
   refine za kr (by simp) (by simp) ?_
   simp[sF]
   exact AV.imp.refl
 simp[uI,pn,SF,hY,eMk,w1]
 refine ⟨by omega,by omega,by omega,?_⟩
 refine lp _ ?_
 simp[Xq,jV,qz]
theorem gX {m1 m2:Am.Mode} {a c:List Nat} (ha:ok a) (hc:ok c) (hna:a.length<137438953472) (hnc:c.length<137438953472) (f1:stm m1=m1) (f2:stm m2=m2) (hD:val c≠0) :
  zd Tryz.prog qI [nl m1 a,nl m2 c] (bB (val a) (val c)):=by
 refine ES ha hc (by omega) (by omega) f1 f2 hD fun n m h1 h2 hle=>?_
 have hla:=wq ha
 have hn:n+m<274877906944:=by omega
 have h:=agM h2 h1
 exact Ab (_m:=m) h1 (by omega) fun q y hq=>by
  subst hq
  exact acJ h2 h1 hn h (Ad hn h (acI hn h1 h))
def eu:Nat→Nat→Nat→Nat × Nat
 | a,b,0=>(a,b)
 | a,b,k+1=>eu b (a%b) k
theorem Rv:∀ (k a b:Nat),eu a b (k+1)=((eu a b k).2,(eu a b k).1%(eu a b k).2)
 | 0,_,_=>rfl
 | k+1,a,b=>by rw[eu,Rv k b (a%b)]; rfl
theorem E3:∀ (b a:Nat),∃ N,(∀ k,k<N→(eu a b k).2≠0)∧eu a b N=(Nat.gcd a b,0):=by
 intro b
 induction b using Nat.strongRecOn with
 | ind b ih =>
  intro a
  rcases Nat.eq_zero_or_pos b with h | h
  ·subst h
   exact ⟨0,fun k hk=>absurd hk (Nat.not_lt_zero _),by rw[eu,Nat.gcd_zero_right]⟩
  ·obtain ⟨N,h1,h2⟩:=ih (a%b) (Nat.mod_lt _ h) b
   refine ⟨N+1,fun k hk=>?_,?_⟩
   ·match k with
    | 0=>exact Nat.ne_of_gt h
    | k+1=>exact h1 k (by omega)
   ·rw[eu,h2,Nat.gcd_comm b,← Nat.gcd_rec,Nat.gcd_comm]
theorem GC {M:Nat}:∀ (k a b:Nat),a<M→b<M→(eu a b k).1<M∧(eu a b k).2<M
 | 0,_,_,h1,h2=>⟨h1,h2⟩
 | k+1,a,b,h1,h2=>GC k b (a%b) h2 (Nat.lt_of_le_of_lt (Nat.mod_le _ _) h1)
def stG (p:Nat × Nat):St:={env:=[(0,nD p.1),(1,nD p.2)],sto:=[]}
theorem QD {m1 m2:Am.Mode} {a c:List Nat} (ha:ok a) (hc:ok c) (hna:a.length<137438953472) (hnc:c.length<137438953472) (f1:stm m1=m1) (f2:stm m2=m2) :
  zd Tryz.prog YP [nl m1 a,nl m2 c] (nD (Nat.gcd (val a) (val c))):=by
 have k1:=fY (m1:=m1) (m2:=.plain) (b:=[]) ha Mn (by omega) (by simp)
 have k2:=fY (m1:=m2) (m2:=.plain) (b:=[]) hc Mn (by omega) (by simp)
 obtain ⟨N,h1,h2⟩:=E3 (val c) (val a)
 obtain ⟨L,hL⟩:∃ L,L=137438953471:=⟨_,rfl⟩
 have hL1:val a<B^L:=yY ha (by omega)
 have hL2:val c<B^L:=yY hc (by omega)
 have hb:=fun k=>GC k (val a) (val c) hL1 hL2
 generalize hM:B^L=M at *
 have hlen:∀ x,x<M→(zf x).length<137438953472:=fun x hx=>by
  rw[← hM] at hx
  exact Nat.lt_of_le_of_lt (zE.2 hx) (by omega)
 clear hM
 have v0:val []=0:=rfl
 rw[v0,Nat.add_zero] at k1 k2
 generalize val a=A at *
 generalize val c=D at *
 refine zt aes (by simp) ?_
 simp[KQ]
 refine za (fb k1 (AV.imp_nil (sz:=0) rfl)) (by simp[f1]) (by simp) ?_
 simp
 refine za (fb k2 (AV.imp_nil (sz:=0) rfl)) (by simp[f2]) (by simp) ?_
 simp
 refine zq (fun k=>stG (eu A D k)) (fun _=>True) N (by simp[stG,eu]) trivial (fun k hk _=>?_) (fun _=>?_)
 ·have hne:=h1 k hk
  obtain ⟨b1,b2⟩:=hb k
  have b1':=hlen _ b1
  have b2':=hlen _ b2
  have hs:=Rv k A D
  obtain ⟨x,hx⟩:∃ x,(eu A D k).1=x:=⟨_,rfl⟩
  obtain ⟨y,hy⟩:∃ y,(eu A D k).2=y:=⟨_,rfl⟩
  rw[hx,hy] at hs
  rw[hx] at b1'
  rw[hy] at b2' hne
  have kd:=gX (m1:=.plain) (m2:=.plain) (zx x) (zx y) b1' b2' rfl rfl (by rw[zK]; exact hne)
  rw[zK,zK] at kd
  have hl0:0<(zf y).length:=by
   rcases Nat.eq_zero_or_pos (zf y).length with h | h
   ·rw[List.length_eq_zero_iff,yD] at h; exact absurd h hne
   ·exact h
  simp[c9,stG,hl0,hx,hy]
  refine za kd (by simp) (by simp) ?_
  simp[hs]
 ·simp only[h2]
  simp[c9,TD,JM,stG,yl]
def xC (neg:Bool) (N D:Nat):AV:=.agg [bv (neg&&decide (N≠0)),nD (N/Nat.gcd N D),nD (D/Nat.gcd N D)]
theorem NU {N D:Nat} (hD:D≠0):Nat.gcd N D≠0∧(N/Nat.gcd N D=0↔N=0)∧Nat.gcd N D≤D:=by
 have hg:0<Nat.gcd N D:=Nat.gcd_pos_of_pos_right _ (by omega)
 refine ⟨by omega,?_,Nat.gcd_le_right _ (by omega)⟩
 constructor
 ·intro h
  have:=Nat.div_mul_cancel (Nat.gcd_dvd_left N D)
  rw[h,Nat.zero_mul] at this
  exact this.symm
 ·intro h
  rw[h,Nat.zero_div]
theorem Sf {neg:Bool} {N D:Nat} (hN:(zf N).length<68719476736) (hD:(zf D).length<68719476736) (h0:D≠0) :
  zd Tryz.prog cP [bv neg,nD N,nD D] (.tuple [xC neg N D,iv 0]):=by
 obtain ⟨g0,g1,g2⟩:=NU (N:=N) h0
 have kg:=QD (m1:=.plain) (m2:=.plain) (zx N) (zx D) (by omega) (by omega) rfl rfl
 rw[zK,zK] at kg
 have hgl:(zf (Nat.gcd N D)).length<68719476736:=by
  have h1:D<B^(zf D).length:=zE.1 (Nat.le_refl _)
  exact Nat.lt_of_le_of_lt (zE.2 (Nat.lt_of_le_of_lt g2 h1)) hD
 have hl0:¬ (zf D).length=0:=by rw[List.length_eq_zero_iff,yD]; exact h0
 have hl1:¬ zf D=[]:=by rw[yD]; exact h0
 unfold xC
 have hz:(zf (N/Nat.gcd N D)).length=0↔N=0:=by rw[List.length_eq_zero_iff,yD]; exact g1
 generalize Nat.gcd N D=g at *
 have kn:=gX (m1:=.plain) (m2:=.plain) (zx N) (zx g) (by omega) (by omega) rfl rfl (by rw[zK]; exact g0)
 have kd:=gX (m1:=.plain) (m2:=.plain) (zx D) (zx g) (by omega) (by omega) rfl rfl (by rw[zK]; exact g0)
 simp only[zK] at kn kd
 refine zt abx (by simp) ?_
 simp[Nf,hl0]
 refine za kg (by simp) (by simp) ?_
 simp
 refine za kn (by simp) (by simp) ?_
 simp
 refine za kd (by simp) (by simp) ?_
 cases neg
 ·simp[ae]
 ·by_cases hN0:N=0
  ·have:=hz.2 hN0
   simp[ae,hN0,yl]
  ·have:0<(zf (N/g)).length:=by omega
   simp[ae,this,hN0]
theorem q8 {neg:Bool} {N D:Nat} (hN:(zf N).length<68719476736) (hD:(zf D).length<68719476736) (h0:D≠0) :
  zd Tryz.prog rT [bv neg,nD N,nD D] (xC neg N D):=by
 have k:=Sf (neg:=neg) hN hD h0
 unfold xC at *
 generalize N/Nat.gcd N D=n at *
 generalize D/Nat.gcd N D=d at *
 refine zt abz (by simp) ?_
 simp[Ng]
 refine za k (by simp) (by simp) ?_
 simp[Mx]
theorem Mg {P:Program} {k:IntKind} {a:Int}:zr P (Op.unary .neg (Value.int k a))=some (Value.int k (k.wrap (-a))):=by
 simp[zr,Op.unary,Op.intArith,pure]
theorem adm {k:IntKind} {a:Int}:ofV (Value.int k a)=.val (.int k a):=rfl
theorem jT {x:Nat} (h:x<18446744073709551616):(zf x).length≤2:=zE.2 (by
 have:B^2=18446744073709551616:=by decide
 omega)
theorem Pq {n:Int} (h1:-9223372036854775808≤n) (h2:n<9223372036854775808):zd Tryz.prog Ui [iv n] (nD n.natAbs):=by
 obtain ⟨x,hx⟩:∃ x,n.natAbs=x:=⟨_,rfl⟩
 have hxl:x<18446744073709551616:=by omega
 have k:=qV (x:=x) hxl
 rw[hx]
 refine zt abA (by simp) ?_
 by_cases h:n<0
 ·have w1:IntKind.i64.wrap (n+1)=n+1:=by rw[wrap64]<;>omega
  have w2:IntKind.i64.wrap (-(n+1))=(x:Int)-1:=by rw[wrap64]<;>omega
  have w2':IntKind.i64.wrap (-1+-n)=(x:Int)-1:=by rw[wrap64]<;>omega
  have w3:IntKind.u64.wrap ((x:Int)-1)=(x:Int)-1:=by rw[vS]<;>omega
  have w4:IntKind.u64.wrap (x:Int)=x:=w64 hxl
  simp[Un,h,w1,Mg,w2,w3,w4]
  refine za k (by simp) (by simp) ?_
  simp[UT]
 ·have w4:IntKind.u64.wrap n=(x:Int):=by rw[vS]<;>omega
  simp[Un,h,w4]
  refine za k (by simp) (by simp) ?_
  simp[UT]
theorem Pl {n:Int} (h1:-9223372036854775808≤n) (h2:n<9223372036854775808):zd Tryz.prog zM [iv n] (xC (decide (n<0)) n.natAbs 1):=by
 have k1:=Pq h1 h2
 have k2:=qV (x:=1) (by omega)
 have l1:=jT (x:=n.natAbs) (by omega)
 have l2:=jT (x:=1) (by omega)
 have k3:=q8 (neg:=decide (n<0)) (N:=n.natAbs) (D:=1) (by omega) (by omega) (by omega)
 unfold xC at *
 generalize n.natAbs/Nat.gcd n.natAbs 1=p at *
 generalize 1/Nat.gcd n.natAbs 1=q at *
 refine zt Ky (by simp) ?_
 simp[XM]
 refine za k1 (by simp) (by simp) ?_
 simp
 refine za k2 (by simp) (by simp) ?_
 simp
 refine za k3 (by simp) (by simp) ?_
 simp[X8]
abbrev frA (s:Bool) (N D:Nat):AV:=.agg [bv s,nD N,nD D]
abbrev yr (q:Rat):AV:=frA (decide (q.num<0)) q.num.natAbs q.den
def sg (s:Bool) (N:Nat):Int:=if s then -(N:Int) else N
theorem qp {s:Bool} {N D:Nat} (h:D≠0):xC s N D=yr (mkRat (sg s N) D):=by
 have hab:(sg s N).natAbs=N:=by unfold sg; split<;>omega
 have hm:mkRat (sg s N) D=Rat.normalize (sg s N) D h:=by simp[mkRat,h]
 rw[hm,Rat.normalize_eq]
 unfold xC yr
 simp only[hab]
 have hg:0<Nat.gcd N D:=Nat.gcd_pos_of_pos_right _ (by omega)
 obtain ⟨c,hc⟩:=Nat.gcd_dvd_left N D
 generalize Nat.gcd N D=g at *
 subst hc
 have e1:(sg s (g*c))/(g:Int)=sg s c:=by
  unfold sg
  split
  ·rw[show -((g*c:Nat):Int)=(g:Int)*(-(c:Int)) by rw[Int.natCast_mul,Int.mul_neg]]
   exact Int.mul_ediv_cancel_left _ (by omega)
  ·rw[Int.natCast_mul]
   exact Int.mul_ediv_cancel_left _ (by omega)
 have e2:g*c/g=c:=Nat.mul_div_cancel_left _ hg
 rw[e1,e2]
 have e3:(sg s c).natAbs=c:=by unfold sg; split<;>omega
 have e4:(s&&decide (g*c≠0))=decide (sg s c<0):=by
  have hg0:¬ g=0:=by omega
  unfold sg
  rcases Nat.eq_zero_or_pos c with h0 | h0
  ·subst h0; cases s<;>simp
  ·have hc0:¬ c=0:=by omega
   have hcl:0<c:=h0
   have hng:¬ (c:Int)<0:=by omega
   have hneg:-(c:Int)<0:=by omega
   have hgc:¬ g*c=0:=Nat.mul_ne_zero hg0 hc0
   cases s<;>simp[hng,hgc,hcl]
 rw[e3,e4]
theorem mO (n:Int):sg (decide (n<0)) n.natAbs=n:=by
 unfold sg
 by_cases h:n<0
 ·simp[h]; omega
 ·simp[h]; omega
theorem Jm (n:Int):xC (decide (n<0)) n.natAbs 1=yr (n:Rat):=by
 rw[qp (by decide),mO]
 congr 1
 rw[← Rat.mkRat_self (n:Rat)]; rfl
theorem NR {n:Int} (h1:-9223372036854775808≤n) (h2:n<9223372036854775808):zd Tryz.prog zM [iv n] (yr n):=by
 rw[← Jm]; exact Pl h1 h2
theorem p7 (x:AV):∃ y:AV,y=x:=⟨_,rfl⟩
noncomputable def f0 (q:Rat):AV:=Classical.choose (p7 (bv (decide (q.num<0))))
noncomputable def f1 (q:Rat):AV:=Classical.choose (p7 (nD q.num.natAbs))
noncomputable def f2 (q:Rat):AV:=Classical.choose (p7 (nD q.den))
theorem lZ (q:Rat):f0 q=bv (decide (q.num<0)):=Classical.choose_spec (p7 _)
theorem l0 (q:Rat):f1 q=nD q.num.natAbs:=Classical.choose_spec (p7 _)
theorem l7 (q:Rat):f2 q=nD q.den:=Classical.choose_spec (p7 _)
noncomputable def fr (q:Rat):List AV:=[f0 q,f1 q,f2 q]
@[simp] theorem qT (q:Rat):[f0 q,f1 q,f2 q]=fr q:=rfl
theorem rM (q:Rat):fr q=[bv (decide (q.num<0)),nD q.num.natAbs,nD q.den]:=by unfold fr; rw[lZ,l0,l7]
noncomputable abbrev fq (q:Rat):AV:=.agg (fr q)
theorem vG (q:Rat):yr q=fq q:=by unfold fq; rw[rM]
abbrev zz:List AV:=[.val (.bool false),.list 0 .full [],.list 0 .full []]
@[simp] theorem akl (q:Rat):rf (f0 q)=true:=by rw[lZ]; rfl
@[simp] theorem aip (q:Rat):strip (f0 q)=f0 q:=by rw[lZ]; rfl
@[simp] theorem akk (q:Rat) (l:Nat):dg l (f0 q)=f0 q:=by rw[lZ]; simp
@[simp] theorem ajv (q:Rat) (l:Nat) (e:ze):frz l e (f0 q)=f0 q:=by rw[lZ]; rfl
@[simp] theorem GE (q:Rat) (a b:Nat):rn a b (f0 q)=f0 q:=by rw[lZ]; rfl
@[simp] theorem ajw (q:Rat) (M:Nat):Am.low M (f0 q)=true:=by rw[lZ]; rfl
@[simp] theorem aiT (q:Rat) (k:Nat):zU k (f0 q)=false:=by rw[lZ]; rfl
@[simp] theorem ajx (q:Rat) (k:Nat):nE k (f0 q)=false:=by rw[lZ]; rfl
@[simp] theorem akn (q:Rat):rf (f1 q)=true:=by rw[l0]; rfl
@[simp] theorem aiq (q:Rat):strip (f1 q)=f1 q:=by rw[l0]; rfl
@[simp] theorem akm (q:Rat) (l:Nat):dg l (f1 q)=f1 q:=by rw[l0]; simp
@[simp] theorem ajy (q:Rat) (l:Nat) (e:ze):frz l e (f1 q)=f1 q:=by rw[l0]; rfl
@[simp] theorem GF (q:Rat) (a b:Nat):rn a b (f1 q)=f1 q:=by rw[l0]; rfl
@[simp] theorem ajz (q:Rat) (M:Nat):Am.low M (f1 q)=true:=by rw[l0]; rfl
@[simp] theorem aiU (q:Rat) (k:Nat):zU k (f1 q)=false:=by rw[l0]; rfl
@[simp] theorem ajA (q:Rat) (k:Nat):nE k (f1 q)=false:=by rw[l0]; rfl
@[simp] theorem akp (q:Rat):rf (f2 q)=true:=by rw[l7]; rfl
@[simp] theorem air (q:Rat):strip (f2 q)=f2 q:=by rw[l7]; rfl
@[simp] theorem ako (q:Rat) (l:Nat):dg l (f2 q)=f2 q:=by rw[l7]; simp
@[simp] theorem ajB (q:Rat) (l:Nat) (e:ze):frz l e (f2 q)=f2 q:=by rw[l7]; rfl
@[simp] theorem GG (q:Rat) (a b:Nat):rn a b (f2 q)=f2 q:=by rw[l7]; rfl
@[simp] theorem ajC (q:Rat) (M:Nat):Am.low M (f2 q)=true:=by rw[l7]; rfl
@[simp] theorem aiV (q:Rat) (k:Nat):zU k (f2 q)=false:=by rw[l7]; rfl
@[simp] theorem ajD (q:Rat) (k:Nat):nE k (f2 q)=false:=by rw[l7]; rfl
@[simp] theorem afl {q:Rat}:(fr q).length=3:=by simp[rM]
@[simp] theorem GI {q:Rat}:(fr q).all rf=true:=by rw[rM]; simp
@[simp] theorem Uw {q:Rat}:(fr q).map strip=fr q:=by rw[rM]; simp
@[simp] theorem agO {q:Rat} {l:Nat}:(fr q).map (dg l)=fr q:=by rw[rM]; simp
@[simp] theorem afk {q:Rat} {l:Nat} {e:ze}:(fr q).map (frz l e)=fr q:=by rw[rM]; rfl
@[simp] theorem agP {q:Rat} {a b:Nat}:(fr q).map (rn a b)=fr q:=by rw[rM]; rfl
@[simp] theorem afm {q:Rat} {M:Nat}:(fr q).all (Am.low M)=true:=by rw[rM]; rfl
@[simp] theorem afn {q:Rat} {k:Nat}:xn k (fr q)=false:=by rw[rM]; simp
@[simp] theorem ajJ {q:Rat} {k:Nat}:(fr q).any (nE k)=false:=by rw[rM]; rfl
@[simp] theorem ahR {q:Rat}:zD (fr q) 0 (some 3)=some (fq q):=by
 rw[vd afl GI,Uw]
@[simp] theorem ah4 {q:Rat} {a b c:AV}:splice [a,b,c] 0 (fr q)=fr q:=by rw[rM]; simp[splice]
@[simp] theorem ahu {p q:Rat}:splice (fr p) 0 (fr q)=fr q:=by simp[splice]
@[simp] theorem ahx {q:Rat} {a b c d e x y z g h:AV}:splice [a,b,c,d,e,x,y,z,g,h] 5 (fr q)=[a,b,c,d,e,f0 q,f1 q,f2 q,g,h]:=by unfold fr; simp[splice,-qT]
@[simp] theorem aiZ {q:Rat}:(fr q).drop 3=[]:=by rw[rM]; rfl
theorem xi {n:Int} (h1:-9223372036854775808≤n) (h2:n<9223372036854775808):zd Tryz.prog zM [iv n] (fq n):=by rw[← vG]; exact NR h1 h2
def SV (x y:Nat) (k:Nat):St :=
 {env:=[(0,nD x),(1,nD y),(6,.sl 20 1 0 (zf x).length),(7,z9 (bor x y k)),(22,iv (zf x).length),(23,iv k)],sto:=[(20,.arr 1 (zG (wF (zf x).length k (x-y))))]}
theorem Q8 {m1 m2:Am.Mode} {a b:List Nat} (ha:ok a) (hb:ok b) (hna:a.length<1099511627776) (hnb:b.length<1099511627776) :
  zd Tryz.prog YQ [nl m1 a,nl m2 b] (if val a<val b then .tuple [.list 0 .full [],bv false] else .tuple [nD (val a-val b),bv true]):=by
 refine wN aeu (by simp) ?_
 simp[KT]
 refine za (xa (m:=stm m1) ha hna) (by simp[po]) (by simp) ?_
 simp
 refine za (xa (m:=stm m2) hb hnb) (by simp[po]) (by simp) ?_
 simp
 have lx:=wq ha
 have ly:=wq hb
 have key:=kQ (m1:=.plain) (m2:=.plain) (zx (val a)) (zx (val b)) (by omega) (by omega)
 rw[zK,zK] at key
 refine za key (by simp) (by simp) ?_
 generalize val a=x at *
 generalize val b=y at *
 by_cases hlt:x<y
 ·simp[yV,hlt,RQ]
  exact AV.imp.refl
 ·have hle:y≤x:=by omega
  have hly:(zf y).length≤(zf x).length:=by
   apply Nat.le_of_not_lt
   intro h
   have:=eP h
   omega
  have hS:x-y<B^(zf x).length:=by
   have:=zE.1 (Nat.le_refl (zf x).length)
   omega
  have hc:¬ yV x y<0:=by
   simp only[yV,hlt,if_false]
   split<;>omega
  simp[hc,hlt,eMk]
  refine ⟨by omega,by omega,?_⟩
  refine zq (SV x y) (fun _=>True) (zf x).length (by simp[SV,cY,jV]) trivial (fun k hk _=>?_) (fun _=>?_)
  ·have e:(k:Int)<(zf x).length:=by omega
   have hak:=xH (zx x) hk
   have hb1:=Tv (x:=x) (y:=y) (k:=k)
   have hfl:=eJ (n:=(zf x).length) (k:=k) (S:=x-y) (by omega)
   have hfk:k<(wF (zf x).length k (x-y)).length:=by omega
   have hset:=eK (n:=(zf x).length) (k:=k) (S:=x-y) (by omega)
   have hsd:=dd (k:=k) hle
   have hbs:=cX (x:=x) (y:=y) (k:=k)
   rw[← nw hk] at hsd hbs
   obtain ⟨d,hd⟩:∃ d,(x-y)/B^k%B=d:=⟨_,rfl⟩
   rw[hd] at hset hsd
   have hset':(zG (wF (zf x).length k (x-y))).set k [uv d]=zG (wF (zf x).length (k+1) (x-y)):=by rw[xh,hset]
   have e1:IntKind.u64.wrap (((zf x)[k]:Nat):Int)=((zf x)[k]:Nat):=w64 (by rw[z7] at hak; omega)
   rw[z7] at hak
   by_cases hkb:k<(zf y).length
   ·have e2:(k:Int)<(zf y).length:=by omega
    have hbk:=xH (zx y) hkb
    rw[z7] at hbk
    rw[← nw hkb] at hsd hbs
    have e3:IntKind.u64.wrap (((zf y)[k]:Nat):Int)=((zf y)[k]:Nat):=w64 (by omega)
    have e5:=abL (((zf x)[k]:Nat)-(bor x y k:Nat):Int) ((zf y)[k]:Nat)
    have e6:=PT (((zf x)[k]:Nat)-(bor x y k:Nat)-((zf y)[k]:Nat):Int)
    have e7:=PQ (u:=(((zf x)[k]:Nat)-(bor x y k:Nat)-((zf y)[k]:Nat):Int)) (by omega) (by omega)
    have e8:(((zf x)[k]:Nat)-(bor x y k:Nat)-((zf y)[k]:Nat):Int)%4294967296=(d:Int):=by omega
    rw[e8] at e6
    have e9:(if (((zf x)[k]:Nat)-(bor x y k:Nat)-((zf y)[k]:Nat):Int)<0 then (1:Int) else 0)=(bor x y (k+1):Int):=by
     rw[hbs]
     split<;>split<;>omega
    rw[e9] at e7
    simp[jP,SV,e,e2,hk,hkb,e1,e3,e5,e6,e7,wE,hfk,splice,hset',zm (show k<4611686018427387904 by omega)]
   ·have e2:¬ (k:Int)<(zf y).length:=by omega
    have hy0:y/B^k%B=0:=by rw[← Df,List.getElem?_eq_none (by omega)]; rfl
    rw[hy0] at hsd hbs
    have e6:=PT (((zf x)[k]:Nat)-(bor x y k:Nat):Int)
    have e7:=PQ (u:=(((zf x)[k]:Nat)-(bor x y k:Nat):Int)) (by omega) (by omega)
    have e8:(((zf x)[k]:Nat)-(bor x y k:Nat):Int)%4294967296=(d:Int):=by omega
    rw[e8] at e6
    have e9:(if (((zf x)[k]:Nat)-(bor x y k:Nat):Int)<0 then (1:Int) else 0)=(bor x y (k+1):Int):=by
     rw[hbs]
     split<;>split<;>omega
    rw[e9] at e7
    simp[jP,SV,e,e2,hk,e1,e6,e7,wE,hfk,splice,hset',zm (show k<4611686018427387904 by omega)]
  ·have htk:(zG (zw (zf x).length (x-y))).take (zf x).length=zG (zw (zf x).length (x-y)):=List.take_of_length_le (by rw[List.length_map,zB]; exact Nat.le_refl _)
   have hle2:(zf x).length≤(zw (zf x).length (x-y)).length:=by rw[zB]; exact Nat.le_refl _
   have key:=xa (m:=.plain) (a:=zw (zf x).length (x-y)) yw (by rw[zB]; omega)
   rw[yh hS] at key
   simp[jP,SV,ZS,TH,xA,v4,htk,hle2]
   refine za key (by simp) (by simp) ?_
   simp[RQ]
   exact AV.imp.refl
def SQ (m1 m2:Am.Mode) (a b:List Nat) (i k:Nat):St :=
 {env:=[(0,nl m1 a),(1,nl m2 b),(5,.sl 15 1 0 (a.length+b.length)),(17,iv a.length),(18,iv i),(6,iv i),(7,z9 (wl a b i k).2),(22,iv b.length),(23,iv k)],sto:=[(15,.arr 1 (zG (wl a b i k).1))]}
def Yx (m1 m2:Am.Mode) (a b:List Nat) (i:Nat):St :=
 {env:=[(0,nl m1 a),(1,nl m2 b),(5,.sl 15 1 0 (a.length+b.length)),(17,iv a.length),(18,iv i)],sto:=[(15,.arr 1 (zG (rx a b i)))]}
theorem qv {m1 m2:Am.Mode} {a b:List Nat} (ha:ok a) (hb:ok b) (hna:a.length<1099511627776) (hnb:b.length<1099511627776) (hs:a.length+b.length<1099511627776) (f1:stm m1=m1) (f2:stm m2=m2) :
  zd Tryz.prog qJ [nl m1 a,nl m2 b] (nD (val a*val b)):=by
 refine wN aet (by simp) ?_
 have w:IntKind.i64.wrap ((a.length:Int)+b.length)=(a.length:Int)+b.length:=wrap64 (by omega) (by omega)
 have e1:((a.length:Int)+b.length).toNat=a.length+b.length:=by omega
 simp[KR,w,eMk,e1]
 refine ⟨by omega,by omega,by omega,?_⟩
 refine zq (Yx m1 m2 a b) (fun _=>True) a.length (by simp[Yx,rx]) trivial (fun i hi _=>?_) (fun _=>?_)
 ·have hO:=Z9 ha hb i (by omega)
  have ei:(i:Int)<a.length:=by omega
  simp[bf,Yx,ei]
  refine zq (SQ m1 m2 a b i) (fun _=>True) b.length (by simp[SQ,DF]) trivial (fun k hk _=>?_) (fun _=>?_)
  ·have hI:=eT ha hb hi hO k (by omega)
   have ek:(k:Int)<b.length:=by omega
   have hst:=QM (a:=a) (b:=b) (i:=i) (k:=k)
   have hlen:=hI.len
   have hik:i+k<(wl a b i k).1.length:=by omega
   have eik:((i:Int)+k)<(wl a b i k).1.length:=by omega
   have wik:IntKind.i64.wrap ((i:Int)+k)=((i+k:Nat):Int):=by rw[wrap64]<;>omega
   have hbd:=eS (uc ha i) (uc hb k) (uc hI.ok (i+k)) hI.lt
   have g1:=xH ha hi
   have g2:=xH hb hk
   have g3:=xH hI.ok hik
   have g4:=hI.lt
   simp only[lC] at hst
   have q1:a.getD i 0=a[i]:=by simp[hi]
   have q2:b.getD k 0=b[k]:=by simp[hk]
   have q3:(wl a b i k).1.getD (i+k) 0=(wl a b i k).1[i+k]:=by simp[hik]
   rw[q1,q2,q3] at hst hbd
   obtain ⟨t,ht⟩:∃ t,a[i]*b[k]+(wl a b i k).1[i+k]+(wl a b i k).2=t:=⟨_,rfl⟩
   obtain ⟨p,hp⟩:∃ p,a[i]*b[k]=p:=⟨_,rfl⟩
   rw[ht] at hst hbd
   rw[hp] at ht
   obtain ⟨d,hd⟩:∃ d,t%B=d:=⟨_,rfl⟩
   obtain ⟨q,hq⟩:∃ q,t/B=q:=⟨_,rfl⟩
   rw[hd,hq] at hst
   have f1:IntKind.u32.wrap (t:Int)=(d:Int):=by rw[w32,hd]
   have f2:(t:Int).fdiv (2^min 32 IntKind.u64.bits)=(q:Int):=by rw[aw,hq]
   have hBB:B*B=18446744073709551616:=by decide
   rw[hBB] at hbd
   rw[z7] at g1 g2 g3 g4
   have u1:IntKind.u64.wrap ((a[i]:Nat):Int)=(a[i]:Nat):=w64 (by omega)
   have u2:IntKind.u64.wrap ((b[k]:Nat):Int)=(b[k]:Nat):=w64 (by omega)
   have u3:IntKind.u64.wrap (((wl a b i k).1[i+k]:Nat):Int)=((wl a b i k).1[i+k]:Nat):=w64 (by omega)
   have u4:IntKind.u64.wrap ((a[i]:Int)*(b[k]:Int))=(p:Int):=by
    rw[show (a[i]:Int)*(b[k]:Int)=((a[i]*b[k]:Nat):Int) by simp,hp]; exact w64 (by omega)
   have u5:IntKind.u64.wrap ((p:Int)+((wl a b i k).1[i+k]:Nat))=(p:Int)+((wl a b i k).1[i+k]:Nat):=by rw[vS]<;>omega
   have u6:IntKind.u64.wrap ((p:Int)+((wl a b i k).1[i+k]:Nat)+((wl a b i k).2:Nat))=(t:Int):=by rw[vS]<;>omega
   have hset:(zG (wl a b i k).1).set (i+k) [uv d]=zG (wl a b i (k+1)).1:=by rw[xh,hst]
   have hq2:(wl a b i (k+1)).2=q:=by rw[hst]
   have en:((i:Int)+k).toNat=i+k:=by omega
   have e0:(0:Int)≤(i:Int)+k:=by omega
   have elt:(i:Int)+k<(a.length:Int)+b.length:=by omega
   simp only[Int.natCast_add] at wik
   simp[ba,SQ,ek,hi,hk,ei,wik,en,e0,elt,hik,u1,u2,u3,u4,u5,u6,wE,splice,f1,f2,hset,hq2,zm (show k<4611686018427387904 by omega)]
  ·have hI:=eT ha hb hi hO b.length (Nat.le_refl _)
   have hlen:=hI.len
   have hik:i+b.length<(wl a b i b.length).1.length:=by omega
   have wik:IntKind.i64.wrap ((i:Int)+b.length)=(i:Int)+b.length:=by rw[wrap64]<;>omega
   have en:((i:Int)+b.length).toNat=i+b.length:=by omega
   have e0:(0:Int)≤(i:Int)+b.length:=by omega
   have hset:(zG (wl a b i b.length).1).set (i+b.length) [uv (wl a b i b.length).2]=zG (rx a b (i+1)):=by rw[QN]; exact xh
   have g4:=hI.lt
   rw[z7] at g4
   have f1:IntKind.u32.wrap ((wl a b i b.length).2:Int)=((wl a b i b.length).2:Int):=IntWalk.u32_in _ (by omega)
   simp[ba,SQ,Yx,TE,TF,wik,en,e0,hik,f1,splice,hset,ei,zm (show i<4611686018427387904 by omega)]
 ·obtain ⟨h1,h2,h3⟩:=adc ha hb
  have htk:(zG (rx a b a.length)).take (a.length+b.length)=zG (rx a b a.length):=List.take_of_length_le (by rw[List.length_map,h2]; exact Nat.le_refl _)
  have hle2:a.length+b.length≤(rx a b a.length).length:=by rw[h2]; exact Nat.le_refl _
  have key:=xa (m:=.plain) h1 (by rw[h2]; omega)
  rw[h3] at key
  simp[bf,Yx,TG,xA,Uz f1,Uz f2,v4,htk,hle2]
  refine za key (by simp) (by simp) ?_
  simp[JN]
  exact AV.imp.refl
theorem v6 {m:Am.Mode} {a:List Nat} {i:Nat} (ha:ok a) (_hn:a.length<1099511627776) (_hi:i<1099511627776):zd Tryz.prog xV [nl m a,iv i] (z9 (a.getD i 0)):=by
 refine zt Bm (by simp) ?_
 by_cases h:i<a.length
 ·have hg:a.getD i 0=a[i]:=by simp[h]
  have hB:=xH ha h
  rw[hg]
  generalize ha2:a[i]=x at *
  rw[z7] at hB
  have w:IntKind.u64.wrap (x:Int)=x:=w64 (by omega)
  have h':(i:Int)<a.length:=by omega
  simp[ZF,h,h',ha2,w,Yj]
 ·have hg:a.getD i 0=0:=by simp[List.getD,List.getElem?_eq_none (Nat.le_of_not_lt h)]
  have h':¬ (i:Int)<a.length:=by omega
  rw[hg]
  simp[ZF,h',Yj]
theorem Pg {m:Am.Mode} {a:List Nat} (ha:ok a) (hn:a.length<1099511627776):zd Tryz.prog fV [nl m a] (bv (decide (a=zf (val a)))):=by
 refine zt Bl (by simp) ?_
 rcases Nat.eq_zero_or_pos a.length with h | h
 ·rw[List.length_eq_zero_iff] at h
  subst h
  simp[ZE,Yi,val,yl]
 ·obtain ⟨k,hk⟩:∃ k,a.length=k+1:=⟨a.length-1,by omega⟩
  have hl:(a.length:Int)=(k:Int)+1:=by omega
  have w:IntKind.i64.wrap (k:Int)=(k:Int):=by rw[wrap64]<;>omega
  have hkl:k<a.length:=by omega
  have hne:¬ a.length=0:=by omega
  have hnil:¬ a=[]:=fun e=>by subst e; simp at h
  have hv:(a=zf (val a))↔a[k]≠0:=by
   constructor
   ·intro e h0
    have h1:=eG (x:=val a) (by rw[← e]; exact h)
    simp only[← e,hk,Nat.add_sub_cancel] at h1
    exact h1 h0
   ·intro h0
    refine (K9 ha fun _=>?_).symm
    simp only[hk,Nat.add_sub_cancel]
    exact h0
  have hd:decide (a=zf (val a))=!decide (a[k]=0):=by
   by_cases h0:a[k]=0
   ·have:¬ a=zf (val a):=fun e=>hv.1 e h0
    simp[this,h0]
   ·have:a=zf (val a):=hv.2 h0
    rw[decide_eq_true this,decide_eq_false h0]; rfl
  rw[hd]
  generalize ha2:a[k]=x at *
  have hk0:¬ ((k:Int)+1=0):=by omega
  have p1:(k:Int)<(k:Int)+1:=by omega
  simp[ZE,Yi,hl,w,hkl,ha2,hk0,p1]
def YA (m:Am.Mode) (a:List Nat) (k:Nat):St:={env:=[(0,nl (if k=0 then m else .plain) (a.take (a.length-k)))],sto:=[]}
theorem nF {m:Am.Mode} {a:List Nat} (ha:ok a) (hn:a.length<1099511627776):zd Tryz.prog se [nl m a] (nD (val a)):=by
 obtain ⟨h1,h2,h3,h4⟩:=Z3 ha
 refine wN abI (by simp) ?_
 simp[Nl]
 generalize hT:(zf (val a)).length=T at h1 h2 h3 h4
 refine zq (YA m a) (fun _=>True) (a.length-T) (by simp[YA]) trivial (fun k hk _=>?_) (fun _=>?_)
 ·obtain ⟨c,hc⟩:∃ c,a.take (a.length-k)=c:=⟨_,rfl⟩
  obtain ⟨L,hL⟩:∃ L,a.length-k=L+1:=⟨a.length-k-1,by omega⟩
  have hL2:a.length-(k+1)=L:=by omega
  have hcl:c.length=L+1:=by rw[← hc]; simp; omega
  have hLl:L<c.length:=by omega
  have hz:c[L]=0:=by
   have:=h2 L (by omega) (by omega)
   subst hc
   simpa using this
  have hc2:a.take L=c.take L:=by rw[← hc,List.take_take]; congr 1; omega
  have hcz:(c.length:Int)=(L:Int)+1:=by omega
  have w:IntKind.i64.wrap (L:Int)=(L:Int):=by rw[wrap64]<;>omega
  have hg:∃ r,zG (c.take L)=r:=⟨_,rfl⟩
  have hst:YA m a (k+1)={env:=[(0,.list 1 .plain (List.take L (zG c)))],sto:=[]}:=by
   rw[YA,hL2,hc2]; simp[List.map_take]
  obtain ⟨m',hst0⟩:∃ m',YA m a k={env:=[(0,nl m' c)],sto:=[]}:=⟨_,by rw[YA,hc]⟩
  have p3:(L:Int)<(L:Int)+1:=by omega
  have p1:(0:Int)<(L:Int)+1:=by omega
  have p2:(L:Int)≤(L:Int)+1:=by omega
  rw[hst0]
  simp[lW,hcl,w,hz,hst,p1,p2,p3]
 ·have e:a.length-(a.length-T)=T:=by omega
  obtain ⟨m',hst⟩:∃ m',YA m a (a.length-T)={env:=[(0,nl m' (zf (val a)))],sto:=[]}:=⟨_,by rw[YA,e,h4]⟩
  rw[hst]
  clear hst
  generalize hcE:zf (val a)=c at *
  rcases T with _ | L
  ·have hc0:c=[]:=List.length_eq_zero_iff.1 hT
   subst hc0
   simp[lW,dx,UX]
   rw[nD,hcE]
   exact AV.imp.refl
  ·have hLl:L<c.length:=by omega
   have hcz:(c.length:Int)=(L:Int)+1:=by omega
   have w:IntKind.i64.wrap (L:Int)=(L:Int):=by rw[wrap64]<;>omega
   have hz:¬ c[L]=0:=by
    have:=eG (x:=val a) (by rw[hcE]; omega)
    simp only[hcE,hT,Nat.add_sub_cancel] at this
    exact this
   have p1:(0:Int)<(L:Int)+1:=by omega
   simp[lW,hT,w,hz,p1,dx,UX]
   rw[nD,hcE]
   exact ⟨by omega,by omega,by omega,AV.imp.refl⟩
theorem fa {x:Nat} (h:x<18446744073709551616):zd Tryz.prog tt [z9 x] (nD x):=by
 have hq2:x/B<B:=by rw[z7]; omega
 have e1:=Nat.mod_add_div x B
 have hm2:x%B<B:=Nat.mod_lt _ zX
 have t1:(x:Int).tmod 4294967296=((x%B:Nat):Int):=by
  rw[z7,show (4294967296:Int)=((4294967296:Nat):Int) from rfl,← Int.ofNat_tmod]
 have t2:IntKind.u64.wrap ((x:Int)/4294967296)=((x/B:Nat):Int):=by
  rw[show (x:Int)/4294967296=((x/B:Nat):Int) by rw[z7]; omega]
  exact w64 (Nat.lt_of_le_of_lt (Nat.div_le_self _ _) h)
 obtain ⟨d0,h0⟩:∃ d,x%B=d:=⟨_,rfl⟩
 obtain ⟨d1,h1⟩:∃ q,x/B=q:=⟨_,rfl⟩
 rw[h0] at t1 e1 hm2
 rw[h1] at t2 e1 hq2
 have hok:ok [d0,d1]:=by
  intro d hd
  simp at hd
  rcases hd with rfl | rfl
  ·exact hm2
  ·exact hq2
 have hv:val [d0,d1]=x:=by
  simp only[val,Nat.mul_zero,Nat.add_zero]
  exact e1
 have key:=nF (m:=.full) (a:=[d0,d1]) hok (by simp)
 rw[hv] at key
 rw[z7] at hm2 hq2
 have f1:IntKind.u32.wrap (d0:Int)=d0:=IntWalk.u32_in _ (by omega)
 have f2:IntKind.u32.wrap (d1:Int)=d1:=IntWalk.u32_in _ (by omega)
 refine zt Lo (by simp) ?_
 simp[ZD,tf,qo,t1,t2,f1,f2,uB]
 refine za key (by simp) (by simp) ?_
 simp[Yh]
theorem sD {a:List Nat} (ha:ok a) (i:Nat):a.getD i 0=val a/B^i%B:=by
 rcases Nat.lt_or_ge i a.length with h | h
 ·rw[← lr ha h]; simp[h]
 ·have h1:val a<B^i:=yY ha h
  rw[Nat.div_eq_of_lt h1,Nat.zero_mod]
  simp[List.getD,List.getElem?_eq_none h]
theorem dc (x j:Nat):x/B^j=B*(x/B^(j+1))+x/B^j%B:=by
 rw[Nat.pow_succ,← Nat.div_div_eq_div_mul]
 exact (Nat.div_add_mod _ _).symm
theorem Nq {x y j:Nat} (h:x/B^(j+1)=y/B^(j+1)) (hlt:x/B^j%B<y/B^j%B):x<y:=by
 have h1:=dc x j
 have h2:=dc y j
 rw[h] at h1
 apply Nat.lt_of_not_le
 intro hle
 have h3:y/B^j≤x/B^j:=Nat.div_le_div_right hle
 generalize x/B^j%B=p at *
 generalize y/B^j%B=q at *
 omega
theorem cmp_eq {x y j:Nat} (h:x/B^(j+1)=y/B^(j+1)) (he:x/B^j%B=y/B^j%B):x/B^j=y/B^j:=by
 rw[dc x j,dc y j,h,he]
def RZ (m1 m2:Am.Mode) (a b:List Nat) (M k:Nat):St:={env:=[(0,nl m1 a),(1,nl m2 b),(5,iv ((M:Int)-1-k))],sto:=[]}
theorem K6 {m1 m2:Am.Mode} {a b:List Nat} (ha:ok a) (hb:ok b) (hna:a.length<1099511627776) (hnb:b.length<1099511627776) (f1:stm m1=m1) (f2:stm m2=m2) :
  zd Tryz.prog YS [nl m1 a,nl m2 b] (iv (yV (val a) (val b))):=by
 refine zt aeD (by simp) ?_
 obtain ⟨M,hM⟩:∃ M,max a.length b.length=M:=⟨_,rfl⟩
 have hMz:max (a.length:Int) (b.length:Int)=(M:Int):=by omega
 have w0:IntKind.i64.wrap ((M:Int)-1)=(M:Int)-1:=by rw[wrap64]<;>omega
 simp[K0,hMz,w0]
 refine zq (RZ m1 m2 a b M) (fun k=>val a/B^(M-k)=val b/B^(M-k)) M (by simp[RZ]) ?_ (fun k hk hi=>?_) (fun hi=>?_)
 ·rw[Nat.sub_zero,Nat.div_eq_of_lt (yY ha (by omega)),Nat.div_eq_of_lt (yY hb (by omega))]
 ·obtain ⟨j,hj⟩:∃ j,M-1-k=j:=⟨_,rfl⟩
  have hj2:M-k=j+1:=by omega
  have hj3:M-(k+1)=j:=by omega
  have hjz:(M:Int)-1-k=(j:Int):=by omega
  have d1:=v6 (m:=m1) (i:=j) ha hna (by omega)
  have d2:=v6 (m:=m2) (i:=j) hb hnb (by omega)
  rw[hj2] at hi
  rw[sD ha] at d1
  rw[sD hb] at d2
  have c1:=fun h=>Nq (x:=val a) (y:=val b) (j:=j) hi h
  have c2:=fun h=>Nq (x:=val b) (y:=val a) (j:=j) hi.symm h
  have c3:=fun h=>cmp_eq (x:=val a) (y:=val b) (j:=j) hi h
  generalize val a/B^j%B=p at *
  generalize val b/B^j%B=q at *
  have e0:(0:Int)≤(j:Int):=by omega
  have w1:IntKind.i64.wrap ((j:Int)-1)=(j:Int)-1:=by rw[wrap64]<;>omega
  have hst:RZ m1 m2 a b M (k+1)={env:=[(0,nl m1 a),(1,nl m2 b),(5,iv ((j:Int)-1))],sto:=[]}:=by
   rw[RZ,show (M:Int)-1-((k+1:Nat):Int)=(j:Int)-1 by omega]
  rw[RZ,hjz]
  simp[bm]
  refine za d1 (by simp[f1]) (by simp) ?_
  simp
  refine za d2 (by simp[f2]) (by simp) ?_
  by_cases h:p<q
  ·have hc:yV (val a) (val b)=-1:=by simp[yV,c1 h]
   simp[h,Xi,hc]
  ·simp[h]
   refine za d1 (by simp[f1]) (by simp) ?_
   simp
   refine za d2 (by simp[f2]) (by simp) ?_
   by_cases h2:q<p
   ·have hc:yV (val a) (val b)=1:=by
     have:¬ val a<val b:=by have:=c2 h2; omega
     simp[yV,c2 h2,this]
    simp[h2,Xi,hc]
   ·have he:=c3 (by omega)
    simp[h2,w1,hst,hj3,he]
 ·have hxy:val a=val b:=by simpa using hi
  have hc:yV (val a) (val b)=0:=by simp[yV,hxy]
  have e0:¬ (0:Int)≤(M:Int)-1-M:=by omega
  have e1:¬ (M:Int)≤(M:Int)-1:=by omega
  simp[bm,RZ,e1,TJ,Xi,hc]
end Go.Proofs.YtjeoklgggppjiaaGreat
