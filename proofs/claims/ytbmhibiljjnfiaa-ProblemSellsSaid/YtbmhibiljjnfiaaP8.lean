/- What the proof rests on, part 8: Dig N0 KA KB KC KD PB Q0 Q1 Q2 KE Q1w Q3 Q4 QA KF KG KH KI KJ KK Q5 Q6 Q7 KL IM PD QD QZ BT. -/
import Derived.Test.YtbmhibiljjnfiaaP7
set_option maxRecDepth 100000
set_option maxHeartbeats 4000000
namespace Go.Dig
def B:Nat:=4294967296
theorem xk:B=4294967296:=rfl
theorem yd:0<B:=by decide
theorem tZ (k:Nat):0<B^k:=Nat.pow_pos yd
def val:List Nat→Nat
 | []=>0
 | d::l=>d+B*val l
def ok (l:List Nat):Prop:=∀ d∈l,d<B
def zr (x:Nat):List Nat:=if x=0 then [] else x%B::zr (x/B)
termination_by x
decreasing_by exact Nat.div_lt_self (by omega) (by decide)
theorem wy:zr 0=[]:=by rw[zr]; rfl
theorem m9 {x:Nat} (h:x≠0):zr x=x%B::zr (x/B):=by rw[zr,if_neg h]
theorem yb (x:Nat):val (zr x)=x:=by
 induction x using Nat.strongRecOn with
 | ind x ih =>
  by_cases h:x=0
  ·subst h; rw[wy]; rfl
  ·rw[m9 h,val,ih _ (Nat.div_lt_self (by omega) (by decide))]
   exact Nat.mod_add_div x B
theorem y4 (x:Nat):ok (zr x):=by
 induction x using Nat.strongRecOn with
 | ind x ih =>
  by_cases h:x=0
  ·subst h; rw[wy]; intro d hd; cases hd
  ·rw[m9 h]
   intro d hd
   rcases List.mem_cons.1 hd with rfl | hd
   ·exact Nat.mod_lt _ yd
   ·exact ih _ (Nat.div_lt_self (by omega) (by decide)) d hd
theorem sY {x:Nat}:zr x=[]↔x=0:=by
 constructor
 ·intro h; have:=yb x; rw[h] at this; exact this.symm
 ·rintro rfl; exact wy
theorem Jh {x y:Nat} (h:zr x=zr y):x=y:=by rw[← yb x,h,yb]
theorem S7:ok []:=fun _ h=>by cases h
theorem UE {d:Nat} {l:List Nat}:ok (d::l)↔d<B∧ok l:=by simp[ok]
theorem Ts {a b:List Nat}:ok (a++b)↔ok a∧ok b:=by
 constructor
 ·intro h; exact ⟨fun d hd=>h d (by simp[hd]),fun d hd=>h d (by simp[hd])⟩
 ·rintro ⟨h1,h2⟩ d hd
  rcases List.mem_append.1 hd with hd | hd
  ·exact h1 d hd
  ·exact h2 d hd
theorem tX {a:List Nat} (h:ok a) (k:Nat):ok (a.take k):=fun d hd=>h d (List.mem_of_mem_take hd)
theorem UF {a:List Nat} (h:ok a) (k:Nat):ok (a.drop k):=fun d hd=>h d (List.mem_of_mem_drop hd)
theorem Lh {a:List Nat} (h:ok a) {k x:Nat} (hx:x<B):ok (a.set k x):=fun d hd=>by
 rcases List.mem_or_eq_of_mem_set hd with hd | rfl
 ·exact h d hd
 ·exact hx
theorem D8 (n:Nat):ok (List.replicate n 0):=fun d hd=>by
 rw[List.eq_of_mem_replicate hd]; exact yd
theorem vG {a:List Nat} (h:ok a) {k:Nat} (hk:k<a.length):a[k]<B:=h _ (List.getElem_mem hk)
theorem val_append (a b:List Nat):val (a++b)=val a+B^a.length*val b:=by
 induction a with
 | nil=>simp[val]
 | cons d a ih=>simp only[List.cons_append,val,ih,List.length_cons,Nat.pow_succ,Nat.mul_add]; rw[Nat.mul_comm (B^a.length) B,Nat.mul_assoc]; omega
theorem PB (n:Nat):val (List.replicate n 0)=0:=by
 induction n with
 | zero=>rfl
 | succ n ih=>simp[List.replicate_succ,val,ih]
theorem ki {a:List Nat} (h:ok a):val a<B^a.length:=by
 induction a with
 | nil=>simp[val]
 | cons d a ih =>
  have h1:=(UE.1 h).1
  have h2:=ih (UE.1 h).2
  simp only[val,List.length_cons,Nat.pow_succ]
  have:B*(val a+1)≤B*B^a.length:=Nat.mul_le_mul_left _ h2
  rw[Nat.mul_add] at this
  rw[Nat.mul_comm (B^a.length)]
  omega
theorem w9 {a:List Nat} (h:ok a) {n:Nat} (hn:a.length≤n):val a<B^n :=
 Nat.lt_of_lt_of_le (ki h) (Nat.pow_le_pow_right yd hn)
theorem vW (a:List Nat) (k:Nat):val a=val (a.take k)+B^(min k a.length)*val (a.drop k):=by
 have:=val_append (a.take k) (a.drop k)
 rwa [List.take_append_drop,List.length_take] at this
theorem vx {a:List Nat} {k:Nat} (hk:k<a.length):val (a.take (k+1))=val (a.take k)+B^k*a[k]:=by
 rw[List.take_succ_eq_append_getElem hk,val_append,List.length_take,Nat.min_eq_left (by omega)]
 simp[val]
theorem R9 {a:List Nat} (h:ok a) {k:Nat} (hk:k≤a.length):val (a.take k)=val a%B^k:=by
 have h1:=vW a k
 have h2:=ki (tX h k)
 rw[List.length_take,Nat.min_eq_left hk] at h2
 rw[Nat.min_eq_left hk] at h1
 rw[h1,Nat.add_mul_mod_self_left,Nat.mod_eq_of_lt h2]
theorem YN {a:List Nat} (h:ok a) {k:Nat} (hk:k≤a.length):val (a.drop k)=val a/B^k:=by
 have h1:=vW a k
 have h2:=ki (tX h k)
 rw[List.length_take,Nat.min_eq_left hk] at h2
 rw[Nat.min_eq_left hk] at h1
 rw[h1,Nat.add_mul_div_left _ _ (tZ k),Nat.div_eq_of_lt h2,Nat.zero_add]
theorem jB {a:List Nat} (h:ok a) {k:Nat} (hk:k<a.length):a[k]=val a/B^k%B:=by
 rw[← YN h (by omega),List.drop_eq_getElem_cons hk,val,Nat.add_mul_mod_self_left,Nat.mod_eq_of_lt (vG h hk)]
def zu (n x:Nat):List Nat:=(List.range n).map fun i=>x/B^i%B
theorem zy {n x:Nat}:(zu n x).length=n:=by simp[zu]
theorem wW {n x k:Nat} (hk:k<(zu n x).length):(zu n x)[k]=x/B^k%B:=by simp[zu]
theorem xE {n x:Nat}:ok (zu n x):=fun d hd=>by
 simp only[zu,List.mem_map] at hd
 obtain ⟨i,_,rfl⟩:=hd
 exact Nat.mod_lt _ yd
theorem bp {a:List Nat} (h:ok a):zu a.length (val a)=a:=by
 apply List.ext_getElem
 ·simp[zu]
 ·intro i h1 h2
  rw[wW,← jB h h2]
theorem dj {n x:Nat}:zu (n+1) x=zu n x++[x/B^n%B]:=by
 simp[zu,List.range_succ]
theorem fH {n x:Nat}:val (zu n x)=x%B^n:=by
 induction n with
 | zero=>simp[zu,val,Nat.mod_one]
 | succ n ih =>
  rw[dj,val_append,ih,zy,Nat.pow_succ,Nat.mod_mul]
  simp[val]
theorem Zu {a b:List Nat} (ha:ok a) (hb:ok b) (hl:a.length=b.length) (hv:val a=val b):a=b:=by
 rw[← bp ha,← bp hb,hl,hv]
def vK (n k S:Nat):List Nat:=zu k S++List.replicate (n-k) 0
theorem dq {n S:Nat}:vK n 0 S=List.replicate n 0:=by simp[vK,zu]
theorem bB {n k S:Nat} (hk:k≤n):(vK n k S).length=n:=by simp[vK,zy]; omega
theorem Ti {n S:Nat}:vK n n S=zu n S:=by simp[vK]
theorem bD {n k S:Nat} (hk:k<n):(vK n k S).set k (S/B^k%B)=vK n (k+1) S:=by
 unfold vK
 obtain ⟨m,hm⟩:∃ m,n-k=m+1:=⟨n-k-1,by omega⟩
 have hm2:n-(k+1)=m:=by omega
 rw[hm,hm2,dj,List.set_append_right _ _ (by rw[zy]; exact Nat.le_refl _),zy,Nat.sub_self,List.replicate_succ,List.set_cons_zero]
 simp
theorem y8 {n x:Nat} (h:x<B^n):val (zu n x)=x:=by rw[fH,Nat.mod_eq_of_lt h]
theorem FZ {a:List Nat} (h:ok a) (hn:∀ hk:0<a.length,a[a.length-1]≠0):zr (val a)=a:=by
 induction a with
 | nil=>exact wy
 | cons d a ih =>
  have h1:=UE.1 h
  by_cases ha:a=[]
  ·subst ha
   have:d≠0:=hn (by simp)
   have h2:(d+B*0)=d:=by omega
   simp only[val,h2]
   rw[m9 this,Nat.mod_eq_of_lt h1.1,Nat.div_eq_of_lt h1.1,wy]
  ·have hpos:0<a.length:=by
    rcases a with _ | ⟨x,a⟩
    ·exact absurd rfl ha
    ·simp
   have hlast:∀ hk:0<a.length,a[a.length-1]≠0:=fun _=>by
    have:=hn (by simp)
    simp only[List.length_cons,Nat.add_sub_cancel] at this
    rw[List.getElem_cons] at this
    rw[dif_neg (by omega)] at this
    exact this
   have ih:=ih h1.2 hlast
   have hne:val a≠0:=by
    intro h0
    rw[h0,wy] at ih
    exact ha ih.symm
   have h0:d+B*val a≠0:=by
    have:0<B*val a:=Nat.mul_pos yd (by omega)
    omega
   simp only[val]
   rw[m9 h0,Nat.add_mul_mod_self_left,Nat.mod_eq_of_lt h1.1,Nat.add_mul_div_left _ _ yd,Nat.div_eq_of_lt h1.1,Nat.zero_add,ih]
theorem Tg {x:Nat} (h:0<(zr x).length):(zr x)[(zr x).length-1]≠0:=by
 induction x using Nat.strongRecOn with
 | ind x ih =>
  by_cases h0:x=0
  ·subst h0; rw[wy] at h; simp at h
  ·have e:=m9 h0
   by_cases h1:x/B=0
   ·have e2:zr x=[x%B]:=by rw[e,h1,wy]
    simp only[e2,List.length_singleton,Nat.sub_self,List.getElem_cons_zero]
    have:x<B:=by
     rcases Nat.lt_or_ge x B with h | h
     ·exact h
     ·have:=Nat.div_pos h yd; omega
    rw[Nat.mod_eq_of_lt this]; exact h0
   ·have hp:0<(zr (x/B)).length:=by
     rw[m9 h1]; simp
    have:=ih _ (Nat.div_lt_self (by omega) (by decide)) hp
    simp only[e,List.length_cons,Nat.add_sub_cancel]
    rw[List.getElem_cons,dif_neg (by omega)]
    exact this
theorem xb {x n:Nat}:(zr x).length≤n↔x<B^n:=by
 constructor
 ·intro h
  have:=w9 (y4 x) h
  rwa [yb] at this
 ·intro h
  rcases Nat.lt_or_ge n (zr x).length with hlt | hge
  ·exfalso
   have hp:0<(zr x).length:=by omega
   have h1:=Tg hp
   have h2:=jB (y4 x) (k:=(zr x).length-1) (by omega)
   rw[yb] at h2
   have h3:x/B^((zr x).length-1)=0:=by
    apply Nat.div_eq_of_lt
    exact Nat.lt_of_lt_of_le h (Nat.pow_le_pow_right yd (by omega))
   rw[h3] at h2
   exact h1 h2
  ·exact hge
theorem fS {x n:Nat}:n<(zr x).length↔B^n≤x:=by
 have:=@xb x n
 omega
theorem KB {a:List Nat} (h:ok a) {n:Nat} (hn:n≤a.length) (h0:∀ k (hk:k<a.length),n≤k→a[k]=0) (h1:∀ hk:0<n,a[n-1]'(by omega)≠0):a.take n=zr (val a):=by
 have hz:a.drop n=List.replicate (a.length-n) 0:=by
  apply List.ext_getElem
  ·simp
  ·intro i hi hj
   simp only[List.getElem_drop,List.getElem_replicate]
   exact h0 _ _ (by omega)
 have hv:val a=val (a.take n):=by
  rw[vW a n,hz,PB]; omega
 rw[hv]
 refine (FZ (tX h n) fun hk=>?_).symm
 simp only[List.length_take,Nat.min_eq_left hn] at hk ⊢
 simp only[List.getElem_take]
 exact h1 hk
theorem vZ {a:List Nat} (h:ok a):(zr (val a)).length≤a.length:=xb.2 (ki h)
theorem dv {x i:Nat} (h:i<(zr x).length):(zr x)[i]=x/B^i%B:=by
 rw[jB (y4 x) h,yb]
theorem M7 {a:List Nat} (h:ok a):(zr (val a)).length≤a.length∧(∀ i (hi:i<a.length),(zr (val a)).length≤i→a[i]=0) ∧
  (∀ (_h0:0<(zr (val a)).length) (h1:(zr (val a)).length-1<a.length),a[(zr (val a)).length-1]≠0)∧a.take (zr (val a)).length=zr (val a):=by
 have h1:=vZ h
 have h2:∀ i (hi:i<a.length),(zr (val a)).length≤i→a[i]=0:=fun i hi hle=>by
  rw[jB h hi]
  have h3:=xb.1 hle
  rw[Nat.div_eq_of_lt h3]
  rfl
 have h3:∀ (h0:0<(zr (val a)).length) (h1:(zr (val a)).length-1<a.length),a[(zr (val a)).length-1]≠0:=fun h0 h4=>by
  rw[jB h h4,← dv (by omega)]
  exact Tg h0
 exact ⟨h1,h2,h3,KB h h1 (fun k hk hle=>h2 k hk hle) (fun h0=>h3 h0 (by omega))⟩
theorem Zz {a b:List Nat} (ha:ok a) (_hb:ok b) (hl:a.length=b.length) {k:Nat} (hk:k<a.length) (heq:a.drop (k+1)=b.drop (k+1)) (hlt:a[k]<b[k]'(by omega)):val a<val b:=by
 have e1:=vW a (k+1)
 have e2:=vW b (k+1)
 rw[heq] at e1
 rw[Nat.min_eq_left (by omega)] at e1 e2
 have t1:=vx hk
 have t2:=vx (a:=b) (k:=k) (by omega)
 have l1:=ki (tX ha k)
 rw[List.length_take,Nat.min_eq_left (by omega)] at l1
 have:B^k*(a[k]+1)≤B^k*b[k]'(by omega):=Nat.mul_le_mul_left _ hlt
 rw[Nat.mul_add] at this
 omega
theorem bK {x y:Nat} (h:(zr x).length<(zr y).length):x<y:=by
 have h1:=xb.1 (Nat.le_refl (zr x).length)
 have h2:=fS.1 h
 omega
theorem Tc {L t R k:Nat}:(L+B^k*t+B^(k+1)*R)/B^k%B=(L/B^k+t)%B:=by
 have:L+B^k*t+B^(k+1)*R=L+B^k*(t+B*R):=by rw[Nat.pow_succ,Nat.mul_add,Nat.mul_assoc]; omega
 rw[this,Nat.add_mul_div_left _ _ (tZ k),← Nat.add_assoc,Nat.add_mul_mod_self_left]
theorem Tb {L t k:Nat}:(L+B^k*t)/B^(k+1)=(L/B^k+t)/B:=by
 rw[Nat.pow_succ,← Nat.div_div_eq_div_mul,Nat.add_mul_div_left _ _ (tZ k)]
def bor (x y k:Nat):Nat:=if x%B^k<y%B^k then 1 else 0
theorem Mm {x y k:Nat}:bor x y k≤1:=by unfold bor; split<;>omega
theorem Si {x y:Nat}:bor x y 0=0:=by simp[bor,Nat.mod_one]
theorem E5 {x y P:Nat} (hP:0<P) (h:y≤x):(x-y)/P=x/P-y/P-(if x%P<y%P then 1 else 0)∧y/P+(if x%P<y%P then 1 else 0)≤x/P:=by
 have e1:=Nat.div_add_mod x P
 have e2:=Nat.div_add_mod y P
 have l1:=Nat.mod_lt x hP
 have l2:=Nat.mod_lt y hP
 have hq:y/P≤x/P:=Nat.div_le_div_right h
 generalize x/P=a at *
 generalize y/P=b at *
 generalize x%P=r at *
 generalize y%P=s at *
 obtain ⟨c,rfl⟩:∃ c,a=b+c:=⟨a-b,by omega⟩
 rw[Nat.mul_add] at e1
 by_cases hlt:r<s
 ·simp only[hlt,if_true]
  rcases c with _ | c
  ·simp at e1; omega
  ·rw[Nat.mul_add,Nat.mul_one] at e1
   have:x-y=P*c+(P+r-s):=by omega
   rw[this,Nat.mul_add_div hP,Nat.div_eq_of_lt (by omega)]
   omega
 ·simp only[hlt,if_false]
  have:x-y=P*c+(r-s):=by omega
  rw[this,Nat.mul_add_div hP,Nat.div_eq_of_lt (by omega)]
  omega
theorem TD {x y k:Nat} (h:y≤x):(((x-y)/B^k%B:Nat):Int)=((x/B^k%B:Nat)-(y/B^k%B:Nat)-(bor x y k:Nat):Int)%4294967296:=by
 obtain ⟨h1,h2⟩:=E5 (tZ k) h
 have e:(if x%B^k<y%B^k then 1 else 0)=bor x y k:=rfl
 rw[e] at h1 h2
 rw[h1]
 generalize x/B^k=a at *
 generalize y/B^k=b at *
 generalize bor x y k=c at *
 rw[xk]
 omega
theorem Sh {x y k:Nat}:bor x y (k+1)=if x/B^k%B<y/B^k%B+bor x y k then 1 else 0:=by
 unfold bor
 rw[Nat.pow_succ,Nat.mod_mul,Nat.mod_mul]
 have l1:=Nat.mod_lt x (tZ k)
 have l2:=Nat.mod_lt y (tZ k)
 generalize x/B^k%B=a
 generalize y/B^k%B=b
 generalize x%B^k=r at *
 generalize y%B^k=s at *
 generalize B^k=P at *
 rcases Nat.lt_trichotomy a b with h | h | h
 ·have:P*(a+1)≤P*b:=Nat.mul_le_mul_left _ h
  rw[Nat.mul_add] at this
  rw[if_pos (by omega),if_pos (by omega)]
 ·subst h
  by_cases hrs:r<s
  ·rw[if_pos (by omega),if_pos (by rw[if_pos hrs]; omega)]
  ·rw[if_neg (by omega),if_neg (by rw[if_neg hrs]; omega)]
 ·have:P*(b+1)≤P*a:=Nat.mul_le_mul_left _ h
  rw[Nat.mul_add] at this
  rw[if_neg (by omega),if_neg (by split<;>omega)]
end Go.Dig

namespace Go.Proofs.Ytbmhibiljjnfiaa
open Go Go.Am Go.Dig
theorem zo {k:Nat} (h:k<4611686018427387904):IntKind.i64.wrap ((k:Int)+1)=((k+1:Nat):Int):=by
 rw[wrap64]<;>omega
abbrev uv (n:Nat):AV:=.val (.int .u32 (n:Int))
abbrev zG (a:List Nat):List (List AV):=a.map fun d=>[uv d]
abbrev nl (m:Am.Mode) (a:List Nat):AV:=.list 1 m (zG a)
abbrev nD (x:Nat):AV:=nl .plain (zr x)
theorem xD {sz:Nat} {rows:List (List AV)}:AV.imp (.list sz .full rows) (.list sz .plain rows):=fun I w v h=>by
 cases h with
 | listNil _ _ a cap hm ho=>exact .listNil _ _ a cap (by simp) (by simp)
 | list _ _ _ b o cap g hcap hm ho hrow hcell hc=>exact .list _ _ _ b o cap g hcap (by simp) (by simp) hrow hcell hc
theorem w32 (n:Nat):IntKind.u32.wrap (n:Int)=((n%B:Nat):Int):=by
 rw[IntKind.wrap_u32,xk]; omega
theorem w64 {n:Nat} (h:n<18446744073709551616):IntKind.u64.wrap (n:Int)=n:=IntWalk.u64_in n (by omega)
theorem lw {n:Int} (h:0≤n) (h2:n<18446744073709551616):IntKind.u64.wrap n=n:=IntWalk.u64_in n (by omega)
structure Bid where
 nm:ByteArray
 cl:Int
 bu:Int
 po:Int
abbrev sbK (s:ByteArray):AV:=.val (.string s)
abbrev Fj (b:Bid):List AV:=[sbK b.nm,iv b.cl,iv b.bu,iv b.po]
abbrev sI (l:List Bid):List (List AV):=l.map Fj
def vL (l:List Bid) (s:ByteArray):Option Nat:=l.findIdx? fun b=>decide (b.nm=s)
theorem jm {l:List Bid} {s:ByteArray} {i:Nat} (h:vL l s=some i):∃ h:i<l.length,l[i].nm=s∧∀ j (hj:j<i),l[j].nm≠s:=by
 unfold vL at h
 rw[List.findIdx?_eq_some_iff_getElem] at h
 obtain ⟨h1,h2,h3⟩:=h
 exact ⟨h1,by simpa using h2,fun j hj=>by simpa using h3 j hj⟩
theorem jl {l:List Bid} {s:ByteArray} (h:vL l s=none):∀ j (hj:j<l.length),l[j].nm≠s:=by
 unfold vL at h
 rw[List.findIdx?_eq_none_iff] at h
 intro j hj
 simpa using h l[j] (List.getElem_mem _)
def fdR:Option Nat→AV
 | some i=>.tuple [iv i,bv true]
 | none=>.tuple [iv 0,bv false]
section
variable {m:Am.Mode} {l:List Bid} {s:ByteArray} (hn:l.length<4611686018427387904)
include hn
def aq (m:Am.Mode) (l:List Bid) (s:ByteArray) (k:Nat):St:={env:=[(1,sbK s),(8,.list 4 m (sI l)),(9,iv l.length),(10,iv k)],sto:=[]}
theorem Rs:zf Try.prog px [.list 4 m (sI l),sbK s] (fdR (vL l s)):=by
 refine zC cz (by simp) ?_
 simp[kA]
 cases hf:vL l s with
 | some i =>
  obtain ⟨h1,h2,h3⟩:=jm hf
  refine xt (aq m l s) i ?_ (fun k hk=>?_) ?_
  ·simp[aq]
  ·have e:(k:Int)<l.length:=by omega
   have hk':k<l.length:=by omega
   have:=h3 k hk
   simp[uf,aq,e,hk',zj,splice,this,zo (show k<4611686018427387904 by omega)]
  ·have e:(i:Int)<l.length:=by omega
   simp[uf,aq,e,h1,zj,splice,h2,pJ,fdR]
 | none =>
  have h3:=jl hf
  refine xt (aq m l s) l.length ?_ (fun k hk=>?_) ?_
  ·simp[aq]
  ·have e:(k:Int)<l.length:=by omega
   have:=h3 k hk
   simp[uf,aq,e,hk,zj,splice,this,zo (show k<4611686018427387904 by omega)]
  ·simp[uf,aq,j2,pJ,fdR]
def fk (m:Am.Mode) (l:List Bid) (s:ByteArray) (k:Nat):St:={env:=[(0,.list 4 m (sI l)),(1,sbK s),(6,iv k)],sto:=[]}
theorem TN:zf Try.prog nF [.list 4 m (sI l),sbK s] (fdR (vL l s)):=by
 refine zC aE (by simp) ?_
 simp[jU]
 cases hf:vL l s with
 | some i =>
  obtain ⟨h1,h2,h3⟩:=jm hf
  refine xt (fk m l s) i ?_ (fun k hk=>?_) ?_
  ·simp[fk]
  ·have e:(k:Int)<l.length:=by omega
   have hk':k<l.length:=by omega
   have:=h3 k hk
   simp[uQ,fk,e,hk',this,zo (show k<4611686018427387904 by omega)]
  ·have e:(i:Int)<l.length:=by omega
   simp[uQ,fk,e,h1,h2,mC,fdR]
 | none =>
  have h3:=jl hf
  refine xt (fk m l s) l.length ?_ (fun k hk=>?_) ?_
  ·simp[fk]
  ·have e:(k:Int)<l.length:=by omega
   have:=h3 k hk
   simp[uQ,fk,e,hk,this,zo (show k<4611686018427387904 by omega)]
  ·simp[uQ,fk,gT,mC,fdR]
end
def wK (c:Nat):Bool:=decide (97≤c)&&decide (c≤122)
def qN (c:Nat):Bool:=decide (48≤c)&&decide (c≤57)
def uh (c:Nat):Bool:=wK c||qN c||decide (c=95)
theorem SV {c:Nat} (h:c<256):zf Try.prog tB [.val (.int .i32 c)] (bv (wK c)):=by
 refine zC eE (by simp) ?_
 by_cases h1:97≤c
 ·have h1':(97:Int)≤c:=by omega
  simp[ql,h1',qv,wK,h1]; omega
 ·have h1':¬ (97:Int)≤c:=by omega
  simp[ql,h1',qv,wK,h1]
theorem FY {c:Nat} (h:c<256):zf Try.prog pr [.val (.int .i32 c)] (bv (qN c)):=by
 refine zC co (by simp) ?_
 by_cases h1:48≤c
 ·have h1':(48:Int)≤c:=by omega
  simp[py,h1',pH,qN,h1]; omega
 ·have h1':¬ (48:Int)≤c:=by omega
  simp[py,h1',pH,qN,h1]
theorem Pd {c:Nat} (h:c<256):zf Try.prog sF [.val (.int .i32 c)] (bv (uh c)):=by
 refine zC cq (by simp) ?_
 simp[kp]
 refine ze (SV h) (by simp) (by simp) ?_
 cases h1:wK c
 ·simp
  refine ze (FY h) (by simp) (by simp) ?_
  cases h2:qN c
  ·simp[sQ,uh,h1,h2]; omega
  ·simp[sQ,uh,h1,h2]
 ·simp[sQ,uh,h1]
theorem nn {c:Nat} (h:c<256):zf Try.prog vX [.val (.int .u8 c)] (bv (wK c)):=by
 refine zC eH (by simp) ?_
 by_cases h1:97≤c
 ·have h1':(97:Int)≤c:=by omega
  simp[qn,h1',qx,wK,h1]; omega
 ·have h1':¬ (97:Int)≤c:=by omega
  simp[qn,h1',qx,wK,h1]
theorem di {c:Nat} (h:c<256):zf Try.prog ut [.val (.int .u8 c)] (bv (qN c)):=by
 refine zC ct (by simp) ?_
 by_cases h1:48≤c
 ·have h1':(48:Int)≤c:=by omega
  simp[pA,h1',pI,qN,h1]; omega
 ·have h1':¬ (48:Int)≤c:=by omega
  simp[pA,h1',pI,qN,h1]
theorem yV {s:ByteArray} {k:Nat}:zB s k<256:=UInt8.toNat_lt _
def runN (s:ByteArray):Nat→Nat→Nat
 | 0,i=>i
 | n+1,i=>if i<s.size∧uh (zB s i)=true then runN s n (i+1) else i
def xm (s:ByteArray) (i:Nat):Nat:=runN s (s.size-i) i
theorem Tx {s:ByteArray}:∀ {n i:Nat},i+n=s.size→i≤runN s n i∧runN s n i≤s.size∧(∀ j,i≤j→j<runN s n i→uh (zB s j)=true)∧(runN s n i<s.size→uh (zB s (runN s n i))=false)
 | 0,i,h=>by simp only[runN]; exact ⟨Nat.le_refl _,by omega,fun j a b=>by omega,fun a=>by omega⟩
 | n+1,i,h=>by
  simp only[runN]
  by_cases hc:i<s.size∧uh (zB s i)=true
  ·rw[if_pos hc]
   obtain ⟨g1,g2,g3,g4⟩:=Tx (s:=s) (n:=n) (i:=i+1) (by omega)
   refine ⟨by omega,g2,fun j a b=>?_,g4⟩
   by_cases e:j=i
   ·rw[e]; exact hc.2
   ·exact g3 j (by omega) b
  ·rw[if_neg hc]
   refine ⟨Nat.le_refl _,by omega,fun j a b=>by omega,fun a=>?_⟩
   cases h2:uh (zB s i)
   ·rfl
   ·exact absurd ⟨a,h2⟩ hc
theorem l8 {s:ByteArray} {i:Nat} (h:i≤s.size):i≤xm s i∧xm s i≤s.size∧(∀ j,i≤j→j<xm s i→uh (zB s j)=true)∧(xm s i<s.size→uh (zB s (xm s i))=false) :=
 Tx (by omega)
theorem fR {c:Nat} (h:c<256):IntKind.i32.wrap (c:Int)=c:=IntWalk.i32_in c ⟨by omega,by omega⟩
def Zq (s:ByteArray) (k:Nat):St:={env:=[(0,sbK s),(1,iv 0),(2,.fn (.func sF) []),(7,iv k)],sto:=[]}
theorem Bv {s:ByteArray} (hs:s.size<4611686018427387904):zf Try.prog lA [sbK s,iv 0,.fn (.func sF) []] (sbK (s.extract 0 (xm s 0))):=by
 obtain ⟨r1,r2,r3,r4⟩:=l8 (s:=s) (i:=0) (by omega)
 refine zC ZT (by simp) ?_
 simp[fN]
 refine xt (Zq s) (xm s 0) ?_ (fun k hk=>?_) ?_
 ·simp[Zq]
 ·have e:(k:Int)<s.size:=by omega
  have hb:=r3 k (by omega) hk
  simp[qm,Zq,e,fR yV]
  refine ⟨by kernel_rfl,ze (Pd (c:=zB s k) yV) (by simp) (by simp) ?_⟩
  simp[Zq,hb,zo (show k<4611686018427387904 by omega)]
 ·by_cases e:xm s 0<s.size
  ·have e':(xm s 0:Int)<s.size:=by omega
   have hb:=r4 e
   simp[qm,Zq,e',fR yV]
   refine ⟨by kernel_rfl,ze (Pd (c:=zB s (xm s 0)) yV) (by simp) (by simp) ?_⟩
   simp[hb,m3,lJ]
   omega
  ·have e':¬ (xm s 0:Int)<s.size:=by omega
   simp[qm,Zq,e',m3,lJ]
   omega
def wm (s:ByteArray):Bool:=decide (s≠⟨#[]⟩)&&decide (s.size≤12)&&wK (zB s 0)&&decide (xm s 0=s.size)
theorem SP {s:ByteArray} (hs:s.size<4611686018427387904):zf Try.prog tA [sbK s] (bv (wm s)):=by
 refine zC eD (by simp) ?_
 by_cases h0:s=⟨#[]⟩
 ·simp[tL,h0,v4,wm]
 have hpos:0<s.size:=by
  rcases Nat.eq_zero_or_pos s.size with h | h
  ·exact absurd (by cases s with | mk d=>congr 1; exact Array.eq_empty_of_size_eq_zero h) h0
  ·exact h
 by_cases h1:s.size≤12
 ·have h1':(s.size:Int)≤12:=by omega
  have hp':(0:Int)<s.size:=by omega
  simp[tL,h0,h1',hpos,fR yV]
  refine ze (SV (c:=zB s 0) yV) (by simp) (by simp) ?_
  cases h2:wK (zB s 0)
  ·simp[v4,wm,h2]
  ·simp
   refine ze (Bv hs) (by simp) (.inr rfl) ?_
   obtain ⟨r1,r2,_⟩:=l8 (s:=s) (i:=0) (by omega)
   simp[v4,wm,h0,h1,h2,extract_eq r2]
 ·have h1':¬ (s.size:Int)≤12:=by omega
  simp[tL,h0,h1',v4,wm,h1]
theorem GF {s:ByteArray} (hp:0<s.size) (hl:wK (zB s 0)=true):xm s 0=xm s 1:=by
 unfold xm
 obtain ⟨n,hn⟩:∃ n,s.size=n+1:=⟨s.size-1,by omega⟩
 rw[hn]
 simp only[Nat.sub_zero,Nat.add_sub_cancel,runN]
 rw[if_pos ⟨by omega,by simp[uh,hl]⟩]
def U0:List AV:=[iv 0,sbK ⟨#[]⟩,iv 0,iv 0]
def rD (s:ByteArray) (k:Nat):St:={env:=[(0,sbK s),(2,.ptr 2 0),(4,iv (1+k:Nat))]++(if k=0 then [(7,bv true)] else []),sto:=[(2,.var U0)]}
theorem Bi {s:ByteArray} (hp:0<s.size) (h12:s.size≤12) (hl:wK (zB s 0)=true):zf Try.prog lB [sbK s] (.tuple [.agg [iv 1,sbK (s.extract 0 (xm s 1)),iv 0,iv 0],iv 0]):=by
 obtain ⟨r1,r2,r3,r4⟩:=l8 (s:=s) (i:=1) (by omega)
 have hp':(0:Int)<s.size:=by omega
 refine zC ZU (by simp) ?_
 simp[fP,hp]
 refine ze (nn (c:=zB s 0) yV) (by simp) (by simp) ?_
 simp[hl]
 refine xt (rD s) (xm s 1-1) ?_ (fun k hk=>?_) ?_
 ·simp[rD,U0]
 ·have e:((1+k:Nat):Int)<s.size:=by omega
  have e2:(1+(k:Int))<s.size:=by omega
  have hb:=r3 (1+k) (by omega) (by omega)
  have et:(1+(k:Int)).toNat=1+k:=by omega
  have e0:(0:Int)≤1+(k:Int):=by omega
  have w:IntKind.i64.wrap (1+(k:Int)+1)=1+((k:Int)+1):=by rw[wrap64]<;>omega
  have hlast:wK (zB s (1+k))=false→qN (zB s (1+k))=false→zB s (1+k)=95:=by
   intro h2 h3
   simpa only[uh,h2,h3,Bool.false_or,decide_eq_true_eq] using hb
  rcases k with _ | k
  ·simp at e e2 et e0 w hlast
   simp[wF,rD,e]
   refine ze (nn (c:=zB s 1) yV) (by simp) (by simp) ?_
   cases h1:wK (zB s 1)
   ·simp[e]
    refine ze (di (c:=zB s 1) yV) (by simp) (by simp) ?_
    cases h2:qN (zB s 1)
    ·have h95:zB s 1=95:=hlast h1 h2
     simp[e,h95,rD,w]
    ·simp[rD,w]
   ·simp[rD,w]
  ·simp at e e2 et e0 w hlast
   simp[wF,rD,e2,e0,et]
   refine ze (nn (c:=zB s (1+(k+1))) yV) (by simp) (by simp) ?_
   cases h1:wK (zB s (1+(k+1)))
   ·simp[e2,e0,et]
    refine ze (di (c:=zB s (1+(k+1))) yV) (by simp) (by simp) ?_
    cases h2:qN (zB s (1+(k+1)))
    ·have h95:zB s (1+(k+1))=95:=hlast h1 h2
     simp[e2,e0,et,h95,rD,w]
    ·simp[rD,w]
   ·simp[rD,w]
 ·have hN:1+(xm s 1-1)=xm s 1:=by omega
  have hNi:(1:Int)+((xm s 1-1:Nat):Int)=(xm s 1:Int):=by omega
  have g12:¬ (12:Int)<(xm s 1:Int):=by omega
  have ge0:(0:Int)≤(xm s 1:Int):=by omega
  have gle:(xm s 1:Int)≤s.size:=by omega
  generalize hR:xm s 1-1=R at hN hNi
  by_cases e:xm s 1<s.size
  ·have e':(xm s 1:Int)<s.size:=by omega
   have hb:=r4 e
   have hb1:wK (zB s (xm s 1))=false:=by
    cases h:wK (zB s (xm s 1))
    ·rfl
    ·simp[uh,h] at hb
   have hb2:qN (zB s (xm s 1))=false:=by
    cases h:qN (zB s (xm s 1))
    ·rfl
    ·simp[uh,h] at hb
   have hb3:zB s (xm s 1)≠95:=fun h=>by simp[uh,h] at hb
   rcases R with _ | R
   ·simp at hN
    rw[← hN] at e e' hb1 hb2 hb3 g12 ge0 gle ⊢
    simp at e' g12 ge0 gle
    simp[wF,rD,e']
    refine ze (nn (c:=zB s 1) yV) (by simp) (by simp) ?_
    simp[hb1,e']
    refine ze (di (c:=zB s 1) yV) (by simp) (by simp) ?_
    have hb3':¬ ((zB s 1:Int)=95):=by omega
    simp[hb2,hb3',e',tP,U0,gle,vh,splice,s6,zx]
   ·simp at hNi
    simp[wF,rD,hNi,e']
    refine ze (nn (c:=zB s (xm s 1)) yV) (by simp) (by simp) ?_
    simp[hb1,e']
    refine ze (di (c:=zB s (xm s 1)) yV) (by simp) (by simp) ?_
    have hb3':¬ ((zB s (xm s 1):Int)=95):=by omega
    simp[hb2,hb3',e',tP,U0,g12,gle,vh,splice,s6,zx]
  ·have e':¬ (xm s 1:Int)<s.size:=by omega
   rcases R with _ | R
   ·simp at hN
    rw[← hN] at e e' g12 ge0 gle ⊢
    simp at e' g12 ge0 gle
    have e2:¬ (1:Int)<s.size:=by omega
    simp[wF,rD,e2,tP,U0,gle,vh,splice,s6,zx]
   ·simp at hNi
    simp[wF,rD,hNi,e',tP,U0,g12,gle,vh,splice,s6,zx]
theorem M0 {s:ByteArray}:zf Try.prog qg [sbK s] (bv (wm s)):=by
 refine zC eG (by simp) ?_
 by_cases h0:s=⟨#[]⟩
 ·simp[tO,h0,v5,wm]
 have hpos:0<s.size:=by
  rcases Nat.eq_zero_or_pos s.size with h | h
  ·exact absurd (by cases s with | mk d=>congr 1; exact Array.eq_empty_of_size_eq_zero h) h0
  ·exact h
 by_cases h1:s.size≤12
 ·have h1':¬ (12:Int)<s.size:=by omega
  simp[tO,h0,h1',hpos]
  refine ze (nn (c:=zB s 0) yV) (by simp) (by simp) ?_
  cases h2:wK (zB s 0)
  ·simp[v5,wm,h2]
  ·simp
   refine ze (Bi hpos h1 h2) (by simp) (by simp) ?_
   obtain ⟨r1,r2,_⟩:=l8 (s:=s) (i:=1) (by omega)
   simp[v5,wm,h0,h1,h2,extract_eq r2,splice,GF hpos h2]
 ·have h1':(12:Int)<s.size:=by omega
  simp[tO,h0,h1',v5,wm,h1]
def rgB (b:Bid):Bool:=decide (b.cl<0)||decide (4<b.cl)||decide (b.bu<0)||decide (1000000<b.bu)||decide (b.po<0)||decide (24000<b.po)
def qE (l:List Bid) (i:Nat):Int :=
 match l[i]? with
 | none=>0
 | some b=>if wm b.nm=false then 5 else if vL l b.nm≠some i then 7 else if rgB b=true then 4 else 0
def sx (l:List Bid):Int:=if l.length=0 then 1 else if 8<l.length then 3 else (((List.range l.length).map (qE l)).find? fun e=>decide (e≠0)).getD 0
theorem Qr {f:Nat→Int} {n k:Nat} (hk:k<n) (h0:∀ j,j<k→f j=0) (h1:f k≠0):(((List.range n).map f).find? fun e=>decide (e≠0)).getD 0=f k:=by
 have:((List.range n).map f).find? (fun e=>decide (e≠0))=some (f k):=by
  rw[List.find?_eq_some_iff_getElem]
  refine ⟨by simpa using h1,k,by simpa using hk,by simp,fun j hj=>?_⟩
  simp[h0 j hj]
 rw[this]; rfl
theorem QZ {l:List Bid} {k:Nat} (n0:l.length≠0) (n8:¬ 8<l.length) (hk:k<l.length) (h0:∀ j,j<k→qE l j=0) (h1:qE l k≠0):sx l=qE l k:=by
 unfold sx
 rw[if_neg n0,if_neg n8]
 exact Qr hk h0 h1
theorem Q0 {l:List Bid} (n0:l.length≠0) (n8:¬ 8<l.length) (h0:∀ j,j<l.length→qE l j=0):sx l=0:=by
 unfold sx
 rw[if_neg n0,if_neg n8]
 have:((List.range l.length).map (qE l)).find? (fun e=>decide (e≠0))=none:=by
  rw[List.find?_eq_none]
  intro e he
  simp only[List.mem_map,List.mem_range] at he
  obtain ⟨j,hj,rfl⟩:=he
  simp[h0 j hj]
 rw[this]; rfl
theorem Ut {l:List Bid} {i:Nat} (hi:i<l.length) (h:vL (l.take i) l[i].nm=none):vL l l[i].nm=some i:=by
 have h1:=jl h
 unfold vL
 rw[List.findIdx?_eq_some_iff_getElem]
 refine ⟨hi,by simp,fun j hj=>?_⟩
 have:=h1 j (by simp; omega)
 simp only[List.getElem_take] at this
 simpa using this
theorem Uu {l:List Bid} {i j:Nat} (hi:i<l.length) (h:vL (l.take i) l[i].nm=some j):vL l l[i].nm≠some i:=by
 obtain ⟨h1,h2,_⟩:=jm h
 intro e
 obtain ⟨_,_,g3⟩:=jm e
 simp only[List.length_take] at h1
 simp only[List.getElem_take] at h2
 exact g3 j (by omega) h2
section
variable {m:Am.Mode} {l:List Bid} (hn:l.length<4611686018427387904) (hs:∀ b∈l,b.nm.size<4611686018427387904)
include hn hs
def XU (m:Am.Mode) (l:List Bid) (k:Nat):St:={env:=[(0,.list 4 m (sI l)),(15,.list 4 m (sI l)),(16,iv l.length),(17,iv k)],sto:=[]}
theorem TM:zf Try.prog qi [.list 4 m (sI l)] (iv (sx l)):=by
 refine zC eK (by simp) ?_
 by_cases n0:l.length=0
 ·have n0':l=[]:=List.eq_nil_of_length_eq_zero n0
  simp[tR,n0',yo,sx]
 have n0':¬ l=[]:=fun h=>n0 (by rw[h]; rfl)
 by_cases n8:8<l.length
 ·have n8':(8:Int)<l.length:=by omega
  simp[tR,n0',n8',yo,sx,n8]
 have n8':¬ (8:Int)<l.length:=by omega
 simp[tR,n0',n8']
 refine eZ (XU m l) (fun k=>∀ j,j<k→qE l j=0) l.length ?_ (fun j hj=>by omega) (fun k hk hi=>?_) (fun hi=>?_)
 ·simp[XU]
 ·have e:(k:Int)<l.length:=by omega
  have hat:=QZ n0 n8 hk hi
  have hE:qE l k=if wm l[k].nm=false then 5 else if vL l l[k].nm≠some k then 7 else if rgB l[k]=true then 4 else 0:=by
   unfold qE; rw[List.getElem?_eq_getElem hk]
  have hnext:qE l k=0→∀ j,j<k+1→qE l j=0:=fun h j hj=>by
   by_cases ej:j=k
   ·rw[ej]; exact h
   ·exact hi j (by omega)
  simp[qL,XU,e,hk,zj,splice]
  refine ze (SP (s:=l[k].nm) (hs _ (List.getElem_mem _))) (by simp) (by simp) ?_
  cases h1:wm l[k].nm
  ·simp[h1] at hE
   simp[yo,hat (by omega),hE]
  ·simp[ug]
   refine ⟨by omega,?_⟩
   refine ze (Rs (m:=.plain) (l:=l.take k) (s:=l[k].nm) (by simp; omega)) (by simp) (by simp) ?_
   cases h2:vL (l.take k) l[k].nm with
   | some j =>
    have h3:=Uu hk h2
    simp[h1,h3] at hE
    simp[fdR,yo,hat (by omega),hE]
   | none =>
    have h3:=Ut hk h2
    simp[h1,h3] at hE
    simp only[rgB,Bool.or_eq_true,decide_eq_true_eq] at hE
    by_cases c1:l[k].cl<0
    ·simp[c1] at hE
     simp[fdR,c1,yo,hat (by omega),hE]
    by_cases c2:4<l[k].cl
    ·simp[c2] at hE
     simp[fdR,c1,c2,yo,hat (by omega),hE]
    by_cases c3:l[k].bu<0
    ·simp[c3] at hE
     simp[fdR,c1,c2,c3,yo,hat (by omega),hE]
    by_cases c4:1000000<l[k].bu
    ·simp[c4] at hE
     simp[fdR,c1,c2,c3,c4,yo,hat (by omega),hE]
    by_cases c5:l[k].po<0
    ·simp[c5] at hE
     simp[fdR,c1,c2,c3,c4,c5,yo,hat (by omega),hE]
    by_cases c6:24000<l[k].po
    ·simp[c6] at hE
     simp[fdR,c1,c2,c3,c4,c5,c6,yo,hat (by omega),hE]
    simp[c1,c2,c3,c4,c5,c6] at hE
    simp[fdR,c1,c2,c3,c4,c5,c6,zo (show k<4611686018427387904 by omega)]
    exact ⟨by simp[XU],hnext hE⟩
 ·have:=Q0 n0 n8 hi
  simp[qL,XU,kM,yo,this]
end
section
variable {m:Am.Mode} {l:List Bid} (hn:l.length<4611686018427387904) (f:stm m=m)
include hn f
def an (m:Am.Mode) (l:List Bid) (k:Nat):St:={env:=[(0,.list 4 m (sI l)),(3,iv k)],sto:=[]}
theorem UL:zf Try.prog pv [.list 4 m (sI l)] (iv (sx l)):=by
 refine zC cw (by simp) ?_
 by_cases n0:l.length=0
 ·have n0':l=[]:=List.eq_nil_of_length_eq_zero n0
  simp[sN,n0',yC,sx]
 have n0':¬ l=[]:=fun h=>n0 (by rw[h]; rfl)
 by_cases n8:8<l.length
 ·have n8':(8:Int)<l.length:=by omega
  simp[sN,n0',n8',yC,sx,n8]
 have n8':¬ (8:Int)<l.length:=by omega
 simp[sN,n0',n8']
 refine eZ (an m l) (fun k=>∀ j,j<k→qE l j=0) l.length ?_ (fun j hj=>by omega) (fun k hk hi=>?_) (fun hi=>?_)
 ·simp[an]
 ·have e:(k:Int)<l.length:=by omega
  have hat:=QZ n0 n8 hk hi
  have hE:qE l k=if wm l[k].nm=false then 5 else if vL l l[k].nm≠some k then 7 else if rgB l[k]=true then 4 else 0:=by
   unfold qE; rw[List.getElem?_eq_getElem hk]
  have hnext:qE l k=0→∀ j,j<k+1→qE l j=0:=fun h j hj=>by
   by_cases ej:j=k
   ·rw[ej]; exact h
   ·exact hi j (by omega)
  simp[pV,an,e,hk]
  refine ze (M0 (s:=l[k].nm)) (by simp) (by simp) ?_
  cases h1:wm l[k].nm
  ·simp[h1] at hE
   simp[yC,hat (by omega),hE]
  ·simp[e,hk]
   refine ze (TN (m:=m) (l:=l) (s:=l[k].nm) hn) (by simp[f]) (by simp) ?_
   by_cases h3:vL l l[k].nm=some k
   ·simp[h1,h3] at hE
    simp only[rgB,Bool.or_eq_true,decide_eq_true_eq] at hE
    by_cases c1:l[k].cl<0
    ·simp[c1] at hE
     simp[fdR,h3,e,hk,c1,yC,hat (by omega),hE]
    by_cases c2:4<l[k].cl
    ·simp[c2] at hE
     simp[fdR,h3,c1,c2,e,hk,yC,hat (by omega),hE]
    by_cases c3:l[k].bu<0
    ·simp[c3] at hE
     simp[fdR,h3,c1,c2,c3,e,hk,yC,hat (by omega),hE]
    by_cases c4:1000000<l[k].bu
    ·simp[c4] at hE
     simp[fdR,h3,c1,c2,c3,c4,e,hk,yC,hat (by omega),hE]
    by_cases c5:l[k].po<0
    ·simp[c5] at hE
     simp[fdR,h3,c1,c2,c3,c4,c5,e,hk,yC,hat (by omega),hE]
    by_cases c6:24000<l[k].po
    ·simp[c6] at hE
     simp[fdR,h3,c1,c2,c3,c4,c5,c6,e,hk,yC,hat (by omega),hE]
    simp[c1,c2,c3,c4,c5,c6] at hE
    simp[fdR,h3,c1,c2,c3,c4,c5,c6,e,hk,zo (show k<4611686018427387904 by omega)]
    exact ⟨by simp[an],hnext hE⟩
   ·simp[h1,h3] at hE
    cases h4:vL l l[k].nm with
    | some i =>
     have hne:¬ ((i:Int)=(k:Int)):=fun h=>h3 (by rw[h4]; congr 1; omega)
     simp[fdR,hne,yC,hat (by omega),hE]
    | none=>exact absurd rfl (jl h4 k hk)
 ·have:=Q0 n0 n8 hi
  simp[pV,an,jT,yC,this]
end
end Go.Proofs.Ytbmhibiljjnfiaa

namespace Go.Pb
structure Of where
 b:Int
 w:Nat→Int
 v:Int
structure Pb where
 sup:Nat→Int
 opn:Nat→Int
 cls:Nat→Int
 cl:List Int
 of:List Of
def th {α:Type} (f:α→Int) (l:List α) (k:Nat):Int:=((l.take k).map f).sum
section
variable {α:Type} {f g:α→Int} {l:List α} {k:Nat} {o:α}
theorem bT:th f l 0=0:=rfl
theorem sC (h:l[k]?=some o):l.take (k+1)=l.take k++[o]:=by rw[List.take_add_one,h]; rfl
theorem fg (h:l[k]?=some o):th f l (k+1)=th f l k+f o:=by
 unfold th
 rw[sC h,List.map_append,List.sum_append]
 simp
theorem dG:th f l l.length=(l.map f).sum:=by simp[th]
theorem mw {a b:Int} (h:∀ o∈l,a≤f o∧f o≤b):∀ k,k≤l.length→a*k≤th f l k∧th f l k≤b*k
 | 0,_=>by simp[th]
 | k+1,hk=>by
  have hk':k<l.length:=by omega
  have hg:l[k]?=some l[k]:=by simp[hk']
  obtain ⟨h1,h2⟩:=mw h k (by omega)
  obtain ⟨h3,h4⟩:=h l[k] (List.getElem_mem hk')
  rw[fg hg,Int.natCast_add,Int.mul_add,Int.mul_add]
  omega
theorem Kz {a b:Int} (h:∀ o∈l,a≤f o∧f o≤b):a*l.length≤(l.map f).sum∧(l.map f).sum≤b*l.length:=by
 have:=mw h l.length (Nat.le_refl _)
 rwa [dG] at this
end
def okB (w:Nat→Int):Prop:=∀ j,j<6→0≤w j∧w j≤4
instance (w:Nat→Int):Decidable (okB w):=by unfold okB; exact inferInstance
def mP (w:Nat→Int):Prop:=∀ j,j<6→w j=0
instance (w:Nat→Int):Decidable (mP w):=by unfold mP; exact inferInstance
def eqB (w u:Nat→Int):Prop:=∀ j,j<6→w j=u j
instance (w u:Nat→Int):Decidable (eqB w u):=by unfold eqB; exact inferInstance
def leB (w u:Nat→Int):Prop:=∀ j,j<6→w j≤u j
instance (w u:Nat→Int):Decidable (leB w u):=by unfold leB; exact inferInstance
def Pb.clOf (P:Pb) (b:Int):Int:=P.cl.getD b.toNat 0
def Pb.rows (P:Pb):Nat:=P.cl.length+12
def Pb.coef (P:Pb) (r:Nat) (o:Of):Int :=
 if r<P.cl.length then (if o.b=r then 1 else 0)
 else if r<P.cl.length+6 then o.w (r-P.cl.length)
 else if P.cls (r-P.cl.length-6)=0∨P.cls (r-P.cl.length-6)=P.clOf o.b then 0 else o.w (r-P.cl.length-6)
def Pb.bnd (P:Pb) (r:Nat):Int :=
 if r<P.cl.length then 1 else if r<P.cl.length+6 then P.sup (r-P.cl.length) else P.opn (r-P.cl.length-6)
def Pb.fits (P:Pb) (l:List Of):Prop:=∀ r,r<P.rows→(l.map (P.coef r)).sum≤P.bnd r
instance (P:Pb) (l:List Of):Decidable (P.fits l):=by unfold Pb.fits; exact inferInstance
def Pb.okC (P:Pb) (j:Nat):Prop:=0≤P.cls j∧P.cls j≤4∧0≤P.opn j∧P.opn j≤P.sup j∧(P.cls j=0→P.opn j=P.sup j)
instance (P:Pb) (j:Nat):Decidable (P.okC j):=by unfold Pb.okC; exact inferInstance
def Pb.okCs (P:Pb):Prop:=∀ j,j<6→P.okC j
instance (P:Pb):Decidable P.okCs:=Nat.decidableBallLT 6 fun j _=>P.okC j
def fX (c:Int):Prop:=0≤c∧c≤4
instance (c:Int):Decidable (fX c):=by unfold fX; exact inferInstance
def Pb.frameE (P:Pb):Int :=
 if ¬ okB P.sup then 4 else if ¬ P.okCs then 4 else if 8<P.cl.length∨160<P.of.length then 3 else if ∀ c∈P.cl,fX c then 0 else 4
def vN (n:Nat) (o:Of):Int:=if o.b<0∨(n:Int)≤o.b then 6 else if o.v<1∨1000000<o.v then 4 else if okB o.w then 0 else 4
def Pb.offE (P:Pb) (o:Of):Int:=if vN P.cl.length o≠0 then vN P.cl.length o else if mP o.w then 4 else if P.fits [o] then 0 else 14
def y6 (o o':Of):Prop:=o.b=o'.b∧eqB o.w o'.w
instance (o o':Of):Decidable (y6 o o'):=by unfold y6; exact inferInstance
def Pb.offI (P:Pb) (i:Nat) (o:Of):Int:=if P.offE o≠0 then P.offE o else if ∃ o'∈P.of.take i,y6 o' o then 7 else 0
def Pb.chkL (P:Pb):Nat→Int
 | 0=>0
 | i+1=>if P.chkL i=0 then (match P.of[i]? with | some o=>P.offI i o | none=>0) else P.chkL i
def Pb.chk (P:Pb):Int:=if P.frameE=0 then P.chkL P.of.length else P.frameE
section
variable {P:Pb}
theorem U7 {i:Nat} (h:P.chkL i≠0):∀ d,P.chkL (i+d)=P.chkL i
 | 0=>rfl
 | d+1=>by
  have:=U7 h d
  rw[← Nat.add_assoc,Pb.chkL,this,if_neg h]
theorem Xa {i k:Nat} {o:Of} (h0:P.chkL i=0) (hi:P.of[i]?=some o) (he:P.offI i o≠0) (hk:i<k):P.chkL k=P.offI i o:=by
 have h1:P.chkL (i+1)=P.offI i o:=by rw[Pb.chkL,if_pos h0,hi]
 have h2:=U7 (P:=P) (i:=i+1) (by rw[h1]; exact he) (k-(i+1))
 rw[show i+1+(k-(i+1))=k by omega] at h2
 rw[h2,h1]
theorem Mq {i:Nat} {o:Of} (h0:P.chkL i=0) (hi:P.of[i]?=some o) (he:P.offI i o=0):P.chkL (i+1)=0:=by rw[Pb.chkL,if_pos h0,hi]; exact he
theorem Mr {k:Nat} (h:P.chkL k=0):∀ i o,i<k→P.of[i]?=some o→P.offI i o=0:=by
 induction k with
 | zero=>intro i o hi; omega
 | succ k ih =>
  have hk:P.chkL k=0:=by
   rw[Pb.chkL] at h
   split at h
   ·rename_i h0; exact h0
   ·exact h
  intro i o hi ho
  by_cases e:i=k
  ·subst e
   rw[Pb.chkL,if_pos hk,ho] at h
   exact h
  ·exact ih hk i o (by omega) ho
structure Pb.Good (P:Pb):Prop where
 sup:okB P.sup
 set:P.okCs
 n:P.cl.length≤8
 k:P.of.length≤160
 cl:∀ c∈P.cl,fX c
 off:∀ o∈P.of,P.offE o=0
 new:∀ (i l:Nat) o o',l<i→P.of[i]?=some o→P.of[l]?=some o'→¬ y6 o' o
theorem j6 (h:P.chk=0):P.Good:=by
 unfold Pb.chk at h
 split at h
 ·rename_i hf
  unfold Pb.frameE at hf
  split at hf
  ·cases hf
  ·rename_i h1
   split at hf
   ·cases hf
   ·rename_i h2
    split at hf
    ·cases hf
    ·rename_i h3
     split at hf
     ·rename_i h4
      have hz:=Mr h
      refine ⟨Decidable.not_not.1 h1,Decidable.not_not.1 h2,by omega,by omega,h4,fun o ho=>?_,fun i l o o' hl hi hlo hs=>?_⟩
      ·obtain ⟨i,hi,rfl⟩:=List.getElem_of_mem ho
       have:=hz i P.of[i] hi (by simp[hi])
       unfold Pb.offI at this
       split at this
       ·exact this
       ·rename_i h5; exact Decidable.not_not.1 h5
      ·have hi':i<P.of.length:=(List.getElem?_eq_some_iff.1 hi).1
       have:=hz i o hi' hi
       unfold Pb.offI at this
       split at this
       ·rename_i h5; exact h5 this
       ·rw[if_pos ⟨o',List.mem_of_getElem? (i:=l) (by rw[List.getElem?_take,if_pos hl]; exact hlo),hs⟩] at this
        cases this
     ·cases hf
 ·rename_i hf; exact absurd h hf
theorem tW {o:Of} (h:P.offE o=0):vN P.cl.length o=0∧¬ mP o.w∧P.fits [o]:=by
 unfold Pb.offE at h
 split at h
 ·rename_i h1; exact absurd h h1
 ·rename_i h1
  split at h
  ·cases h
  ·rename_i h2
   split at h
   ·rename_i h3; exact ⟨Decidable.not_not.1 h1,h2,h3⟩
   ·cases h
theorem uZ {n:Nat} {o:Of} (h:vN n o=0):(0≤o.b∧o.b<n)∧(1≤o.v∧o.v≤1000000)∧okB o.w:=by
 unfold vN at h
 split at h
 ·cases h
 ·rename_i h1
  split at h
  ·cases h
  ·rename_i h2
   split at h
   ·rename_i h3; exact ⟨by omega,by omega,h3⟩
   ·cases h
theorem aV {r:Nat} {o:Of} (hw:okB o.w) (hr:r<P.rows):0≤P.coef r o∧P.coef r o≤4:=by
 unfold Pb.rows at hr
 unfold Pb.coef
 split
 ·split<;>omega
 ·split
  ·exact hw _ (by omega)
  ·split
   ·omega
   ·exact hw _ (by omega)
end
end Go.Pb

namespace Go.Proofs.Ytbmhibiljjnfiaa
open Go Go.Am Go.Pb
def bI (w:Nat→Int):List Int:=[w 0,w 1,w 2,w 3,w 4,w 5]
@[irreducible] def bC (w:Nat→Int):List AV:=(bI w).map iv
theorem yQ (w:Nat→Int):bC w=[iv (w 0),iv (w 1),iv (w 2),iv (w 3),iv (w 4),iv (w 5)]:=by unfold bC; rfl
section
variable {w u:Nat→Int} {k l a b M:Nat} {e:zd}
@[simp] theorem YS:(bC w).length=6:=by rw[yQ]; rfl
@[simp] theorem CN:(bC w).all rf=true:=by rw[yQ]; rfl
theorem Dl {x:AV} (h:x∈bC w):∃ n,x=iv n:=by
 unfold bC at h
 obtain ⟨n,_,rfl⟩:=List.mem_map.1 h
 exact ⟨n,rfl⟩
@[simp] theorem BC:(∀ x,x∈bC w→rf x=true)=True:=eq_true fun x h=>by obtain ⟨n,rfl⟩:=Dl h; rfl
@[simp] theorem KV:(bC w).map strip=bC w:=by rw[yQ]; rfl
@[simp] theorem aaf:(bC w).map (dg l)=bC w:=by rw[yQ]; simp
@[simp] theorem AO:vA k (bC w)=false:=by rw[yQ]; simp
theorem YR (h:k<6):(bC w)[k]?=some (iv (w k)):=by
 rw[yQ]
 match k,h with
 | 0,_=>rfl
 | 1,_=>rfl
 | 2,_=>rfl
 | 3,_=>rfl
 | 4,_=>rfl
 | 5,_=>rfl
 | n+6,h=>omega
@[simp] theorem AA {h:k<(bC w).length}:(bC w)[k]=iv (w k):=by
 have h2:k<6:=by simpa using h
 have:=YR (w:=w) h2
 rw[List.getElem?_eq_getElem h] at this
 exact Option.some.inj this
@[simp] theorem BI:zx (bC w) 0 (some 6)=some (.agg (bC w)):=by rw[zj YS CN,KV]
theorem yW (h:k<6):zx (bC w) k none=some (iv (w k)):=by
 simp[zx,YR h]
theorem dC (h:k<6):wO (bC w) k none=some (iv (w k)):=by
 simp[wO,YR h]
@[simp] theorem xf:r5 6 (bC w)=true:=by unfold bC; rw[Xr]; rfl
@[simp] theorem Af:jp (bC w)=bI w:=by unfold bC; exact fe _
theorem aR:(bI w=bI u)↔eqB w u:=by
 unfold bI eqB
 constructor
 ·intro h j hj
  simp only[List.cons.injEq,and_true] at h
  obtain ⟨h0,h1,h2,h3,h4,h5⟩:=h
  match j,hj with
  | 0,_=>exact h0
  | 1,_=>exact h1
  | 2,_=>exact h2
  | 3,_=>exact h3
  | 4,_=>exact h4
  | 5,_=>exact h5
  | n+6,h=>omega
 ·intro h
  rw[h 0 (by omega),h 1 (by omega),h 2 (by omega),h 3 (by omega),h 4 (by omega),h 5 (by omega)]
theorem xy (h:eqB w u):bC w=bC u:=by unfold bC; rw[aR.2 h]
theorem qj {r:List AV} (h:r.length=6):splice r 0 (bC w)=bC w:=by
 unfold splice
 rw[List.take_zero,List.nil_append,Nat.zero_add,YS,List.drop_of_length_le (by omega),List.append_nil]
theorem nN {x:Int} (h:k<6):splice (bC w) k [iv x]=bC (fun j=>if j=k then x else w j):=by
 rw[yQ,yQ]
 match k,h with
 | 0,_=>rfl
 | 1,_=>rfl
 | 2,_=>rfl
 | 3,_=>rfl
 | 4,_=>rfl
 | 5,_=>rfl
 | n+6,h=>omega
end
@[irreducible] def oC (o:Of):List AV:=iv o.b::(bC o.w++[iv o.v])
theorem uU (o:Of):oC o=[iv o.b,iv (o.w 0),iv (o.w 1),iv (o.w 2),iv (o.w 3),iv (o.w 4),iv (o.w 5),iv o.v]:=by unfold oC; rw[yQ]; rfl
section
variable {o:Of} {k l:Nat}
@[simp] theorem D5:(oC o).length=8:=by rw[uU]; rfl
@[simp] theorem Fq:(oC o).all rf=true:=by rw[uU]; rfl
@[simp] theorem BR:(∀ x,x∈oC o→rf x=true)=True:=eq_true fun x h=>List.all_eq_true.1 Fq x h
@[simp] theorem JZ:(oC o).map strip=oC o:=by rw[uU]; rfl
@[simp] theorem aar:(oC o).map (dg l)=oC o:=by rw[uU]; simp
@[simp] theorem A7:vA k (oC o)=false:=by rw[uU]; simp
@[simp] theorem Ak:(oC o)[0]?=some (iv o.b):=by rw[uU]; rfl
@[simp] theorem Al:(oC o)[7]?=some (iv o.v):=by rw[uU]; rfl
@[simp] theorem aap {h:0<(oC o).length}:(oC o)[0]=iv o.b:=by have:=Ak (o:=o); rw[List.getElem?_eq_getElem h] at this; exact Option.some.inj this
@[simp] theorem aaq {h:7<(oC o).length}:(oC o)[7]=iv o.v:=by have:=Al (o:=o); rw[List.getElem?_eq_getElem h] at this; exact Option.some.inj this
theorem Lg (h:k<6):(oC o)[1+k]?=some (iv (o.w k)):=by
 rw[uU]
 match k,h with
 | 0,_=>rfl
 | 1,_=>rfl
 | 2,_=>rfl
 | 3,_=>rfl
 | 4,_=>rfl
 | 5,_=>rfl
 | n+6,h=>omega
@[simp] theorem BN:zx (oC o) 0 (some 8)=some (.agg (oC o)):=by rw[zj D5 Fq,JZ]
@[simp] theorem C5:zx (oC o) 0 none=some (iv o.b):=by simp[zx]
@[simp] theorem C6:zx (oC o) 7 none=some (iv o.v):=by simp[zx]
@[simp] theorem C8:zx (oC o) 1 (some 6)=some (.agg (bC o.w)):=by rw[uU,yQ]; rfl
theorem P1 (h:k<6):zx (oC o) (1+k) none=some (iv (o.w k)):=by simp[zx,Lg h]
end
def clR (l:List Int):List (List AV):=l.map fun c=>[iv c]
abbrev clA (l:List Int):AV:=.list 1 .plain (clR l)
def ofR (l:List Of):List (List AV):=l.map oC
abbrev ofA (l:List Of):AV:=.list 8 .plain (ofR l)
section
variable {l:List Int} {L:List Of} {k:Nat} {c:Int} {o:Of}
@[simp] theorem uz:(clR l).length=l.length:=by simp[clR]
@[simp] theorem AP:wC (clR l)=true:=by simp[clR,wC]
@[simp] theorem AQ:zP (clR l)=clR l:=by simp[clR,zP]
@[simp] theorem sZ:(ofR L).length=L.length:=by simp[ofR]
@[simp] theorem A8:wC (ofR L)=true:=by simp[ofR,wC]
@[simp] theorem A9:zP (ofR L)=ofR L:=by simp[ofR,zP]
end
@[irreducible] def pbX (P:Pb) (c o:AV):List AV:=bC P.sup++bC P.opn++bC P.cls++[c,o]
theorem z5 (P:Pb) (c o:AV):pbX P c o=[iv (P.sup 0),iv (P.sup 1),iv (P.sup 2),iv (P.sup 3),iv (P.sup 4),iv (P.sup 5),iv (P.opn 0),iv (P.opn 1),iv (P.opn 2),iv (P.opn 3),iv (P.opn 4),iv (P.opn 5),
  iv (P.cls 0),iv (P.cls 1),iv (P.cls 2),iv (P.cls 3),iv (P.cls 4),iv (P.cls 5),c,o]:=by unfold pbX; rw[yQ,yQ,yQ]; rfl
abbrev pbC (P:Pb):List AV:=pbX P (clA P.cl) (ofA P.of)
section
variable {P:Pb} {c o:AV} {k l:Nat}
@[simp] theorem Zg:(pbX P c o).length=20:=by rw[z5]; rfl
theorem LA (hc:rf c=true) (ho:rf o=true):(pbX P c o).all rf=true:=by rw[z5]; simp[hc,ho]
@[simp] theorem Lz:(pbC P).all rf=true:=LA rfl rfl
@[simp] theorem Bm:(∀ x,x∈pbC P→rf x=true)=True:=eq_true fun x h=>List.all_eq_true.1 Lz x h
@[simp] theorem Tu:(pbX P c o).map strip=pbX P (strip c) (strip o):=by rw[z5,z5]; rfl
@[simp] theorem aaa:(pbX P c o).map (dg l)=pbX P (dg l c) (dg l o):=by rw[z5,z5]; simp
@[simp] theorem AJ:vA k (pbX P c o)=(zT k c||zT k o):=by rw[z5]; simp[vA]
@[simp] theorem Bc:zx (pbC P) 0 (some 20)=some (.agg (pbC P)):=by rw[zj Zg Lz,Tu]; rfl
@[simp] theorem Be:zx (pbX P c o) 0 (some 6)=some (.agg (bC P.sup)):=by rw[z5,yQ]; rfl
@[simp] theorem C9:zx (pbX P c o) 6 (some 6)=some (.agg (bC P.opn)):=by rw[z5,yQ]; rfl
@[simp] theorem C4:zx (pbX P c o) 12 (some 6)=some (.agg (bC P.cls)):=by rw[z5,yQ]; rfl
@[simp] theorem Cd:(pbX P c o)[18]?=some c:=by rw[z5]; rfl
@[simp] theorem Ce:(pbX P c o)[19]?=some o:=by rw[z5]; rfl
@[simp] theorem BG:zx (pbX P c o) 18 none=some c:=by rw[z5]; rfl
@[simp] theorem BH:zx (pbX P c o) 19 none=some o:=by rw[z5]; rfl
@[simp] theorem AH {h:18<(pbX P c o).length}:(pbX P c o)[18]=c:=by have:=Cd (P:=P) (c:=c) (o:=o); rw[List.getElem?_eq_getElem h] at this; exact Option.some.inj this
@[simp] theorem AI {h:19<(pbX P c o).length}:(pbX P c o)[19]=o:=by have:=Ce (P:=P) (c:=c) (o:=o); rw[List.getElem?_eq_getElem h] at this; exact Option.some.inj this
theorem q9 (h:k<6):zx (pbX P c o) k none=some (iv (P.sup k)):=by
 rw[z5]
 match k,h with
 | 0,_=>rfl
 | 1,_=>rfl
 | 2,_=>rfl
 | 3,_=>rfl
 | 4,_=>rfl
 | 5,_=>rfl
 | n+6,h=>omega
theorem vU (h:k<6):zx (pbX P c o) (6+k) none=some (iv (P.opn k)):=by
 rw[z5]
 match k,h with
 | 0,_=>rfl
 | 1,_=>rfl
 | 2,_=>rfl
 | 3,_=>rfl
 | 4,_=>rfl
 | 5,_=>rfl
 | n+6,h=>omega
theorem vT (h:k<6):zx (pbX P c o) (12+k) none=some (iv (P.cls k)):=by
 rw[z5]
 match k,h with
 | 0,_=>rfl
 | 1,_=>rfl
 | 2,_=>rfl
 | 3,_=>rfl
 | 4,_=>rfl
 | 5,_=>rfl
 | n+6,h=>omega
theorem Gj (h:k<6):(pbX P c o)[k]?=some (iv (P.sup k)):=by have:=q9 (P:=P) (c:=c) (o:=o) h; simpa [zx] using this
theorem Gi (h:k<6):(pbX P c o)[6+k]?=some (iv (P.opn k)):=by have:=vU (P:=P) (c:=c) (o:=o) h; simpa [zx] using this
theorem Yw (h:k<6):(pbX P c o)[12+k]?=some (iv (P.cls k)):=by have:=vT (P:=P) (c:=c) (o:=o) h; simpa [zx] using this
theorem dE {r:List AV} (h:r.length=20):splice r 0 (pbX P c o)=pbX P c o:=by
 unfold splice
 rw[List.take_zero,List.nil_append,Nat.zero_add,Zg,List.drop_of_length_le (by omega),List.append_nil]
@[simp] theorem BU {x:AV}:splice (pbX P c o) 18 [x]=pbX P x o:=by rw[z5,z5]; rfl
@[simp] theorem BV {x:AV}:splice (pbX P c o) 19 [x]=pbX P c x:=by rw[z5,z5]; rfl
end
def UN (w:Nat→Int) (k:Nat):St:={env:=[(5,.agg (bC w)),(6,iv k)],sto:=[]}
theorem jL {w:Nat→Int}:zf Try.prog x0 [.agg (bC w)] (iv (if okB w then 0 else 4)):=by
 refine zC ez (by simp) ?_
 simp[mY]
 refine zz (UN w) (fun i=>∀ j,j<i→0≤w j∧w j≤4) 6 (by simp[UN]) (fun j hj=>by omega) (fun i hi hI=>?_) (fun hI=>?_)
 ·have e:(i:Int)<6:=by omega
  have w1:=zo (k:=i) (by omega)
  by_cases c1:w i<0
  ·rw[if_neg fun h=>by have:=h i hi; omega]
   simp[vB,UN,e,dC hi,c1,t7]
  ·by_cases c2:4<w i
   ·rw[if_neg fun h=>by have:=h i hi; omega]
    simp[vB,UN,e,dC hi,c1,c2,t7]
   ·simp[vB,UN,e,dC hi,c1,c2,w1]
    exact fun j hj=>by
     by_cases e:j=i
     ·subst e; omega
     ·exact hI j (by omega)
 ·rw[if_pos (show okB w from hI)]
  simp[vB,UN,kJ,t7]
section
variable {P:Pb} {r n:Nat} {o:Of}
theorem K8 (h:0≤o.b∧o.b<P.cl.length):∃ b:Nat,o.b=b∧b<P.cl.length∧P.cl[b]?=some (P.clOf o.b):=by
 refine ⟨o.b.toNat,by omega,by omega,?_⟩
 unfold Pb.clOf
 have h2:o.b.toNat<P.cl.length:=by omega
 rw[List.getD_eq_getElem?_getD,List.getElem?_eq_getElem h2]
 rfl
@[simp] theorem B7 {l:List Int} {b:Nat} {h:b<(clR l).length}:(clR l)[b]=[iv (l[b]'(by simpa using h))]:=by simp[clR]
theorem Xd (hn:P.cl.length≤1000) (hb:0≤o.b∧o.b<P.cl.length) (hr:r<P.rows):zf Try.prog ye [.agg (pbC P),iv r,.agg (oC o)] (iv (P.coef r o)):=by
 unfold Pb.rows at hr
 obtain ⟨n,hn'⟩:∃ n,P.cl.length=n:=⟨_,rfl⟩
 have w1:IntKind.i64.wrap ((r:Int)-n)=(r:Int)-n:=by rw[wrap64]<;>omega
 refine zC nw (by simp) ?_
 unfold Pb.coef
 rw[hn'] at hr hb hn ⊢
 by_cases h1:r<n
 ·rw[if_pos h1]
  have c1:((r:Int)-n)<0:=by omega
  by_cases h2:o.b=r
  ·rw[if_pos h2]
   simp[yu,hn',w1,c1,h2,yw]
  ·rw[if_neg h2]
   simp[yu,hn',w1,c1,h2,yw]
 ·rw[if_neg h1]
  have c1:¬ ((r:Int)-n)<0:=by omega
  obtain ⟨k,hk⟩:∃ k,r=n+k:=⟨r-n,by omega⟩
  have e1:(r:Int)-n=k:=by omega
  have e2:r-n=k:=by omega
  rw[e1] at w1 c1
  by_cases h2:k<6
  ·rw[if_pos (by omega),e2]
   have c2:(k:Int)<6:=by omega
   simp[yu,hn',e1,w1,c1,c2,Lg h2,yw]
  ·obtain ⟨j,hj0⟩:∃ j,k=6+j:=⟨k-6,by omega⟩
   rw[if_neg (by omega),e2,show k-6=j by omega]
   have c2:¬ (k:Int)<6:=by omega
   have hj:j<6:=by omega
   have hj':(j:Int)<6:=by omega
   have e3:(k:Int)-6=j:=by omega
   have w2:IntKind.i64.wrap (j:Int)=j:=by rw[wrap64]<;>omega
   obtain ⟨b,hb1,hb2,hb3⟩:=K8 (P:=P) (o:=o) (by rw[hn']; exact hb)
   have hbn:(b:Int)<n:=by omega
   have hbn':b<n:=by omega
   have hc:P.cl[b]?=some (P.clOf (b:Int)):=by rw[← hb1]; exact hb3
   have hE:P.cl[b]=P.clOf (b:Int):=by rw[List.getElem?_eq_getElem hb2] at hc; exact Option.some.inj hc
   rw[hb1]
   by_cases h3:P.cls j=0
   ·rw[if_pos (.inl h3)]
    simp[yu,hn',e1,w1,c1,c2,e3,w2,hj',Yw hj,h3,yw]
   ·by_cases h4:P.cls j=P.clOf (b:Int)
    ·rw[if_pos (.inr h4)]
     rw[h4] at h3
     simp[yu,hn',e1,w1,c1,c2,e3,w2,hj',Yw hj,h3,hb1,hbn,hbn',hE,h4,yw]
    ·rw[if_neg (by intro h; exact h.elim h3 h4)]
     simp[yu,hn',e1,w1,c1,c2,e3,w2,hj',Yw hj,h3,hb1,hbn,hbn',hE,h4,P1 hj,yw]
end
structure Prd where
 nm:ByteArray
 su:Int
 re:Int
 po:Int
 gr:Int
abbrev Rh (p:Prd):List AV:=[sbK p.nm,iv p.su,iv p.re,iv p.po,iv p.gr]
abbrev xL (l:List Prd):List (List AV):=l.map Rh
def vM (l:List Prd) (s:ByteArray):Option Nat:=l.findIdx? fun b=>decide (b.nm=s)
theorem jn {l:List Prd} {s:ByteArray} {i:Nat} (h:vM l s=some i):∃ h:i<l.length,l[i].nm=s∧∀ j (hj:j<i),l[j].nm≠s:=by
 unfold vM at h
 rw[List.findIdx?_eq_some_iff_getElem] at h
 obtain ⟨h1,h2,h3⟩:=h
 exact ⟨h1,by simpa using h2,fun j hj=>by simpa using h3 j hj⟩
theorem Xn {l:List Prd} {s:ByteArray} (h:vM l s=none):∀ j (hj:j<l.length),l[j].nm≠s:=by
 unfold vM at h
 rw[List.findIdx?_eq_none_iff] at h
 intro j hj
 simpa using h l[j] (List.getElem_mem _)
section
variable {m:Am.Mode} {l:List Prd} {s:ByteArray} (hn:l.length<4611686018427387904)
include hn
def au (m:Am.Mode) (l:List Prd) (s:ByteArray) (k:Nat):St:={env:=[(1,sbK s),(8,.list 5 m (xL l)),(9,iv l.length),(10,iv k)],sto:=[]}
theorem Mo:zf Try.prog qf [.list 5 m (xL l),sbK s] (fdR (vM l s)):=by
 refine zC eB (by simp) ?_
 simp[m0]
 cases hf:vM l s with
 | some i =>
  obtain ⟨h1,h2,h3⟩:=jn hf
  refine xt (au m l s) i ?_ (fun k hk=>?_) ?_
  ·simp[au]
  ·have e:(k:Int)<l.length:=by omega
   have hk':k<l.length:=by omega
   have:=h3 k hk
   simp[vC,au,e,hk',zj,splice,this,zo (show k<4611686018427387904 by omega)]
  ·have e:(i:Int)<l.length:=by omega
   simp[vC,au,e,h1,zj,splice,h2,qu,fdR]
 | none =>
  have h3:=Xn hf
  refine xt (au m l s) l.length ?_ (fun k hk=>?_) ?_
  ·simp[au]
  ·have e:(k:Int)<l.length:=by omega
   have:=h3 k hk
   simp[vC,au,e,hk,zj,splice,this,zo (show k<4611686018427387904 by omega)]
  ·simp[vC,au,kK,qu,fdR]
end
theorem gO {n a b:Int}:zf Try.prog xN [iv n,iv a,iv b] (bv (decide (a≤n)&&decide (n≤b))):=by
 refine zC kQ (by simp) ?_
 by_cases h:a≤n<;>simp[qH,h,qP]
def zY (l:List Prd) (j:Nat):Int:=((l[j]?).map fun p=>p.su).getD 0
def we (l:List Prd) (k j:Nat):Int:=if j<k then zY l j else 0
noncomputable def RJ (m:Am.Mode) (l:List Prd) (k:Nat):St:={env:=[(2,.ptr 2 0),(3,.ptr 3 0),(6,.list 5 m (xL l)),(7,iv l.length),(8,iv k)],sto:=[(2,.var (bC fun _=>0)),(3,.var (bC (we l k)))]}
theorem lH {m:Am.Mode} {l:List Prd} (hn:l.length<4611686018427387904):zf Try.prog xv [.list 5 m (xL l)] (.agg (bC (zY l))):=by
 refine zC gA (by simp) ?_
 simp[pP]
 have z:[iv 0,iv 0,iv 0,iv 0,iv 0,iv 0]=bC fun _=>0:=by rw[yQ]
 have z0:(fun _=>(0:Int))=we l 0:=rfl
 refine xt (RJ m l) l.length (by simp[RJ,← z0,← z]) (fun k hk=>?_) ?_
 ·have e:(k:Int)<l.length:=by omega
  have w1:=zo (show k<4611686018427387904 by omega)
  have hs:∀ j,j<6→(if j=k then l[k].su else we l k j)=we l (k+1) j:=fun j hj=>by
   unfold we zY
   by_cases e1:j=k
   ·subst e1; rw[if_pos rfl,if_pos (by omega)]; simp[hk]
   ·rw[if_neg e1]
    by_cases e2:j<k
    ·rw[if_pos e2,if_pos (by omega)]
    ·rw[if_neg e2,if_neg (by omega)]
  by_cases h6:k<6
  ·have h6':(k:Int)<6:=by omega
   have h5:k≤5:=by omega
   have hset:splice (bC (we l k)) k [iv l[k].su]=bC (we l (k+1)):=by rw[nN h6]; exact xy hs
   simp[uq,RJ,e,hk,zj,mJ,h6',h5,w1,hset]
  ·have h6':¬ (k:Int)<6:=by omega
   have hc:bC (we l k)=bC (we l (k+1)):=xy fun j hj=>by rw[← hs j hj,if_neg (by omega)]
   simp[uq,RJ,e,hk,zj,mJ,h6',w1,hc]
 ·have hall:bC (we l l.length)=bC (zY l):=xy fun j hj=>by
   unfold we
   by_cases h:j<l.length
   ·rw[if_pos h]
   ·rw[if_neg h]; unfold zY; simp[h]
  simp[uq,mR,RJ,hall,p7]
def rA (w u:Nat→Int) (k j:Nat):Int:=if j<k then min (w j) (u j) else w j
def NV (w u:Nat→Int) (k:Nat):St:={env:=[(2,.ptr 2 0),(3,.ptr 3 0),(4,.ptr 4 0),(6,iv k)],sto:=[(2,.var (bC (rA w u k))),(3,.var (bC u)),(4,.var [iv 0,iv 0,iv 0,iv 0,iv 0,iv 0])]}
theorem D2 {w u:Nat→Int}:zf Try.prog pq [.agg (bC w),.agg (bC u)] (.agg (bC fun j=>min (w j) (u j))):=by
 refine zC cm (by simp) ?_
 have h0:bC w=bC (rA w u 0):=xy fun j _=>by unfold rA; rw[if_neg (Nat.not_lt_zero j)]
 have h6:bC (fun j=>min (w j) (u j))=bC (rA w u 6):=xy fun j hj=>by unfold rA; rw[if_pos hj]
 rw[h6]
 simp[km]
 rw[h0]
 refine zz (NV w u) (fun _=>True) 6 (by simp[NV]) trivial (fun i hi _=>?_) (fun _=>?_)
 ·have e:(i:Int)<6:=by omega
  have w1:=zo (k:=i) (by omega)
  have e1:rA w u i i=w i:=by unfold rA; rw[if_neg (Nat.lt_irrefl i)]
  have hs:∀ x,splice (bC (rA w u i)) i [iv x]=bC (fun j=>if j=i then x else rA w u i j):=fun x=>nN hi
  have h1:bC (fun j=>if j=i then min (w i) (u i) else rA w u i j)=bC (rA w u (i+1)):=xy fun j _=>by
   unfold rA
   by_cases e:j=i
   ·subst e; rw[if_pos rfl,if_pos (Nat.lt_succ_self j)]
   ·rw[if_neg e]
    by_cases h:j<i
    ·rw[if_pos h,if_pos (by omega)]
    ·rw[if_neg h,if_neg (by omega)]
  have h2:splice (bC (rA w u i)) i [iv (min (w i) (u i))]=bC (rA w u (i+1)):=by rw[hs,h1]
  simp[pO,NV,e,yW hi,e1,w1,h2]
  omega
 ·simp[pO,NV,jM,kG]
theorem Qa {w u:Nat→Int}:zf Try.prog uE [.agg (bC w),.agg (bC u)] (bv (decide (leB w u))):=by
 have hd:decide (bI (fun j=>min (w j) (u j))=bI w)=decide (leB w u):=by
  rw[decide_eq_decide,aR]
  unfold eqB leB
  exact ⟨fun h j hj=>by have:=h j hj; dsimp only at this; omega,fun h j hj=>by have:=h j hj; dsimp only; omega⟩
 have hk:kds Try.prog Op.maxDepth zI=some (List.replicate 6 (.i .i64)):=by kernel_rfl
 have hg:Try.prog.eqGuardType Try.prog.depth zI=false:=by kernel_rfl
 have hA:agT Try.prog zI=true:=by kernel_rfl
 refine zC fm (by simp) ?_
 simp[nQ]
 refine ze (D2 (w:=w) (u:=u)) (by simp) (by simp) ?_
 simp
 rw[pC hk hg hA xf xf]
 simp[hd,mz]
section
variable {P:Pb} {r n:Nat} {o:Of} {L:List Of}
theorem Rt (hn:P.cl.length≤1000):zf Try.prog xr [.agg (pbC P)] (iv P.rows):=by
 refine zC nz (by simp) ?_
 have w1:IntKind.i64.wrap ((P.cl.length:Int)+12)=(P.cl.length:Int)+12:=by rw[wrap64]<;>omega
 have e:((P.rows:Nat):Int)=(P.cl.length:Int)+12:=by unfold Pb.rows; omega
 rw[e]
 simp[tK,w1,t0]
theorem Uc (hn:P.cl.length≤1000) (hr:r<P.rows):zf Try.prog y9 [.agg (pbC P),iv r] (iv (P.bnd r)):=by
 unfold Pb.rows at hr
 obtain ⟨n,hn'⟩:∃ n,P.cl.length=n:=⟨_,rfl⟩
 have w1:IntKind.i64.wrap ((r:Int)-n)=(r:Int)-n:=by rw[wrap64]<;>omega
 refine zC pi (by simp) ?_
 unfold Pb.bnd
 rw[hn'] at hr hn ⊢
 by_cases h1:r<n
 ·rw[if_pos h1]
  have c1:((r:Int)-n)<0:=by omega
  simp[xQ,hn',w1,c1,xR]
 ·rw[if_neg h1]
  have c1:¬ ((r:Int)-n)<0:=by omega
  obtain ⟨k,hk⟩:∃ k,r=n+k:=⟨r-n,by omega⟩
  have e1:(r:Int)-n=k:=by omega
  have e2:r-n=k:=by omega
  rw[e1] at w1 c1
  by_cases h2:k<6
  ·rw[if_pos (by omega),e2]
   have c2:(k:Int)<6:=by omega
   simp[xQ,hn',e1,w1,c1,c2,Gj h2,xR]
  ·obtain ⟨j,hj0⟩:∃ j,k=6+j:=⟨k-6,by omega⟩
   rw[if_neg (by omega),e2,show k-6=j by omega]
   have c2:¬ (k:Int)<6:=by omega
   have hj:j<6:=by omega
   have hj':(j:Int)<6:=by omega
   have e3:(k:Int)-6=j:=by omega
   have w2:IntKind.i64.wrap (j:Int)=j:=by rw[wrap64]<;>omega
   simp[xQ,hn',e1,w1,c1,c2,e3,w2,hj',Gi hj,xR]
end
def RH (P:Pb) (L:List Of) (r:Nat):St:={env:=[(1,ofA L),(2,.ptr 2 0),(5,.fn (.func ye) []),(11,iv P.rows),(12,iv r)],sto:=[(2,.var (pbC P))]}
def XT (P:Pb) (L:List Of) (r k:Nat):St :=
 {env:=[(1,ofA L),(2,.ptr 2 0),(5,.fn (.func ye) []),(6,iv r),(7,iv (th (P.coef r) L k)),(11,iv P.rows),(12,iv r),(15,ofA L),(16,iv L.length),(17,iv k)],sto:=[(2,.var (pbC P))]}
@[simp] theorem An {l:List Of} {b:Nat} {h:b<(ofR l).length}:(ofR l)[b]=oC (l[b]'(by simpa using h)):=by simp[ofR]
section
variable {P:Pb} {r n:Nat} {o:Of} {L:List Of}
theorem SE (hn:P.cl.length≤1000) (hL:L.length≤1000) (hb:∀ o∈L,0≤o.b∧o.b<P.cl.length) (hw:∀ o∈L,okB o.w):zf Try.prog xo [.agg (pbC P),ofA L] (bv (decide (P.fits L))):=by
 have hok:xY Try.prog ye=true:=by kernel_rfl
 have hR:P.rows≤1012:=by unfold Pb.rows; omega
 refine zC ny (by simp) ?_
 simp[tJ]
 refine ze (Rt hn) (by simp) (by simp) ?_
 simp
 refine zz (RH P L) (fun r=>∀ q,q<r→(L.map (P.coef q)).sum≤P.bnd q) P.rows (by simp[RH]) (fun q hq=>by omega) (fun r hr hI=>?_) (fun hI=>?_)
 ·have e:(r:Int)<P.rows:=by omega
  have w1:=zo (k:=r) (by omega)
  simp[uc,RH,e]
  refine zz (XT P L r) (fun _=>True) L.length (by simp[XT,bT]) trivial (fun k hk _=>?_) (fun _=>?_)
  ·have e':(k:Int)<L.length:=by omega
   have hg:L[k]?=some L[k]:=by simp[hk]
   have hm:L[k]∈L:=List.getElem_mem hk
   have w2:=zo (k:=k) (by omega)
   obtain ⟨p1,p2⟩:=mw (f:=P.coef r) (fun o ho=>aV (P:=P) (hw o ho) hr) k (by omega)
   obtain ⟨p3,p4⟩:=aV (P:=P) (hw _ hm) hr
   have w3:IntKind.i64.wrap (th (P.coef r) L k+P.coef r L[k])=th (P.coef r) L k+P.coef r L[k]:=by rw[wrap64]<;>omega
   have hs:=fg (f:=P.coef r) hg
   simp[ub,XT,e',hk,hok]
   refine ze (Xd hn (hb _ hm) hr) (by simp) (by simp) ?_
   simp[w2,w3,hs,XT]
  ·have hall:th (P.coef r) L L.length=(L.map (P.coef r)).sum:=dG
   simp[ub,XT,rI]
   refine ze (Uc hn hr) (by simp) (by simp) ?_
   by_cases hc:P.bnd r<(L.map (P.coef r)).sum
   ·have hf:¬ P.fits L:=fun h=>by have:=h r hr; omega
    simp[hall,hc,hf,vj]
   ·simp[hall,hc,rJ,w1,RH]
    exact fun q hq=>by
     by_cases eq:q=r
     ·subst eq; omega
     ·exact hI q (by omega)
 ·have hf:P.fits L:=hI
  simp[uc,RH,hf,rL,vj]
end
def UT (w:Nat→Int) (k:Nat):St:={env:=[(1,.ptr 1 0),(3,iv k)],sto:=[(1,.var (bC w))]}
theorem YC {w:Nat→Int}:zf Try.prog wx [.agg (bC w)] (bv (decide (okB w))):=by
 refine zC cv (by simp) ?_
 simp[kx]
 refine zz (UT w) (fun i=>∀ j,j<i→0≤w j∧w j≤4) 6 (by simp[UT]) (fun j hj=>by omega) (fun i hi hI=>?_) (fun hI=>?_)
 ·have e:(i:Int)<6:=by omega
  have w1:=zo (k:=i) (by omega)
  by_cases c1:w i<0
  ·have hf:¬ okB w:=fun h=>by have:=h i hi; omega
   simp[ud,UT,e,yW hi,c1,hf,sS]
  ·by_cases c2:4<w i
   ·have hf:¬ okB w:=fun h=>by have:=h i hi; omega
    simp[ud,UT,e,yW hi,c1,c2,hf,sS]
   ·simp[ud,UT,e,yW hi,c1,c2,w1]
    exact fun j hj=>by
     by_cases e:j=i
     ·subst e; omega
     ·exact hI j (by omega)
 ·have hf:okB w:=hI
  simp[ud,UT,hf,jS,sS]
end Go.Proofs.Ytbmhibiljjnfiaa

set_option maxRecDepth 20000
namespace Go.Proofs.Ytbmhibiljjnfiaa
open Go Go.Am Go.Pb
def wd (w:Nat→Int):Nat→Int
 | 0=>1
 | k+1=>wd w k*(w k+1)
theorem de {w:Nat→Int}:∀ k,(∀ j,j<k→0≤w j∧w j≤4)→1≤wd w k∧wd w k≤5^k
 | 0,_=>⟨Int.le_refl 1,by show (1:Int)≤5^0; decide⟩
 | k+1,h=>by
  obtain ⟨a,b⟩:=de (w:=w) k fun j hj=>h j (by omega)
  obtain ⟨c,d⟩:=h k (by omega)
  show 1≤wd w k*(w k+1)∧wd w k*(w k+1)≤5^(k+1)
  constructor
  ·have:=Int.mul_le_mul a (show (1:Int)≤w k+1 by omega) (by omega) (by omega)
   omega
  ·rw[Int.pow_succ]
   exact Int.mul_le_mul b (by omega) (by omega) (Int.le_of_lt (Int.pow_pos (by decide)))
theorem Ta {w:Nat→Int} {n:Nat} (h:∀ j,n≤j→w j=0):∀ d,wd w (n+d)=wd w n
 | 0=>rfl
 | d+1=>by
  have:=Ta h d
  show wd w (n+d)*(w (n+d)+1)=_
  rw[this,h (n+d) (by omega)]
  omega
noncomputable def RG (w:Nat→Int) (k:Nat):St:={env:=[(3,iv (wd w k)),(9,.agg (bC w)),(10,iv k)],sto:=[]}
def Uo (w:Nat→Int):Int:=if okB w then (if 1024<wd w 6 then 0 else wd w 6) else 0
theorem Fr:∀ k:Nat,k≤6→(5:Int)^k≤15625:=by decide
theorem FS {w:Nat→Int}:zf Try.prog qe [.agg (bC w)] (iv (Uo w)):=by
 refine zC eA (by simp) ?_
 simp[mZ]
 refine ze (jL (w:=w)) (by simp) (by simp) ?_
 unfold Uo
 by_cases h:okB w
 ·simp[h]
  refine xt (RG w) 6 (by simp[RG,wd]) (fun k hk=>?_) ?_
  ·have e:(k:Int)<6:=by omega
   have w1:=zo (show k<4611686018427387904 by omega)
   obtain ⟨a,b⟩:=de (w:=w) k fun j hj=>h j (by omega)
   have b2:=Fr k (by omega)
   obtain ⟨c,d⟩:=h k hk
   have hm1:wd w k*(w k+1)≤15625*5:=Int.mul_le_mul (by omega) (by omega) (by omega) (by omega)
   have hm0:0≤wd w k*(w k+1):=Int.mul_nonneg (by omega) (by omega)
   have w2:IntKind.i64.wrap (w k+1)=w k+1:=by rw[wrap64]<;>omega
   have w3:IntKind.i64.wrap (wd w k*(w k+1))=wd w (k+1):=by rw[wrap64]<;>first | rfl | omega
   simp[tm,RG,e,dC hk,w1,w2,w3]
  ·by_cases h2:1024<wd w 6
   ·simp[tm,RG,qF,h2,t8]
   ·simp[tm,RG,qF,h2,t8]
 ·simp[h,t8]
theorem SQ {s:ByteArray}:wm s=true↔1≤s.size∧s.size≤12∧wK (zB s 0)=true∧∀ i,i<s.size→uh (zB s i)=true:=by
 obtain ⟨r1,r2,r3,r4⟩:=l8 (s:=s) (i:=0) (Nat.zero_le _)
 have hs:s≠⟨#[]⟩↔1≤s.size:=by
  constructor
  ·intro h
   apply Classical.byContradiction
   intro h0
   refine h (ByteArray.ext ?_)
   apply Array.eq_empty_of_size_eq_zero
   have:s.data.size=s.size:=rfl
   omega
  ·rintro h rfl
   exact absurd h (by decide)
 unfold wm
 simp only[Bool.and_eq_true,decide_eq_true_eq,hs]
 constructor
 ·rintro ⟨⟨⟨a,b⟩,c⟩,d⟩
  exact ⟨a,b,c,fun i hi=>r3 i (Nat.zero_le _) (by omega)⟩
 ·rintro ⟨a,b,c,d⟩
  refine ⟨⟨⟨a,b⟩,c⟩,?_⟩
  apply Classical.byContradiction
  intro hne
  have:=r4 (by omega)
  rw[d _ (by omega)] at this
  cases this
theorem a9 {s:ByteArray} (h:¬ (1≤s.size∧s.size≤12∧wK (zB s 0)=true∧∀ i,i<s.size→uh (zB s i)=true)):wm s=false:=by
 cases e:wm s with
 | false=>rfl
 | true=>exact absurd (SQ.1 e) h
def gx (s:ByteArray) (k:Nat):St:={env:=[(0,sbK s),(3,iv k)],sto:=[]}
theorem M1 {s:ByteArray}:zf Try.prog qh [sbK s] (bv (wm s)):=by
 refine zC eI (by simp) ?_
 by_cases h1:s.size<1
 ·have h1':(s.size:Int)<1:=by omega
  rw[a9 fun h=>by omega]
  simp[tQ,h1',xd]
 have h1':¬ (s.size:Int)<1:=by omega
 by_cases h2:12<s.size
 ·have h2':(12:Int)<s.size:=by omega
  rw[a9 fun h=>by omega]
  simp[tQ,h1',h2',xd]
 have h2':¬ (12:Int)<s.size:=by omega
 simp[tQ,h1',h2']
 refine zz (gx s) (fun k=>(0<k→wK (zB s 0)=true)∧∀ i,i<k→uh (zB s i)=true) s.size (by simp[gx]) ⟨fun h=>absurd h (Nat.lt_irrefl 0),fun i hi=>absurd hi (Nat.not_lt_zero i)⟩ (fun k hk hI=>?_) (fun hI=>?_)
 ·have e:(k:Int)<s.size:=by omega
  have w1:=zo (show k<4611686018427387904 by omega)
  have hb:=yV (s:=s) (k:=k)
  have good:uh (zB s k)=true→(k=0→wK (zB s k)=true)→wK (zB s 0)=true∧∀ i,i<k+1→uh (zB s i)=true:=fun h h0=>by
   refine ⟨?_,fun i hi=>?_⟩
   ·by_cases ek:k=0
    ·subst ek; exact h0 rfl
    ·exact hI.1 (by omega)
   ·by_cases ei:i=k
    ·subst ei; exact h
    ·exact hI.2 i (by omega)
  have badI:uh (zB s k)=false→wm s=false:=fun h=>a9 fun hh=>by
   have:=hh.2.2.2 k hk
   rw[h] at this
   cases this
  have badL:k=0→wK (zB s k)=false→wm s=false:=fun ek h=>a9 fun hh=>by
   subst ek
   rw[h] at hh
   cases hh.2.2.1
  have hin:uh (zB s k)=(wK (zB s k)||qN (zB s k)||decide (zB s k=95)):=rfl
  have hle:wK (zB s k)=(decide (97≤zB s k)&&decide (zB s k≤122)):=rfl
  have hdi:qN (zB s k)=(decide (48≤zB s k)&&decide (zB s k≤57)):=rfl
  generalize hcc:zB s k=c at *
  cases hL:wK c with
  | true =>
   have hl2:=hL
   rw[hle,Bool.and_eq_true,decide_eq_true_eq,decide_eq_true_eq] at hl2
   have l1:(97:Int)≤c:=by omega
   have l2:(c:Int)≤122:=by omega
   simp[yy,gx,e,hcc,l1,l2,w1]
   exact good (by rw[hin,hL]; rfl) fun _=>hL
  | false =>
   have hl2:=hL
   rw[hle,Bool.and_eq_false_iff,decide_eq_false_iff_not,decide_eq_false_iff_not] at hl2
   by_cases k0:k=0
   ·have hb:=badL k0 hL
    subst k0
    by_cases l1:(97:Int)≤c
    ·have l2:¬ (c:Int)≤122:=by omega
     simp[yy,gx,hk,hcc,l1,l2,hb,xd]
    ·simp[yy,gx,hk,hcc,l1,hb,xd]
   ·have k0':¬ (k:Int)=0:=by omega
    by_cases c95:c=95
    ·have l1:¬ (97:Int)≤c:=by omega
     have c95':(c:Int)=95:=by omega
     simp[yy,gx,e,hcc,k0,c95',w1]
     exact good (by rw[hin,c95]; decide) fun h=>absurd h k0
    have c95':¬ (c:Int)=95:=by omega
    cases hD:qN c with
    | true =>
     have hd2:=hD
     rw[hdi,Bool.and_eq_true,decide_eq_true_eq,decide_eq_true_eq] at hd2
     have l1:¬ (97:Int)≤c:=by omega
     have d1:¬ (c:Int)<48:=by omega
     have d2:¬ (57:Int)<c:=by omega
     simp[yy,gx,e,hcc,l1,k0,c95',d1,d2,w1]
     exact good (by rw[hin,hL,hD]; rfl) fun h=>absurd h k0
    | false =>
     have hd2:=hD
     rw[hdi,Bool.and_eq_false_iff,decide_eq_false_iff_not,decide_eq_false_iff_not] at hd2
     have hb:=badI (by rw[hin,hL,hD]; simpa using c95)
     by_cases d1:(c:Int)<48
     ·have l1:¬ (97:Int)≤c:=by omega
      simp[yy,gx,e,hcc,l1,k0,c95',d1,hb,xd]
     ·have d2:(57:Int)<c:=by omega
      by_cases l1:(97:Int)≤c
      ·have l2:¬ (c:Int)≤122:=by omega
       simp[yy,gx,e,hcc,l1,l2,k0,c95',d1,d2,hb,xd]
      ·simp[yy,gx,e,hcc,l1,k0,c95',d1,d2,hb,xd]
 ·have hb:wm s=true:=SQ.2 ⟨by omega,by omega,hI.1 (by omega),hI.2⟩
  simp[yy,gx,kL,hb,xd]
def rgP (p:Prd):Bool:=decide (p.su<1)||decide (4<p.su)||decide (p.re<0)||decide (1000000<p.re)||decide (p.po<0)||decide (1000<p.po)||decide (p.gr<0)||decide (4<p.gr)
def vw (l:List Prd) (i:Nat):Int :=
 match l[i]? with
 | none=>0
 | some b=>if wm b.nm=false then 5 else if vM l b.nm≠some i then 7 else if rgP b=true then 4 else 0
def vt (l:List Prd):Int:=if l.length=0 then 1 else if 6<l.length then 3 else (((List.range l.length).map (vw l)).find? fun e=>decide (e≠0)).getD (if 1024<wd (zY l) 6 then 12 else 0)
theorem ZB {f:Nat→Int} {n k:Nat} {d:Int} (hk:k<n) (h0:∀ j,j<k→f j=0) (h1:f k≠0):(((List.range n).map f).find? fun e=>decide (e≠0)).getD d=f k:=by
 have:((List.range n).map f).find? (fun e=>decide (e≠0))=some (f k):=by
  rw[List.find?_eq_some_iff_getElem]
  refine ⟨by simpa using h1,k,by simpa using hk,by simp,fun j hj=>?_⟩
  simp[h0 j hj]
 rw[this]; rfl
theorem Um {l:List Prd} {k:Nat} (n0:l.length≠0) (n6:¬ 6<l.length) (hk:k<l.length) (h0:∀ j,j<k→vw l j=0) (h1:vw l k≠0):vt l=vw l k:=by
 unfold vt
 rw[if_neg n0,if_neg n6]
 exact ZB hk h0 h1
theorem Un {l:List Prd} (n0:l.length≠0) (n6:¬ 6<l.length) (h0:∀ j,j<l.length→vw l j=0):vt l=if 1024<wd (zY l) 6 then 12 else 0:=by
 unfold vt
 rw[if_neg n0,if_neg n6]
 have:((List.range l.length).map (vw l)).find? (fun e=>decide (e≠0))=none:=by
  rw[List.find?_eq_none]
  intro e he
  simp only[List.mem_map,List.mem_range] at he
  obtain ⟨j,hj,rfl⟩:=he
  simp[h0 j hj]
 rw[this]; rfl
theorem Xo {l:List Prd} {i:Nat} (hi:i<l.length) (h:vM (l.take i) l[i].nm=none):vM l l[i].nm=some i:=by
 have h1:=Xn h
 unfold vM
 rw[List.findIdx?_eq_some_iff_getElem]
 refine ⟨hi,by simp,fun j hj=>?_⟩
 have:=h1 j (by simp; omega)
 simp only[List.getElem_take] at this
 simpa using this
theorem Xp {l:List Prd} {i j:Nat} (hi:i<l.length) (h:vM (l.take i) l[i].nm=some j):vM l l[i].nm≠some i:=by
 obtain ⟨h1,h2,_⟩:=jn h
 intro e
 obtain ⟨_,_,g3⟩:=jn e
 simp only[List.length_take] at h1
 simp only[List.getElem_take] at h2
 exact g3 j (by omega) h2
structure PF (p:Prd):Prop where
 s1:1≤p.su
 s4:p.su≤4
 r0:0≤p.re
 r1:p.re≤1000000
 p0:0≤p.po
 p1:p.po≤1000
 g0:0≤p.gr
 g4:p.gr≤4
theorem Gl {p:Prd} (h:rgP p=false):PF p:=by
 simp only[rgP,Bool.or_eq_false_iff,decide_eq_false_iff_not] at h
 obtain ⟨⟨⟨⟨⟨⟨⟨a,b⟩,c⟩,d⟩,e⟩,f⟩,g⟩,i⟩:=h
 exact ⟨by omega,by omega,by omega,by omega,by omega,by omega,by omega,by omega⟩
theorem nr {l:List Prd} {k:Nat} (hk:k<l.length) (h:vw l k=0):wm l[k].nm=true∧vM l l[k].nm=some k∧PF l[k]:=by
 unfold vw at h
 rw[List.getElem?_eq_getElem hk] at h
 simp only at h
 split at h
 ·cases h
 rename_i h1
 split at h
 ·cases h
 rename_i h2
 split at h
 ·cases h
 rename_i h3
 exact ⟨by simpa using h1,by simpa using h2,Gl (by simpa using h3)⟩
theorem Zs {l:List Prd} {k:Nat} (hk:k<l.length):zY l k=l[k].su:=by simp[zY,hk]
theorem Zr {l:List Prd} {k:Nat} (hk:l.length≤k):zY l k=0:=by simp[zY,hk]
theorem ey {l:List Prd} (h0:∀ j,j<l.length→vw l j=0):∀ j,0≤zY l j∧zY l j≤4:=fun j=>by
 by_cases h:j<l.length
 ·rw[Zs h]
  have:=(nr h (h0 j h)).2.2
  exact ⟨by have:=this.s1; omega,this.s4⟩
 ·rw[Zr (by omega)]; omega
section
variable {m:Am.Mode} {l:List Prd} (hn:l.length<4611686018427387904) (hs:∀ b∈l,b.nm.size<4611686018427387904) (f:stm m=m)
include hn hs f
def XO (m:Am.Mode) (l:List Prd) (k:Nat):St:={env:=[(0,.list 5 m (xL l)),(15,.list 5 m (xL l)),(16,iv l.length),(17,iv k)],sto:=[]}
theorem Y9:zf Try.prog uF [.list 5 m (xL l)] (iv (vt l)):=by
 refine zC fo (by simp) ?_
 by_cases n0:l.length=0
 ·have n0':l=[]:=List.eq_nil_of_length_eq_zero n0
  simp[uK,n0',yt,vt]
 have n0':¬ l=[]:=fun h=>n0 (by rw[h]; rfl)
 by_cases n6:6<l.length
 ·have n6':(6:Int)<l.length:=by omega
  simp[uK,n0',n6',yt,vt,n6]
 have n6':¬ (6:Int)<l.length:=by omega
 simp[uK,n0',n6']
 refine eZ (XO m l) (fun k=>∀ j,j<k→vw l j=0) l.length ?_ (fun j hj=>by omega) (fun k hk hi=>?_) (fun hi=>?_)
 ·simp[XO]
 ·have e:(k:Int)<l.length:=by omega
  have hat:=Um n0 n6 hk hi
  have hE:vw l k=if wm l[k].nm=false then 5 else if vM l l[k].nm≠some k then 7 else if rgP l[k]=true then 4 else 0:=by
   unfold vw; rw[List.getElem?_eq_getElem hk]
  have hnext:vw l k=0→∀ j,j<k+1→vw l j=0:=fun h j hj=>by
   by_cases ej:j=k
   ·rw[ej]; exact h
   ·exact hi j (by omega)
  simp[rM,XO,e,hk,zj,splice]
  refine ze (SP (s:=l[k].nm) (hs _ (List.getElem_mem _))) (by simp) (by simp) ?_
  cases h1:wm l[k].nm
  ·simp[h1] at hE
   simp[yt,hat (by omega),hE]
  ·simp[ug]
   refine ⟨by omega,?_⟩
   refine ze (Mo (m:=.plain) (l:=l.take k) (s:=l[k].nm) (by simp; omega)) (by simp) (by simp) ?_
   cases h2:vM (l.take k) l[k].nm with
   | some j =>
    have h3:=Xp hk h2
    simp[h1,h3] at hE
    simp[fdR,yt,hat (by omega),hE]
   | none =>
    have h3:=Xo hk h2
    simp[h1,h3] at hE
    simp[fdR]
    refine ze (gO (n:=l[k].su) (a:=1) (b:=4)) (by simp) (by simp) ?_
    by_cases c1:l[k].su<1∨4<l[k].su
    ·have hr:rgP l[k]=true:=by simp only[rgP,Bool.or_eq_true,decide_eq_true_eq]; omega
     have hb:(decide (1≤l[k].su)&&decide (l[k].su≤4))=false:=by
      rw[Bool.and_eq_false_iff,decide_eq_false_iff_not,decide_eq_false_iff_not]; omega
     simp[hr] at hE
     rw[hb]
     simp[yt,hat (by omega),hE]
    have hb:(decide (1≤l[k].su)&&decide (l[k].su≤4))=true:=by
     rw[Bool.and_eq_true,decide_eq_true_eq,decide_eq_true_eq]; omega
    rw[hb]
    simp
    refine ze (gO (n:=l[k].re) (a:=0) (b:=1000000)) (by simp) (by simp) ?_
    by_cases c2:l[k].re<0∨1000000<l[k].re
    ·have hr:rgP l[k]=true:=by simp only[rgP,Bool.or_eq_true,decide_eq_true_eq]; omega
     have hb:(decide (0≤l[k].re)&&decide (l[k].re≤1000000))=false:=by
      rw[Bool.and_eq_false_iff,decide_eq_false_iff_not,decide_eq_false_iff_not]; omega
     simp[hr] at hE
     rw[hb]
     simp[yt,hat (by omega),hE]
    have hb:(decide (0≤l[k].re)&&decide (l[k].re≤1000000))=true:=by
     rw[Bool.and_eq_true,decide_eq_true_eq,decide_eq_true_eq]; omega
    rw[hb]
    simp
    refine ze (gO (n:=l[k].po) (a:=0) (b:=1000)) (by simp) (by simp) ?_
    by_cases c3:l[k].po<0∨1000<l[k].po
    ·have hr:rgP l[k]=true:=by simp only[rgP,Bool.or_eq_true,decide_eq_true_eq]; omega
     have hb:(decide (0≤l[k].po)&&decide (l[k].po≤1000))=false:=by
      rw[Bool.and_eq_false_iff,decide_eq_false_iff_not,decide_eq_false_iff_not]; omega
     simp[hr] at hE
     rw[hb]
     simp[yt,hat (by omega),hE]
    have hb:(decide (0≤l[k].po)&&decide (l[k].po≤1000))=true:=by
     rw[Bool.and_eq_true,decide_eq_true_eq,decide_eq_true_eq]; omega
    rw[hb]
    simp
    refine ze (gO (n:=l[k].gr) (a:=0) (b:=4)) (by simp) (by simp) ?_
    by_cases c4:l[k].gr<0∨4<l[k].gr
    ·have hr:rgP l[k]=true:=by simp only[rgP,Bool.or_eq_true,decide_eq_true_eq]; omega
     have hb:(decide (0≤l[k].gr)&&decide (l[k].gr≤4))=false:=by
      rw[Bool.and_eq_false_iff,decide_eq_false_iff_not,decide_eq_false_iff_not]; omega
     simp[hr] at hE
     rw[hb]
     simp[yt,hat (by omega),hE]
    have hb:(decide (0≤l[k].gr)&&decide (l[k].gr≤4))=true:=by
     rw[Bool.and_eq_true,decide_eq_true_eq,decide_eq_true_eq]; omega
    have hr:rgP l[k]=false:=by
     simp only[rgP,Bool.or_eq_false_iff,decide_eq_false_iff_not]; omega
    simp[hr] at hE
    rw[hb]
    simp[zo (show k<4611686018427387904 by omega)]
    exact ⟨by simp[XO],hnext hE⟩
 ·have hck:=Un n0 n6 hi
  have hW:=ey hi
  have hokB:okB (zY l):=fun j _=>hW j
  have hpos:=(de (w:=zY l) 6 fun j _=>hW j).1
  simp[rM,XO,lP]
  refine ze (lH (m:=m) hn) (by simp[f]) (by simp) ?_
  simp
  refine ze (FS (w:=zY l)) (by simp) (by simp) ?_
  by_cases h9:1024<wd (zY l) 6
  ·have hz:Uo (zY l)=0:=by unfold Uo; rw[if_pos hokB,if_pos h9]
   rw[if_pos h9] at hck
   simp[hz,yt,hck]
  ·have hz:¬ Uo (zY l)=0:=by unfold Uo; rw[if_pos hokB,if_neg h9]; omega
   rw[if_neg h9] at hck
   simp[hz,yt,hck]
end
section
variable {m:Am.Mode} {l:List Prd} (hn:l.length<4611686018427387904)
include hn
def XP (m:Am.Mode) (l:List Prd) (k:Nat):St:={env:=[(0,.list 5 m (xL l)),(3,iv k)],sto:=[]}
def qy (m:Am.Mode) (l:List Prd) (i k:Nat):St:={env:=[(0,.list 5 m (xL l)),(3,iv i),(4,iv k)],sto:=[]}
def XQ (m:Am.Mode) (l:List Prd) (k:Nat):St:={env:=[(0,.list 5 m (xL l)),(6,iv (wd (zY l) k)),(7,iv k)],sto:=[]}
theorem ZM:zf Try.prog sG [.list 5 m (xL l)] (iv (vt l)):=by
 refine zC cu (by simp) ?_
 by_cases n0:l.length=0
 ·have n0':l=[]:=List.eq_nil_of_length_eq_zero n0
  simp[sM,n0',z7,vt]
 have n0':¬ l=[]:=fun h=>n0 (by rw[h]; rfl)
 by_cases n6:6<l.length
 ·have n6':(6:Int)<l.length:=by omega
  simp[sM,n0',n6',z7,vt,n6]
 have n6':¬ (6:Int)<l.length:=by omega
 simp[sM,n0',n6']
 refine eZ (XP m l) (fun k=>∀ j,j<k→vw l j=0) l.length ?_ (fun j hj=>by omega) (fun k hk hi=>?_) (fun hi=>?_)
 ·simp[XP]
 ·have e:(k:Int)<l.length:=by omega
  have hat:=Um n0 n6 hk hi
  have hE:vw l k=if wm l[k].nm=false then 5 else if vM l l[k].nm≠some k then 7 else if rgP l[k]=true then 4 else 0:=by
   unfold vw; rw[List.getElem?_eq_getElem hk]
  have hnext:vw l k=0→∀ j,j<k+1→vw l j=0:=fun h j hj=>by
   by_cases ej:j=k
   ·rw[ej]; exact h
   ·exact hi j (by omega)
  simp[pU,XP,e,hk]
  refine ze (M1 (s:=l[k].nm)) (by simp) (by simp) ?_
  cases h1:wm l[k].nm
  ·simp[h1] at hE
   simp[z7,hat (by omega),hE]
  ·simp
   refine zz (qy m l k) (fun j=>∀ q,q<j→∀ h:q<l.length,l[q].nm≠l[k].nm) k (by simp[qy]) (fun q hq=>absurd hq (Nat.not_lt_zero q)) (fun j hj hI=>?_) (fun hI=>?_)
   ·have ej:(j:Int)<k:=by omega
    have ej2:(j:Int)<l.length:=by omega
    have hj2:j<l.length:=by omega
    have w1:=zo (show j<4611686018427387904 by omega)
    by_cases hnm:l[j].nm=l[k].nm
    ·have h3:vM l l[k].nm≠some k:=fun h=>(jn h).2.2 j hj hnm
     simp[h1,h3] at hE
     simp[yi,qy,ej,ej2,hj2,e,hk,hnm,z7,hat (by omega),hE]
    ·simp[yi,qy,ej,ej2,hj2,e,hk,hnm,w1]
     intro q hq h
     by_cases eq:q=j
     ·subst eq; exact hnm
     ·exact hI q (by omega) h
   ·have h3:vM l l[k].nm=some k:=by
     unfold vM
     rw[List.findIdx?_eq_some_iff_getElem]
     exact ⟨hk,by simp,fun j hj=>by simpa using hI j hj (by omega)⟩
    simp[h1,h3] at hE
    simp only[rgP,Bool.or_eq_true,decide_eq_true_eq] at hE
    by_cases c1:l[k].su<1
    ·simp[c1] at hE
     simp[yi,qy,yG,yH,e,hk,zj,splice,c1,z7,hat (by omega),hE]
    by_cases c2:4<l[k].su
    ·simp[c1,c2] at hE
     simp[yi,qy,yG,yH,e,hk,zj,splice,c1,c2,z7,hat (by omega),hE]
    by_cases c3:l[k].re<0
    ·simp[c1,c2,c3] at hE
     simp[yi,qy,yG,yH,e,hk,zj,splice,c1,c2,c3,z7,hat (by omega),hE]
    by_cases c4:1000000<l[k].re
    ·simp[c1,c2,c3,c4] at hE
     simp[yi,qy,yG,yH,e,hk,zj,splice,c1,c2,c3,c4,z7,hat (by omega),hE]
    by_cases c5:l[k].po<0
    ·simp[c1,c2,c3,c4,c5] at hE
     simp[yi,qy,yG,yH,e,hk,zj,splice,c1,c2,c3,c4,c5,z7,hat (by omega),hE]
    by_cases c6:1000<l[k].po
    ·simp[c1,c2,c3,c4,c5,c6] at hE
     simp[yi,qy,yG,yH,e,hk,zj,splice,c1,c2,c3,c4,c5,c6,z7,hat (by omega),hE]
    by_cases c7:l[k].gr<0
    ·simp[c1,c2,c3,c4,c5,c6,c7] at hE
     simp[yi,qy,yG,yH,e,hk,zj,splice,c1,c2,c3,c4,c5,c6,c7,z7,hat (by omega),hE]
    by_cases c8:4<l[k].gr
    ·simp[c1,c2,c3,c4,c5,c6,c7,c8] at hE
     simp[yi,qy,yG,yH,e,hk,zj,splice,c1,c2,c3,c4,c5,c6,c7,c8,z7,hat (by omega),hE]
    simp[c1,c2,c3,c4,c5,c6,c7,c8] at hE
    simp[yi,qy,yG,yH,e,hk,zj,splice,c1,c2,c3,c4,c5,c6,c7,c8,zo (show k<4611686018427387904 by omega)]
    exact ⟨by simp[XP],hnext hE⟩
 ·have hck:=Un n0 n6 hi
  have hW:=ey hi
  simp[pU,XP,jQ]
  refine xt (XQ m l) l.length (by simp[XQ,wd]) (fun k hk=>?_) ?_
  ·have e:(k:Int)<l.length:=by omega
   have w1:=zo (show k<4611686018427387904 by omega)
   obtain ⟨a,b⟩:=de (w:=zY l) k fun j hj=>hW j
   have b2:=Fr k (by omega)
   obtain ⟨c,d⟩:=hW k
   have hsu:=Zs hk
   have hm1:wd (zY l) k*(zY l k+1)≤15625*5:=Int.mul_le_mul (by omega) (by omega) (by omega) (by omega)
   have hm0:0≤wd (zY l) k*(zY l k+1):=Int.mul_nonneg (by omega) (by omega)
   have w2:IntKind.i64.wrap (zY l k+1)=zY l k+1:=by rw[wrap64]<;>omega
   have w3:IntKind.i64.wrap (wd (zY l) k*(zY l k+1))=wd (zY l) (k+1):=by rw[wrap64]<;>first | rfl | omega
   rw[hsu] at w2 w3
   simp[sm,XQ,e,hk,w1,w2,w3]
  ·have h6:wd (zY l) l.length=wd (zY l) 6:=by
    have:=Ta (w:=zY l) (n:=l.length) (fun j hj=>Zr hj) (6-l.length)
    rw[← this]; congr 1; omega
   by_cases h9:1024<wd (zY l) 6
   ·rw[if_pos h9] at hck
    simp[sm,XQ,pT,h6,h9,z7,hck]
   ·rw[if_neg h9] at hck
    simp[sm,XQ,pT,h6,h9,z7,hck]
end
def usW (l:List Prd) (wt:Prd→Int) (k:Nat):Int:=((l[k]?).map wt).getD 0
def usK (l:List Prd) (w:Nat→Int) (wt:Prd→Int):Nat→Int
 | 0=>0
 | k+1=>usK l w wt k+w k*usW l wt k
def usE (l:List Prd) (w:Nat→Int) (wt:Prd→Int):Int:=if vt l=0∧okB w then usK l w wt l.length else 0
theorem R8 {l:List Prd} {wt:Prd→Int} {k:Nat} (hk:k<l.length):usW l wt k=wt l[k]:=by simp[usW,hk]
theorem sf {l:List Prd} (h:vt l=0):l.length≠0∧l.length≤6∧(∀ j,j<l.length→vw l j=0)∧wd (zY l) 6≤1024:=by
 have n0:l.length≠0:=fun e=>by unfold vt at h; rw[if_pos e] at h; cases h
 have n6:¬ 6<l.length:=fun e=>by unfold vt at h; rw[if_neg n0,if_pos e] at h; cases h
 have hz:∀ j,j<l.length→vw l j=0:=by
  apply Classical.byContradiction
  intro hne
  have:∃ j,j<l.length∧vw l j≠0:=by
   apply Classical.byContradiction
   intro h2
   exact hne fun j hj=>Classical.byContradiction fun h3=>h2 ⟨j,hj,h3⟩
  obtain ⟨j,hj,hje⟩:=this
  have:∃ k,k<l.length∧(∀ i,i<k→vw l i=0)∧vw l k≠0:=by
   induction j using Nat.strongRecOn with
   | ind j ih =>
    by_cases h3:∀ i,i<j→vw l i=0
    ·exact ⟨j,hj,h3,hje⟩
    ·obtain ⟨i,hi⟩:=Classical.not_forall.1 h3
     obtain ⟨hi1,hi2⟩:=Classical.not_imp.1 hi
     exact ih i hi1 (by omega) hi2
  obtain ⟨k,hk,h4,h5⟩:=this
  rw[Um n0 n6 hk h4 h5] at h
  exact h5 h
 refine ⟨n0,by omega,hz,?_⟩
 have:=Un n0 n6 hz
 rw[h] at this
 apply Classical.byContradiction
 intro h9
 rw[if_pos (by omega)] at this
 cases this
theorem lv {l:List Prd} {w:Nat→Int} {wt:Prd→Int} (hw:∀ j,j<6→0≤w j∧w j≤4) (hb:∀ j (h:j<l.length),0≤wt l[j]∧wt l[j]≤1000000) (h6:l.length≤6):∀ k,k≤l.length→0≤usK l w wt k∧usK l w wt k≤k*4000000
 | 0,_=>⟨Int.le_refl 0,by simp[usK]⟩
 | k+1,h=>by
  obtain ⟨a,b⟩:=lv hw hb h6 k (by omega)
  obtain ⟨c,d⟩:=hw k (by omega)
  obtain ⟨e,f⟩:=hb k (by omega)
  have hm0:0≤w k*wt l[k]:=Int.mul_nonneg c e
  have hm1:w k*wt l[k]≤4*1000000:=Int.mul_le_mul d f e (by omega)
  show 0≤usK l w wt k+w k*usW l wt k∧usK l w wt k+w k*usW l wt k≤_
  rw[R8 (by omega)]
  omega
theorem Nc {x:AV} {w:Nat→Int}:zx (x::bC w) 1 (some 6)=some (.agg (bC w)):=by
 rw[yQ]; rfl
section
variable {m:Am.Mode} {l:List Prd} {w:Nat→Int} {wt:Prd→Int} {F:FuncId} {caps:List AV}
noncomputable def RL (m:Am.Mode) (l:List Prd) (w:Nat→Int) (wt:Prd→Int) (F:FuncId) (caps:List AV) (k:Nat):St :=
 {env:=[(1,.fn (.func F) caps),(2,.ptr 2 0),(5,iv (usK l w wt k)),(19,.list 5 m (xL l)),(20,iv l.length),(21,iv k)],sto:=[(2,.var (.list 5 m (xL l)::bC w))]}
theorem KE (hn:l.length<4611686018427387904) (hs:∀ b∈l,b.nm.size<4611686018427387904) (f:stm m=m) (hF:xY Try.prog F=true) (hwt:∀ p,zf Try.prog F (.agg (Rh p)::caps) (iv (wt p)))
  (hc:∀ σ,yA (w8 σ) caps=some caps) (hr:∀ x∈caps,∃ g,x=.ro [iv g]) (hb:∀ p,PF p→0≤wt p∧wt p≤1000000) :
  zf Try.prog xn [.agg (.list 5 m (xL l)::bC w),.fn (.func F) caps] (iv (usE l w wt)):=by
 refine zC nv (by simp) ?_
 simp[tI]
 refine ze (Y9 hn hs f) (by simp[f]) (by simp) ?_
 by_cases h1:vt l=0
 rotate_left
 ·have hz:usE l w wt=0:=if_neg fun h=>h1 h.1
  simp[h1,hz,x8]
 simp[h1,Nc]
 refine ze (jL (w:=w)) (by simp) (by simp) ?_
 by_cases h2:okB w
 rotate_left
 ·have hz:usE l w wt=0:=if_neg fun h=>h2 h.2
  simp[h2,hz,x8]
 obtain ⟨n0,n6,hP,_⟩:=sf h1
 have hbk:∀ j (h:j<l.length),0≤wt l[j]∧wt l[j]≤1000000:=fun j h=>hb _ (nr h (hP j h)).2.2
 simp[h2]
 refine xt (RL m l w wt F caps) l.length (by simp[RL,usK]) (fun k hk=>?_) ?_
 ·have e:(k:Int)<l.length:=by omega
  have w1:=zo (show k<4611686018427387904 by omega)
  obtain ⟨a,b⟩:=lv h2 hbk n6 k (by omega)
  obtain ⟨a2,b2⟩:=lv h2 hbk n6 (k+1) (by omega)
  obtain ⟨c,d⟩:=h2 k (by omega)
  obtain ⟨c2,d2⟩:=hbk k hk
  have hm0:0≤w k*wt l[k]:=Int.mul_nonneg c c2
  have hm1:w k*wt l[k]≤4*1000000:=Int.mul_le_mul d d2 c2 (by omega)
  have hsum:usK l w wt k+w k*wt l[k]=usK l w wt (k+1):=by show _=usK l w wt k+w k*usW l wt k; rw[R8 hk]
  have w2:IntKind.i64.wrap (w k*wt l[k])=w k*wt l[k]:=by rw[wrap64]<;>omega
  have w3:IntKind.i64.wrap (usK l w wt k+w k*wt l[k])=usK l w wt (k+1):=by rw[hsum,wrap64]<;>omega
  have hk6:k<6:=by omega
  have hk6':(k:Int)<6:=by omega
  have hget:(AV.list 5 m (xL l)::bC w)[1+k]?=some (iv (w k)):=by rw[Nat.add_comm]; simp[YR hk6]
  simp[ua,RL,e,hk,hk6',zj,splice,hF,hget]
  refine ze (hwt l[k]) (by simp[hc]) (by simp) ?_
  simp[w1,w2,w3]
  refine ⟨fun x hx=>?_,by simp[RL]⟩
  obtain ⟨g,rfl⟩:=hr x hx
  rfl
 ·have hz:usE l w wt=usK l w wt l.length:=if_pos ⟨h1,h2⟩
  simp[ua,RL,rH,hz,x8]
theorem NA {p:Prd}:zf Try.prog um [.agg (Rh p)] (iv p.re):=by
 refine zC mW (by simp) ?_
 simp[rh,zx,rj]
def grW (g:Int) (p:Prd):Int:=if p.gr=g then 1 else 0
theorem Fh {g:Int} {p:Prd}:zf Try.prog vz [.agg (Rh p),.ro [iv g]] (iv (grW g p)):=by
 refine zC kP (by simp) ?_
 by_cases h:p.gr=g
 ·simp[tn,zx,tu,grW,h]
 ·simp[tn,zx,tu,grW,h]
theorem Et:xY Try.prog um=true:=by kernel_rfl
theorem Eu:xY Try.prog vz=true:=by kernel_rfl
theorem Pk:xY Try.prog xn=true:=by kernel_rfl
theorem TB {x:AV}:splice [x,iv 0,iv 0,iv 0,iv 0,iv 0,iv 0] 1 (bC w)=x::bC w:=by rw[yQ]; rfl
theorem LP (hn:l.length<4611686018427387904) (hs:∀ b∈l,b.nm.size<4611686018427387904) (f:stm m=m):zf Try.prog vy [.list 5 m (xL l),.agg (bC w)] (iv (usE l w fun p=>p.re)):=by
 have k:=KE (w:=w) (wt:=fun p=>p.re) (caps:=[]) hn hs f Et (fun p=>NA) (fun σ=>rfl) (fun x hx=>by cases hx) fun p h=>⟨h.r0,h.r1⟩
 refine zC kO (by simp) ?_
 simp[qG,Pk,TB,f]
 refine ze k (by simp) (by simp) ?_
 simp[qO]
theorem Dd {g:Int} (hn:l.length<4611686018427387904) (hs:∀ b∈l,b.nm.size<4611686018427387904) (f:stm m=m):zf Try.prog uG [.list 5 m (xL l),iv g,.agg (bC w)] (iv (usE l w (grW g))):=by
 have k:=KE (w:=w) (wt:=grW g) (caps:=[.ro [iv g]]) hn hs f Eu (fun p=>Fh) (fun σ=>rfl) (fun x hx=>⟨g,by simpa using hx⟩) fun p h=>by unfold grW; split<;>omega
 refine zC fp (by simp) ?_
 simp[nR,Pk,TB,f]
 refine ze k (by simp[lL]) (by simp) ?_
 simp[mA]
end
section
variable {m:Am.Mode} {l:List Prd} {w:Nat→Int} {g:Int}
noncomputable def UR (m:Am.Mode) (l:List Prd) (k:Nat):St:={env:=[(0,.list 5 m (xL l)),(2,.ptr 2 0),(3,.ptr 3 0),(4,iv k)],sto:=[(2,.var (bC fun _=>0)),(3,.var (bC (we l k)))]}
theorem b9 (hn:l.length<4611686018427387904):zf Try.prog tD [.list 5 m (xL l)] (.agg (bC (zY l))):=by
 refine zC eJ (by simp) ?_
 simp[m7]
 have z:[iv 0,iv 0,iv 0,iv 0,iv 0,iv 0]=bC fun _=>0:=by rw[yQ]
 have z0:(fun _=>(0:Int))=we l 0:=rfl
 refine xt (UR m l) (min l.length 6) (by simp[UR,← z0,← z]) (fun k hk=>?_) ?_
 ·have e:(k:Int)<l.length:=by omega
  have hkl:k<l.length:=by omega
  have h6:k<6:=by omega
  have h6':(k:Int)<6:=by omega
  have h5:k≤5:=by omega
  have w1:=zo (show k<4611686018427387904 by omega)
  have hs:∀ j,j<6→(if j=k then l[k].su else we l k j)=we l (k+1) j:=fun j hj=>by
   unfold we zY
   by_cases e1:j=k
   ·subst e1; rw[if_pos rfl,if_pos (by omega)]; simp[hkl]
   ·rw[if_neg e1]
    by_cases e2:j<k
    ·rw[if_pos e2,if_pos (by omega)]
    ·rw[if_neg e2,if_neg (by omega)]
  have hset:splice (bC (we l k)) k [iv l[k].su]=bC (we l (k+1)):=by rw[nN h6]; exact xy hs
  simp[vD,UR,e,hkl,h6',h5,w1,hset]
 ·have hall:bC (we l (min l.length 6))=bC (zY l):=xy fun j hj=>by
   unfold we
   by_cases h:j<min l.length 6
   ·rw[if_pos h]
   ·rw[if_neg h,Zr (by omega)]
  by_cases h6:l.length<6
  ·have hm:min l.length 6=l.length:=by omega
   rw[hm] at hall
   simp[vD,tp,UR,hm,hall,t9]
  ·have hm:min l.length 6=6:=by omega
   rw[hm] at hall
   by_cases h7:(6:Int)<l.length
   ·simp[vD,tp,UR,hm,hall,h7,t9]
   ·simp[vD,tp,UR,hm,hall,h7,t9]
def XW (m:Am.Mode) (l:List Prd) (w:Nat→Int) (g:Int) (k:Nat):St :=
 {env:=[(0,.list 5 m (xL l)),(1,iv g),(5,.ptr 5 0),(9,iv (usK l w (fun p=>p.po) k)),(10,iv (usK l w (fun p=>p.re) k)),(11,iv (usK l w (grW g) k)),(12,iv k)],sto:=[(5,.var (bC w))]}
def XX (m:Am.Mode) (l:List Prd) (w:Nat→Int) (g:Int) (k:Nat) (p:Prd) (j:Nat):St :=
 {env:=[(0,.list 5 m (xL l)),(1,iv g),(5,.ptr 5 0),(9,iv (usK l w (fun p=>p.po) k+j*p.po)),(10,iv (usK l w (fun p=>p.re) k+j*p.re)),(11,iv (usK l w (grW g) k+j*grW g p)),(12,iv k),(13,iv j)],sto:=[(5,.var (bC w))]}
theorem Pt (hn:l.length<4611686018427387904) (f:stm m=m) :
  zf Try.prog tC [.list 5 m (xL l),iv g,.agg (bC w)] (.tuple [iv (usE l w fun p=>p.po),iv (usE l w fun p=>p.re),iv (usE l w (grW g))]):=by
 refine zC aD (by simp) ?_
 simp[jR]
 refine ze (ZM (m:=m) (l:=l) hn) (by simp[f]) (by simp) ?_
 by_cases h1:vt l=0
 rotate_left
 ·have hz:∀ wt,usE l w wt=0:=fun wt=>if_neg fun h=>h1 h.1
  simp[h1,hz,qa]
 simp[h1]
 refine ze (YC (w:=w)) (by simp) (by simp) ?_
 by_cases h2:okB w
 rotate_left
 ·have hz:∀ wt,usE l w wt=0:=fun wt=>if_neg fun h=>h2 h.2
  simp[h2,hz,qa]
 have hz:∀ wt,usE l w wt=usK l w wt l.length:=fun wt=>if_pos ⟨h1,h2⟩
 obtain ⟨n0,n6,hP,_⟩:=sf h1
 simp[h2]
 have hpo:∀ j (h:j<l.length),0≤l[j].po∧l[j].po≤1000000:=fun j h=>by have:=(nr h (hP j h)).2.2; exact ⟨this.p0,by have:=this.p1; omega⟩
 have hre:∀ j (h:j<l.length),0≤l[j].re∧l[j].re≤1000000:=fun j h=>by have:=(nr h (hP j h)).2.2; exact ⟨this.r0,this.r1⟩
 have hgr:∀ j (h:j<l.length),0≤grW g l[j]∧grW g l[j]≤1000000:=fun j h=>by unfold grW; split<;>omega
 refine xt (XW m l w g) l.length (by simp[XW,usK]) (fun k hk=>?_) ?_
 ·have e:(k:Int)<l.length:=by omega
  have hk6:k<6:=by omega
  have hk6':(k:Int)<6:=by omega
  have hk5:k≤5:=by omega
  have w1:=zo (show k<4611686018427387904 by omega)
  obtain ⟨a1,b1⟩:=lv (wt:=fun p=>p.po) h2 hpo n6 k (by omega)
  obtain ⟨a2,b2⟩:=lv (wt:=fun p=>p.re) h2 hre n6 k (by omega)
  obtain ⟨a3,b3⟩:=lv (wt:=grW g) h2 hgr n6 k (by omega)
  obtain ⟨c,d⟩:=h2 k (by omega)
  have hp1:=hpo k hk
  have hp2:=hre k hk
  have hp3:=hgr k hk
  obtain ⟨N,hN⟩:∃ N:Nat,w k=N:=⟨(w k).toNat,by omega⟩
  have key:∀ (wt:Prd→Int),usK l w wt (k+1)=usK l w wt k+N*wt l[k]:=fun wt=>by
   show usK l w wt k+w k*usW l wt k=_
   rw[R8 hk,hN]
  simp[ma,XW,e]
  refine xt (XX m l w g k l[k]) N (by simp[XX]) (fun j hj=>?_) ?_
  ·have ej:(j:Int)<N:=by omega
   have w2:=zo (show j<4611686018427387904 by omega)
   have step:∀ (x v:Int),0≤x→x≤k*4000000→0≤v→v≤1000000→IntKind.i64.wrap (x+j*v+v)=x+((j:Int)+1)*v:=fun x v hx1 hx2 hv1 hv2=>by
    have h1:0≤(j:Int)*v:=Int.mul_nonneg (by omega) hv1
    have h2:(j:Int)*v≤4*1000000:=Int.mul_le_mul (by omega) hv2 hv1 (by omega)
    have h3:((j:Int)+1)*v=j*v+v:=by rw[Int.add_mul]; simp
    rw[h3,wrap64]<;>omega
   have s1:=step _ _ a1 b1 hp1.1 hp1.2
   have s2:=step _ _ a2 b2 hp2.1 hp2.2
   have s3:=step _ _ a3 b3 hp3.1 hp3.2
   by_cases hg:l[k].gr=g
   ·have hgw:grW g l[k]=1:=if_pos hg
    simp[rx,XX,e,hk,hk6',yW hk6,hN,ej,hg]
    rw[hgw] at s3 ⊢
    exact ⟨s1,s2,s3,by simpa using w2⟩
   ·have hgw:grW g l[k]=0:=if_neg hg
    simp[rx,XX,e,hk,hk6',yW hk6,hN,ej,hg]
    rw[hgw]
    exact ⟨s1,s2,by simp,by simpa using w2⟩
  ·simp[rx,XX,hk6',yW hk6,hN,gR,w1,XW,key]
 ·simp[ma,XW,gS,hz,qa]
end
structure T3 where
 a:Int
 b:Int
 c:Int
abbrev U1 (t:T3):List AV:=[iv t.a,iv t.b,iv t.c]
abbrev mM (l:List T3):List (List AV):=l.map U1
structure Stp where
 pd:List Prd
 bd:List Bid
 cp:List T3
 sa:List T3
abbrev suC (S:Stp):List AV:=[.list 5 .plain (xL S.pd),.list 4 .plain (sI S.bd),.list 3 .plain (mM S.cp),.list 3 .plain (mM S.sa)]
def vF (f:Nat→Int) (n:Nat):Int:=(((List.range n).map f).find? fun e=>decide (e≠0)).getD 0
theorem rY {f:Nat→Int} {n k:Nat} (hk:k<n) (h0:∀ j,j<k→f j=0) (h1:f k≠0):vF f n=f k:=ZB hk h0 h1
theorem nj {f:Nat→Int} {n:Nat} (h0:∀ j,j<n→f j=0):vF f n=0:=by
 unfold vF
 have:((List.range n).map f).find? (fun e=>decide (e≠0))=none:=by
  rw[List.find?_eq_none]
  intro e he
  simp only[List.mem_map,List.mem_range] at he
  obtain ⟨j,hj,rfl⟩:=he
  simp[h0 j hj]
 rw[this]; rfl
theorem Qs {f:Nat→Int} {n:Nat} (h:vF f n=0):∀ j,j<n→f j=0:=by
 intro j hj
 induction j using Nat.strongRecOn with
 | ind j ih =>
  apply Classical.byContradiction
  intro hne
  rw[rY hj (fun i hi=>ih i hi (by omega)) hne] at h
  exact hne h
def Ym (l:List T3) (i:Nat) (c:T3):Bool:=(l.take i).any fun d=>decide (d.a=c.a)&&decide (d.b=c.b)
def Yl (l:List T3) (i:Nat) (c:T3):Bool:=(l.take i).any fun d=>decide (d.a=c.a)
theorem bq {l:List T3} {p:T3→Bool} {i j:Nat} (hj:j<i) (hl:j<l.length) (h:p l[j]=true):(l.take i).any p=true:=by
 rw[List.any_eq_true]
 refine ⟨l[j],?_,h⟩
 rw[List.mem_iff_getElem]
 exact ⟨j,by simp; omega,by simp⟩
theorem Xg {l:List T3} {p:T3→Bool} {i:Nat} (h:∀ j,j<i→∀ hl:j<l.length,p l[j]=false):(l.take i).any p=false:=by
 rw[List.any_eq_false]
 intro x hx
 obtain ⟨j,hj,rfl⟩:=List.mem_iff_getElem.1 hx
 simp only[List.length_take] at hj
 simp only[List.getElem_take]
 rw[h j (by omega) (by omega)]
 decide
def cpE (S:Stp) (i:Nat):Int :=
 match S.cp[i]? with
 | none=>0
 | some c=>if c.a < -1∨(S.bd.length:Int)≤c.a then 6 else if c.b<0∨4<c.b∨c.c<0∨24<c.c then 4 else if Ym S.cp i c=true then 7 else 0
def asE (S:Stp) (i:Nat):Int :=
 match S.sa[i]? with
 | none=>0
 | some c=>if c.a<0∨(S.pd.length:Int)≤c.a then 6 else if c.b<1∨4<c.b∨c.c<1∨zY S.pd c.a.toNat<c.c then 4 else if Yl S.sa i c=true then 7 else 0
def yn (S:Stp):Int:=if 16<S.cp.length then 3 else vF (cpE S) S.cp.length
def kD (S:Stp):Int:=if 6<S.sa.length then 3 else vF (asE S) S.sa.length
def xC (S:Stp):Int:=if vt S.pd≠0 then vt S.pd else if sx S.bd≠0 then sx S.bd else if yn S≠0 then yn S else kD S
structure Stp.Sm (S:Stp):Prop where
 p:S.pd.length<4611686018427387904
 b:S.bd.length<4611686018427387904
 c:S.cp.length<4611686018427387904
 s:S.sa.length<4611686018427387904
 np:∀ x∈S.pd,x.nm.size<4611686018427387904
 nb:∀ x∈S.bd,x.nm.size<4611686018427387904
section
variable {S:Stp}
def gu (S:Stp) (k:Nat):St:={env:=[(1,.ptr 1 0),(12,.list 3 .plain (mM S.cp)),(13,iv S.cp.length),(14,iv k)],sto:=[(1,.var (suC S))]}
def UO (S:Stp) (c:T3) (i j:Nat):St:={env:=[(1,.ptr 1 0),(12,.list 3 .plain (mM S.cp)),(13,iv S.cp.length),(14,iv i),(4,.ptr 4 0),(51,.list 3 .plain (mM (S.cp.take i))),(52,iv i),(53,iv j)],sto:=[(1,.var (suC S)),(4,.var (U1 c))]}
theorem FG (hS:S.Sm):zf Try.prog tj [.agg (suC S)] (iv (yn S)):=by
 refine zC kT (by simp) ?_
 have hn:=hS.c
 by_cases n16:16<S.cp.length
 ·have n16':(16:Int)<S.cp.length:=by omega
  simp[tq,n16',yj,yn,n16]
 have n16':¬ (16:Int)<S.cp.length:=by omega
 have hC:yn S=vF (cpE S) S.cp.length:=if_neg n16
 simp[tq,n16']
 refine zz (gu S) (fun k=>∀ j,j<k→cpE S j=0) S.cp.length (by simp[gu]) (fun j hj=>absurd hj (Nat.not_lt_zero j)) (fun k hk hi=>?_) (fun hi=>?_)
 ·have e:(k:Int)<S.cp.length:=by omega
  have w1:=zo (show k<4611686018427387904 by omega)
  have hat:cpE S k≠0→yn S=cpE S k:=fun h=>by rw[hC]; exact rY hk hi h
  obtain ⟨c,hc⟩:∃ c,S.cp[k]=c:=⟨_,rfl⟩
  have hnext:cpE S k=0→∀ j,j<k+1→cpE S j=0:=fun h j hj=>by
   by_cases ej:j=k
   ·rw[ej]; exact h
   ·exact hi j (by omega)
  have hE:cpE S k=if c.a < -1∨(S.bd.length:Int)≤c.a then 6 else if c.b<0∨4<c.b∨c.c<0∨24<c.c then 4 else if Ym S.cp k c=true then 7 else 0:=by
   unfold cpE; rw[List.getElem?_eq_getElem hk,hc]
  by_cases t1:c.a < -1
  ·simp[t1] at hE
   simp[ym,gu,e,hk,hc,zj,splice,t1,yj,hat (by omega),hE]
  by_cases t2:(S.bd.length:Int)≤c.a
  ·simp[t2] at hE
   simp[ym,gu,e,hk,hc,zj,splice,t1,t2,yj,hat (by omega),hE]
  by_cases t3:c.b<0
  ·simp[t3] at hE
   simp[ym,gu,e,hk,hc,zj,splice,t1,t2,t3,yj,hat (by omega),hE]
  by_cases t4:4<c.b
  ·simp[t4] at hE
   simp[ym,gu,e,hk,hc,zj,splice,t1,t2,t3,t4,yj,hat (by omega),hE]
  by_cases t5:c.c<0
  ·simp[t5] at hE
   simp[ym,gu,e,hk,hc,zj,splice,t1,t2,t3,t4,t5,yj,hat (by omega),hE]
  by_cases t6:24<c.c
  ·simp[t6] at hE
   simp[ym,gu,e,hk,hc,zj,splice,t1,t2,t3,t4,t5,t6,yj,hat (by omega),hE]
  simp[t1,t2,t3,t4,t5,t6] at hE
  simp[ym,gu,e,hk,hc,zj,splice,t1,t2,t3,t4,t5,t6,ug]
  refine ⟨by omega,?_⟩
  refine zz (UO S c k) (fun j=>∀ q,q<j→∀ h:q<S.cp.length,S.cp[q].a=c.a→¬ S.cp[q].b=c.b) k (by simp[UO]; omega) (fun q hq=>absurd hq (Nat.not_lt_zero q)) (fun j hj hI=>?_) (fun hI=>?_)
  ·have ej:(j:Int)<k:=by omega
   have hj2:j<S.cp.length:=by omega
   have ej2:(j:Int)<S.cp.length:=by omega
   have hjm:j<min k S.cp.length:=by omega
   have w2:=zo (show j<4611686018427387904 by omega)
   have hnx:(S.cp[j].a=c.a→¬ S.cp[j].b=c.b)→∀ q,q<j+1→∀ h:q<S.cp.length,S.cp[q].a=c.a→¬ S.cp[q].b=c.b:=fun h0 q hq h=>by
    by_cases eq:q=j
    ·subst eq; exact h0
    ·exact hI q (by omega) h
   by_cases u1:S.cp[j].a=c.a
   ·by_cases u2:S.cp[j].b=c.b
    ·have hd:Ym S.cp k c=true:=bq hj hj2 (by simp[u1,u2])
     simp[hd] at hE
     simp[wk,UO,ej,hjm,zj,splice,u1,u2,yj,hat (by omega),hE]
    ·simp[wk,UO,ej,hjm,zj,splice,u1,u2,w2]
     exact hnx fun _=>u2
   ·simp[wk,UO,ej,hjm,zj,splice,u1,w2]
    exact hnx fun h=>absurd h u1
  ·have hd:Ym S.cp k c=false:=Xg fun j hj hl=>by simpa using hI j hj hl
   simp[hd] at hE
   simp[wk,UO,mi,w1,gu]
   exact hnext hE
 ·have:=nj hi
  simp[ym,gu,mj,yj,hC,this]
def gw (S:Stp) (k:Nat):St:={env:=[(1,.ptr 1 0),(12,.list 3 .plain (mM S.sa)),(13,iv S.sa.length),(14,iv k)],sto:=[(1,.var (suC S))]}
def RF (S:Stp) (c:T3) (i j:Nat):St:={env:=[(1,.ptr 1 0),(12,.list 3 .plain (mM S.sa)),(13,iv S.sa.length),(14,iv i),(4,.ptr 4 0),(58,.list 3 .plain (mM (S.sa.take i))),(59,iv i),(60,iv j)],sto:=[(1,.var (suC S)),(4,.var (U1 c))]}
theorem Mh (hS:S.Sm):zf Try.prog uo [.agg (suC S)] (iv (kD S)):=by
 refine zC mX (by simp) ?_
 have hn:=hS.s
 by_cases n16:6<S.sa.length
 ·have n16':(6:Int)<S.sa.length:=by omega
  simp[ur,n16',z6,kD,n16]
 have n16':¬ (6:Int)<S.sa.length:=by omega
 have hC:kD S=vF (asE S) S.sa.length:=if_neg n16
 simp[ur,n16']
 refine zz (gw S) (fun k=>∀ j,j<k→asE S j=0) S.sa.length (by simp[gw]) (fun j hj=>absurd hj (Nat.not_lt_zero j)) (fun k hk hi=>?_) (fun hi=>?_)
 ·have e:(k:Int)<S.sa.length:=by omega
  have w1:=zo (show k<4611686018427387904 by omega)
  have hat:asE S k≠0→kD S=asE S k:=fun h=>by rw[hC]; exact rY hk hi h
  obtain ⟨c,hc⟩:∃ c,S.sa[k]=c:=⟨_,rfl⟩
  have hnext:asE S k=0→∀ j,j<k+1→asE S j=0:=fun h j hj=>by
   by_cases ej:j=k
   ·rw[ej]; exact h
   ·exact hi j (by omega)
  have hE:asE S k=if c.a<0∨(S.pd.length:Int)≤c.a then 6 else if c.b<1∨4<c.b∨c.c<1∨zY S.pd c.a.toNat<c.c then 4 else if Yl S.sa k c=true then 7 else 0:=by
   unfold asE; rw[List.getElem?_eq_getElem hk,hc]
  by_cases t1:c.a<0
  ·simp[t1] at hE
   simp[z8,gw,e,hk,hc,zj,splice,t1,z6,hat (by omega),hE]
  by_cases t2:(S.pd.length:Int)≤c.a
  ·simp[t2] at hE
   simp[z8,gw,e,hk,hc,zj,splice,t1,t2,z6,hat (by omega),hE]
  simp only[t1,t2,or_self,if_false] at hE
  have z1:0≤c.a:=by omega
  have z2:c.a<S.pd.length:=by omega
  have z3:c.a.toNat<S.pd.length:=by omega
  have hsu:zY S.pd c.a.toNat=S.pd[c.a.toNat].su:=Zs z3
  rw[hsu] at hE
  by_cases t3:c.b<1
  ·simp[t3] at hE
   simp[z8,gw,e,hk,hc,zj,splice,t1,t2,t3,z6,hat (by omega),hE]
  by_cases t4:4<c.b
  ·simp[t4] at hE
   simp[z8,gw,e,hk,hc,zj,splice,t1,t2,t3,t4,z6,hat (by omega),hE]
  by_cases t5:c.c<1
  ·simp[t5] at hE
   simp[z8,gw,e,hk,hc,zj,splice,t1,t2,t3,t4,t5,z6,hat (by omega),hE]
  by_cases t6:S.pd[c.a.toNat].su<c.c
  ·simp[t6] at hE
   simp[z8,gw,e,hk,hc,zj,splice,z1,z2,z3,t1,t2,t3,t4,t5,t6,z6,hat (by omega),hE]
  simp[t3,t4,t5,t6] at hE
  simp[z8,gw,e,hk,hc,zj,splice,z1,z2,z3,t1,t2,t3,t4,t5,t6,ug]
  refine ⟨by omega,?_⟩
  refine zz (RF S c k) (fun j=>∀ q,q<j→∀ h:q<S.sa.length,¬ S.sa[q].a=c.a) k (by simp[RF]; omega) (fun q hq=>absurd hq (Nat.not_lt_zero q)) (fun j hj hI=>?_) (fun hI=>?_)
  ·have ej:(j:Int)<k:=by omega
   have hj2:j<S.sa.length:=by omega
   have ej2:(j:Int)<S.sa.length:=by omega
   have hjm:j<min k S.sa.length:=by omega
   have w2:=zo (show j<4611686018427387904 by omega)
   have hnx:(¬ S.sa[j].a=c.a)→∀ q,q<j+1→∀ h:q<S.sa.length,¬ S.sa[q].a=c.a:=fun h0 q hq h=>by
    by_cases eq:q=j
    ·subst eq; exact h0
    ·exact hI q (by omega) h
   by_cases u1:S.sa[j].a=c.a
   ·have hd:Yl S.sa k c=true:=bq hj hj2 (by simp[u1])
    simp[hd] at hE
    simp[wN,RF,ej,hjm,zj,splice,u1,z6,hat (by omega),hE]
   ·simp[wN,RF,ej,hjm,zj,splice,u1,w2]
    exact hnx u1
  ·have hd:Yl S.sa k c=false:=Xg fun j hj hl=>by simpa using hI j hj hl
   simp[hd] at hE
   simp[wN,RF,qY,w1,gw]
   exact hnext hE
 ·have:=nj hi
  simp[z8,gw,qZ,z6,hC,this]
theorem YD (hS:S.Sm):zf Try.prog vq [.agg (suC S)] (iv (xC S)):=by
 refine zC cA (by simp) ?_
 simp[kB]
 refine ze (Y9 (m:=.plain) (l:=S.pd) hS.p hS.np rfl) (by simp) (by simp) ?_
 by_cases h1:vt S.pd=0
 rotate_left
 ·have:xC S=vt S.pd:=if_pos h1
  simp[h1,uC,this]
 simp[h1]
 refine ze (TM (m:=.plain) (l:=S.bd) hS.b hS.nb) (by simp) (by simp) ?_
 by_cases h2:sx S.bd=0
 rotate_left
 ·have:xC S=sx S.bd:=by unfold xC; rw[if_neg fun h=>h h1,if_pos h2]
  simp[h2,uC,this]
 simp[h2]
 refine ze (FG hS) (by simp) (by simp) ?_
 by_cases h3:yn S=0
 rotate_left
 ·have:xC S=yn S:=by unfold xC; rw[if_neg fun h=>h h1,if_neg fun h=>h h2,if_pos h3]
  simp[h3,uC,this]
 have:xC S=kD S:=by unfold xC; rw[if_neg fun h=>h h1,if_neg fun h=>h h2,if_neg fun h=>h h3]
 simp[h3]
 refine ze (Mh hS) (by simp) (by simp) ?_
 simp[uC,this]
def kI (S:Stp) (k:Nat):St:={env:=[(1,.ptr 1 0),(4,iv k)],sto:=[(1,.var (suC S))]}
def UQ (S:Stp) (c:T3) (i j:Nat):St:={env:=[(1,.ptr 1 0),(4,iv i),(5,.ptr 5 0),(6,iv j)],sto:=[(1,.var (suC S)),(5,.var (U1 c))]}
def gy (S:Stp) (k:Nat):St:={env:=[(1,.ptr 1 0),(7,iv k)],sto:=[(1,.var (suC S))]}
def XV (S:Stp) (c:T3) (i j:Nat):St:={env:=[(1,.ptr 1 0),(7,iv i),(8,.ptr 8 0),(9,iv j)],sto:=[(1,.var (suC S)),(8,.var (U1 c))]}
theorem ab (hS:S.Sm):zf Try.prog uu [.agg (suC S)] (iv (xC S)):=by
 refine zC cx (by simp) ?_
 simp[ky]
 refine ze (ZM (m:=.plain) (l:=S.pd) hS.p) (by simp) (by simp) ?_
 by_cases h1:vt S.pd=0
 rotate_left
 ·have:xC S=vt S.pd:=if_pos h1
  simp[h1,zQ,this]
 simp[h1]
 refine ze (UL (m:=.plain) (l:=S.bd) hS.b rfl) (by simp) (by simp) ?_
 by_cases h2:sx S.bd=0
 rotate_left
 ·have:xC S=sx S.bd:=by unfold xC; rw[if_neg fun h=>h h1,if_pos h2]
  simp[h2,zQ,this]
 have hn:=hS.c
 by_cases n16:16<S.cp.length
 ·have n16':(16:Int)<S.cp.length:=by omega
  have hC:yn S=3:=if_pos n16
  have:xC S=3:=by unfold xC; rw[if_neg fun h=>h h1,if_neg fun h=>h h2,if_pos (by rw[hC]; decide),hC]
  simp[h2,n16',zQ,this]
 have n16':¬ (16:Int)<S.cp.length:=by omega
 have hC:yn S=vF (cpE S) S.cp.length:=if_neg n16
 have hC3:yn S≠0→xC S=yn S:=fun h3=>by unfold xC; rw[if_neg fun h=>h h1,if_neg fun h=>h h2,if_pos h3]
 simp[h2,n16']
 refine zz (kI S) (fun k=>∀ j,j<k→cpE S j=0) S.cp.length (by simp[kI]) (fun j hj=>absurd hj (Nat.not_lt_zero j)) (fun k hk hi=>?_) (fun hi=>?_)
 ·have e:(k:Int)<S.cp.length:=by omega
  have w1:=zo (show k<4611686018427387904 by omega)
  have hat:cpE S k≠0→xC S=cpE S k:=fun h=>by
   have h4:yn S=cpE S k:=by rw[hC]; exact rY hk hi h
   rw[hC3 (by rw[h4]; exact h),h4]
  obtain ⟨c,hc⟩:∃ c,S.cp[k]=c:=⟨_,rfl⟩
  have hnext:cpE S k=0→∀ j,j<k+1→cpE S j=0:=fun h j hj=>by
   by_cases ej:j=k
   ·rw[ej]; exact h
   ·exact hi j (by omega)
  have hE:cpE S k=if c.a < -1∨(S.bd.length:Int)≤c.a then 6 else if c.b<0∨4<c.b∨c.c<0∨24<c.c then 4 else if Ym S.cp k c=true then 7 else 0:=by
   unfold cpE; rw[List.getElem?_eq_getElem hk,hc]
  by_cases t1:c.a < -1
  ·simp[t1] at hE
   simp[yI,kI,e,hk,hc,zj,splice,t1,zQ,hat (by omega),hE]
  by_cases t2:(S.bd.length:Int)≤c.a
  ·simp[t2] at hE
   simp[yI,kI,e,hk,hc,zj,splice,t1,t2,zQ,hat (by omega),hE]
  by_cases t3:c.b<0
  ·simp[t3] at hE
   simp[yI,kI,e,hk,hc,zj,splice,t1,t2,t3,zQ,hat (by omega),hE]
  by_cases t4:4<c.b
  ·simp[t4] at hE
   simp[yI,kI,e,hk,hc,zj,splice,t1,t2,t3,t4,zQ,hat (by omega),hE]
  by_cases t5:c.c<0
  ·simp[t5] at hE
   simp[yI,kI,e,hk,hc,zj,splice,t1,t2,t3,t4,t5,zQ,hat (by omega),hE]
  by_cases t6:24<c.c
  ·simp[t6] at hE
   simp[yI,kI,e,hk,hc,zj,splice,t1,t2,t3,t4,t5,t6,zQ,hat (by omega),hE]
  simp[t1,t2,t3,t4,t5,t6] at hE
  simp[yI,kI,e,hk,hc,zj,splice,t1,t2,t3,t4,t5,t6]
  refine zz (UQ S c k) (fun j=>∀ q,q<j→∀ h:q<S.cp.length,S.cp[q].a=c.a→¬ S.cp[q].b=c.b) k (by simp[UQ]) (fun q hq=>absurd hq (Nat.not_lt_zero q)) (fun j hj hI=>?_) (fun hI=>?_)
  ·have ej:(j:Int)<k:=by omega
   have hj2:j<S.cp.length:=by omega
   have ej2:(j:Int)<S.cp.length:=by omega
   have hjm:j<min k S.cp.length:=by omega
   have w2:=zo (show j<4611686018427387904 by omega)
   have hnx:(S.cp[j].a=c.a→¬ S.cp[j].b=c.b)→∀ q,q<j+1→∀ h:q<S.cp.length,S.cp[q].a=c.a→¬ S.cp[q].b=c.b:=fun h0 q hq h=>by
    by_cases eq:q=j
    ·subst eq; exact h0
    ·exact hI q (by omega) h
   by_cases u1:S.cp[j].a=c.a
   ·by_cases u2:S.cp[j].b=c.b
    ·have hd:Ym S.cp k c=true:=bq hj hj2 (by simp[u1,u2])
     simp[hd] at hE
     simp[ue,UQ,ej,hj2,ej2,u1,u2,zQ,hat (by omega),hE]
    ·simp[ue,UQ,ej,hj2,ej2,u1,u2,w2]
     exact hnx fun _=>u2
   ·simp[ue,UQ,ej,hj2,ej2,u1,w2]
    exact hnx fun h=>absurd h u1
  ·have hd:Ym S.cp k c=false:=Xg fun j hj hl=>by simpa using hI j hj hl
   simp[hd] at hE
   simp[ue,UQ,jV,w1,kI]
   exact hnext hE
 ·have h3:yn S=0:=by rw[hC]; exact nj hi
  have hA:xC S=kD S:=by unfold xC; rw[if_neg fun h=>h h1,if_neg fun h=>h h2,if_neg fun h=>h h3]
  clear hn
  have hn:=hS.s
  by_cases m6:6<S.sa.length
  ·have m6':(6:Int)<S.sa.length:=by omega
   have hC:kD S=3:=if_pos m6
   simp[yI,kI,pW,m6',zQ,hA,hC]
  have m6':¬ (6:Int)<S.sa.length:=by omega
  have hD:kD S=vF (asE S) S.sa.length:=if_neg m6
  simp[yI,kI,pW,m6']
  clear hi
  refine zz (gy S) (fun k=>∀ j,j<k→asE S j=0) S.sa.length (by simp[gy]) (fun j hj=>absurd hj (Nat.not_lt_zero j)) (fun k hk hi=>?_) (fun hi=>?_)
  ·have e:(k:Int)<S.sa.length:=by omega
   have w1:=zo (show k<4611686018427387904 by omega)
   have hat:asE S k≠0→xC S=asE S k:=fun h=>by rw[hA,hD]; exact rY hk hi h
   obtain ⟨c,hc⟩:∃ c,S.sa[k]=c:=⟨_,rfl⟩
   have hnext:asE S k=0→∀ j,j<k+1→asE S j=0:=fun h j hj=>by
    by_cases ej:j=k
    ·rw[ej]; exact h
    ·exact hi j (by omega)
   have hE:asE S k=if c.a<0∨(S.pd.length:Int)≤c.a then 6 else if c.b<1∨4<c.b∨c.c<1∨zY S.pd c.a.toNat<c.c then 4 else if Yl S.sa k c=true then 7 else 0:=by
    unfold asE; rw[List.getElem?_eq_getElem hk,hc]
   by_cases t1:c.a<0
   ·simp[t1] at hE
    simp[y5,gy,e,hk,hc,zj,splice,t1,zQ,hat (by omega),hE]
   by_cases t2:(S.pd.length:Int)≤c.a
   ·simp[t2] at hE
    simp[y5,gy,e,hk,hc,zj,splice,t1,t2,zQ,hat (by omega),hE]
   simp only[t1,t2,or_self,if_false] at hE
   have z1:0≤c.a:=by omega
   have z2:c.a<S.pd.length:=by omega
   have z3:c.a.toNat<S.pd.length:=by omega
   have hsu:zY S.pd c.a.toNat=S.pd[c.a.toNat].su:=Zs z3
   rw[hsu] at hE
   by_cases t3:c.b<1
   ·simp[t3] at hE
    simp[y5,gy,e,hk,hc,zj,splice,t1,t2,t3,zQ,hat (by omega),hE]
   by_cases t4:4<c.b
   ·simp[t4] at hE
    simp[y5,gy,e,hk,hc,zj,splice,t1,t2,t3,t4,zQ,hat (by omega),hE]
   by_cases t5:c.c<1
   ·simp[t5] at hE
    simp[y5,gy,e,hk,hc,zj,splice,t1,t2,t3,t4,t5,zQ,hat (by omega),hE]
   by_cases t6:S.pd[c.a.toNat].su<c.c
   ·simp[t6] at hE
    simp[y5,gy,e,hk,hc,zj,splice,z1,z2,z3,t1,t2,t3,t4,t5,t6,zQ,hat (by omega),hE]
   simp[t3,t4,t5,t6] at hE
   simp[y5,gy,e,hk,hc,zj,splice,z1,z2,z3,t1,t2,t3,t4,t5,t6]
   refine zz (XV S c k) (fun j=>∀ q,q<j→∀ h:q<S.sa.length,¬ S.sa[q].a=c.a) k (by simp[XV]) (fun q hq=>absurd hq (Nat.not_lt_zero q)) (fun j hj hI=>?_) (fun hI=>?_)
   ·have ej:(j:Int)<k:=by omega
    have hj2:j<S.sa.length:=by omega
    have ej2:(j:Int)<S.sa.length:=by omega
    have hjm:j<min k S.sa.length:=by omega
    have w2:=zo (show j<4611686018427387904 by omega)
    have hnx:(¬ S.sa[j].a=c.a)→∀ q,q<j+1→∀ h:q<S.sa.length,¬ S.sa[q].a=c.a:=fun h0 q hq h=>by
     by_cases eq:q=j
     ·subst eq; exact h0
     ·exact hI q (by omega) h
    by_cases u1:S.sa[j].a=c.a
    ·have hd:Yl S.sa k c=true:=bq hj hj2 (by simp[u1])
     simp[hd] at hE
     simp[so,XV,ej,hj2,ej2,u1,zQ,hat (by omega),hE]
    ·simp[so,XV,ej,hj2,ej2,u1,w2]
     exact hnx u1
   ·have hd:Yl S.sa k c=false:=Xg fun j hj hl=>by simpa using hI j hj hl
    simp[hd] at hE
    simp[so,XV,jW,w1,gy]
    exact hnext hE
  ·have:=nj hi
   simp[y5,gy,jX,zQ,hA,hD,this]
end
def opK (S:Stp):Nat→Nat→Int
 | 0,j=>zY S.pd j
 | k+1,j=>match S.sa[k]? with
  | some a=>if j=a.a.toNat then opK S k j-a.c else opK S k j
  | none=>opK S k j
def clK (S:Stp):Nat→Nat→Int
 | 0,_=>0
 | k+1,j=>match S.sa[k]? with
  | some a=>if j=a.a.toNat then a.b else clK S k j
  | none=>clK S k j
def opW (S:Stp) (j:Nat):Int:=opK S S.sa.length j
def clW (S:Stp) (j:Nat):Int:=clK S S.sa.length j
section
variable {S:Stp}
theorem rW (h:xC S=0):vt S.pd=0∧sx S.bd=0∧yn S=0∧kD S=0:=by
 unfold xC at h
 split at h
 ·rename_i h1; exact absurd h h1
 rename_i h1
 split at h
 ·rename_i h2; exact absurd h h2
 rename_i h2
 split at h
 ·rename_i h3; exact absurd h h3
 rename_i h3
 exact ⟨by simpa using h1,by simpa using h2,by simpa using h3,h⟩
structure KI (S:Stp) (k:Nat) (a:T3):Prop where
 a0:0≤a.a
 a1:a.a<S.pd.length
 b1:1≤a.b
 b4:a.b≤4
 c1:1≤a.c
 cs:a.c≤zY S.pd a.a.toNat
 nd:∀ j,j<k→∀ h:j<S.sa.length,S.sa[j].a≠a.a
theorem PH (h:kD S=0):S.sa.length≤6∧∀ k (hk:k<S.sa.length),KI S k S.sa[k]:=by
 unfold kD at h
 split at h
 ·cases h
 refine ⟨by omega,fun k hk=>?_⟩
 have:=Qs h k hk
 unfold asE at this
 rw[List.getElem?_eq_getElem hk] at this
 simp only at this
 split at this
 ·cases this
 split at this
 ·cases this
 split at this
 ·cases this
 rename_i h1 h2 h3
 refine ⟨by omega,by omega,by omega,by omega,by omega,by omega,fun j hj hl e=>h3 ?_⟩
 exact bq hj hl (by simp[e])
theorem Ra (hA:∀ k (hk:k<S.sa.length),KI S k S.sa[k]) (j:Nat):∀ k,k≤S.sa.length →
  (∃ i,∃ h:i<S.sa.length,i<k∧S.sa[i].a.toNat=j∧opK S k j=zY S.pd j-S.sa[i].c∧clK S k j=S.sa[i].b)∨((∀ i,i<k→∀ h:i<S.sa.length,S.sa[i].a.toNat≠j)∧opK S k j=zY S.pd j∧clK S k j=0)
 | 0,_=>.inr ⟨fun i hi=>absurd hi (Nat.not_lt_zero i),rfl,rfl⟩
 | k+1,hk=>by
  have e1:opK S (k+1) j=if j=(S.sa[k]'(by omega)).a.toNat then opK S k j-(S.sa[k]'(by omega)).c else opK S k j:=by
   show (match S.sa[k]? with | some a=>_ | none=>_)=_
   rw[List.getElem?_eq_getElem (by omega)]
  have e2:clK S (k+1) j=if j=(S.sa[k]'(by omega)).a.toNat then (S.sa[k]'(by omega)).b else clK S k j:=by
   show (match S.sa[k]? with | some a=>_ | none=>_)=_
   rw[List.getElem?_eq_getElem (by omega)]
  have hk':=hA k (by omega)
  rcases Ra hA j k (by omega) with ⟨i,hi,h1,h2,h3,h4⟩ | ⟨h1,h2,h3⟩
  ·have hne:¬ j=(S.sa[k]'(by omega)).a.toNat:=fun e=>by
    have:=hk'.nd i h1 hi
    have:=(hA i hi).a0
    have:=hk'.a0
    omega
   rw[if_neg hne] at e1 e2
   exact .inl ⟨i,hi,by omega,h2,by rw[e1,h3],by rw[e2,h4]⟩
  ·by_cases e:j=(S.sa[k]'(by omega)).a.toNat
   ·rw[if_pos e] at e1 e2
    exact .inl ⟨k,by omega,by omega,e.symm,by rw[e1,h2],e2⟩
   ·rw[if_neg e] at e1 e2
    refine .inr ⟨fun i hi hl=>?_,by rw[e1,h2],by rw[e2,h3]⟩
    by_cases ei:i=k
    ·subst ei; exact fun h=>e h.symm
    ·exact h1 i (by omega) hl
theorem S9 (hp:vt S.pd=0) (hA:∀ k (hk:k<S.sa.length),KI S k S.sa[k]) {k j:Nat} (hk:k≤S.sa.length):0≤opK S k j∧opK S k j≤zY S.pd j∧zY S.pd j≤4:=by
 have hw:=ey (sf hp).2.2.1 j
 rcases Ra hA j k hk with ⟨i,hi,h1,h2,h3,h4⟩ | ⟨h1,h2,h3⟩
 ·have:=hA i hi
  have h5:=this.cs
  have h6:=this.c1
  rw[h2] at h5
  omega
 ·omega
def T8 (S:Stp) (k:Nat):St:={env:=[(2,.ptr 2 0),(3,.ptr 3 0),(10,.list 3 .plain (mM S.sa)),(11,iv S.sa.length),(12,iv k)],sto:=[(2,.var (bC (opK S k))),(3,.var (bC (clK S k)))]}
theorem Rz (hS:S.Sm) (h:xC S=0):zf Try.prog vY [.agg (suC S)] (.tuple [.agg (bC (opW S)),.agg (bC (clW S))]):=by
 obtain ⟨hp,_,_,ha⟩:=rW h
 obtain ⟨h6,hA⟩:=PH ha
 have hnp:=(sf hp).2.1
 refine zC eL (by simp) ?_
 simp[m8]
 refine ze (lH (m:=.plain) (l:=S.pd) hS.p) (by simp) (by simp) ?_
 have z:[iv 0,iv 0,iv 0,iv 0,iv 0,iv 0]=bC (clK S 0):=by rw[yQ]; rfl
 have z1:bC (zY S.pd)=bC (opK S 0):=rfl
 have z2:∀ w:Nat→Int,splice [iv 0,iv 0,iv 0,iv 0,iv 0,iv 0] 0 (bC w)=bC w:=fun w=>qj rfl
 simp[z2]
 refine xt (T8 S) S.sa.length (by simp[T8,← z,← z1]) (fun k hk=>?_) ?_
 ·have e:(k:Int)<S.sa.length:=by omega
  have w1:=zo (show k<4611686018427387904 by omega)
  have hk':=hA k hk
  have hle:=fun j=>S9 hp hA (k:=k) (j:=j) (by omega)
  obtain ⟨a,hc⟩:∃ a,S.sa[k]=a:=⟨_,rfl⟩
  rw[hc] at hk'
  obtain ⟨n,hn⟩:∃ n:Nat,a.a=n:=⟨a.a.toNat,by have:=hk'.a0; omega⟩
  have hn6:n<6:=by have:=hk'.a1; omega
  have hn6':(n:Int)<6:=by omega
  have hn5:n≤5:=by omega
  have hcs:=hk'.cs
  have hc1:=hk'.c1
  have e0:S.sa[k]?=some a:=by rw[List.getElem?_eq_getElem hk,hc]
  have w2:IntKind.i64.wrap (opK S k n-a.c)=opK S k n-a.c:=by
   have:=hle n
   have:=ey (sf hp).2.2.1 a.a.toNat
   rw[wrap64]<;>omega
  have s1:splice (bC (opK S k)) n [iv (opK S k n-a.c)]=bC (opK S (k+1)):=by
   rw[nN hn6]
   refine xy fun j hj=>?_
   show _=(match S.sa[k]? with | some a=>_ | none=>_)
   rw[e0]
   simp only[hn,Int.toNat_natCast]
   by_cases ej:j=n
   ·subst ej; simp
   ·simp[ej]
  have s2:splice (bC (clK S k)) n [iv a.b]=bC (clK S (k+1)):=by
   rw[nN hn6]
   refine xy fun j hj=>?_
   show _=(match S.sa[k]? with | some a=>_ | none=>_)
   rw[e0]
   simp only[hn,Int.toNat_natCast]
  simp[qM,T8,e,hk,hc,zj,mJ,hn,hn6',hn5,yW hn6,w1,w2,s1,s2]
 ·simp[qM,T8,kN,lq]
  exact ⟨rfl,rfl⟩
theorem D9 (hS:S.Sm) (h:xC S=0):zf Try.prog nJ [.agg (suC S)] (.tuple [.agg (bC (opW S)),.agg (bC (clW S))]):=by
 have z2:∀ w:Nat→Int,splice [iv 0,iv 0,iv 0,iv 0,iv 0,iv 0] 0 (bC w)=bC w:=fun w=>qj rfl
 refine zC aH (by simp) ?_
 simp[j4]
 refine ze (YD hS) (by simp) (by simp) ?_
 simp[h]
 refine ze (Rz hS h) (by simp) (by simp) ?_
 simp[z2,go]
def T6 (S:Stp) (k:Nat):St:={env:=[(1,.ptr 1 0),(2,.ptr 2 0),(3,.ptr 3 0),(4,.ptr 4 0),(5,.ptr 5 0),(6,iv k)],sto:=[(1,.var (suC S)),(2,.var (bC fun _=>0)),(3,.var (bC fun _=>0)),(4,.var (bC (we S.pd k))),(5,.var (bC fun _=>0))]}
def T7 (S:Stp) (k:Nat):St:={env:=[(1,.ptr 1 0),(2,.ptr 2 0),(3,.ptr 3 0),(4,.ptr 4 0),(5,.ptr 5 0),(7,iv k)],sto:=[(1,.var (suC S)),(2,.var (bC fun _=>0)),(3,.var (bC fun _=>0)),(4,.var (bC (opK S k))),(5,.var (bC (clK S k)))]}
theorem Pr (hS:S.Sm) (h:xC S=0):zf Try.prog rF [.agg (suC S)] (.tuple [.agg (bC (opW S)),.agg (bC (clW S))]):=by
 obtain ⟨hp,_,_,ha⟩:=rW h
 obtain ⟨h6,hA⟩:=PH ha
 have hnp:=(sf hp).2.1
 have z:[iv 0,iv 0,iv 0,iv 0,iv 0,iv 0]=bC fun _=>0:=by rw[yQ]
 have zs:(fun _=>(0:Int))=we S.pd 0:=rfl
 have zc:(fun _=>(0:Int))=clK S 0:=rfl
 have z2:∀ u w:Nat→Int,splice (bC u) 0 (bC w)=bC w:=fun u w=>qj YS
 refine zC aF (by simp) ?_
 simp[jY]
 refine ze (ab hS) (by simp) (by simp) ?_
 simp[h]
 refine xt (T6 S) S.pd.length (by simp[T6,← zs,← z]) (fun k hk=>?_) ?_
 ·have e:(k:Int)<S.pd.length:=by omega
  have h6:k<6:=by omega
  have h6':(k:Int)<6:=by omega
  have h5:k≤5:=by omega
  have w1:=zo (show k<4611686018427387904 by omega)
  have hs:∀ j,j<6→(if j=k then S.pd[k].su else we S.pd k j)=we S.pd (k+1) j:=fun j hj=>by
   unfold we zY
   by_cases e1:j=k
   ·subst e1; rw[if_pos rfl,if_pos (by omega)]; simp[hk]
   ·rw[if_neg e1]
    by_cases e2:j<k
    ·rw[if_pos e2,if_pos (by omega)]
    ·rw[if_neg e2,if_neg (by omega)]
  have hset:splice (bC (we S.pd k)) k [iv S.pd[k].su]=bC (we S.pd (k+1)):=by rw[nN h6]; exact xy hs
  simp[me,T6,e,hk,h6',h5,w1,hset]
 ·have hall:bC (we S.pd S.pd.length)=bC (opK S 0):=xy fun j hj=>by
   show we S.pd S.pd.length j=zY S.pd j
   unfold we
   by_cases h:j<S.pd.length
   ·rw[if_pos h]
   ·rw[if_neg h,Zr (by omega)]
  simp[me,T6,gV,hall]
  refine xt (T7 S) S.sa.length (by simp[T7,← zc]) (fun k hk=>?_) ?_
  ·have e:(k:Int)<S.sa.length:=by omega
   have w1:=zo (show k<4611686018427387904 by omega)
   have hk':=hA k hk
   have hle:=fun j=>S9 hp hA (k:=k) (j:=j) (by omega)
   obtain ⟨a,hc⟩:∃ a,S.sa[k]=a:=⟨_,rfl⟩
   rw[hc] at hk'
   obtain ⟨n,hn⟩:∃ n:Nat,a.a=n:=⟨a.a.toNat,by have:=hk'.a0; omega⟩
   have hn6:n<6:=by have:=hk'.a1; omega
   have hn6':(n:Int)<6:=by omega
   have hn5:n≤5:=by omega
   have hcs:=hk'.cs
   have hc1:=hk'.c1
   have e0:S.sa[k]?=some a:=by rw[List.getElem?_eq_getElem hk,hc]
   have w2:IntKind.i64.wrap (opK S k n-a.c)=opK S k n-a.c:=by
    have:=hle n
    have:=ey (sf hp).2.2.1 a.a.toNat
    rw[wrap64]<;>omega
   have s1:splice (bC (opK S k)) n [iv (opK S k n-a.c)]=bC (opK S (k+1)):=by
    rw[nN hn6]
    refine xy fun j hj=>?_
    show _=(match S.sa[k]? with | some a=>_ | none=>_)
    rw[e0]
    simp only[hn,Int.toNat_natCast]
    by_cases ej:j=n
    ·subst ej; simp
    ·simp[ej]
   have s2:splice (bC (clK S k)) n [iv a.b]=bC (clK S (k+1)):=by
    rw[nN hn6]
    refine xy fun j hj=>?_
    show _=(match S.sa[k]? with | some a=>_ | none=>_)
    rw[e0]
    simp only[hn,Int.toNat_natCast]
   simp[mf,T7,e,hk,hc,zj,mJ,hn,hn6',hn5,yW hn6,w1,w2,s1,s2]
  ·simp[mf,T7,gU,z2,gl]
   exact ⟨rfl,rfl⟩
def cbW (S:Stp) (b:Nat):Int:=((S.bd[b]?).map fun x=>x.cl).getD 0
def lj (S:Stp) (b:Nat) (w:Nat→Int) (j:Nat):Int:=if clW S j=0∨clW S j=cbW S b then 0 else w j
def dB (S:Stp) (b:Nat) (w:Nat→Int) (k j:Nat):Int:=if j<k then lj S b w j else w j
def UP (S:Stp) (b:Nat) (w:Nat→Int) (k:Nat):St:={env:=[(2,iv b),(4,.ptr 4 0),(5,.ptr 5 0),(7,.ptr 7 0),(8,.ptr 8 0),(10,iv k)],sto:=[(4,.var (suC S)),(5,.var (bC (clW S))),(7,.var (bC (dB S b w k))),(8,.var (bC fun _=>0))]}
theorem Lw {b:Nat} {w:Nat→Int} (hb:b<S.bd.length):zf Try.prog uJ [.agg (suC S),.agg (bC (clW S)),iv b,.agg (bC w)] (.agg (bC (lj S b w))):=by
 have z:[iv 0,iv 0,iv 0,iv 0,iv 0,iv 0]=bC fun _=>0:=by rw[yQ]
 have z2:∀ u w:Nat→Int,splice (bC u) 0 (bC w)=bC w:=fun u w=>qj YS
 have z0:dB S b w 0=w:=funext fun j=>if_neg (by omega)
 have hcb:cbW S b=S.bd[b].cl:=by unfold cbW; rw[List.getElem?_eq_getElem hb]; rfl
 have hbi:(b:Int)<S.bd.length:=by omega
 refine zC fD (by simp) ?_
 simp[ml]
 refine xt (UP S b w) 6 (by simp[UP,z0,← z]) (fun k hk=>?_) ?_
 ·have e:(k:Int)<6:=by omega
  have h5:k≤5:=by omega
  have w1:=zo (show k<4611686018427387904 by omega)
  have hs:∀ x,x=lj S b w k→splice (bC (dB S b w k)) k [iv x]=bC (dB S b w (k+1)):=fun x hx=>by
   rw[nN hk]
   refine xy fun j hj=>?_
   unfold dB
   by_cases ej:j=k
   ·subst ej; rw[if_pos rfl,if_pos (by omega),hx]
   ·rw[if_neg ej]
    by_cases e2:j<k
    ·rw[if_pos e2,if_pos (by omega)]
    ·rw[if_neg e2,if_neg (by omega)]
  have hno:¬ (clW S k=0∨clW S k=cbW S b)→bC (dB S b w k)=bC (dB S b w (k+1)):=fun h=>xy fun j hj=>by
   unfold dB
   by_cases ej:j=k
   ·subst ej; rw[if_neg (by omega),if_pos (by omega)]; unfold lj; rw[if_neg h]
   ·by_cases e2:j<k
    ·rw[if_pos e2,if_pos (by omega)]
    ·rw[if_neg e2,if_neg (by omega)]
  by_cases c1:clW S k=0
  ·have s1:=hs 0 (by unfold lj; rw[if_pos (.inl c1)])
   simp[wV,UP,e,h5,yW hk,c1,s1,w1]
  ·by_cases c2:clW S k=S.bd[b].cl
   ·have s1:=hs 0 (by unfold lj; rw[if_pos (.inr (by rw[hcb]; exact c2))])
    have c1':¬ S.bd[b].cl=0:=fun h=>c1 (by rw[c2,h])
    simp[wV,UP,e,h5,yW hk,c1',c2,hb,hbi,s1,w1]
   ·have s1:=hno fun h=>h.elim c1 fun h=>c2 (by rw[h,hcb])
    simp[wV,UP,e,yW hk,c1,c2,hb,hbi,s1,w1]
 ·have hall:bC (dB S b w 6)=bC (lj S b w):=xy fun j hj=>if_pos hj
  simp[wV,UP,l4,hall,z2,mE]
end
section
variable {S:Stp} {b:Nat} {w:Nat→Int} {bd:Int}
def dd (S:Stp) (b:Int) (w:Nat→Int) (c:T3):Prop:=(c.a=-1∨c.a=b)∧c.c<usE S.pd w (grW c.b)
structure PD (S:Stp) (b:Nat) (w:Nat→Int):Prop where
 sup:leB w (zY S.pd)
 out:leB (lj S b w) (opW S)
 cap:∀ c∈S.cp,¬ dd S b w c
noncomputable def alE (S:Stp) (bd:Int) (w:Nat→Int):Int:=if bd<0∨(S.bd.length:Int)≤bd then 6 else if ¬ okB w then 4 else @ite _ (PD S bd.toNat w) (Classical.propDecidable _) 0 14
theorem ee (hb:b<S.bd.length) (hw:okB w) (h:¬ PD S b w):alE S b w=14:=by
 unfold alE
 rw[if_neg (by omega),if_neg fun h=>h hw]
 exact if_neg h
theorem Mc (hb:b<S.bd.length) (hw:okB w) (h:PD S b w):alE S b w=0:=by
 unfold alE
 rw[if_neg (by omega),if_neg fun h=>h hw]
 exact if_pos h
def ai (S:Stp) (b:Nat) (w:Nat→Int) (k:Nat):St:={env:=[(1,iv b),(3,.ptr 3 0),(5,.ptr 5 0),(48,.list 3 .plain (mM S.cp)),(49,iv S.cp.length),(50,iv k)],sto:=[(3,.var (suC S)),(5,.var (bC w))]}
theorem Md (hS:S.Sm) (h:xC S=0):zf Try.prog uI [.agg (suC S),iv bd,.agg (bC w)] (iv (alE S bd w)):=by
 have z2:∀ u:Nat→Int,splice [iv 0,iv 0,iv 0,iv 0,iv 0,iv 0] 0 (bC u)=bC u:=fun u=>qj rfl
 refine zC fC (by simp) ?_
 by_cases c1:bd<0
 ·have:alE S bd w=6:=if_pos (.inl c1)
  simp[uS,c1,yT,this]
 by_cases c2:(S.bd.length:Int)≤bd
 ·have:alE S bd w=6:=if_pos (.inr c2)
  simp[uS,c1,c2,yT,this]
 obtain ⟨b,rfl⟩:∃ b:Nat,bd=b:=⟨bd.toNat,by omega⟩
 have hb:b<S.bd.length:=by omega
 simp[uS,c1,c2]
 refine ze (jL (w:=w)) (by simp) (by simp) ?_
 by_cases c3:okB w
 rotate_left
 ·have:alE S b w=4:=by unfold alE; rw[if_neg (by omega),if_pos c3]
  simp[c3,yT,this]
 simp[c3]
 refine ze (Rz hS h) (by simp) (by simp) ?_
 simp[z2]
 refine ze (lH (m:=.plain) (l:=S.pd) hS.p) (by simp) (by simp) ?_
 simp
 refine ze (Qa (w:=w) (u:=zY S.pd)) (by simp) (by simp) ?_
 by_cases c4:leB w (zY S.pd)
 rotate_left
 ·have:alE S b w=14:=ee hb c3 fun h=>c4 h.sup
  simp[c4,yT,this]
 simp[c4]
 refine ze (Lw (b:=b) (w:=w) hb) (by simp) (by simp) ?_
 simp
 refine ze (Qa (w:=lj S b w) (u:=opW S)) (by simp) (by simp) ?_
 by_cases c5:leB (lj S b w) (opW S)
 rotate_left
 ·have:alE S b w=14:=ee hb c3 fun h=>c5 h.out
  simp[c5,yT,this]
 simp[c5]
 have hn:=hS.c
 refine zz (ai S b w) (fun k=>∀ j,j<k→∀ h:j<S.cp.length,¬ dd S b w S.cp[j]) S.cp.length (by simp[ai]) (fun j hj=>absurd hj (Nat.not_lt_zero j)) (fun k hk hi=>?_) (fun hi=>?_)
 ·have e:(k:Int)<S.cp.length:=by omega
  have w1:=zo (show k<4611686018427387904 by omega)
  obtain ⟨c,hc⟩:∃ c,S.cp[k]=c:=⟨_,rfl⟩
  have bad:dd S b w c→alE S b w=14:=fun h=>ee hb c3 fun hA=>hA.cap _ (List.getElem_mem hk) (by rw[hc]; exact h)
  have hnext:¬ dd S b w c→∀ j,j<k+1→∀ h:j<S.cp.length,¬ dd S b w S.cp[j]:=fun h j hj hl=>by
   by_cases ej:j=k
   ·subst ej; rw[hc]; exact h
   ·exact hi j (by omega) hl
  have ku:=Dd (m:=.plain) (l:=S.pd) (w:=w) (g:=c.b) hS.p hS.np rfl
  by_cases u1:c.a=-1∨c.a=b
  ·have fin:zf Try.prog uG [.list 5 .plain (xL S.pd),iv c.b,.agg (bC w)] (iv (usE S.pd w (grW c.b))):=ku
   by_cases u2:c.a=-1
   ·simp[wU,ai,e,hk,hc,zj,splice,u2]
    refine ze ku (by simp) (by simp) ?_
    by_cases u3:c.c<usE S.pd w (grW c.b)
    ·simp[u3,yT,bad ⟨u1,u3⟩]
    ·simp[u3,w1,ai]
     exact hnext fun h=>u3 h.2
   ·have u4:c.a=b:=u1.resolve_left u2
    have u5:¬ ((b:Int)=-1):=by omega
    simp[wU,ai,e,hk,hc,zj,splice,u4,u5]
    refine ze ku (by simp) (by simp) ?_
    by_cases u3:c.c<usE S.pd w (grW c.b)
    ·simp[u3,yT,bad ⟨u1,u3⟩]
    ·simp[u3,w1,ai]
     exact hnext fun h=>u3 h.2
  ·have u2:¬ c.a=-1:=fun h=>u1 (.inl h)
   have u4:¬ c.a=b:=fun h=>u1 (.inr h)
   simp[wU,ai,e,hk,hc,zj,splice,u2,u4,w1]
   exact hnext fun h=>u1 h.1
 ·have:alE S b w=0:=Mc hb c3 ⟨c4,c5,fun c hm=>by
   obtain ⟨j,hj,rfl⟩:=List.getElem_of_mem hm
   exact hi j hj hj⟩
  simp[wU,ai,l3,yT,this]
theorem Fx (hS:S.Sm) (h:xC S=0):zf Try.prog rq [.agg (suC S),iv bd,.agg (bC w)] (iv (alE S bd w)):=by
 refine zC fB (by simp) ?_
 simp[mh]
 refine ze (YD hS) (by simp) (by simp) ?_
 simp[h]
 refine ze (Md (bd:=bd) (w:=w) hS h) (by simp) (by simp) ?_
 simp[mD]
def mF (S:Stp) (b:Nat) (w:Nat→Int) (j:Nat):Prop:=zY S.pd j<w j∨(clW S j≠0∧clW S j≠cbW S b∧opW S j<w j)
theorem rows_ok (h:xC S=0) (hr:∀ j,j<6→¬ mF S b w j):leB w (zY S.pd)∧leB (lj S b w) (opW S):=by
 obtain ⟨hp,_,_,ha⟩:=rW h
 obtain ⟨h6,hA⟩:=PH ha
 refine ⟨fun j hj=>?_,fun j hj=>?_⟩
 ·have:=hr j hj
  unfold mF at this
  omega
 ·have:=hr j hj
  have h0:=(S9 hp hA (k:=S.sa.length) (j:=j) (Nat.le_refl _)).1
  have h1:0≤opW S j:=h0
  unfold mF at this
  unfold lj
  split<;>omega
theorem GA {j:Nat} (hj:j<6) (hr:mF S b w j):¬ PD S b w:=fun h=>by
 have h1:=h.sup j hj
 have h2:=h.out j hj
 unfold lj at h2
 unfold mF at hr
 split at h2<;>omega
def aw (S:Stp) (b:Nat) (w:Nat→Int) (k:Nat):St:={env:=[(1,iv b),(3,.ptr 3 0),(5,.ptr 5 0),(8,.ptr 8 0),(9,.ptr 9 0),(10,.ptr 10 0),(11,iv k)],sto:=[(3,.var (suC S)),(5,.var (bC w)),(8,.var (bC (opW S))),(9,.var (bC (clW S))),(10,.var (bC (zY S.pd)))]}
def YL (S:Stp) (b:Nat) (w:Nat→Int) (k:Nat):St:={env:=[(1,iv b),(3,.ptr 3 0),(5,.ptr 5 0),(12,iv k)],sto:=[(3,.var (suC S)),(5,.var (bC w))]}
theorem Gp (hS:S.Sm) (h:xC S=0):zf Try.prog rp [.agg (suC S),iv bd,.agg (bC w)] (iv (alE S bd w)):=by
 have z2:∀ u:Nat→Int,splice [iv 0,iv 0,iv 0,iv 0,iv 0,iv 0] 0 (bC u)=bC u:=fun u=>qj rfl
 refine zC fz (by simp) ?_
 simp[mc]
 refine ze (ab hS) (by simp) (by simp) ?_
 by_cases c1:bd<0
 ·have:alE S bd w=6:=if_pos (.inl c1)
  simp[h,c1,yS,this]
 by_cases c2:(S.bd.length:Int)≤bd
 ·have:alE S bd w=6:=if_pos (.inr c2)
  simp[h,c1,c2,yS,this]
 obtain ⟨b,rfl⟩:∃ b:Nat,bd=b:=⟨bd.toNat,by omega⟩
 have hb:b<S.bd.length:=by omega
 have hbi:(b:Int)<S.bd.length:=by omega
 have hcb:cbW S b=S.bd[b].cl:=by unfold cbW; rw[List.getElem?_eq_getElem hb]; rfl
 simp[h,c1,c2]
 refine ze (YC (w:=w)) (by simp) (by simp) ?_
 by_cases c3:okB w
 rotate_left
 ·have:alE S b w=4:=by unfold alE; rw[if_neg (by omega),if_pos c3]
  simp[c3,yS,this]
 simp[c3]
 refine ze (Pr hS h) (by simp) (by simp) ?_
 simp[z2]
 refine ze (b9 (m:=.plain) (l:=S.pd) hS.p) (by simp) (by simp) ?_
 simp[z2]
 refine zz (aw S b w) (fun k=>∀ j,j<k→¬ mF S b w j) 6 (by simp[aw]) (fun j hj=>absurd hj (Nat.not_lt_zero j)) (fun k hk hi=>?_) (fun hi=>?_)
 ·have e:(k:Int)<6:=by omega
  have h5:k≤5:=by omega
  have w1:=zo (show k<4611686018427387904 by omega)
  have bad:mF S b w k→alE S b w=14:=fun h=>ee hb c3 (GA hk h)
  have hnext:¬ mF S b w k→∀ j,j<k+1→¬ mF S b w j:=fun h j hj=>by
   by_cases ej:j=k
   ·subst ej; exact h
   ·exact hi j (by omega)
  by_cases u1:zY S.pd k<w k
  ·simp[xA,aw,e,yW hk,u1,yS,bad (.inl u1)]
  by_cases u2:clW S k=0
  ·simp[xA,aw,e,yW hk,u1,u2,w1]
   exact hnext fun h=>h.elim u1 fun h=>h.1 u2
  by_cases u3:clW S k=S.bd[b].cl
  ·have u2':¬ S.bd[b].cl=0:=fun h=>u2 (by rw[u3,h])
   simp[xA,aw,e,yW hk,u1,u2',u3,hb,hbi,w1]
   exact hnext fun h=>h.elim u1 fun h=>h.2.1 (by rw[hcb]; exact u3)
  by_cases u4:opW S k<w k
  ·simp[xA,aw,e,yW hk,u1,u2,u3,u4,hb,hbi,yS,bad (.inr ⟨u2,by rw[hcb]; exact u3,u4⟩)]
  ·simp[xA,aw,e,yW hk,u1,u2,u3,u4,hb,hbi,w1]
   exact hnext fun h=>h.elim u1 fun h=>u4 h.2.2
 ·obtain ⟨c4,c5⟩:=rows_ok h hi
  have hn:=hS.c
  simp[xA,aw,l0]
  refine zz (YL S b w) (fun k=>∀ j,j<k→∀ h:j<S.cp.length,¬ dd S b w S.cp[j]) S.cp.length (by simp[YL]) (fun j hj=>absurd hj (Nat.not_lt_zero j)) (fun k hk hi=>?_) (fun hi=>?_)
  ·have e:(k:Int)<S.cp.length:=by omega
   have w1:=zo (show k<4611686018427387904 by omega)
   obtain ⟨c,hc⟩:∃ c,S.cp[k]=c:=⟨_,rfl⟩
   have bad:dd S b w c→alE S b w=14:=fun h=>ee hb c3 fun hA=>hA.cap _ (List.getElem_mem hk) (by rw[hc]; exact h)
   have hnext:¬ dd S b w c→∀ j,j<k+1→∀ h:j<S.cp.length,¬ dd S b w S.cp[j]:=fun h j hj hl=>by
    by_cases ej:j=k
    ·subst ej; rw[hc]; exact h
    ·exact hi j (by omega) hl
   have ku:=Pt (m:=.plain) (l:=S.pd) (w:=w) (g:=c.b) hS.p rfl
   simp[rV,YL,e,hk,hc,zj,splice]
   refine ze ku (by simp) (by simp) ?_
   by_cases u1:c.a=-1∨c.a=b
   ·by_cases u3:c.c<usE S.pd w (grW c.b)
    ·by_cases u2:c.a=-1
     ·simp[u2,u3,yS,bad ⟨u1,u3⟩]
     ·have u4:c.a=b:=u1.resolve_left u2
      have u5:¬ ((b:Int)=-1):=by omega
      simp[u4,u5,u3,yS,bad ⟨u1,u3⟩]
    ·by_cases u2:c.a=-1
     ·simp[u2,u3,w1,YL]
      exact hnext fun h=>u3 h.2
     ·have u4:c.a=b:=u1.resolve_left u2
      have u5:¬ ((b:Int)=-1):=by omega
      simp[u4,u5,u3,w1,YL]
      exact hnext fun h=>u3 h.2
   ·have u2:¬ c.a=-1:=fun h=>u1 (.inl h)
    have u4:¬ c.a=b:=fun h=>u1 (.inr h)
    simp[u2,u4,w1,YL]
    exact hnext fun h=>u1 h.1
  ·have:alE S b w=0:=Mc hb c3 ⟨c4,c5,fun c hm=>by
    obtain ⟨j,hj,rfl⟩:=List.getElem_of_mem hm
    exact hi j hj hj⟩
   simp[rV,YL,lZ,yS,this]
end
section
variable {P:Pb} {r n:Nat} {o:Of} {L:List Of}
theorem RB:zf Try.prog v9 [iv n,.agg (oC o)] (iv (vN n o)):=by
 refine zC gD (by simp) ?_
 unfold vN
 by_cases c1:o.b<0
 ·rw[if_pos (.inl c1)]
  simp[xW,c1,xZ]
 ·by_cases c2:(n:Int)≤o.b
  ·rw[if_pos (.inr c2)]
   simp[xW,c1,c2,xZ]
  ·rw[if_neg (by omega)]
   by_cases c3:o.v<1
   ·rw[if_pos (.inl c3)]
    simp[xW,c1,c2,c3,xZ]
   ·by_cases c4:1000000<o.v
    ·rw[if_pos (.inr c4)]
     simp[xW,c1,c2,c3,c4,xZ]
    ·rw[if_neg (by omega)]
     simp[xW,c1,c2,c3,c4]
     refine ze (jL (w:=o.w)) (by simp) (by simp) ?_
     simp[xZ]
theorem pa {f:FuncId} {x y y' r:AV} (h:zf Try.prog f [x,y'] r) (hy:AV.imp y y'):zf Try.prog f [x,y] r:=fun I vs w h1 h2 h3 =>
 h I vs w h1 h2 fun i a hi=>by
  match i,hi with
  | 0,hi=>exact h3 0 a hi
  | 1,hi=>simp at hi; subst hi; exact hy _ _ _ (h3 1 y rfl)
  | i+2,hi=>simp at hi
theorem Ub:[iv 0,iv 0,iv 0,iv 0,iv 0,iv 0]=bC (fun _=>0):=by rw[yQ]
theorem Er (hn:P.cl.length≤1000):zf Try.prog wM [.agg (pbC P),.agg (oC o)] (iv (P.offE o)):=by
 have hk:kds Try.prog Op.maxDepth zI=some (List.replicate 6 (.i .i64)):=by kernel_rfl
 have hg:Try.prog.eqGuardType Try.prog.depth zI=false:=by kernel_rfl
 have hA:agT Try.prog zI=true:=by kernel_rfl
 have hz:decide (bI o.w=bI (fun _=>0))=decide (mP o.w):=by
  rw[decide_eq_decide,aR]
  exact Iff.rfl
 refine zC pm (by simp) ?_
 simp[tf]
 refine ze (RB (n:=P.cl.length) (o:=o)) (by simp) (by simp) ?_
 unfold Pb.offE
 by_cases c1:vN P.cl.length o=0
 ·obtain ⟨hb,_,hw⟩:=uZ c1
  rw[if_neg (fun h=>h c1)]
  simp[c1,Ub]
  rw[pC hk hg hA xf xf]
  by_cases c2:mP o.w
  ·rw[if_pos c2]
   simp[hz,c2,xc]
  ·rw[if_neg c2]
   simp[hz,c2]
   have hf:=SE (P:=P) (L:=[o]) hn (by simp) (fun x hx=>by rw[List.mem_singleton.1 hx]; exact hb) (fun x hx=>by rw[List.mem_singleton.1 hx]; exact hw)
   refine ze (pa hf (xD (rows:=[oC o]))) (by simp) (by simp) ?_
   by_cases c3:P.fits [o]
   ·simp[c3,xc]
   ·simp[c3,xc]
 ·rw[if_pos c1]
  simp[c1,xc]
end
section
variable {P:Pb} {r n:Nat} {o:Of} {L:List Of}
def pM (P:Pb) (k:Nat):St:={env:=[(1,.ptr 1 0),(16,iv k)],sto:=[(1,.var (pbC P))]}
def Zp (P:Pb) (k:Nat):St:={env:=[(76,clA P.cl),(77,iv P.cl.length),(78,iv k)],sto:=[]}
theorem frC (P:Pb) (h:∀ i,(hi:i<P.cl.length)→fX P.cl[i]):∀ c∈P.cl,fX c:=fun c hc=>by
 obtain ⟨i,hi,rfl⟩:=List.getElem_of_mem hc
 exact h i hi
theorem F7:zf Try.prog wL [.agg (pbC P)] (iv P.frameE):=by
 refine zC pj (by simp) ?_
 simp[te]
 refine ze (jL (w:=P.sup)) (by simp) (by simp) ?_
 unfold Pb.frameE
 by_cases c1:okB P.sup
 ·rw[if_neg (fun h=>h c1)]
  simp[c1]
  refine zz (pM P) (fun r=>∀ q,q<r→P.okC q) 6 (by simp[pM]) (fun q hq=>by omega) (fun k hk hI=>?_) (fun hI=>?_)
  ·have e:(k:Int)<6:=by omega
   have w1:=zo (k:=k) (by omega)
   by_cases d:P.okC k
   ·have d':=d
    unfold Pb.okC at d'
    obtain ⟨d1,d2,d3,d4,d5⟩:=d'
    have b1:¬ P.cls k<0:=by omega
    have b2:¬ 4<P.cls k:=by omega
    have b3:¬ P.opn k<0:=by omega
    have b4:¬ P.sup k<P.opn k:=by omega
    have hx:∀ q,q<k+1→P.okC q:=fun q hq=>by
     by_cases eq:q=k
     ·subst eq; exact d
     ·exact hI q (by omega)
    by_cases b5:P.cls k=0
    ·have b6:=d5 b5
     rw[b5] at b1 b2
     rw[b6] at b3 b4
     simp[zN,pM,e,vU hk,vT hk,q9 hk,b3,b5,b6,w1]
     exact hx
    ·simp[zN,pM,e,vU hk,vT hk,q9 hk,b1,b2,b3,b4,b5,w1]
     exact hx
   ·rw[if_neg (show ¬ P.okCs from fun h=>d (h k hk))]
    by_cases b1:P.cls k<0
    ·simp[zN,pM,e,vU hk,vT hk,b1,zM]
    ·by_cases b2:4<P.cls k
     ·simp[zN,pM,e,vU hk,vT hk,b1,b2,zM]
     ·by_cases b3:P.opn k<0
      ·simp[zN,pM,e,vU hk,vT hk,b1,b2,b3,zM]
      ·by_cases b4:P.sup k<P.opn k
       ·simp[zN,pM,e,vU hk,vT hk,q9 hk,b1,b2,b3,b4,zM]
       ·have b5:P.cls k=0∧¬ P.opn k=P.sup k:=by
         unfold Pb.okC at d
         by_cases b5:P.cls k=0
         ·exact ⟨b5,fun h=>d ⟨by omega,by omega,by omega,by omega,fun _=>h⟩⟩
         ·exact absurd (⟨by omega,by omega,by omega,by omega,fun h=>absurd h b5⟩) d
        simp[zN,pM,e,vU hk,vT hk,q9 hk,b3,b4,b5,zM]
  ·have hs:P.okCs:=hI
   rw[if_pos hs]
   by_cases f1:8<P.cl.length
   ·have f1':(8:Int)<P.cl.length:=by omega
    rw[if_pos (.inl f1)]
    simp[zN,pM,wa,f1',zM]
   ·have f1':¬ (8:Int)<P.cl.length:=by omega
    by_cases f2:160<P.of.length
    ·have f2':(160:Int)<P.of.length:=by omega
     rw[if_pos (.inr f2)]
     simp[zN,pM,wa,f1',f2',zM]
    ·have f2':¬ (160:Int)<P.of.length:=by omega
     rw[if_neg (by omega)]
     simp[zN,pM,wa,f1',f2']
     refine zz (Zp P) (fun r=>∀ q,q<r→(hq:q<P.cl.length)→fX P.cl[q]) P.cl.length (by simp[Zp]) (fun q hq=>by omega) (fun k hk hI=>?_) (fun hI=>?_)
     ·have e:(k:Int)<P.cl.length:=by omega
      have w1:=zo (k:=k) (by omega)
      by_cases d:fX P.cl[k]
      ·have d':=d
       unfold fX at d'
       have b1:¬ P.cl[k]<0:=by omega
       have b2:¬ 4<P.cl[k]:=by omega
       simp[xi,Zp,e,hk,b1,b2,w1]
       exact fun q hq hl=>by
        by_cases eq:q=k
        ·subst eq; exact d
        ·exact hI q (by omega) hl
      ·rw[if_neg (fun h=>d (h _ (List.getElem_mem hk)))]
       unfold fX at d
       by_cases b1:P.cl[k]<0
       ·simp[xi,Zp,e,hk,b1,zM]
       ·have b2:4<P.cl[k]:=by omega
        simp[xi,Zp,e,hk,b1,b2,zM]
     ·have hc:=frC P fun i hi=>hI i hi hi
      rw[if_pos hc]
      simp[xi,Zp,ru,zM]
 ·rw[if_pos c1]
  simp[c1,zM]
end
theorem Ai {k:List Int} (h:k.length=7):∃ a b c d e f g,k=[a,b,c,d,e,f,g]:=by
 match k,h with
 | [a,b,c,d,e,f,g],_=>exact ⟨a,b,c,d,e,f,g,rfl⟩
theorem DW (b:Bool) (a0 a1 a2 a3 a4 a5 a6:Int):zn Try.prog (Instr.checkKey b 10000 sH (vv [a0,a1,a2,a3,a4,a5,a6]))=some ():=by kernel_rfl
theorem Zd {t:TypeId}:kl Try.prog t sH 7 where
 kd:=Uy
 ag:=by kernel_rfl
 chk:=fun b k h=>by
  obtain ⟨a0,a1,a2,a3,a4,a5,a6,rfl⟩:=Ai h
  exact DW b a0 a1 a2 a3 a4 a5 a6
def r6 (o:Of):List Int:=o.b::bI o.w
theorem lf {o:Of}:(r6 o).length=7:=rfl
theorem Zc {o u:Of}:r6 o=r6 u↔y6 o u:=by
 unfold r6 y6
 rw[List.cons.injEq,aR]
def tw (L:List Of):tz:=L.map fun o=>(r6 o,.bool true)
theorem XH {L:List Of}:pF 7 (tw L):=fun x hx=>by
 obtain ⟨o,_,rfl⟩:=List.mem_map.1 hx
 exact lf
theorem dN {o:Of}:∀ {L:List Of},xj (r6 o) (tw L)=if ∃ u∈L,y6 u o then some (.bool true) else none
 | []=>by simp[tw,xj]
 | u::L=>by
  have ih:=dN (o:=o) (L:=L)
  unfold tw at ih ⊢
  rw[List.map_cons,xj,ih]
  by_cases h:r6 o=r6 u
  ·rw[if_pos h,if_pos ⟨u,by simp,Zc.1 h.symm⟩]
  ·rw[if_neg h]
   by_cases h2:∃ u∈L,y6 u o
   ·obtain ⟨x,h3,h4⟩:=h2
    rw[if_pos ⟨x,h3,h4⟩,if_pos ⟨x,by simp[h3],h4⟩]
   ·rw[if_neg h2,if_neg]
    rintro ⟨x,h3,h4⟩
    rcases List.mem_cons.1 h3 with rfl | h3
    ·exact h (Zc.2 h4).symm
    ·exact h2 ⟨x,h3,h4⟩
@[irreducible] def kC (o:Of):List AV:=(r6 o).map iv
theorem Za (o:Of):kC o=[iv o.b,iv (o.w 0),iv (o.w 1),iv (o.w 2),iv (o.w 3),iv (o.w 4),iv (o.w 5)]:=by unfold kC; rfl
section
variable {o:Of} {k l:Nat}
@[simp] theorem DV:(kC o).length=7:=by rw[Za]; rfl
@[simp] theorem Fm:(kC o).all rf=true:=by rw[Za]; rfl
@[simp] theorem BQ:(∀ x,x∈kC o→rf x=true)=True:=eq_true fun x h=>List.all_eq_true.1 Fm x h
@[simp] theorem JL:(kC o).map strip=kC o:=by rw[Za]; rfl
@[simp] theorem aao:(kC o).map (dg l)=kC o:=by rw[Za]; simp
@[simp] theorem A6:vA k (kC o)=false:=by rw[Za]; simp
@[simp] theorem BM:zx (kC o) 0 (some 7)=some (.agg (kC o)):=by rw[zj DV Fm,JL]
@[simp] theorem Ah:splice [AV.val (Value.int IntKind.i64 o.b),AV.val (Value.int IntKind.i64 0),AV.val (Value.int IntKind.i64 0),AV.val (Value.int IntKind.i64 0),AV.val (Value.int IntKind.i64 0),AV.val (Value.int IntKind.i64 0),AV.val (Value.int IntKind.i64 0)] 1 (bC o.w)=kC o:=by
 rw[Za,yQ]; rfl
end
noncomputable def boolT:TypeId:=match Try.prog.underlying xa with
 | some (.map _ e)=>e
 | _=>0
theorem ckM:Try.prog.underlying xa=some (.map sH boolT):=by kernel_rfl
theorem ckZ:zn Try.prog (zeroValue boolT)=some (.bool false):=by kernel_rfl
theorem DZ {σ:Nat→Option zd} {K:AV→Option zd→Prop} {L:List Of} {o:Of} {c:Nat} (hs:σ 17=some (.map (vQ (tw L)) c)) :
  vf Try.prog xa false σ [.mp 17,.agg (kC o)] K=K (bv (decide (∃ u∈L,y6 u o))) none:=by
 have e:kC o=(r6 o).map iv:=by unfold kC; rfl
 rw[e,bt Zd ckM ckZ hs lf XH,dN]
 by_cases h:∃ u∈L,y6 u o
 ·rw[if_pos h,decide_eq_true h]; rfl
 ·rw[if_neg h,decide_eq_false h]; rfl
theorem Bw {s:St} {KS:St→Prop} {L:List Of} {o:Of} (hs:lk s.sto 17=some (.map (vQ (tw L)) (tw L).length)) (hn:¬ ∃ u∈L,y6 u o) :
  vg Try.prog xa s none KS [.mp 17,.agg (kC o),.val (.bool true)]=KS {s with sto:=pt s.sto 17 (.map (vQ (tw (L++[o]))) (tw (L++[o])).length)}:=by
 have e:kC o=(r6 o).map iv:=by unfold kC; rfl
 have e2:ti (r6 o) (.bool true) (tw L)=tw (L++[o]):=by
  rw[ae (by rw[dN,if_neg hn])]
  simp[tw]
 rw[e,bw Zd ckM hs lf XH rfl,e2]
 simp
section
variable {P:Pb} {r n:Nat} {o:Of} {L:List Of}
def XS (P:Pb) (k:Nat):St:={env:=[(3,.ptr 3 0),(5,.mp 17),(19,ofA P.of),(20,iv P.of.length),(21,iv k)],sto:=[(3,.var (pbC P)),(17,.map (vQ (tw (P.of.take k))) (tw (P.of.take k)).length)]}
theorem MR (h:P.frameE=0):P.cl.length≤1000∧P.of.length≤1000000:=by
 unfold Pb.frameE at h
 split at h
 ·cases h
 ·split at h
  ·cases h
  ·split at h
   ·cases h
   ·omega
theorem FH:zf Try.prog yf [.agg (pbC P)] (iv P.chk):=by
 refine zC fu (by simp) ?_
 simp[nY]
 refine ze (F7 (P:=P)) (by simp) (by simp) ?_
 unfold Pb.chk
 by_cases c1:P.frameE=0
 ·rw[if_pos c1]
  obtain ⟨hn,hk⟩:=MR c1
  simp[c1]
  refine zz (XS P) (fun k=>P.chkL k=0) P.of.length (by simp[XS,tw,vQ,vJ]) rfl (fun k hk' hI=>?_) (fun hI=>?_)
  ·have e:(k:Int)<P.of.length:=by omega
   have hg:P.of[k]?=some P.of[k]:=by simp[hk']
   have w1:=zo (k:=k) (by omega)
   obtain ⟨o,ho⟩:∃ o,P.of[k]=o:=⟨_,rfl⟩
   rw[ho] at hg
   simp[rS,XS,e,hk',ho]
   refine ze (Er (P:=P) (o:=o) hn) (by simp) (by simp) ?_
   by_cases d:P.offE o=0
   ·simp[d]
    rw[DZ (L:=P.of.take k) (c:=(tw (P.of.take k)).length) (by simp)]
    by_cases d2:∃ u∈P.of.take k,y6 u o
    ·have hi:P.offI k o=7:=by unfold Pb.offI; rw[if_neg (fun h=>h d),if_pos d2]
     rw[Xa hI hg (by rw[hi]; decide) hk',hi]
     rw[decide_eq_true d2]
     simp[vm]
    ·have hi:P.offI k o=0:=by unfold Pb.offI; rw[if_neg (fun h=>h d),if_neg d2]
     have hx:=Mq hI hg hi
     rw[decide_eq_false d2]
     simp
     rw[Bw (L:=P.of.take k) (by simp) d2,← sC hg]
     simp[w1,hx,XS]
   ·have hi:P.offI k o=P.offE o:=by unfold Pb.offI; rw[if_pos d]
    rw[Xa hI hg (by rw[hi]; exact d) hk',hi]
    simp[d,vm]
  ·rw[hI]
   simp[rS,XS,lS,vm]
 ·rw[if_neg c1]
  simp[c1,vm]
theorem jA (_hn:P.cl.length≤1000) (_hk:P.of.length≤1000000):zf Try.prog yf [.agg (pbC P)] (iv P.chk):=FH
end
section
variable {L:List Of} {o:Of} {k i:Nat}
def yr (L:List Of) (o:Of):Nat→Option Nat
 | 0=>none
 | k+1=>match L[k]? with
  | none=>yr L o k
  | some u=>if y6 u o then (match yr L o k with
   | none=>some k
   | some n=>if (((L[n]?).map fun x=>x.v).getD 0)<u.v then some k else some n) else yr L o k
theorem dM {a b:Of} (h:y6 a b):y6 b a:=⟨h.1.symm,fun j hj=>(h.2 j hj).symm⟩
theorem ZP {a b c:Of} (h:y6 a b) (h2:y6 b c):y6 a c:=⟨h.1.trans h2.1,fun j hj=>(h.2 j hj).trans (h2.2 j hj)⟩
theorem js {a:Of}:y6 a a:=⟨rfl,fun _ _=>rfl⟩
theorem YU {o u:Of} (h:y6 o u):∀ k,yr L o k=yr L u k
 | 0=>rfl
 | k+1=>by
  have ih:=YU h k
  unfold yr
  cases L[k]? with
  | none=>exact ih
  | some x =>
   have:y6 x o↔y6 x u:=⟨fun h2=>ZP h2 h,fun h2=>ZP h2 (dM h)⟩
   simp only[ih,this]
theorem nO:∀ {k},yr L o k=none→∀ j,j<k→∀ h:j<L.length,¬ y6 L[j] o
 | 0,_,j,hj,_=>absurd hj (Nat.not_lt_zero j)
 | k+1,h,j,hj,hl=>by
  unfold yr at h
  by_cases ek:k<L.length
  ·rw[List.getElem?_eq_getElem ek] at h
   simp only at h
   by_cases hs:y6 L[k] o
   ·rw[if_pos hs] at h
    exfalso
    cases hb:yr L o k with
    | none=>rw[hb] at h; cases h
    | some n=>rw[hb] at h; simp only at h; split at h<;>cases h
   ·rw[if_neg hs] at h
    by_cases ej:j=k
    ·subst ej; exact hs
    ·exact nO h j (by omega) hl
  ·rw[List.getElem?_eq_none (by omega)] at h
   exact nO h j (by omega) hl
theorem qk:∀ {k n:Nat},yr L o k=some n→n<k∧∃ h:n<L.length,y6 L[n] o∧∀ j,j<k→∀ hl:j<L.length,y6 L[j] o→L[j].v≤L[n].v∧(j<n→L[j].v<L[n].v)
 | 0,_,h=>by cases h
 | k+1,n,h=>by
  unfold yr at h
  by_cases ek:k<L.length
  ·rw[List.getElem?_eq_getElem ek] at h
   simp only at h
   by_cases hs:y6 L[k] o
   ·rw[if_pos hs] at h
    cases hb:yr L o k with
    | none =>
     rw[hb] at h
     simp only[Option.some.injEq] at h
     subst h
     refine ⟨by omega,ek,hs,fun j hj hl hsj=>?_⟩
     by_cases ej:j=k
     ·subst ej; exact ⟨Int.le_refl _,fun h=>by omega⟩
     ·exact absurd hsj (nO hb j (by omega) hl)
    | some q =>
     rw[hb] at h
     simp only at h
     obtain ⟨hq,hql,hqs,hqb⟩:=qk hb
     rw[List.getElem?_eq_getElem hql] at h
     simp only[Option.map_some,Option.getD_some] at h
     split at h
     ·rename_i hlt
      cases h
      refine ⟨by omega,ek,hs,fun j hj hl hsj=>?_⟩
      by_cases ej:j=k
      ·subst ej; exact ⟨Int.le_refl _,fun h=>by omega⟩
      ·have:=(hqb j (by omega) hl hsj).1
       exact ⟨by omega,fun _=>by omega⟩
     ·rename_i hlt
      cases h
      refine ⟨by omega,hql,hqs,fun j hj hl hsj=>?_⟩
      by_cases ej:j=k
      ·subst ej; exact ⟨by omega,fun h=>by omega⟩
      ·exact hqb j (by omega) hl hsj
   ·rw[if_neg hs] at h
    obtain ⟨hq,hql,hqs,hqb⟩:=qk h
    refine ⟨by omega,hql,hqs,fun j hj hl hsj=>?_⟩
    by_cases ej:j=k
    ·subst ej; exact absurd hsj hs
    ·exact hqb j (by omega) hl hsj
  ·rw[List.getElem?_eq_none (by omega)] at h
   obtain ⟨hq,hql,hqs,hqb⟩:=qk h
   exact ⟨by omega,hql,hqs,fun j hj hl hsj=>hqb j (by omega) hl hsj⟩
def kV (L:List Of) (k i:Nat):Prop:=∃ h:k<L.length,∃ h2:i<L.length,y6 L[k] L[i]∧(L[i].v<L[k].v∨(k<i∧L[k].v=L[i].v))
theorem Ml (hi:i<L.length):yr L L[i] L.length=some i↔∀ k,¬ kV L k i:=by
 constructor
 ·intro h k ⟨hk,_,hs,hb⟩
  obtain ⟨_,_,_,h4⟩:=qk h
  have:=h4 k hk hk hs
  rcases hb with hb | ⟨h1,h2⟩
  ·omega
  ·have:=this.2 h1; omega
 ·intro h
  cases hb:yr L L[i] L.length with
  | none=>exact absurd js (nO hb i hi hi)
  | some n =>
   obtain ⟨hn,hnl,hns,hnb⟩:=qk hb
   have h1:=hnb i hi hi js
   have h2:=h n
   by_cases e:n=i
   ·rw[e]
   ·exfalso
    refine h2 ⟨hnl,hi,hns,?_⟩
    by_cases hlt:L[i].v<L[n].v
    ·exact .inl hlt
    ·refine .inr ⟨?_,by omega⟩
     apply Classical.byContradiction
     intro hle
     have:=h1.2 (by omega)
     omega
def vr (L:List Of):Nat→tz
 | 0=>[]
 | k+1=>match L[k]? with
  | none=>vr L k
  | some o=>if yr L o (k+1)=some k then ti (r6 o) (.int .i64 k) (vr L k) else vr L k
theorem cW:∀ k,pF 7 (vr L k)
 | 0=>fun x hx=>by cases hx
 | k+1=>by
  have ih:=cW k
  unfold vr
  cases L[k]? with
  | none=>exact ih
  | some o =>
   simp only
   split
   ·exact Tz lf ih
   ·exact ih
theorem U4 (u:Of):∀ k,xj (r6 u) (vr L k)=(yr L u k).map fun n:Nat=>Value.int .i64 n
 | 0=>rfl
 | k+1=>by
  have ih:=U4 u k
  unfold vr
  by_cases ek:k<L.length
  ·rw[List.getElem?_eq_getElem ek]
   simp only
   have hb:yr L u (k+1)=if y6 L[k] u then (match yr L u k with
     | none=>some k
     | some n=>if (((L[n]?).map fun x=>x.v).getD 0)<L[k].v then some k else some n) else yr L u k:=by
    conv=>lhs; unfold yr
    rw[List.getElem?_eq_getElem ek]
   by_cases hs:y6 L[k] u
   ·have hsame:=YU (L:=L) hs (k+1)
    rw[hsame]
    by_cases hbk:yr L u (k+1)=some k
    ·rw[if_pos hbk,hbk,bF,if_pos (Zc.2 (dM hs))]
     rfl
    ·rw[if_neg hbk,ih]
     rw[if_pos hs] at hb
     cases hq:yr L u k with
     | none=>rw[hq] at hb; exact absurd hb hbk
     | some n =>
      rw[hq] at hb
      simp only at hb
      split at hb
      ·exact absurd hb hbk
      ·rw[hb]
   ·rw[if_neg hs] at hb
    rw[hb]
    split
    ·rw[bF,if_neg fun h=>hs (dM (Zc.1 h)),ih]
    ·exact ih
  ·rw[List.getElem?_eq_none (by omega)]
   have hb:yr L u (k+1)=yr L u k:=by
    conv=>lhs; unfold yr
    rw[List.getElem?_eq_none (by omega)]
   rw[hb]
   exact ih
end
abbrev zX:AV:=.list 0 .full []
theorem MY {sz:Nat} {m:Am.Mode} {rows:List (List AV)} (h:stm m=m):AV.imp (.list sz m rows) (.list sz .plain rows):=by
 cases m with
 | plain=>exact AV.imp.refl
 | full=>exact xD
 | own l=>cases h
def fW (xs ys:List AV):Prop:=xs.length=ys.length∧∀ (i:Nat) x y,xs[i]?=some x→ys[i]?=some y→AV.imp x y
theorem vu:fW [] []:=⟨rfl,fun i x y h=>by simp at h⟩
theorem zH {x y:AV} {xs ys:List AV} (h:AV.imp x y) (hs:fW xs ys):fW (x::xs) (y::ys) :=
 ⟨by simp[hs.1],fun i a b ha hb=>by
  cases i with
  | zero=>simp only[List.getElem?_cons_zero,Option.some.injEq] at ha hb; subst ha hb; exact h
  | succ i=>simp only[List.getElem?_cons_succ] at ha hb; exact hs.2 i a b ha hb⟩
theorem Tl {xs:List AV}:fW xs xs:=⟨rfl,fun i x y h h'=>by rw[h] at h'; cases h'; exact AV.imp.refl⟩
theorem tT {α:Type} {l:List α} {i:Nat} (h:i<l.length):l[i]?=some l[i]:=by simp[h]
theorem Uw {xs ys:List AV} (h:fW xs ys):AV.imp (.agg xs) (.agg ys):=fun I w v hv=>by
 cases hv with
 | agg _ vs hs h1 hc =>
  refine .agg _ vs (by rw[hs,h.1]) h1 fun i c hi=>?_
  have:i<xs.length:=by rw[h.1]; exact (List.getElem?_eq_some_iff.1 hi).1
  exact h.2 i _ c (tT this) hi _ _ _ (hc i _ (tT this))
theorem nk {xs ys:List AV} (h:fW xs ys):AV.imp (.tuple xs) (.tuple ys):=fun I w v hv=>by
 cases hv with
 | tuple _ vs hs hc =>
  refine .tuple _ vs (by rw[hs,h.1]) fun i c hi=>?_
  have:i<xs.length:=by rw[h.1]; exact (List.getElem?_eq_some_iff.1 hi).1
  exact h.2 i _ c (tT this) hi _ _ _ (hc i _ (tT this))
def JJ (xs ys:List (List AV)):Prop:=xs.length=ys.length∧∀ (i:Nat) x y,xs[i]?=some x→ys[i]?=some y→fW x y
theorem JH {sz:Nat} {m:Am.Mode} {xs ys:List (List AV)} (hm:stm m=m) (h:JJ xs ys):AV.imp (.list sz m xs) (.list sz .plain ys):=fun I w v hv=>by
 have hv:=MY hm I w v hv
 cases hv with
 | listNil _ _ a cap _ _ =>
  have:ys=[]:=List.eq_nil_of_length_eq_zero (by rw[← h.1]; rfl)
  subst this
  exact .listNil _ _ _ _ (fun h=>by cases h) (fun _ h=>by cases h)
 | list _ _ _ b o cap g hcap hm' ho hrow hcell hc =>
  have get:∀ (i:Nat) r,ys[i]?=some r→∃ r0,xs[i]?=some r0∧fW r0 r:=fun i r hi=>by
   have:i<xs.length:=by rw[h.1]; exact (List.getElem?_eq_some_iff.1 hi).1
   exact ⟨xs[i],tT this,h.2 i _ r (tT this) hi⟩
  rw[h.1]
  refine .list _ _ _ b o cap g (by rw[← h.1]; exact hcap) (fun h=>by cases h) (fun _ h=>by cases h) (fun i r hi=>?_) (fun i r j c hi hj=>?_) fun i r j c hi hj=>?_
  ·obtain ⟨r0,h1,h2⟩:=get i r hi
   rw[← h2.1]; exact hrow i r0 h1
  ·obtain ⟨r0,h1,h2⟩:=get i r hi
   have hj0:j<r0.length:=by rw[h2.1]; exact (List.getElem?_eq_some_iff.1 hj).1
   exact hcell i r0 j _ h1 (tT hj0)
  ·obtain ⟨r0,h1,h2⟩:=get i r hi
   have hj0:j<r0.length:=by rw[h2.1]; exact (List.getElem?_eq_some_iff.1 hj).1
   exact h2.2 j _ c (tT hj0) hj _ _ _ (hc i r0 j _ h1 (tT hj0))
noncomputable def apc (tok sz:Nat) (rows:List (List AV)):AV:=if rows.length=0 then zX else .list sz (.own tok) rows
noncomputable def plc (sz:Nat) (rows:List (List AV)):AV:=if rows.length=0 then zX else .list sz .plain rows
section
variable {tok sz l k:Nat} {rows:List (List AV)}
theorem QV (h:rows.length=0):apc tok sz rows=zX:=if_pos h
theorem KL (h:¬ rows.length=0):apc tok sz rows=.list sz (.own tok) rows:=if_neg h
@[simp] theorem AN:rf (apc tok sz rows)=true:=by unfold apc; split<;>rfl
@[simp] theorem cU:strip (apc tok sz rows)=plc sz rows:=by unfold apc plc; split<;>rfl
@[simp] theorem BD:cellsOf (apc tok sz rows)=some [apc tok sz rows]:=by unfold apc; split<;>rfl
@[simp] theorem Av {σ:Nat→Option zd}:w8 σ (apc tok sz rows)=some (plc sz rows):=by unfold apc plc; split<;>rfl
@[simp] theorem B5:zT k (apc tok sz rows)=false:=by unfold apc; split<;>rfl
theorem tG (h:¬ tok=l):dg l (apc tok sz rows)=apc tok sz rows:=by
 unfold apc
 split
 ·simp
 ·simp only[dg]; rw[if_neg h]
@[simp] theorem BE:cellsOf (plc sz rows)=some [plc sz rows]:=by unfold plc; split<;>rfl
@[simp] theorem aac:rf (plc sz rows)=true:=by unfold plc; split<;>rfl
@[simp] theorem bS:strip (plc sz rows)=plc sz rows:=by unfold plc; split<;>rfl
@[simp] theorem aab:dg l (plc sz rows)=plc sz rows:=by unfold plc; split<;>simp
@[simp] theorem As:zT k (plc sz rows)=false:=by unfold plc; split<;>rfl
theorem uB {rows':List (List AV)} (h:JJ rows rows'):AV.imp (plc sz rows) (.list sz .plain rows'):=by
 unfold plc
 split
 ·rename_i h0
  have:rows'=[]:=List.eq_nil_of_length_eq_zero (by rw[← h.1]; exact h0)
  subst this
  exact AV.imp_nil rfl
 ·exact JH rfl h
end
@[simp] theorem g9 {tok sz:Nat} {rows:List (List AV)} {K:AV→Option zd→Prop}:vI false K (apc tok sz rows)=K (.val (.int .i64 rows.length)) none:=by
 unfold apc; split
 ·rename_i h; rw[h]; simp[vI]
 ·simp[vI]
theorem fU {tok sz i:Nat} {rows:List (List AV)} {K:AV→Option zd→Prop} (h:i<rows.length):ww sz [apc tok sz rows,iv i] K=K (.ro rows[i]) none:=by
 have h0:¬ rows.length=0:=by omega
 rw[KL h0]
 have h1:(i:Int)<rows.length:=by omega
 simp[ww,h1,h]
theorem Xi {sz i:Nat} {m:Am.Mode} {rows:List (List AV)} {K:AV→Option zd→Prop} (h:i<rows.length):ww sz [.list sz m rows,iv i] K=K (.ro rows[i]) none:=by
 have h1:(i:Int)<rows.length:=by omega
 simp[ww,h1,h]
theorem wX {rows:List (List AV)}:JJ rows rows:=⟨rfl,fun i x y h h'=>by rw[h] at h'; cases h'; exact Tl⟩
theorem Km {f:FuncId} {args:List AV} {r r':AV} (h:zf Try.prog f args r) (hr:AV.imp r r'):zf Try.prog f args r':=fun I vs w h1 h2 h3 =>
 Calls.mono (h I vs w h1 h2 h3) fun _ _ ⟨v,e,hb,hv⟩=>⟨v,e,hb,hr _ _ _ hv⟩
theorem JG {f:FuncId} {xs ys:List AV} {r:AV} (h:zf Try.prog f ys r) (hi:fW xs ys):zf Try.prog f xs r:=fun I vs w h1 h2 h3 =>
 h I vs w h1 (by rw[h2,hi.1]) fun i y hy=>by
  have hx:i<xs.length:=by rw[hi.1]; exact (List.getElem?_eq_some_iff.1 hy).1
  exact hi.2 i _ y (tT hx) hy _ _ _ (h3 i _ (tT hx))
theorem Bf {a a' b b':AV} (h:AV.imp a a') (h2:AV.imp b b'):fW [a,b] [a',b']:=zH h (zH h2 vu)
end Go.Proofs.Ytbmhibiljjnfiaa

namespace Go.Pb
def Pb.at (P:Pb) (i:Int):Of:=P.of.getD i.toNat ⟨0,fun _=>0,0⟩
def Pb.pick (P:Pb) (ch:List Int):List Of:=ch.map P.at
def prv (ch:List Int):Nat→Int
 | 0=>-1
 | k+1=>ch.getD k 0
def okI (n:Nat) (ch:List Int) (k:Nat):Prop:=prv ch k<ch.getD k 0∧ch.getD k 0<n
instance (n:Nat) (ch:List Int) (k:Nat):Decidable (okI n ch k):=inferInstanceAs (Decidable (prv ch k<ch.getD k 0∧ch.getD k 0<n))
def okP (n:Nat) (ch:List Int):Prop:=∀ k,k<ch.length→okI n ch k
instance (n:Nat) (ch:List Int):Decidable (okP n ch):=Nat.decidableBallLT ch.length fun k _=>okI n ch k
def Pb.feaE (P:Pb) (ch:List Int):Int:=if P.chk≠0 then P.chk else if ¬ okP P.of.length ch then 4 else if P.fits (P.pick ch) then 0 else 14
def Pb.valE (P:Pb) (ch:List Int):Int:=if okP P.of.length ch∧P.chk=0 then ((P.pick ch).map fun o=>o.v).sum else 0
section
variable {P:Pb} {n k:Nat} {ch:List Int}
theorem Ri (h:∀ q,q<k→okI n ch q):(k:Int)-1≤prv ch k:=by
 induction k with
 | zero=>simp[prv]
 | succ k ih =>
  have h1:=ih fun q hq=>h q (by omega)
  have h2:=(h k (by omega)).1
  simp only[prv]
  omega
theorem UD (h:okP n ch):ch.length≤n:=by
 cases e:ch.length with
 | zero=>omega
 | succ k =>
  have h1:=Ri (k:=k) (n:=n) (ch:=ch) fun q hq=>h q (by omega)
  have h2:=h k (by omega)
  unfold okI at h2
  omega
theorem Pj (h:∀ q,q<k→okI n ch q) (hk:okI n ch k):∃ b:Nat,ch.getD k 0=b∧b<n:=by
 have h1:=Ri h
 have h2:=hk
 unfold okI at h2
 exact ⟨(ch.getD k 0).toNat,by omega,by omega⟩
theorem Rf (h:okP P.of.length ch):∀ o∈P.pick ch,o∈P.of:=fun o ho=>by
 obtain ⟨i,hi,rfl⟩:=List.mem_map.1 ho
 obtain ⟨k,hk,rfl⟩:=List.getElem_of_mem hi
 obtain ⟨b,hb,hbn⟩:=Pj (fun q hq=>h q (by omega)) (h k hk)
 have e:ch.getD k 0=ch[k]:=by rw[List.getD_eq_getElem?_getD,List.getElem?_eq_getElem hk]; rfl
 unfold Pb.at
 rw[← e,hb,Int.toNat_natCast,List.getD_eq_getElem?_getD,List.getElem?_eq_getElem hbn]
 exact List.getElem_mem hbn
theorem dF:(P.pick ch).length=ch.length:=by simp[Pb.pick]
end
def ints (l:List Nat):List Int:=l.map fun i:Nat=>(i:Int)
end Go.Pb

namespace Go.Proofs.Ytbmhibiljjnfiaa
open Go Go.Am Go.Pb
@[simp] theorem AB:clR []=[]:=rfl
@[simp] theorem AG:ofR []=[]:=rfl
@[simp] theorem B4 {tok sz:Nat}:apc tok sz []=zX:=QV rfl
section
variable {P:Pb} {r n:Nat} {o:Of} {L:List Of} {ch:List Int}
theorem getD_lt {l:List Int} {k:Nat} (h:k<l.length):l.getD k 0=l[k]:=by rw[List.getD_eq_getElem?_getD,List.getElem?_eq_getElem h]; rfl
theorem CM {b:Nat} (h:b<P.of.length):P.at (b:Int)=P.of[b]:=by unfold Pb.at; rw[Int.toNat_natCast,List.getD_eq_getElem?_getD,List.getElem?_eq_getElem h]; rfl
theorem LC {k:Nat} (h:k<ch.length):P.pick (ch.take (k+1))=P.pick (ch.take k)++[P.at ch[k]]:=by
 unfold Pb.pick
 rw[sC (o:=ch[k]) (by simp[h]),List.map_append]
 rfl
theorem ew {L M:List Of}:ofR (L++M)=ofR L++ofR M:=by simp[ofR]
theorem ve {tok sz by_:Nat} {s:St} {KS:St→Prop} {rows:List (List AV)} {m:Am.Mode} {x:List AV} (h0:0<sz) (h1:s.base+tok=tok) (h2:(rows.length+1)*by_≤140737488355328) (h3:rows.length+1≤9223372036854775807) (h4:lk s.sto tok=none)
  (hK:KS ((s.dg tok).put (some tok) (apc tok sz (rows++[x])))):xu sz by_ s (some tok) KS [apc tok sz rows,.list sz m [x]]:=by
 have e:∀ r:List (List AV),apc tok sz r=rc sz tok r:=fun r=>by
  unfold apc rc
  by_cases h:r=[]
  ·subst h; simp
  ·simp[h]
 rw[e,bs h0 h1]
 exact ⟨h2,h3,h4,by rw[← e]; exact hK⟩
end
def pbZ:Pb:=⟨fun _=>0,fun _=>0,fun _=>0,[],[]⟩
section
variable {P:Pb}
theorem tY:[iv 0,iv 0,iv 0,iv 0,iv 0,iv 0,iv 0,iv 0,iv 0,iv 0,iv 0,iv 0,iv 0,iv 0,iv 0,iv 0,iv 0,iv 0,zX,zX]=pbX pbZ zX zX:=by rw[z5]; rfl
theorem UG {c c' o o':AV} (h1:AV.imp c c') (h2:AV.imp o o'):AV.imp (.agg (pbX P c o)) (.agg (pbX P c' o')):=by
 rw[z5,z5]
 refine Uw ?_
 repeat' first | exact zH h1 (zH h2 vu) | refine zH AV.imp.refl ?_
theorem ll:AV.imp (.agg (pbX pbZ zX zX)) (.agg (pbC pbZ)):=UG (AV.imp_nil rfl) (AV.imp_nil rfl)
end
def mb (m:Int) (b:Nat):Bool:=(BitVec.ofInt 64 m).getLsbD b
theorem D1 (m:Int) (b:Nat) (h1:-9223372036854775808≤m) (h2:m<9223372036854775808) (hb:b<64):sk .and .i64 (m.fdiv (2^b)) 1=if mb m b then 1 else 0:=by
 have hx:(BitVec.ofInt 64 m).toInt=m:=by
  rw[BitVec.toInt_ofInt,Int.bmod_eq_of_le]<;>omega
 have hs:BitVec.ofInt 64 (m.fdiv (2^b))=(BitVec.ofInt 64 m).sshiftRight b:=by
  apply BitVec.eq_of_toInt_eq
  rw[BitVec.toInt_sshiftRight,hx,← hx]
  conv=>rhs; rw[← BitVec.toInt_sshiftRight,← BitVec.ofInt_toInt (x:=(BitVec.ofInt 64 m).sshiftRight b),BitVec.toInt_sshiftRight]
  rw[Int.shiftRight_eq_div_pow,Int.fdiv_eq_ediv_of_nonneg _ (Int.le_of_lt (Int.pow_pos (by decide)))]
  rfl
 have hbits:IntKind.i64.bits=64:=rfl
 simp only[sk]
 rw[hbits,hs]
 have hg:(BitVec.ofInt 64 m).getLsbD b=((BitVec.ofInt 64 m).sshiftRight b).getLsbD 0:=by
  rw[BitVec.getLsbD_sshiftRight]
  simp[hb]
 unfold mb
 rw[hg]
 generalize (BitVec.ofInt 64 m).sshiftRight b=y
 have e1:(y &&& BitVec.ofInt 64 1).toNat=y.toNat%2:=by
  rw[BitVec.toNat_and]
  have:(BitVec.ofInt 64 1).toNat=1:=by decide
  rw[this,Nat.and_one_is_mod]
 rw[e1]
 have e2:y.getLsbD 0=decide (y.toNat%2=1):=by
  rw[BitVec.getLsbD,Nat.testBit_zero]
 rw[e2]
 by_cases h:y.toNat%2=1
 ·rw[h]; simp; rw[wrap64]<;>omega
 ·have:y.toNat%2=0:=by omega
  rw[this]; simp; rw[wrap64]<;>omega
end Go.Proofs.Ytbmhibiljjnfiaa
