/- What the proof rests on, part 8: Dig N0 PB Q0 Q1 Q2 Q3 Q4 Q5 Q6 Q7 IM PD QD N1 N2 N3c Dig2 N4f N5 Dig3 Dig4 N6 N7 N8 N9 N10 Dig5 N11 N6b N12 N13 N14 F1. -/
import Derived.Test.YtfmcplfbnkoglaaP7
set_option maxRecDepth 100000
set_option maxHeartbeats 4000000
namespace Go.Dig
def B:Nat:=4294967296
theorem z5:B=4294967296:=rfl
theorem zU:0<B:=by decide
theorem vg (k:Nat):0<B^k:=Nat.pow_pos zU
def val:List Nat→Nat
 | []=>0
 | d::l=>d+B*val l
def ok (l:List Nat):Prop:=∀ d∈l,d<B
def zf (x:Nat):List Nat:=if x=0 then [] else x%B::zf (x/B)
termination_by x
decreasing_by exact Nat.div_lt_self (by omega) (by decide)
theorem yd:zf 0=[]:=by rw[zf]; rfl
theorem sf {x:Nat} (h:x≠0):zf x=x%B::zf (x/B):=by rw[zf,if_neg h]
theorem zI (x:Nat):val (zf x)=x:=by
 induction x using Nat.strongRecOn with
 | ind x ih =>
  by_cases h:x=0
  ·subst h; rw[yd]; rfl
  ·rw[sf h,val,ih _ (Nat.div_lt_self (by omega) (by decide))]
   exact Nat.mod_add_div x B
theorem zw (x:Nat):ok (zf x):=by
 induction x using Nat.strongRecOn with
 | ind x ih =>
  by_cases h:x=0
  ·subst h; rw[yd]; intro d hd; cases hd
  ·rw[sf h]
   intro d hd
   rcases List.mem_cons.1 hd with rfl | hd
   ·exact Nat.mod_lt _ zU
   ·exact ih _ (Nat.div_lt_self (by omega) (by decide)) d hd
theorem yE {x:Nat}:zf x=[]↔x=0:=by
 constructor
 ·intro h; have:=zI x; rw[h] at this; exact this.symm
 ·rintro rfl; exact yd
theorem cj {x y:Nat} (h:zf x=zf y):x=y:=by rw[← zI x,h,zI]
theorem NK:ok []:=fun _ h=>by cases h
theorem SM {d:Nat} {l:List Nat}:ok (d::l)↔d<B∧ok l:=by simp[ok]
theorem Zu {a b:List Nat}:ok (a++b)↔ok a∧ok b:=by
 constructor
 ·intro h; exact ⟨fun d hd=>h d (by simp[hd]),fun d hd=>h d (by simp[hd])⟩
 ·rintro ⟨h1,h2⟩ d hd
  rcases List.mem_append.1 hd with hd | hd
  ·exact h1 d hd
  ·exact h2 d hd
theorem ut {a:List Nat} (h:ok a) (k:Nat):ok (a.take k):=fun d hd=>h d (List.mem_of_mem_take hd)
theorem SN {a:List Nat} (h:ok a) (k:Nat):ok (a.drop k):=fun d hd=>h d (List.mem_of_mem_drop hd)
theorem TA {a:List Nat} (h:ok a) {k x:Nat} (hx:x<B):ok (a.set k x):=fun d hd=>by
 rcases List.mem_or_eq_of_mem_set hd with hd | rfl
 ·exact h d hd
 ·exact hx
theorem NL (n:Nat):ok (List.replicate n 0):=fun d hd=>by
 rw[List.eq_of_mem_replicate hd]; exact zU
theorem xC {a:List Nat} (h:ok a) {k:Nat} (hk:k<a.length):a[k]<B:=h _ (List.getElem_mem hk)
theorem val_append (a b:List Nat):val (a++b)=val a+B^a.length*val b:=by
 induction a with
 | nil=>simp[val]
 | cons d a ih=>simp only[List.cons_append,val,ih,List.length_cons,Nat.pow_succ,Nat.mul_add]; rw[Nat.mul_comm (B^a.length) B,Nat.mul_assoc]; omega
theorem YM (n:Nat):val (List.replicate n 0)=0:=by
 induction n with
 | zero=>rfl
 | succ n ih=>simp[List.replicate_succ,val,ih]
theorem vm {a:List Nat} (h:ok a):val a<B^a.length:=by
 induction a with
 | nil=>simp[val]
 | cons d a ih =>
  have h1:=(SM.1 h).1
  have h2:=ih (SM.1 h).2
  simp only[val,List.length_cons,Nat.pow_succ]
  have:B*(val a+1)≤B*B^a.length:=Nat.mul_le_mul_left _ h2
  rw[Nat.mul_add] at this
  rw[Nat.mul_comm (B^a.length)]
  omega
theorem yC {a:List Nat} (h:ok a) {n:Nat} (hn:a.length≤n):val a<B^n :=
 Nat.lt_of_lt_of_le (vm h) (Nat.pow_le_pow_right zU hn)
theorem vT (a:List Nat) (k:Nat):val a=val (a.take k)+B^(min k a.length)*val (a.drop k):=by
 have:=val_append (a.take k) (a.drop k)
 rwa [List.take_append_drop,List.length_take] at this
theorem xE {a:List Nat} {k:Nat} (hk:k<a.length):val (a.take (k+1))=val (a.take k)+B^k*a[k]:=by
 rw[List.take_succ_eq_append_getElem hk,val_append,List.length_take,Nat.min_eq_left (by omega)]
 simp[val]
theorem MN {a:List Nat} (h:ok a) {k:Nat} (hk:k≤a.length):val (a.take k)=val a%B^k:=by
 have h1:=vT a k
 have h2:=vm (ut h k)
 rw[List.length_take,Nat.min_eq_left hk] at h2
 rw[Nat.min_eq_left hk] at h1
 rw[h1,Nat.add_mul_mod_self_left,Nat.mod_eq_of_lt h2]
theorem Us {a:List Nat} (h:ok a) {k:Nat} (hk:k≤a.length):val (a.drop k)=val a/B^k:=by
 have h1:=vT a k
 have h2:=vm (ut h k)
 rw[List.length_take,Nat.min_eq_left hk] at h2
 rw[Nat.min_eq_left hk] at h1
 rw[h1,Nat.add_mul_div_left _ _ (vg k),Nat.div_eq_of_lt h2,Nat.zero_add]
theorem mS {a:List Nat} (h:ok a) {k:Nat} (hk:k<a.length):a[k]=val a/B^k%B:=by
 rw[← Us h (by omega),List.drop_eq_getElem_cons hk,val,Nat.add_mul_mod_self_left,Nat.mod_eq_of_lt (xC h hk)]
def zu (n x:Nat):List Nat:=(List.range n).map fun i=>x/B^i%B
theorem zy {n x:Nat}:(zu n x).length=n:=by simp[zu]
theorem vf {n x k:Nat} (hk:k<(zu n x).length):(zu n x)[k]=x/B^k%B:=by simp[zu]
theorem yt {n x:Nat}:ok (zu n x):=fun d hd=>by
 simp only[zu,List.mem_map] at hd
 obtain ⟨i,_,rfl⟩:=hd
 exact Nat.mod_lt _ zU
theorem aT {a:List Nat} (h:ok a):zu a.length (val a)=a:=by
 apply List.ext_getElem
 ·simp[zu]
 ·intro i h1 h2
  rw[vf,← mS h h2]
theorem se {n x:Nat}:zu (n+1) x=zu n x++[x/B^n%B]:=by
 simp[zu,List.range_succ]
theorem fW {n x:Nat}:val (zu n x)=x%B^n:=by
 induction n with
 | zero=>simp[zu,val,Nat.mod_one]
 | succ n ih =>
  rw[se,val_append,ih,zy,Nat.pow_succ,Nat.mod_mul]
  simp[val]
theorem YL {a b:List Nat} (ha:ok a) (hb:ok b) (hl:a.length=b.length) (hv:val a=val b):a=b:=by
 rw[← aT ha,← aT hb,hl,hv]
def wx (n k S:Nat):List Nat:=zu k S++List.replicate (n-k) 0
theorem k8 {n S:Nat}:wx n 0 S=List.replicate n 0:=by simp[wx,zu]
theorem fu {n k S:Nat} (hk:k≤n):(wx n k S).length=n:=by simp[wx,zy]; omega
theorem aZ {n S:Nat}:wx n n S=zu n S:=by simp[wx]
theorem fw {n k S:Nat} (hk:k<n):(wx n k S).set k (S/B^k%B)=wx n (k+1) S:=by
 unfold wx
 obtain ⟨m,hm⟩:∃ m,n-k=m+1:=⟨n-k-1,by omega⟩
 have hm2:n-(k+1)=m:=by omega
 rw[hm,hm2,se,List.set_append_right _ _ (by rw[zy]; exact Nat.le_refl _),zy,Nat.sub_self,List.replicate_succ,List.set_cons_zero]
 simp
theorem yh {n x:Nat} (h:x<B^n):val (zu n x)=x:=by rw[fW,Nat.mod_eq_of_lt h]
theorem Kc {a:List Nat} (h:ok a) (hn:∀ hk:0<a.length,a[a.length-1]≠0):zf (val a)=a:=by
 induction a with
 | nil=>exact yd
 | cons d a ih =>
  have h1:=SM.1 h
  by_cases ha:a=[]
  ·subst ha
   have:d≠0:=hn (by simp)
   have h2:(d+B*0)=d:=by omega
   simp only[val,h2]
   rw[sf this,Nat.mod_eq_of_lt h1.1,Nat.div_eq_of_lt h1.1,yd]
  ·have hpos:0<a.length:=by
    rcases a with _ | ⟨x,a⟩
    ·exact absurd rfl ha
    ·simp
   have hlast:∀ hk:0<a.length,a[a.length-1]≠0:=fun _=>by
    have:=hn (by simp)
    simp only[List.length_cons,Nat.add_sub_cancel] at this
    rw[List.getElem_cons] at this
    rw[dif_neg (by omega)] at this
    exact this
   have ih:=ih h1.2 hlast
   have hne:val a≠0:=by
    intro h0
    rw[h0,yd] at ih
    exact ha ih.symm
   have h0:d+B*val a≠0:=by
    have:0<B*val a:=Nat.mul_pos zU (by omega)
    omega
   simp only[val]
   rw[sf h0,Nat.add_mul_mod_self_left,Nat.mod_eq_of_lt h1.1,Nat.add_mul_div_left _ _ zU,Nat.div_eq_of_lt h1.1,Nat.zero_add,ih]
theorem fo {x:Nat} (h:0<(zf x).length):(zf x)[(zf x).length-1]≠0:=by
 induction x using Nat.strongRecOn with
 | ind x ih =>
  by_cases h0:x=0
  ·subst h0; rw[yd] at h; simp at h
  ·have e:=sf h0
   by_cases h1:x/B=0
   ·have e2:zf x=[x%B]:=by rw[e,h1,yd]
    simp only[e2,List.length_singleton,Nat.sub_self,List.getElem_cons_zero]
    have:x<B:=by
     rcases Nat.lt_or_ge x B with h | h
     ·exact h
     ·have:=Nat.div_pos h zU; omega
    rw[Nat.mod_eq_of_lt this]; exact h0
   ·have hp:0<(zf (x/B)).length:=by
     rw[sf h1]; simp
    have:=ih _ (Nat.div_lt_self (by omega) (by decide)) hp
    simp only[e,List.length_cons,Nat.add_sub_cancel]
    rw[List.getElem_cons,dif_neg (by omega)]
    exact this
theorem zE {x n:Nat}:(zf x).length≤n↔x<B^n:=by
 constructor
 ·intro h
  have:=yC (zw x) h
  rwa [zI] at this
 ·intro h
  rcases Nat.lt_or_ge n (zf x).length with hlt | hge
  ·exfalso
   have hp:0<(zf x).length:=by omega
   have h1:=fo hp
   have h2:=mS (zw x) (k:=(zf x).length-1) (by omega)
   rw[zI] at h2
   have h3:x/B^((zf x).length-1)=0:=by
    apply Nat.div_eq_of_lt
    exact Nat.lt_of_lt_of_le h (Nat.pow_le_pow_right zU (by omega))
   rw[h3] at h2
   exact h1 h2
  ·exact hge
theorem eC {x n:Nat}:n<(zf x).length↔B^n≤x:=by
 have:=@zE x n
 omega
theorem Cp {a:List Nat} (h:ok a) {n:Nat} (hn:n≤a.length) (h0:∀ k (hk:k<a.length),n≤k→a[k]=0) (h1:∀ hk:0<n,a[n-1]'(by omega)≠0):a.take n=zf (val a):=by
 have hz:a.drop n=List.replicate (a.length-n) 0:=by
  apply List.ext_getElem
  ·simp
  ·intro i hi hj
   simp only[List.getElem_drop,List.getElem_replicate]
   exact h0 _ _ (by omega)
 have hv:val a=val (a.take n):=by
  rw[vT a n,hz,YM]; omega
 rw[hv]
 refine (Kc (ut h n) fun hk=>?_).symm
 simp only[List.length_take,Nat.min_eq_left hn] at hk ⊢
 simp only[List.getElem_take]
 exact h1 hk
theorem we {a:List Nat} (h:ok a):(zf (val a)).length≤a.length:=zE.2 (vm h)
def itr {σ:Type} (f:Nat→σ→σ) (s:σ):Nat→σ
 | 0=>s
 | k+1=>f k (itr f s k)
theorem pZ {x i:Nat} (h:i<(zf x).length):(zf x)[i]=x/B^i%B:=by
 rw[mS (zw x) h,zI]
theorem Zi {a:List Nat} (h:ok a):(zf (val a)).length≤a.length∧(∀ i (hi:i<a.length),(zf (val a)).length≤i→a[i]=0) ∧
  (∀ (_h0:0<(zf (val a)).length) (h1:(zf (val a)).length-1<a.length),a[(zf (val a)).length-1]≠0)∧a.take (zf (val a)).length=zf (val a):=by
 have h1:=we h
 have h2:∀ i (hi:i<a.length),(zf (val a)).length≤i→a[i]=0:=fun i hi hle=>by
  rw[mS h hi]
  have h3:=zE.1 hle
  rw[Nat.div_eq_of_lt h3]
  rfl
 have h3:∀ (h0:0<(zf (val a)).length) (h1:(zf (val a)).length-1<a.length),a[(zf (val a)).length-1]≠0:=fun h0 h4=>by
  rw[mS h h4,← pZ (by omega)]
  exact fo h0
 exact ⟨h1,h2,h3,Cp h h1 (fun k hk hle=>h2 k hk hle) (fun h0=>h3 h0 (by omega))⟩
theorem YY {a b:List Nat} (ha:ok a) (_hb:ok b) (hl:a.length=b.length) {k:Nat} (hk:k<a.length) (heq:a.drop (k+1)=b.drop (k+1)) (hlt:a[k]<b[k]'(by omega)):val a<val b:=by
 have e1:=vT a (k+1)
 have e2:=vT b (k+1)
 rw[heq] at e1
 rw[Nat.min_eq_left (by omega)] at e1 e2
 have t1:=xE hk
 have t2:=xE (a:=b) (k:=k) (by omega)
 have l1:=vm (ut ha k)
 rw[List.length_take,Nat.min_eq_left (by omega)] at l1
 have:B^k*(a[k]+1)≤B^k*b[k]'(by omega):=Nat.mul_le_mul_left _ hlt
 rw[Nat.mul_add] at this
 omega
theorem fA {x y:Nat} (h:(zf x).length<(zf y).length):x<y:=by
 have h1:=zE.1 (Nat.le_refl (zf x).length)
 have h2:=eC.1 h
 omega
theorem fk {L t R k:Nat}:(L+B^k*t+B^(k+1)*R)/B^k%B=(L/B^k+t)%B:=by
 have:L+B^k*t+B^(k+1)*R=L+B^k*(t+B*R):=by rw[Nat.pow_succ,Nat.mul_add,Nat.mul_assoc]; omega
 rw[this,Nat.add_mul_div_left _ _ (vg k),← Nat.add_assoc,Nat.add_mul_mod_self_left]
theorem fj {L t k:Nat}:(L+B^k*t)/B^(k+1)=(L/B^k+t)/B:=by
 rw[Nat.pow_succ,← Nat.div_div_eq_div_mul,Nat.add_mul_div_left _ _ (vg k)]
def bor (x y k:Nat):Nat:=if x%B^k<y%B^k then 1 else 0
theorem UG {x y k:Nat}:bor x y k≤1:=by unfold bor; split<;>omega
theorem dU {x y:Nat}:bor x y 0=0:=by simp[bor,Nat.mod_one]
theorem acW {x y P:Nat} (hP:0<P) (h:y≤x):(x-y)/P=x/P-y/P-(if x%P<y%P then 1 else 0)∧y/P+(if x%P<y%P then 1 else 0)≤x/P:=by
 have e1:=Nat.div_add_mod x P
 have e2:=Nat.div_add_mod y P
 have l1:=Nat.mod_lt x hP
 have l2:=Nat.mod_lt y hP
 have hq:y/P≤x/P:=Nat.div_le_div_right h
 generalize x/P=a at *
 generalize y/P=b at *
 generalize x%P=r at *
 generalize y%P=s at *
 obtain ⟨c,rfl⟩:∃ c,a=b+c:=⟨a-b,by omega⟩
 rw[Nat.mul_add] at e1
 by_cases hlt:r<s
 ·simp only[hlt,if_true]
  rcases c with _ | c
  ·simp at e1; omega
  ·rw[Nat.mul_add,Nat.mul_one] at e1
   have:x-y=P*c+(P+r-s):=by omega
   rw[this,Nat.mul_add_div hP,Nat.div_eq_of_lt (by omega)]
   omega
 ·simp only[hlt,if_false]
  have:x-y=P*c+(r-s):=by omega
  rw[this,Nat.mul_add_div hP,Nat.div_eq_of_lt (by omega)]
  omega
theorem fP {x y k:Nat} (h:y≤x):(((x-y)/B^k%B:Nat):Int)=((x/B^k%B:Nat)-(y/B^k%B:Nat)-(bor x y k:Nat):Int)%4294967296:=by
 obtain ⟨h1,h2⟩:=acW (vg k) h
 have e:(if x%B^k<y%B^k then 1 else 0)=bor x y k:=rfl
 rw[e] at h1 h2
 rw[h1]
 generalize x/B^k=a at *
 generalize y/B^k=b at *
 generalize bor x y k=c at *
 rw[z5]
 omega
theorem dS {x y k:Nat}:bor x y (k+1)=if x/B^k%B<y/B^k%B+bor x y k then 1 else 0:=by
 unfold bor
 rw[Nat.pow_succ,Nat.mod_mul,Nat.mod_mul]
 have l1:=Nat.mod_lt x (vg k)
 have l2:=Nat.mod_lt y (vg k)
 generalize x/B^k%B=a
 generalize y/B^k%B=b
 generalize x%B^k=r at *
 generalize y%B^k=s at *
 generalize B^k=P at *
 rcases Nat.lt_trichotomy a b with h | h | h
 ·have:P*(a+1)≤P*b:=Nat.mul_le_mul_left _ h
  rw[Nat.mul_add] at this
  rw[if_pos (by omega),if_pos (by omega)]
 ·subst h
  by_cases hrs:r<s
  ·rw[if_pos (by omega),if_pos (by rw[if_pos hrs]; omega)]
  ·rw[if_neg (by omega),if_neg (by rw[if_neg hrs]; omega)]
 ·have:P*(b+1)≤P*a:=Nat.mul_le_mul_left _ h
  rw[Nat.mul_add] at this
  rw[if_neg (by omega),if_neg (by split<;>omega)]
theorem Eg {x i:Nat}:(zf x)[i]?.getD 0=x/B^i%B:=by
 by_cases h:i<(zf x).length
 ·rw[List.getElem?_eq_getElem h,Option.getD_some,pZ h]
 ·rw[List.getElem?_eq_none (by omega),Option.getD_none]
  have:=zE.1 (Nat.le_of_not_lt h)
  rw[Nat.div_eq_of_lt this]; rfl
end Go.Dig

namespace Go.Proofs.Ytfmcplfbnkoglaa
open Go Go.Am Go.Dig
theorem zq {k:Nat} (h:k<4611686018427387904):IntKind.i64.wrap ((k:Int)+1)=((k+1:Nat):Int):=by
 rw[wrap64]<;>omega
abbrev uv (n:Nat):AV:=.val (.int .u32 (n:Int))
abbrev zG (a:List Nat):List (List AV):=a.map fun d=>[uv d]
abbrev nl (m:Am.Mode) (a:List Nat):AV:=.list 1 m (zG a)
abbrev nD (x:Nat):AV:=nl .plain (zf x)
theorem wz {sz:Nat} {rows:List (List AV)}:AV.imp (.list sz .full rows) (.list sz .plain rows):=fun I w v h=>by
 cases h with
 | listNil _ _ a cap hm ho=>exact .listNil _ _ a cap (by simp) (by simp)
 | list _ _ _ b o cap g hcap hm ho hrow hcell hc=>exact .list _ _ _ b o cap g hcap (by simp) (by simp) hrow hcell hc
theorem XK {sz:Nat} {rows:List (List AV)}:AV.imp (NP sz rows) (.list sz .plain rows):=by
 unfold NP
 by_cases h:rows=[]
 ·subst h; simp only[if_true]; exact AV.imp_nil rfl
 ·simp only[h,if_false]; exact AV.imp.refl
theorem w32 (n:Nat):IntKind.u32.wrap (n:Int)=((n%B:Nat):Int):=by
 rw[IntKind.wrap_u32,z5]; omega
theorem w64 {n:Nat} (h:n<18446744073709551616):IntKind.u64.wrap (n:Int)=n:=IntWalk.u64_in n (by omega)
theorem vL {n:Int} (h:0≤n) (h2:n<18446744073709551616):IntKind.u64.wrap n=n:=IntWalk.u64_in n (by omega)
end Go.Proofs.Ytfmcplfbnkoglaa

namespace Go.Pb
structure Of where
 b:Int
 w:Nat→Int
 v:Int
structure Pb where
 sup:Nat→Int
 opn:Nat→Int
 cls:Nat→Int
 cl:List Int
 of:List Of
def uj {α:Type} (f:α→Int) (l:List α) (k:Nat):Int:=((l.take k).map f).sum
section
variable {α:Type} {f g:α→Int} {l:List α} {k:Nat} {o:α}
theorem Zv:uj f l 0=0:=rfl
theorem mq (h:l[k]?=some o):l.take (k+1)=l.take k++[o]:=by rw[List.take_add_one,h]; rfl
theorem fE (h:l[k]?=some o):uj f l (k+1)=uj f l k+f o:=by
 unfold uj
 rw[mq h,List.map_append,List.sum_append]
 simp
theorem cP:uj f l l.length=(l.map f).sum:=by simp[uj]
theorem mc {a b:Int} (h:∀ o∈l,a≤f o∧f o≤b):∀ k,k≤l.length→a*k≤uj f l k∧uj f l k≤b*k
 | 0,_=>by simp[uj]
 | k+1,hk=>by
  have hk':k<l.length:=by omega
  have hg:l[k]?=some l[k]:=by simp[hk']
  obtain ⟨h1,h2⟩:=mc h k (by omega)
  obtain ⟨h3,h4⟩:=h l[k] (List.getElem_mem hk')
  rw[fE hg,Int.natCast_add,Int.mul_add,Int.mul_add]
  omega
theorem Qs {a b:Int} (h:∀ o∈l,a≤f o∧f o≤b):a*l.length≤(l.map f).sum∧(l.map f).sum≤b*l.length:=by
 have:=mc h l.length (Nat.le_refl _)
 rwa [cP] at this
end
def okB (w:Nat→Int):Prop:=∀ j,j<6→0≤w j∧w j≤4
instance (w:Nat→Int):Decidable (okB w):=by unfold okB; exact inferInstance
def lH (w:Nat→Int):Prop:=∀ j,j<6→w j=0
instance (w:Nat→Int):Decidable (lH w):=by unfold lH; exact inferInstance
def eqB (w u:Nat→Int):Prop:=∀ j,j<6→w j=u j
instance (w u:Nat→Int):Decidable (eqB w u):=by unfold eqB; exact inferInstance
def leB (w u:Nat→Int):Prop:=∀ j,j<6→w j≤u j
instance (w u:Nat→Int):Decidable (leB w u):=by unfold leB; exact inferInstance
def Pb.clOf (P:Pb) (b:Int):Int:=P.cl.getD b.toNat 0
def Pb.rows (P:Pb):Nat:=P.cl.length+12
def Pb.coef (P:Pb) (r:Nat) (o:Of):Int :=
 if r<P.cl.length then (if o.b=r then 1 else 0)
 else if r<P.cl.length+6 then o.w (r-P.cl.length)
 else if P.cls (r-P.cl.length-6)=0∨P.cls (r-P.cl.length-6)=P.clOf o.b then 0 else o.w (r-P.cl.length-6)
def Pb.bnd (P:Pb) (r:Nat):Int :=
 if r<P.cl.length then 1 else if r<P.cl.length+6 then P.sup (r-P.cl.length) else P.opn (r-P.cl.length-6)
def Pb.fits (P:Pb) (l:List Of):Prop:=∀ r,r<P.rows→(l.map (P.coef r)).sum≤P.bnd r
instance (P:Pb) (l:List Of):Decidable (P.fits l):=by unfold Pb.fits; exact inferInstance
def Pb.okC (P:Pb) (j:Nat):Prop:=0≤P.cls j∧P.cls j≤4∧0≤P.opn j∧P.opn j≤P.sup j∧(P.cls j=0→P.opn j=P.sup j)
instance (P:Pb) (j:Nat):Decidable (P.okC j):=by unfold Pb.okC; exact inferInstance
def Pb.okCs (P:Pb):Prop:=∀ j,j<6→P.okC j
instance (P:Pb):Decidable P.okCs:=Nat.decidableBallLT 6 fun j _=>P.okC j
def mb (c:Int):Prop:=0≤c∧c≤4
instance (c:Int):Decidable (mb c):=by unfold mb; exact inferInstance
def Pb.frameE (P:Pb):Int :=
 if ¬ okB P.sup then 4 else if ¬ P.okCs then 4 else if 8<P.cl.length∨160<P.of.length then 3 else if ∀ c∈P.cl,mb c then 0 else 4
def s6 (n:Nat) (o:Of):Int:=if o.b<0∨(n:Int)≤o.b then 6 else if o.v<1∨1000000<o.v then 4 else if okB o.w then 0 else 4
def Pb.offE (P:Pb) (o:Of):Int:=if s6 P.cl.length o≠0 then s6 P.cl.length o else if lH o.w then 4 else if P.fits [o] then 0 else 14
def qL (o o':Of):Prop:=o.b=o'.b∧eqB o.w o'.w
instance (o o':Of):Decidable (qL o o'):=by unfold qL; exact inferInstance
def Pb.offI (P:Pb) (i:Nat) (o:Of):Int:=if P.offE o≠0 then P.offE o else if ∃ o'∈P.of.take i,qL o' o then 7 else 0
def Pb.chkL (P:Pb):Nat→Int
 | 0=>0
 | i+1=>if P.chkL i=0 then (match P.of[i]? with | some o=>P.offI i o | none=>0) else P.chkL i
def Pb.chk (P:Pb):Int:=if P.frameE=0 then P.chkL P.of.length else P.frameE
section
variable {P:Pb}
theorem RM {i:Nat} (h:P.chkL i≠0):∀ d,P.chkL (i+d)=P.chkL i
 | 0=>rfl
 | d+1=>by
  have:=RM h d
  rw[← Nat.add_assoc,Pb.chkL,this,if_neg h]
theorem kZ {i k:Nat} {o:Of} (h0:P.chkL i=0) (hi:P.of[i]?=some o) (he:P.offI i o≠0) (hk:i<k):P.chkL k=P.offI i o:=by
 have h1:P.chkL (i+1)=P.offI i o:=by rw[Pb.chkL,if_pos h0,hi]
 have h2:=RM (P:=P) (i:=i+1) (by rw[h1]; exact he) (k-(i+1))
 rw[show i+1+(k-(i+1))=k by omega] at h2
 rw[h2,h1]
theorem RL {i:Nat} {o:Of} (h0:P.chkL i=0) (hi:P.of[i]?=some o) (he:P.offI i o=0):P.chkL (i+1)=0:=by rw[Pb.chkL,if_pos h0,hi]; exact he
theorem Fv {k:Nat} (h:P.chkL k=0):∀ i o,i<k→P.of[i]?=some o→P.offI i o=0:=by
 induction k with
 | zero=>intro i o hi; omega
 | succ k ih =>
  have hk:P.chkL k=0:=by
   rw[Pb.chkL] at h
   split at h
   ·rename_i h0; exact h0
   ·exact h
  intro i o hi ho
  by_cases e:i=k
  ·subst e
   rw[Pb.chkL,if_pos hk,ho] at h
   exact h
  ·exact ih hk i o (by omega) ho
structure Pb.Good (P:Pb):Prop where
 sup:okB P.sup
 set:P.okCs
 n:P.cl.length≤8
 k:P.of.length≤160
 cl:∀ c∈P.cl,mb c
 off:∀ o∈P.of,P.offE o=0
 new:∀ (i l:Nat) o o',l<i→P.of[i]?=some o→P.of[l]?=some o'→¬ qL o' o
theorem t9 (h:P.chk=0):P.Good:=by
 unfold Pb.chk at h
 split at h
 ·rename_i hf
  unfold Pb.frameE at hf
  split at hf
  ·cases hf
  ·rename_i h1
   split at hf
   ·cases hf
   ·rename_i h2
    split at hf
    ·cases hf
    ·rename_i h3
     split at hf
     ·rename_i h4
      have hz:=Fv h
      refine ⟨Decidable.not_not.1 h1,Decidable.not_not.1 h2,by omega,by omega,h4,fun o ho=>?_,fun i l o o' hl hi hlo hs=>?_⟩
      ·obtain ⟨i,hi,rfl⟩:=List.getElem_of_mem ho
       have:=hz i P.of[i] hi (by simp[hi])
       unfold Pb.offI at this
       split at this
       ·exact this
       ·rename_i h5; exact Decidable.not_not.1 h5
      ·have hi':i<P.of.length:=(List.getElem?_eq_some_iff.1 hi).1
       have:=hz i o hi' hi
       unfold Pb.offI at this
       split at this
       ·rename_i h5; exact h5 this
       ·rw[if_pos ⟨o',List.mem_of_getElem? (i:=l) (by rw[List.getElem?_take,if_pos hl]; exact hlo),hs⟩] at this
        cases this
     ·cases hf
 ·rename_i hf; exact absurd h hf
theorem xv {o:Of} (h:P.offE o=0):s6 P.cl.length o=0∧¬ lH o.w∧P.fits [o]:=by
 unfold Pb.offE at h
 split at h
 ·rename_i h1; exact absurd h h1
 ·rename_i h1
  split at h
  ·cases h
  ·rename_i h2
   split at h
   ·rename_i h3; exact ⟨Decidable.not_not.1 h1,h2,h3⟩
   ·cases h
theorem xY {n:Nat} {o:Of} (h:s6 n o=0):(0≤o.b∧o.b<n)∧(1≤o.v∧o.v≤1000000)∧okB o.w:=by
 unfold s6 at h
 split at h
 ·cases h
 ·rename_i h1
  split at h
  ·cases h
  ·rename_i h2
   split at h
   ·rename_i h3; exact ⟨by omega,by omega,h3⟩
   ·cases h
theorem tu {r:Nat} {o:Of} (hw:okB o.w) (hr:r<P.rows):0≤P.coef r o∧P.coef r o≤4:=by
 unfold Pb.rows at hr
 unfold Pb.coef
 split
 ·split<;>omega
 ·split
  ·exact hw _ (by omega)
  ·split
   ·omega
   ·exact hw _ (by omega)
end
end Go.Pb

namespace Go.Proofs.Ytfmcplfbnkoglaa
open Go Go.Am Go.Pb
def bI (w:Nat→Int):List Int:=[w 0,w 1,w 2,w 3,w 4,w 5]
@[irreducible] def bC (w:Nat→Int):List AV:=(bI w).map iv
theorem vP (w:Nat→Int):bC w=[iv (w 0),iv (w 1),iv (w 2),iv (w 3),iv (w 4),iv (w 5)]:=by unfold bC; rfl
section
variable {w u:Nat→Int} {k l a b M:Nat} {e:ze}
@[simp] theorem adF:(bC w).length=6:=by rw[vP]; rfl
@[simp] theorem afi:(bC w).all rf=true:=by rw[vP]; rfl
theorem adG {x:AV} (h:x∈bC w):∃ n,x=iv n:=by
 unfold bC at h
 obtain ⟨n,_,rfl⟩:=List.mem_map.1 h
 exact ⟨n,rfl⟩
@[simp] theorem agm:(∀ x,x∈bC w→rf x=true)=True:=eq_true fun x h=>by obtain ⟨n,rfl⟩:=adG h; rfl
@[simp] theorem CK:(bC w).map strip=bC w:=by rw[vP]; rfl
@[simp] theorem ai5:(bC w).map (dg l)=bC w:=by rw[vP]; simp
@[simp] theorem aif:y5 k (bC w)=false:=by rw[vP]; simp
theorem Pl (h:k<6):(bC w)[k]?=some (iv (w k)):=by
 rw[vP]
 match k,h with
 | 0,_=>rfl
 | 1,_=>rfl
 | 2,_=>rfl
 | 3,_=>rfl
 | 4,_=>rfl
 | 5,_=>rfl
 | n+6,h=>omega
@[simp] theorem ahD {h:k<(bC w).length}:(bC w)[k]=iv (w k):=by
 have h2:k<6:=by simpa using h
 have:=Pl (w:=w) h2
 rw[List.getElem?_eq_getElem h] at this
 exact Option.some.inj this
@[simp] theorem agu:zH (bC w) 0 (some 6)=some (.agg (bC w)):=by rw[uH adF afi,CK]
theorem Zb (h:k<6):zH (bC w) k none=some (iv (w k)):=by
 simp[zH,Pl h]
theorem XV (h:k<6):vA (bC w) k none=some (iv (w k)):=by
 simp[vA,Pl h]
@[simp] theorem nI:gk 6 (bC w)=true:=by unfold bC; rw[Td]; rfl
@[simp] theorem ahh:cD (bC w)=bI w:=by unfold bC; exact Zh _
theorem QY:(bI w=bI u)↔eqB w u:=by
 unfold bI eqB
 constructor
 ·intro h j hj
  simp only[List.cons.injEq,and_true] at h
  obtain ⟨h0,h1,h2,h3,h4,h5⟩:=h
  match j,hj with
  | 0,_=>exact h0
  | 1,_=>exact h1
  | 2,_=>exact h2
  | 3,_=>exact h3
  | 4,_=>exact h4
  | 5,_=>exact h5
  | n+6,h=>omega
 ·intro h
  rw[h 0 (by omega),h 1 (by omega),h 2 (by omega),h 3 (by omega),h 4 (by omega),h 5 (by omega)]
end
@[irreducible] def oC (o:Of):List AV:=iv o.b::(bC o.w++[iv o.v])
theorem rq (o:Of):oC o=[iv o.b,iv (o.w 0),iv (o.w 1),iv (o.w 2),iv (o.w 3),iv (o.w 4),iv (o.w 5),iv o.v]:=by unfold oC; rw[vP]; rfl
section
variable {o:Of} {k l:Nat}
@[simp] theorem aeq:(oC o).length=8:=by rw[rq]; rfl
@[simp] theorem aaO:(oC o).all rf=true:=by rw[rq]; rfl
@[simp] theorem agD:(∀ x,x∈oC o→rf x=true)=True:=eq_true fun x h=>List.all_eq_true.1 aaO x h
@[simp] theorem BX:(oC o).map strip=oC o:=by rw[rq]; rfl
@[simp] theorem ajI:(oC o).map (dg l)=oC o:=by rw[rq]; simp
@[simp] theorem aiR:y5 k (oC o)=false:=by rw[rq]; simp
@[simp] theorem ahn:(oC o)[0]?=some (iv o.b):=by rw[rq]; rfl
@[simp] theorem aho:(oC o)[7]?=some (iv o.v):=by rw[rq]; rfl
@[simp] theorem ajG {h:0<(oC o).length}:(oC o)[0]=iv o.b:=by have:=ahn (o:=o); rw[List.getElem?_eq_getElem h] at this; exact Option.some.inj this
@[simp] theorem ajH {h:7<(oC o).length}:(oC o)[7]=iv o.v:=by have:=aho (o:=o); rw[List.getElem?_eq_getElem h] at this; exact Option.some.inj this
theorem EI (h:k<6):(oC o)[1+k]?=some (iv (o.w k)):=by
 rw[rq]
 match k,h with
 | 0,_=>rfl
 | 1,_=>rfl
 | 2,_=>rfl
 | 3,_=>rfl
 | 4,_=>rfl
 | 5,_=>rfl
 | n+6,h=>omega
@[simp] theorem agA:zH (oC o) 0 (some 8)=some (.agg (oC o)):=by rw[uH aeq aaO,BX]
@[simp] theorem afw:zH (oC o) 0 none=some (iv o.b):=by simp[zH]
@[simp] theorem afx:zH (oC o) 7 none=some (iv o.v):=by simp[zH]
@[simp] theorem afz:zH (oC o) 1 (some 6)=some (.agg (bC o.w)):=by rw[rq,vP]; rfl
theorem cz (h:k<6):zH (oC o) (1+k) none=some (iv (o.w k)):=by simp[zH,EI h]
end
def clR (l:List Int):List (List AV):=l.map fun c=>[iv c]
abbrev clA (l:List Int):AV:=.list 1 .plain (clR l)
def ofR (l:List Of):List (List AV):=l.map oC
abbrev ofA (l:List Of):AV:=.list 8 .plain (ofR l)
section
variable {l:List Int} {L:List Of} {k:Nat} {c:Int} {o:Of}
@[simp] theorem jr:(clR l).length=l.length:=by simp[clR]
@[simp] theorem aij:yV (clR l)=true:=by simp[clR,yV]
@[simp] theorem aik:zQ (clR l)=clR l:=by simp[clR,zQ]
@[simp] theorem jv:(ofR L).length=L.length:=by simp[ofR]
@[simp] theorem aiU:yV (ofR L)=true:=by simp[ofR,yV]
@[simp] theorem aiV:zQ (ofR L)=ofR L:=by simp[ofR,zQ]
end
@[irreducible] def pbX (P:Pb) (c o:AV):List AV:=bC P.sup++bC P.opn++bC P.cls++[c,o]
theorem yU (P:Pb) (c o:AV):pbX P c o=[iv (P.sup 0),iv (P.sup 1),iv (P.sup 2),iv (P.sup 3),iv (P.sup 4),iv (P.sup 5),iv (P.opn 0),iv (P.opn 1),iv (P.opn 2),iv (P.opn 3),iv (P.opn 4),iv (P.opn 5),
  iv (P.cls 0),iv (P.cls 1),iv (P.cls 2),iv (P.cls 3),iv (P.cls 4),iv (P.cls 5),c,o]:=by unfold pbX; rw[vP,vP,vP]; rfl
abbrev pbC (P:Pb):List AV:=pbX P (clA P.cl) (ofA P.of)
section
variable {P:Pb} {c o:AV} {k l:Nat}
@[simp] theorem ach:(pbX P c o).length=20:=by rw[yU]; rfl
theorem aez (hc:rf c=true) (ho:rf o=true):(pbX P c o).all rf=true:=by rw[yU]; simp[hc,ho]
@[simp] theorem E5:(pbC P).all rf=true:=aez rfl rfl
@[simp] theorem afT:(∀ x,x∈pbC P→rf x=true)=True:=eq_true fun x h=>List.all_eq_true.1 E5 x h
@[simp] theorem E6:(pbX P c o).map strip=pbX P (strip c) (strip o):=by rw[yU,yU]; rfl
@[simp] theorem aiX:(pbX P c o).map (dg l)=pbX P (dg l c) (dg l o):=by rw[yU,yU]; simp
@[simp] theorem ah6:y5 k (pbX P c o)=(zT k c||zT k o):=by rw[yU]; simp[y5]
@[simp] theorem afB:zH (pbC P) 0 (some 20)=some (.agg (pbC P)):=by rw[uH ach E5,E6]; rfl
@[simp] theorem afF:zH (pbX P c o) 0 (some 6)=some (.agg (bC P.sup)):=by rw[yU,vP]; rfl
@[simp] theorem afA:zH (pbX P c o) 6 (some 6)=some (.agg (bC P.opn)):=by rw[yU,vP]; rfl
@[simp] theorem afv:zH (pbX P c o) 12 (some 6)=some (.agg (bC P.cls)):=by rw[yU,vP]; rfl
@[simp] theorem aex:(pbX P c o)[18]?=some c:=by rw[yU]; rfl
@[simp] theorem aey:(pbX P c o)[19]?=some o:=by rw[yU]; rfl
@[simp] theorem ags:zH (pbX P c o) 18 none=some c:=by rw[yU]; rfl
@[simp] theorem agt:zH (pbX P c o) 19 none=some o:=by rw[yU]; rfl
@[simp] theorem ah4 {h:18<(pbX P c o).length}:(pbX P c o)[18]=c:=by have:=aex (P:=P) (c:=c) (o:=o); rw[List.getElem?_eq_getElem h] at this; exact Option.some.inj this
@[simp] theorem ah5 {h:19<(pbX P c o).length}:(pbX P c o)[19]=o:=by have:=aey (P:=P) (c:=c) (o:=o); rw[List.getElem?_eq_getElem h] at this; exact Option.some.inj this
theorem wq (h:k<6):zH (pbX P c o) k none=some (iv (P.sup k)):=by
 rw[yU]
 match k,h with
 | 0,_=>rfl
 | 1,_=>rfl
 | 2,_=>rfl
 | 3,_=>rfl
 | 4,_=>rfl
 | 5,_=>rfl
 | n+6,h=>omega
theorem yl (h:k<6):zH (pbX P c o) (6+k) none=some (iv (P.opn k)):=by
 rw[yU]
 match k,h with
 | 0,_=>rfl
 | 1,_=>rfl
 | 2,_=>rfl
 | 3,_=>rfl
 | 4,_=>rfl
 | 5,_=>rfl
 | n+6,h=>omega
theorem yf (h:k<6):zH (pbX P c o) (12+k) none=some (iv (P.cls k)):=by
 rw[yU]
 match k,h with
 | 0,_=>rfl
 | 1,_=>rfl
 | 2,_=>rfl
 | 3,_=>rfl
 | 4,_=>rfl
 | 5,_=>rfl
 | n+6,h=>omega
theorem Ai (h:k<6):(pbX P c o)[k]?=some (iv (P.sup k)):=by have:=wq (P:=P) (c:=c) (o:=o) h; simpa [zH] using this
theorem Ah (h:k<6):(pbX P c o)[6+k]?=some (iv (P.opn k)):=by have:=yl (P:=P) (c:=c) (o:=o) h; simpa [zH] using this
theorem XW (h:k<6):(pbX P c o)[12+k]?=some (iv (P.cls k)):=by have:=yf (P:=P) (c:=c) (o:=o) h; simpa [zH] using this
@[simp] theorem agH {x:AV}:splice (pbX P c o) 18 [x]=pbX P x o:=by rw[yU,yU]; rfl
@[simp] theorem agI {x:AV}:splice (pbX P c o) 19 [x]=pbX P c x:=by rw[yU,yU]; rfl
end
def S2 (w:Nat→Int) (k:Nat):St:={env:=[(5,.agg (bC w)),(6,iv k)],sto:=[]}
theorem Pn {w:Nat→Int}:zd Try.prog qi [.agg (bC w)] (iv (if okB w then 0 else 4)):=by
 refine zD Rr (by simp) ?_
 simp[da]
 refine zl (S2 w) (fun i=>∀ j,j<i→0≤w j∧w j≤4) 6 (by simp[S2]) (fun j hj=>by omega) (fun i hi hI=>?_) (fun hI=>?_)
 ·have e:(i:Int)<6:=by omega
  have w1:=zq (k:=i) (by omega)
  by_cases c1:w i<0
  ·rw[if_neg fun h=>by have:=h i hi; omega]
   simp[vM,S2,e,XV hi,c1,qK]
  ·by_cases c2:4<w i
   ·rw[if_neg fun h=>by have:=h i hi; omega]
    simp[vM,S2,e,XV hi,c1,c2,qK]
   ·simp[vM,S2,e,XV hi,c1,c2,w1]
    exact fun j hj=>by
     by_cases e:j=i
     ·subst e; omega
     ·exact hI j (by omega)
 ·rw[if_pos (show okB w from hI)]
  simp[vM,S2,kS,qK]
section
variable {P:Pb} {r n:Nat} {o:Of}
theorem PE (h:0≤o.b∧o.b<P.cl.length):∃ b:Nat,o.b=b∧b<P.cl.length∧P.cl[b]?=some (P.clOf o.b):=by
 refine ⟨o.b.toNat,by omega,by omega,?_⟩
 unfold Pb.clOf
 have h2:o.b.toNat<P.cl.length:=by omega
 rw[List.getD_eq_getElem?_getD,List.getElem?_eq_getElem h2]
 rfl
@[simp] theorem ag2 {l:List Int} {b:Nat} {h:b<(clR l).length}:(clR l)[b]=[iv (l[b]'(by simpa using h))]:=by simp[clR]
theorem U0 (hn:P.cl.length≤1000) (hb:0≤o.b∧o.b<P.cl.length) (hr:r<P.rows):zd Try.prog yr [.agg (pbC P),iv r,.agg (oC o)] (iv (P.coef r o)):=by
 unfold Pb.rows at hr
 obtain ⟨n,hn'⟩:∃ n,P.cl.length=n:=⟨_,rfl⟩
 have w1:IntKind.i64.wrap ((r:Int)-n)=(r:Int)-n:=by rw[wrap64]<;>omega
 refine zD dE (by simp) ?_
 unfold Pb.coef
 rw[hn'] at hr hb hn ⊢
 by_cases h1:r<n
 ·rw[if_pos h1]
  have c1:((r:Int)-n)<0:=by omega
  by_cases h2:o.b=r
  ·rw[if_pos h2]
   simp[yK,hn',w1,c1,h2,yP]
  ·rw[if_neg h2]
   simp[yK,hn',w1,c1,h2,yP]
 ·rw[if_neg h1]
  have c1:¬ ((r:Int)-n)<0:=by omega
  obtain ⟨k,hk⟩:∃ k,r=n+k:=⟨r-n,by omega⟩
  have e1:(r:Int)-n=k:=by omega
  have e2:r-n=k:=by omega
  rw[e1] at w1 c1
  by_cases h2:k<6
  ·rw[if_pos (by omega),e2]
   have c2:(k:Int)<6:=by omega
   simp[yK,hn',e1,w1,c1,c2,EI h2,yP]
  ·obtain ⟨j,hj0⟩:∃ j,k=6+j:=⟨k-6,by omega⟩
   rw[if_neg (by omega),e2,show k-6=j by omega]
   have c2:¬ (k:Int)<6:=by omega
   have hj:j<6:=by omega
   have hj':(j:Int)<6:=by omega
   have e3:(k:Int)-6=j:=by omega
   have w2:IntKind.i64.wrap (j:Int)=j:=by rw[wrap64]<;>omega
   obtain ⟨b,hb1,hb2,hb3⟩:=PE (P:=P) (o:=o) (by rw[hn']; exact hb)
   have hbn:(b:Int)<n:=by omega
   have hbn':b<n:=by omega
   have hc:P.cl[b]?=some (P.clOf (b:Int)):=by rw[← hb1]; exact hb3
   have hE:P.cl[b]=P.clOf (b:Int):=by rw[List.getElem?_eq_getElem hb2] at hc; exact Option.some.inj hc
   rw[hb1]
   by_cases h3:P.cls j=0
   ·rw[if_pos (.inl h3)]
    simp[yK,hn',e1,w1,c1,c2,e3,w2,hj',XW hj,h3,yP]
   ·by_cases h4:P.cls j=P.clOf (b:Int)
    ·rw[if_pos (.inr h4)]
     rw[h4] at h3
     simp[yK,hn',e1,w1,c1,c2,e3,w2,hj',XW hj,h3,hb1,hbn,hbn',hE,h4,yP]
    ·rw[if_neg (by intro h; exact h.elim h3 h4)]
     simp[yK,hn',e1,w1,c1,c2,e3,w2,hj',XW hj,h3,hb1,hbn,hbn',hE,h4,cz hj,yP]
end
section
variable {P:Pb} {r n:Nat} {o:Of} {L:List Of}
theorem N5 (hn:P.cl.length≤1000):zd Try.prog x7 [.agg (pbC P)] (iv P.rows):=by
 refine zD dH (by simp) ?_
 have w1:IntKind.i64.wrap ((P.cl.length:Int)+12)=(P.cl.length:Int)+12:=by rw[wrap64]<;>omega
 have e:((P.rows:Nat):Int)=(P.cl.length:Int)+12:=by unfold Pb.rows; omega
 rw[e]
 simp[nj,w1,nL]
theorem Sl (hn:P.cl.length≤1000) (hr:r<P.rows):zd Try.prog xT [.agg (pbC P),iv r] (iv (P.bnd r)):=by
 unfold Pb.rows at hr
 obtain ⟨n,hn'⟩:∃ n,P.cl.length=n:=⟨_,rfl⟩
 have w1:IntKind.i64.wrap ((r:Int)-n)=(r:Int)-n:=by rw[wrap64]<;>omega
 refine zD eM (by simp) ?_
 unfold Pb.bnd
 rw[hn'] at hr hn ⊢
 by_cases h1:r<n
 ·rw[if_pos h1]
  have c1:((r:Int)-n)<0:=by omega
  simp[wV,hn',w1,c1,wX]
 ·rw[if_neg h1]
  have c1:¬ ((r:Int)-n)<0:=by omega
  obtain ⟨k,hk⟩:∃ k,r=n+k:=⟨r-n,by omega⟩
  have e1:(r:Int)-n=k:=by omega
  have e2:r-n=k:=by omega
  rw[e1] at w1 c1
  by_cases h2:k<6
  ·rw[if_pos (by omega),e2]
   have c2:(k:Int)<6:=by omega
   simp[wV,hn',e1,w1,c1,c2,Ai h2,wX]
  ·obtain ⟨j,hj0⟩:∃ j,k=6+j:=⟨k-6,by omega⟩
   rw[if_neg (by omega),e2,show k-6=j by omega]
   have c2:¬ (k:Int)<6:=by omega
   have hj:j<6:=by omega
   have hj':(j:Int)<6:=by omega
   have e3:(k:Int)-6=j:=by omega
   have w2:IntKind.i64.wrap (j:Int)=j:=by rw[wrap64]<;>omega
   simp[wV,hn',e1,w1,c1,c2,e3,w2,hj',Ah hj,wX]
end
def Mi (P:Pb) (L:List Of) (r:Nat):St:={env:=[(1,ofA L),(2,.ptr 2 0),(5,.fn (.func yr) []),(11,iv P.rows),(12,iv r)],sto:=[(2,.var (pbC P))]}
def TS (P:Pb) (L:List Of) (r k:Nat):St :=
 {env:=[(1,ofA L),(2,.ptr 2 0),(5,.fn (.func yr) []),(6,iv r),(7,iv (uj (P.coef r) L k)),(11,iv P.rows),(12,iv r),(15,ofA L),(16,iv L.length),(17,iv k)],sto:=[(2,.var (pbC P))]}
@[simp] theorem ahp {l:List Of} {b:Nat} {h:b<(ofR l).length}:(ofR l)[b]=oC (l[b]'(by simpa using h)):=by simp[ofR]
section
variable {P:Pb} {r n:Nat} {o:Of} {L:List Of}
theorem Ea (hn:P.cl.length≤1000) (hL:L.length≤1000) (hb:∀ o∈L,0≤o.b∧o.b<P.cl.length) (hw:∀ o∈L,okB o.w):zd Try.prog vo [.agg (pbC P),ofA L] (bv (decide (P.fits L))):=by
 have hok:y6 Try.prog yr=true:=by kernel_rfl
 have hR:P.rows≤1012:=by unfold Pb.rows; omega
 refine zD dF (by simp) ?_
 simp[ni]
 refine za (N5 hn) (by simp) (by simp) ?_
 simp
 refine zl (Mi P L) (fun r=>∀ q,q<r→(L.map (P.coef q)).sum≤P.bnd q) P.rows (by simp[Mi]) (fun q hq=>by omega) (fun r hr hI=>?_) (fun hI=>?_)
 ·have e:(r:Int)<P.rows:=by omega
  have w1:=zq (k:=r) (by omega)
  simp[vZ,Mi,e]
  refine zl (TS P L r) (fun _=>True) L.length (by simp[TS,Zv]) trivial (fun k hk _=>?_) (fun _=>?_)
  ·have e':(k:Int)<L.length:=by omega
   have hg:L[k]?=some L[k]:=by simp[hk]
   have hm:L[k]∈L:=List.getElem_mem hk
   have w2:=zq (k:=k) (by omega)
   obtain ⟨p1,p2⟩:=mc (f:=P.coef r) (fun o ho=>tu (P:=P) (hw o ho) hr) k (by omega)
   obtain ⟨p3,p4⟩:=tu (P:=P) (hw _ hm) hr
   have w3:IntKind.i64.wrap (uj (P.coef r) L k+P.coef r L[k])=uj (P.coef r) L k+P.coef r L[k]:=by rw[wrap64]<;>omega
   have hs:=fE (f:=P.coef r) hg
   simp[vY,TS,e',hk,hok]
   refine za (U0 hn (hb _ hm) hr) (by simp) (by simp) ?_
   simp[w2,w3,hs,TS]
  ·have hall:uj (P.coef r) L L.length=(L.map (P.coef r)).sum:=cP
   simp[vY,TS,rD]
   refine za (Sl hn hr) (by simp) (by simp) ?_
   by_cases hc:P.bnd r<(L.map (P.coef r)).sum
   ·have hf:¬ P.fits L:=fun h=>by have:=h r hr; omega
    simp[hall,hc,hf,tF]
   ·simp[hall,hc,rE,w1,Mi]
    exact fun q hq=>by
     by_cases eq:q=r
     ·subst eq; omega
     ·exact hI q (by omega)
 ·have hf:P.fits L:=hI
  simp[vZ,Mi,hf,rF,tF]
end
section
variable {P:Pb} {r n:Nat} {o:Of} {L:List Of}
theorem A3:zd Try.prog pS [iv n,.agg (oC o)] (iv (s6 n o)):=by
 refine zD Up (by simp) ?_
 unfold s6
 by_cases c1:o.b<0
 ·rw[if_pos (.inl c1)]
  simp[wM,c1,wR]
 ·by_cases c2:(n:Int)≤o.b
  ·rw[if_pos (.inr c2)]
   simp[wM,c1,c2,wR]
  ·rw[if_neg (by omega)]
   by_cases c3:o.v<1
   ·rw[if_pos (.inl c3)]
    simp[wM,c1,c2,c3,wR]
   ·by_cases c4:1000000<o.v
    ·rw[if_pos (.inr c4)]
     simp[wM,c1,c2,c3,c4,wR]
    ·rw[if_neg (by omega)]
     simp[wM,c1,c2,c3,c4]
     refine za (Pn (w:=o.w)) (by simp) (by simp) ?_
     simp[wR]
theorem Tc {f:FuncId} {x y y' r:AV} (h:zd Try.prog f [x,y'] r) (hy:AV.imp y y'):zd Try.prog f [x,y] r:=fun I vs w h1 h2 h3 =>
 h I vs w h1 h2 fun i a hi=>by
  match i,hi with
  | 0,hi=>exact h3 0 a hi
  | 1,hi=>simp at hi; subst hi; exact hy _ _ _ (h3 1 y rfl)
  | i+2,hi=>simp at hi
theorem LO:[iv 0,iv 0,iv 0,iv 0,iv 0,iv 0]=bC (fun _=>0):=by rw[vP]
theorem ab6 (hn:P.cl.length≤1000):zd Try.prog uO [.agg (pbC P),.agg (oC o)] (iv (P.offE o)):=by
 have hk:kds Try.prog Op.maxDepth ws=some (List.replicate 6 (.i .i64)):=by kernel_rfl
 have hg:Try.prog.eqGuardType Try.prog.depth ws=false:=by kernel_rfl
 have hA:agT Try.prog ws=true:=by kernel_rfl
 have hz:decide (bI o.w=bI (fun _=>0))=decide (lH o.w):=by
  rw[decide_eq_decide,QY]
  exact Iff.rfl
 refine zD eO (by simp) ?_
 simp[q9]
 refine za (A3 (n:=P.cl.length) (o:=o)) (by simp) (by simp) ?_
 unfold Pb.offE
 by_cases c1:s6 P.cl.length o=0
 ·obtain ⟨hb,_,hw⟩:=xY c1
  rw[if_neg (fun h=>h c1)]
  simp[c1,LO]
  rw[kJ hk hg hA nI nI]
  by_cases c2:lH o.w
  ·rw[if_pos c2]
   simp[hz,c2,xX]
  ·rw[if_neg c2]
   simp[hz,c2]
   have hf:=Ea (P:=P) (L:=[o]) hn (by simp) (fun x hx=>by rw[List.mem_singleton.1 hx]; exact hb) (fun x hx=>by rw[List.mem_singleton.1 hx]; exact hw)
   refine za (Tc hf (wz (rows:=[oC o]))) (by simp) (by simp) ?_
   by_cases c3:P.fits [o]
   ·simp[c3,xX]
   ·simp[c3,xX]
 ·rw[if_pos c1]
  simp[c1,xX]
end
section
variable {P:Pb} {r n:Nat} {o:Of} {L:List Of}
def pO (P:Pb) (k:Nat):St:={env:=[(1,.ptr 1 0),(16,iv k)],sto:=[(1,.var (pbC P))]}
def YF (P:Pb) (k:Nat):St:={env:=[(76,clA P.cl),(77,iv P.cl.length),(78,iv k)],sto:=[]}
theorem frC (P:Pb) (h:∀ i,(hi:i<P.cl.length)→mb P.cl[i]):∀ c∈P.cl,mb c:=fun c hc=>by
 obtain ⟨i,hi,rfl⟩:=List.getElem_of_mem hc
 exact h i hi
theorem abD:zd Try.prog uN [.agg (pbC P)] (iv P.frameE):=by
 refine zD eN (by simp) ?_
 simp[q8]
 refine za (Pn (w:=P.sup)) (by simp) (by simp) ?_
 unfold Pb.frameE
 by_cases c1:okB P.sup
 ·rw[if_neg (fun h=>h c1)]
  simp[c1]
  refine zl (pO P) (fun r=>∀ q,q<r→P.okC q) 6 (by simp[pO]) (fun q hq=>by omega) (fun k hk hI=>?_) (fun hI=>?_)
  ·have e:(k:Int)<6:=by omega
   have w1:=zq (k:=k) (by omega)
   by_cases d:P.okC k
   ·have d':=d
    unfold Pb.okC at d'
    obtain ⟨d1,d2,d3,d4,d5⟩:=d'
    have b1:¬ P.cls k<0:=by omega
    have b2:¬ 4<P.cls k:=by omega
    have b3:¬ P.opn k<0:=by omega
    have b4:¬ P.sup k<P.opn k:=by omega
    have hx:∀ q,q<k+1→P.okC q:=fun q hq=>by
     by_cases eq:q=k
     ·subst eq; exact d
     ·exact hI q (by omega)
    by_cases b5:P.cls k=0
    ·have b6:=d5 b5
     rw[b5] at b1 b2
     rw[b6] at b3 b4
     simp[zV,pO,e,yl hk,yf hk,wq hk,b3,b5,b6,w1]
     exact hx
    ·simp[zV,pO,e,yl hk,yf hk,wq hk,b1,b2,b3,b4,b5,w1]
     exact hx
   ·rw[if_neg (show ¬ P.okCs from fun h=>d (h k hk))]
    by_cases b1:P.cls k<0
    ·simp[zV,pO,e,yl hk,yf hk,b1,zY]
    ·by_cases b2:4<P.cls k
     ·simp[zV,pO,e,yl hk,yf hk,b1,b2,zY]
     ·by_cases b3:P.opn k<0
      ·simp[zV,pO,e,yl hk,yf hk,b1,b2,b3,zY]
      ·by_cases b4:P.sup k<P.opn k
       ·simp[zV,pO,e,yl hk,yf hk,wq hk,b1,b2,b3,b4,zY]
       ·have b5:P.cls k=0∧¬ P.opn k=P.sup k:=by
         unfold Pb.okC at d
         by_cases b5:P.cls k=0
         ·exact ⟨b5,fun h=>d ⟨by omega,by omega,by omega,by omega,fun _=>h⟩⟩
         ·exact absurd (⟨by omega,by omega,by omega,by omega,fun h=>absurd h b5⟩) d
        simp[zV,pO,e,yl hk,yf hk,wq hk,b3,b4,b5,zY]
  ·have hs:P.okCs:=hI
   rw[if_pos hs]
   by_cases f1:8<P.cl.length
   ·have f1':(8:Int)<P.cl.length:=by omega
    rw[if_pos (.inl f1)]
    simp[zV,pO,wm,f1',zY]
   ·have f1':¬ (8:Int)<P.cl.length:=by omega
    by_cases f2:160<P.of.length
    ·have f2':(160:Int)<P.of.length:=by omega
     rw[if_pos (.inr f2)]
     simp[zV,pO,wm,f1',f2',zY]
    ·have f2':¬ (160:Int)<P.of.length:=by omega
     rw[if_neg (by omega)]
     simp[zV,pO,wm,f1',f2']
     refine zl (YF P) (fun r=>∀ q,q<r→(hq:q<P.cl.length)→mb P.cl[q]) P.cl.length (by simp[YF]) (fun q hq=>by omega) (fun k hk hI=>?_) (fun hI=>?_)
     ·have e:(k:Int)<P.cl.length:=by omega
      have w1:=zq (k:=k) (by omega)
      by_cases d:mb P.cl[k]
      ·have d':=d
       unfold mb at d'
       have b1:¬ P.cl[k]<0:=by omega
       have b2:¬ 4<P.cl[k]:=by omega
       simp[xi,YF,e,hk,b1,b2,w1]
       exact fun q hq hl=>by
        by_cases eq:q=k
        ·subst eq; exact d
        ·exact hI q (by omega) hl
      ·rw[if_neg (fun h=>d (h _ (List.getElem_mem hk)))]
       unfold mb at d
       by_cases b1:P.cl[k]<0
       ·simp[xi,YF,e,hk,b1,zY]
       ·have b2:4<P.cl[k]:=by omega
        simp[xi,YF,e,hk,b1,b2,zY]
     ·have hc:=frC P fun i hi=>hI i hi hi
      rw[if_pos hc]
      simp[xi,YF,ri,zY]
 ·rw[if_pos c1]
  simp[c1,zY]
end
theorem ahk {k:List Int} (h:k.length=7):∃ a b c d e f g,k=[a,b,c,d,e,f,g]:=by
 match k,h with
 | [a,b,c,d,e,f,g],_=>exact ⟨a,b,c,d,e,f,g,rfl⟩
theorem aej (b:Bool) (a0 a1 a2 a3 a4 a5 a6:Int):zr Try.prog (Instr.checkKey b 10000 pD (vJ [a0,a1,a2,a3,a4,a5,a6]))=some ():=by kernel_rfl
theorem Kw {t:TypeId}:kD Try.prog t pD 7 where
 kd:=SG
 ag:=by kernel_rfl
 chk:=fun b k h=>by
  obtain ⟨a0,a1,a2,a3,a4,a5,a6,rfl⟩:=ahk h
  exact aej b a0 a1 a2 a3 a4 a5 a6
def kL (o:Of):List Int:=o.b::bI o.w
theorem XM {o:Of}:(kL o).length=7:=rfl
theorem Kv {o u:Of}:kL o=kL u↔qL o u:=by
 unfold kL qL
 rw[List.cons.injEq,QY]
def td (L:List Of):rx:=L.map fun o=>(kL o,.bool true)
theorem TI {L:List Of}:fz 7 (td L):=fun x hx=>by
 obtain ⟨o,_,rfl⟩:=List.mem_map.1 hx
 exact XM
theorem cZ {o:Of}:∀ {L:List Of},wy (kL o) (td L)=if ∃ u∈L,qL u o then some (.bool true) else none
 | []=>by simp[td,wy]
 | u::L=>by
  have ih:=cZ (o:=o) (L:=L)
  unfold td at ih ⊢
  rw[List.map_cons,wy,ih]
  by_cases h:kL o=kL u
  ·rw[if_pos h,if_pos ⟨u,by simp,Kv.1 h.symm⟩]
  ·rw[if_neg h]
   by_cases h2:∃ u∈L,qL u o
   ·obtain ⟨x,h3,h4⟩:=h2
    rw[if_pos ⟨x,h3,h4⟩,if_pos ⟨x,by simp[h3],h4⟩]
   ·rw[if_neg h2,if_neg]
    rintro ⟨x,h3,h4⟩
    rcases List.mem_cons.1 h3 with rfl | h3
    ·exact h (Kv.2 h4).symm
    ·exact h2 ⟨x,h3,h4⟩
@[irreducible] def kC (o:Of):List AV:=(kL o).map iv
theorem Ym (o:Of):kC o=[iv o.b,iv (o.w 0),iv (o.w 1),iv (o.w 2),iv (o.w 3),iv (o.w 4),iv (o.w 5)]:=by unfold kC; rfl
section
variable {o:Of} {k l:Nat}
@[simp] theorem aei:(kC o).length=7:=by rw[Ym]; rfl
@[simp] theorem aaM:(kC o).all rf=true:=by rw[Ym]; rfl
@[simp] theorem agC:(∀ x,x∈kC o→rf x=true)=True:=eq_true fun x h=>List.all_eq_true.1 aaM x h
@[simp] theorem BE:(kC o).map strip=kC o:=by rw[Ym]; rfl
@[simp] theorem ajC:(kC o).map (dg l)=kC o:=by rw[Ym]; simp
@[simp] theorem aiN:y5 k (kC o)=false:=by rw[Ym]; simp
@[simp] theorem agz:zH (kC o) 0 (some 7)=some (.agg (kC o)):=by rw[uH aei aaM,BE]
@[simp] theorem ahj:splice [AV.val (Value.int IntKind.i64 o.b),AV.val (Value.int IntKind.i64 0),AV.val (Value.int IntKind.i64 0),AV.val (Value.int IntKind.i64 0),AV.val (Value.int IntKind.i64 0),AV.val (Value.int IntKind.i64 0),AV.val (Value.int IntKind.i64 0)] 1 (bC o.w)=kC o:=by
 rw[Ym,vP]; rfl
end
noncomputable def boolT:TypeId:=match Try.prog.underlying y9 with
 | some (.map _ e)=>e
 | _=>0
theorem ckM:Try.prog.underlying y9=some (.map pD boolT):=by kernel_rfl
theorem ckZ:zr Try.prog (zeroValue boolT)=some (.bool false):=by kernel_rfl
theorem aem {σ:Nat→Option ze} {K:AV→Option ze→Prop} {L:List Of} {o:Of} {c:Nat} (hs:σ 17=some (.map (rZ (td L)) c)) :
  ur Try.prog y9 false σ [.mp 17,.agg (kC o)] K=K (bv (decide (∃ u∈L,qL u o))) none:=by
 have e:kC o=(kL o).map iv:=by unfold kC; rfl
 rw[e,PO Kw ckM ckZ hs XM TI,cZ]
 by_cases h:∃ u∈L,qL u o
 ·rw[if_pos h,decide_eq_true h]; rfl
 ·rw[if_neg h,decide_eq_false h]; rfl
theorem af8 {s:St} {KS:St→Prop} {L:List Of} {o:Of} (hs:lk s.sto 17=some (.map (rZ (td L)) (td L).length)) (hn:¬ ∃ u∈L,qL u o) :
  tw Try.prog y9 s none KS [.mp 17,.agg (kC o),.val (.bool true)]=KS {s with sto:=pt s.sto 17 (.map (rZ (td (L++[o]))) (td (L++[o])).length)}:=by
 have e:kC o=(kL o).map iv:=by unfold kC; rfl
 have e2:lf (kL o) (.bool true) (td L)=td (L++[o]):=by
  rw[ZG (by rw[cZ,if_neg hn])]
  simp[td]
 rw[e,PQ Kw ckM hs XM TI rfl,e2]
 simp
section
variable {P:Pb} {r n:Nat} {o:Of} {L:List Of}
def TR (P:Pb) (k:Nat):St:={env:=[(3,.ptr 3 0),(5,.mp 17),(19,ofA P.of),(20,iv P.of.length),(21,iv k)],sto:=[(3,.var (pbC P)),(17,.map (rZ (td (P.of.take k))) (td (P.of.take k)).length)]}
theorem Sq (hn:P.cl.length≤1000) (hk:P.of.length≤1000000):zd Try.prog ux [.agg (pbC P)] (iv P.chk):=by
 refine zD T7 (by simp) ?_
 simp[fb]
 refine za (abD (P:=P)) (by simp) (by simp) ?_
 unfold Pb.chk
 by_cases c1:P.frameE=0
 ·rw[if_pos c1]
  simp[c1]
  refine zl (TR P) (fun k=>P.chkL k=0) P.of.length (by simp[TR,td,rZ,uc]) rfl (fun k hk' hI=>?_) (fun hI=>?_)
  ·have e:(k:Int)<P.of.length:=by omega
   have hg:P.of[k]?=some P.of[k]:=by simp[hk']
   have w1:=zq (k:=k) (by omega)
   obtain ⟨o,ho⟩:∃ o,P.of[k]=o:=⟨_,rfl⟩
   rw[ho] at hg
   simp[rM,TR,e,hk',ho]
   refine za (ab6 (P:=P) (o:=o) hn) (by simp) (by simp) ?_
   by_cases d:P.offE o=0
   ·simp[d]
    rw[aem (L:=P.of.take k) (c:=(td (P.of.take k)).length) (by simp)]
    by_cases d2:∃ u∈P.of.take k,qL u o
    ·have hi:P.offI k o=7:=by unfold Pb.offI; rw[if_neg (fun h=>h d),if_pos d2]
     rw[kZ hI hg (by rw[hi]; decide) hk',hi]
     rw[decide_eq_true d2]
     simp[uJ]
    ·have hi:P.offI k o=0:=by unfold Pb.offI; rw[if_neg (fun h=>h d),if_neg d2]
     have hx:=RL hI hg hi
     rw[decide_eq_false d2]
     simp
     rw[af8 (L:=P.of.take k) (by simp) d2,← mq hg]
     simp[w1,hx,TR]
   ·have hi:P.offI k o=P.offE o:=by unfold Pb.offI; rw[if_pos d]
    rw[kZ hI hg (by rw[hi]; exact d) hk',hi]
    simp[d,uJ]
  ·rw[hI]
   simp[rM,TR,lM,uJ]
 ·rw[if_neg c1]
  simp[c1,uJ]
end
abbrev z8:AV:=.list 0 .full []
theorem Zg {sz:Nat} {m:Am.Mode} {rows:List (List AV)} (h:stm m=m):AV.imp (.list sz m rows) (.list sz .plain rows):=by
 cases m with
 | plain=>exact AV.imp.refl
 | full=>exact wz
 | own l=>cases h
def mU (xs ys:List AV):Prop:=xs.length=ys.length∧∀ (i:Nat) x y,xs[i]?=some x→ys[i]?=some y→AV.imp x y
theorem rV:mU [] []:=⟨rfl,fun i x y h=>by simp at h⟩
theorem yg {x y:AV} {xs ys:List AV} (h:AV.imp x y) (hs:mU xs ys):mU (x::xs) (y::ys) :=
 ⟨by simp[hs.1],fun i a b ha hb=>by
  cases i with
  | zero=>simp only[List.getElem?_cons_zero,Option.some.injEq] at ha hb; subst ha hb; exact h
  | succ i=>simp only[List.getElem?_cons_succ] at ha hb; exact hs.2 i a b ha hb⟩
theorem RT {xs:List AV}:mU xs xs:=⟨rfl,fun i x y h h'=>by rw[h] at h'; cases h'; exact AV.imp.refl⟩
theorem tz {α:Type} {l:List α} {i:Nat} (h:i<l.length):l[i]?=some l[i]:=by simp[h]
theorem Yk {xs ys:List AV} (h:mU xs ys):AV.imp (.agg xs) (.agg ys):=fun I w v hv=>by
 cases hv with
 | agg _ vs hs h1 hc =>
  refine .agg _ vs (by rw[hs,h.1]) h1 fun i c hi=>?_
  have:i<xs.length:=by rw[h.1]; exact (List.getElem?_eq_some_iff.1 hi).1
  exact h.2 i _ c (tz this) hi _ _ _ (hc i _ (tz this))
theorem abL {xs ys:List AV} (h:mU xs ys):AV.imp (.tuple xs) (.tuple ys):=fun I w v hv=>by
 cases hv with
 | tuple _ vs hs hc =>
  refine .tuple _ vs (by rw[hs,h.1]) fun i c hi=>?_
  have:i<xs.length:=by rw[h.1]; exact (List.getElem?_eq_some_iff.1 hi).1
  exact h.2 i _ c (tz this) hi _ _ _ (hc i _ (tz this))
def BC (xs ys:List (List AV)):Prop:=xs.length=ys.length∧∀ (i:Nat) x y,xs[i]?=some x→ys[i]?=some y→mU x y
theorem Nd {sz:Nat} {m:Am.Mode} {xs ys:List (List AV)} (hm:stm m=m) (h:BC xs ys):AV.imp (.list sz m xs) (.list sz .plain ys):=fun I w v hv=>by
 have hv:=Zg hm I w v hv
 cases hv with
 | listNil _ _ a cap _ _ =>
  have:ys=[]:=List.eq_nil_of_length_eq_zero (by rw[← h.1]; rfl)
  subst this
  exact .listNil _ _ _ _ (fun h=>by cases h) (fun _ h=>by cases h)
 | list _ _ _ b o cap g hcap hm' ho hrow hcell hc =>
  have get:∀ (i:Nat) r,ys[i]?=some r→∃ r0,xs[i]?=some r0∧mU r0 r:=fun i r hi=>by
   have:i<xs.length:=by rw[h.1]; exact (List.getElem?_eq_some_iff.1 hi).1
   exact ⟨xs[i],tz this,h.2 i _ r (tz this) hi⟩
  rw[h.1]
  refine .list _ _ _ b o cap g (by rw[← h.1]; exact hcap) (fun h=>by cases h) (fun _ h=>by cases h) (fun i r hi=>?_) (fun i r j c hi hj=>?_) fun i r j c hi hj=>?_
  ·obtain ⟨r0,h1,h2⟩:=get i r hi
   rw[← h2.1]; exact hrow i r0 h1
  ·obtain ⟨r0,h1,h2⟩:=get i r hi
   have hj0:j<r0.length:=by rw[h2.1]; exact (List.getElem?_eq_some_iff.1 hj).1
   exact hcell i r0 j _ h1 (tz hj0)
  ·obtain ⟨r0,h1,h2⟩:=get i r hi
   have hj0:j<r0.length:=by rw[h2.1]; exact (List.getElem?_eq_some_iff.1 hj).1
   exact h2.2 j _ c (tz hj0) hj _ _ _ (hc i r0 j _ h1 (tz hj0))
noncomputable def apc (tok sz:Nat) (rows:List (List AV)):AV:=if rows.length=0 then z8 else .list sz (.own tok) rows
noncomputable def plc (sz:Nat) (rows:List (List AV)):AV:=if rows.length=0 then z8 else .list sz .plain rows
section
variable {tok sz l k:Nat} {rows:List (List AV)}
theorem LM (h:rows.length=0):apc tok sz rows=z8:=if_pos h
theorem Cy (h:¬ rows.length=0):apc tok sz rows=.list sz (.own tok) rows:=if_neg h
@[simp] theorem aie:rf (apc tok sz rows)=true:=by unfold apc; split<;>rfl
@[simp] theorem agl:strip (apc tok sz rows)=plc sz rows:=by unfold apc plc; split<;>rfl
@[simp] theorem agn:cellsOf (apc tok sz rows)=some [apc tok sz rows]:=by unfold apc; split<;>rfl
@[simp] theorem ahy {σ:Nat→Option ze}:wD σ (apc tok sz rows)=some (plc sz rows):=by unfold apc plc; split<;>rfl
@[simp] theorem agZ:zT k (apc tok sz rows)=false:=by unfold apc; split<;>rfl
theorem aA (h:¬ tok=l):dg l (apc tok sz rows)=apc tok sz rows:=by
 unfold apc
 split
 ·simp
 ·simp only[dg]; rw[if_neg h]
@[simp] theorem ago:cellsOf (plc sz rows)=some [plc sz rows]:=by unfold plc; split<;>rfl
@[simp] theorem aiZ:rf (plc sz rows)=true:=by unfold plc; split<;>rfl
@[simp] theorem agJ:strip (plc sz rows)=plc sz rows:=by unfold plc; split<;>rfl
@[simp] theorem aiY:dg l (plc sz rows)=plc sz rows:=by unfold plc; split<;>simp
@[simp] theorem ahu:zT k (plc sz rows)=false:=by unfold plc; split<;>rfl
theorem nK {rows':List (List AV)} (h:BC rows rows'):AV.imp (plc sz rows) (.list sz .plain rows'):=by
 unfold plc
 split
 ·rename_i h0
  have:rows'=[]:=List.eq_nil_of_length_eq_zero (by rw[← h.1]; exact h0)
  subst this
  exact AV.imp_nil rfl
 ·exact Nd rfl h
end
@[simp] theorem agr {tok sz:Nat} {rows:List (List AV)} {K:AV→Option ze→Prop}:qB false K (apc tok sz rows)=K (.val (.int .i64 rows.length)) none:=by
 unfold apc; split
 ·rename_i h; rw[h]; simp[qB]
 ·simp[qB]
theorem eD {tok sz i:Nat} {rows:List (List AV)} {K:AV→Option ze→Prop} (h:i<rows.length):xb sz [apc tok sz rows,iv i] K=K (.ro rows[i]) none:=by
 have h0:¬ rows.length=0:=by omega
 rw[Cy h0]
 have h1:(i:Int)<rows.length:=by omega
 simp[xb,h1,h]
theorem x5 {sz i:Nat} {m:Am.Mode} {rows:List (List AV)} {K:AV→Option ze→Prop} (h:i<rows.length):xb sz [.list sz m rows,iv i] K=K (.ro rows[i]) none:=by
 have h1:(i:Int)<rows.length:=by omega
 simp[xb,h1,h]
theorem rU {rows:List (List AV)}:BC rows rows:=⟨rfl,fun i x y h h'=>by rw[h] at h'; cases h'; exact RT⟩
theorem DZ {f:FuncId} {args:List AV} {r r':AV} (h:zd Try.prog f args r) (hr:AV.imp r r'):zd Try.prog f args r':=fun I vs w h1 h2 h3 =>
 Calls.mono (h I vs w h1 h2 h3) fun _ _ ⟨v,e,hb,hv⟩=>⟨v,e,hb,hr _ _ _ hv⟩
theorem XJ {f:FuncId} {xs ys:List AV} {r:AV} (h:zd Try.prog f ys r) (hi:mU xs ys):zd Try.prog f xs r:=fun I vs w h1 h2 h3 =>
 h I vs w h1 (by rw[h2,hi.1]) fun i y hy=>by
  have hx:i<xs.length:=by rw[hi.1]; exact (List.getElem?_eq_some_iff.1 hy).1
  exact hi.2 i _ y (tz hx) hy _ _ _ (h3 i _ (tz hx))
theorem afI {a a' b b':AV} (h:AV.imp a a') (h2:AV.imp b b'):mU [a,b] [a',b']:=yg h (yg h2 rV)
theorem aaL {a a' b b' c c':AV} (h:AV.imp a a') (h2:AV.imp b b') (h3:AV.imp c c'):mU [a,b,c] [a',b',c']:=yg h (yg h2 (yg h3 rV))
end Go.Proofs.Ytfmcplfbnkoglaa

namespace Go.Pb
def Pb.at (P:Pb) (i:Int):Of:=P.of.getD i.toNat ⟨0,fun _=>0,0⟩
def Pb.pick (P:Pb) (ch:List Int):List Of:=ch.map P.at
def prv (ch:List Int):Nat→Int
 | 0=>-1
 | k+1=>ch.getD k 0
def okI (n:Nat) (ch:List Int) (k:Nat):Prop:=prv ch k<ch.getD k 0∧ch.getD k 0<n
instance (n:Nat) (ch:List Int) (k:Nat):Decidable (okI n ch k):=inferInstanceAs (Decidable (prv ch k<ch.getD k 0∧ch.getD k 0<n))
def okP (n:Nat) (ch:List Int):Prop:=∀ k,k<ch.length→okI n ch k
instance (n:Nat) (ch:List Int):Decidable (okP n ch):=Nat.decidableBallLT ch.length fun k _=>okI n ch k
section
variable {P:Pb} {n k:Nat} {ch:List Int}
theorem Dc (h:∀ q,q<k→okI n ch q):(k:Int)-1≤prv ch k:=by
 induction k with
 | zero=>simp[prv]
 | succ k ih =>
  have h1:=ih fun q hq=>h q (by omega)
  have h2:=(h k (by omega)).1
  simp only[prv]
  omega
theorem KL (h:okP n ch):ch.length≤n:=by
 cases e:ch.length with
 | zero=>omega
 | succ k =>
  have h1:=Dc (k:=k) (n:=n) (ch:=ch) fun q hq=>h q (by omega)
  have h2:=h k (by omega)
  unfold okI at h2
  omega
theorem KK (h:∀ q,q<k→okI n ch q) (hk:okI n ch k):∃ b:Nat,ch.getD k 0=b∧b<n:=by
 have h1:=Dc h
 have h2:=hk
 unfold okI at h2
 exact ⟨(ch.getD k 0).toNat,by omega,by omega⟩
theorem Ak (h:okP P.of.length ch):∀ o∈P.pick ch,o∈P.of:=fun o ho=>by
 obtain ⟨i,hi,rfl⟩:=List.mem_map.1 ho
 obtain ⟨k,hk,rfl⟩:=List.getElem_of_mem hi
 obtain ⟨b,hb,hbn⟩:=KK (fun q hq=>h q (by omega)) (h k hk)
 have e:ch.getD k 0=ch[k]:=by rw[List.getD_eq_getElem?_getD,List.getElem?_eq_getElem hk]; rfl
 unfold Pb.at
 rw[← e,hb,Int.toNat_natCast,List.getD_eq_getElem?_getD,List.getElem?_eq_getElem hbn]
 exact List.getElem_mem hbn
theorem gq:(P.pick ch).length=ch.length:=by simp[Pb.pick]
end
def ints (l:List Nat):List Int:=l.map fun i:Nat=>(i:Int)
theorem ahr {n:Nat} {l:List Nat} (h1:l.Pairwise (·<·)) (h2:∀ j∈l,j<n):okP n (ints l):=fun k hk=>by
 have hk':k<l.length:=by simpa [ints] using hk
 have e:∀ k,(hk:k<l.length)→(ints l).getD k 0=(l[k]:Int):=fun k hk=>by simp[ints,hk]
 refine ⟨?_,by rw[e k hk']; have:=h2 _ (List.getElem_mem hk'); omega⟩
 cases k with
 | zero=>rw[e 0 hk']; simp only[prv]; omega
 | succ k =>
  simp only[prv]
  rw[e _ hk',e k (by omega)]
  have:=List.pairwise_iff_getElem.1 h1 k (k+1) (by omega) hk' (by omega)
  omega
end Go.Pb

namespace Go.Proofs.Ytfmcplfbnkoglaa
open Go Go.Am Go.Pb
@[simp] theorem ahJ:clR []=[]:=rfl
@[simp] theorem ah1:ofR []=[]:=rfl
@[simp] theorem agY {tok sz:Nat}:apc tok sz []=z8:=LM rfl
section
variable {P:Pb} {r n:Nat} {o:Of} {L:List Of} {ch:List Int}
theorem getD_lt {l:List Int} {k:Nat} (h:k<l.length):l.getD k 0=l[k]:=by rw[List.getD_eq_getElem?_getD,List.getElem?_eq_getElem h]; rfl
theorem afh {b:Nat} (h:b<P.of.length):P.at (b:Int)=P.of[b]:=by unfold Pb.at; rw[Int.toNat_natCast,List.getD_eq_getElem?_getD,List.getElem?_eq_getElem h]; rfl
theorem E8 {k:Nat} (h:k<ch.length):P.pick (ch.take (k+1))=P.pick (ch.take k)++[P.at ch[k]]:=by
 unfold Pb.pick
 rw[mq (o:=ch[k]) (by simp[h]),List.map_append]
 rfl
theorem KH {L M:List Of}:ofR (L++M)=ofR L++ofR M:=by simp[ofR]
theorem sP {tok sz by_:Nat} {s:St} {KS:St→Prop} {rows:List (List AV)} {m:Am.Mode} {x:List AV} (h0:0<sz) (h1:s.base+tok=tok) (h2:(rows.length+1)*by_≤140737488355328) (h3:rows.length+1≤9223372036854775807) (h4:lk s.sto tok=none)
  (hK:KS ((s.dg tok).put (some tok) (apc tok sz (rows++[x])))):xQ sz by_ s (some tok) KS [apc tok sz rows,.list sz m [x]]:=by
 have e:∀ r:List (List AV),apc tok sz r=wo sz tok r:=fun r=>by
  unfold apc wo
  by_cases h:r=[]
  ·subst h; simp
  ·simp[h]
 rw[e,aU h0 h1]
 exact ⟨h2,h3,h4,by rw[← e]; exact hK⟩
theorem agX {tok sz by_:Nat} {s:St} {KS:St→Prop} {rows:List (List AV)} {x:List AV} (h0:0<sz) (h1:s.base+tok=tok) (h2:(rows.length+1)*by_≤140737488355328) (h3:rows.length+1≤9223372036854775807) (h4:lk s.sto tok=none)
  (hr:x.all rf=true) (hK:KS ((s.dg tok).put (some tok) (apc tok sz (rows++[x.map strip])))):xQ sz by_ s (some tok) KS [apc tok sz rows,.lit sz [x]]:=by
 have h:=sP (m:=.plain) (x:=x.map strip) h0 h1 h2 h3 h4 hK
 have e:yV [x]=true:=by simp only[yV,List.all_cons,hr,List.all_nil,Bool.and_self]
 have e2:zQ [x]=[x.map strip]:=rfl
 unfold apc at h ⊢
 split
 ·rename_i hc
  rw[if_pos hc] at h
  obtain ⟨_,h⟩:=h
  exact ⟨rfl,e,h⟩
 ·rename_i hc
  rw[if_neg hc] at h
  obtain ⟨_,h⟩:=h
  exact ⟨rfl,e,h⟩
end
open Go.Dig
def Mt (m:Am.Mode) (a:List Nat) (k:Nat):St:={env:=[(0,nl m a),(3,iv ((a.length-k:Nat):Int))],sto:=[]}
theorem yZ {m:Am.Mode} {a:List Nat} (ha:ok a) (hn:a.length<1099511627776):zd Try.prog xy [nl m a] (nD (val a)):=by
 obtain ⟨h1,h2,h3,h4⟩:=Zi ha
 refine wT aaq (by simp) ?_
 simp[Pw]
 generalize hT:(zf (val a)).length=T at h1 h2 h3 h4
 refine aa4 (Mt m a) (a.length-T) ?_ (fun k hk=>?_) ?_
 ·simp[Mt]
 ·have hp:0<a.length-k:=by omega
  have hp2:k<a.length:=by omega
  have w:IntKind.i64.wrap (((a.length-k:Nat):Int)-1)=((a.length-(k+1):Nat):Int):=by rw[wrap64]<;>omega
  have hlt:a.length-(k+1)<a.length:=by omega
  have hz:=h2 (a.length-(k+1)) hlt (by omega)
  simp[lm,Mt,hp,w,hlt,hz]
 ·have e:a.length-(a.length-T)=T:=by omega
  rcases T with _ | T
  ·have h5:zf (val a)=[]:=by rw[← h4]; rfl
   simp[lm,Mt,f9,X0]
   rw[show nD (val a)=.list 1 .plain [] by simp only[nD,nl,zG,h5,List.map_nil]]
   exact wz
  ·have w:IntKind.i64.wrap (((T+1:Nat):Int)-1)=(T:Int):=by rw[wrap64]<;>omega
   have hz:=h3 (by omega) (by omega)
   simp only[Nat.add_sub_cancel] at hz
   have hlt:T<a.length:=by omega
   have ht:List.take (T+1) (zG a)=zG (zf (val a)):=by rw[← h4]; simp
   have en:((T:Int)+1).toNat=T+1:=by omega
   have e0:(0:Int)≤(T:Int)+1:=by omega
   have e1:(T:Int)+1≤a.length:=by omega
   simp at w
   simp[lm,Mt,e,w,hlt,hz,e0,e1,en,f9,X0]
   first | (rw[ht]; exact wz) | (simp only[← List.map_take]; rw[h4]; exact wz)
theorem MO (n:Int):IntKind.u64.wrap n=n%18446744073709551616:=by simp[IntKind.wrap,IntKind.bits,IntKind.signed]
abbrev z7 (n:Nat):AV:=.val (.int .u64 (n:Int))
theorem c6 (n:Nat):(n:Int).fdiv (2^min 32 IntKind.u64.bits)=((n/B:Nat):Int):=by
 have:min 32 IntKind.u64.bits=32:=rfl
 rw[this,Int.fdiv_eq_ediv_of_nonneg _ (by decide),z5]
 rfl
theorem xc {a:List Nat} {k d:Nat}:(zG a).set k [uv d]=zG (a.set k d):=by simp[List.map_set]
theorem qg {b:List Nat} {k:Nat} (h:b.length≤k):val (b.take k)=val b:=by rw[List.take_of_length_le h]
theorem Xm {a:List Nat} (h:ok a) (k:Nat):val (a.take k)<B^k:=yC (ut h k) (by simp; omega)
def low (a b:List Nat) (k:Nat):Nat:=val (a.take k)+val (b.take k)
def car (a b:List Nat) (k:Nat):Nat:=low a b k/B^k
theorem UW {a b:List Nat} (ha:ok a) (hb:ok b) (k:Nat):car a b k≤1:=by
 have h1:=Xm ha k
 have h2:=Xm hb k
 have:low a b k<2*B^k:=by unfold low; omega
 have:=Nat.div_lt_of_lt_mul (Nat.mul_comm 2 _▸this)
 unfold car
 omega
theorem Xx {a b:List Nat}:car a b 0=0:=by simp[car,low,val]
theorem R2 {a b:List Nat} {k t R:Nat} (h:low a b (k+1)=low a b k+B^k*t) (hs:val a+val b=low a b (k+1)+B^(k+1)*R) :
  (val a+val b)/B^k%B=(car a b k+t)%B∧car a b (k+1)=(car a b k+t)/B:=by
 constructor
 ·rw[hs,h,fk]; rfl
 ·unfold car; rw[h,fj]
theorem BI (a b:List Nat) (k:Nat) (ha:k≤a.length) (hb:k≤b.length∨b.length≤k):∃ R,val a+val b=low a b k+B^k*R:=by
 have e1:=vT a k
 rw[Nat.min_eq_left ha] at e1
 rcases hb with hb | hb
 ·have e2:=vT b k
  rw[Nat.min_eq_left hb] at e2
  exact ⟨val (a.drop k)+val (b.drop k),by unfold low; rw[Nat.mul_add]; omega⟩
 ·exact ⟨val (a.drop k),by unfold low; rw[qg hb]; omega⟩
theorem Sj {a b:List Nat} {k:Nat} (hk:k<a.length) (hb:k<b.length∨b.length≤k):∃ t,t=car a b k+(a[k]+(b[k]?.getD 0))∧(val a+val b)/B^k%B=t%B∧car a b (k+1)=t/B:=by
 refine ⟨_,rfl,?_⟩
 obtain ⟨R,hR⟩:=BI a b (k+1) (by omega) (by omega)
 rcases hb with hb | hb
 ·rw[List.getElem?_eq_getElem hb,Option.getD_some]
  exact R2 (by unfold low; rw[xE hk,xE hb,Nat.mul_add]; omega) hR
 ·rw[List.getElem?_eq_none hb,Option.getD_none]
  exact R2 (by unfold low; rw[xE hk,qg hb,qg (show b.length≤k+1 by omega)]; simp; omega) hR
def lE (m1 m2:Am.Mode) (a b:List Nat) (k:Nat):St :=
 {env:=[(0,nl m1 a),(1,nl m2 b),(5,.sl 19 1 0 (a.length+1)),(6,z7 (car a b k)),(21,iv a.length),(22,iv k)],sto:=[(19,.arr 1 (zG (wx (a.length+1) k (val a+val b))))]}
theorem Ph {m1 m2:Am.Mode} {a b:List Nat} (ha:ok a) (hb:ok b) (hl:b.length≤a.length) (hn:a.length<1099511627775) :
  awp Try.prog (.loop nV) (lE m1 m2 a b 0) (vb 0 (r9 Try.prog dY (cW SR (nD (val a+val b))))):=by
 have hS:val a+val b<B^(a.length+1):=by
  have h1:=vm ha
  have h2:=yC hb hl
  rw[Nat.pow_succ,z5] at *
  omega
 refine zl (lE m1 m2 a b) (fun _=>True) a.length (by simp[lE]) trivial (fun k hk _=>?_) (fun _=>?_)
 ·have e:(k:Int)<a.length:=by omega
  have hc:=UW ha hb k
  have hak:=xC ha hk
  have hfl:=fu (n:=a.length+1) (k:=k) (S:=val a+val b) (by omega)
  have hfk:k<(wx (a.length+1) k (val a+val b)).length:=by omega
  have hset:=fw (n:=a.length+1) (k:=k) (S:=val a+val b) (by omega)
  have e1:IntKind.u64.wrap ((a[k]:Nat):Int)=(a[k]:Nat):=w64 (by rw[z5] at hak; omega)
  obtain ⟨t,ht,g1,g2⟩:=Sj (a:=a) (b:=b) hk (by omega)
  rw[g1] at hset
  obtain ⟨d,hd⟩:∃ d,t%B=d:=⟨_,rfl⟩
  obtain ⟨q,hq⟩:∃ q,t/B=q:=⟨_,rfl⟩
  have f1:IntKind.u32.wrap (t:Int)=(d:Int):=by rw[w32,hd]
  have f2:(t:Int).fdiv (2^min 32 IntKind.u64.bits)=(q:Int):=by rw[c6,hq]
  rw[hd] at hset
  have hset':(zG (wx (a.length+1) k (val a+val b))).set k [uv d]=zG (wx (a.length+1) (k+1) (val a+val b)):=by rw[xc,hset]
  rw[hq] at g2
  rw[z5] at hak
  have e4:IntKind.u64.wrap ((a[k]:Int)+(car a b k:Int))=((a[k]:Int)+(car a b k:Int)):=by rw[vL]<;>omega
  by_cases hkb:k<b.length
  ·have e2:(k:Int)<b.length:=by omega
   have hbk:=xC hb hkb
   rw[z5] at hbk
   rw[List.getElem?_eq_getElem hkb,Option.getD_some] at ht
   have e3:IntKind.u64.wrap ((b[k]:Nat):Int)=(b[k]:Nat):=w64 (by omega)
   have e5:IntKind.u64.wrap ((a[k]:Int)+(car a b k:Int)+(b[k]:Int))=(t:Int):=by rw[vL]<;>omega
   simp[nV,lE,e,e2,hk,hkb,e1,e3,e4,e5,ww,hfk,splice,f1,f2,hset',g2,zq (show k<4611686018427387904 by omega)]
   omega
  ·have e2:¬ (k:Int)<b.length:=by omega
   rw[List.getElem?_eq_none (by omega),Option.getD_none] at ht
   have e5:(a[k]:Int)+(car a b k:Int)=(t:Int):=by omega
   rw[e5] at e4
   simp[nV,lE,e,e2,hk,e1,e5,e4,ww,hfk,splice,f1,f2,hset',g2,zq (show k<4611686018427387904 by omega)]
   omega
 ·have hfl:=fu (n:=a.length+1) (k:=a.length) (S:=val a+val b) (by omega)
  have hfk:a.length<(wx (a.length+1) a.length (val a+val b)).length:=by omega
  have hset:=fw (n:=a.length+1) (k:=a.length) (S:=val a+val b) (by omega)
  have hc:=UW ha hb a.length
  have hcl:(val a+val b)/B^a.length%B=car a b a.length:=by
   have h1:car a b a.length=(val a+val b)/B^a.length:=by
    unfold car low; rw[qg (Nat.le_refl _),qg hl]
   rw[← h1,Nat.mod_eq_of_lt (by rw[z5]; omega)]
  rw[hcl] at hset
  have hset':(zG (wx (a.length+1) a.length (val a+val b))).set a.length [uv (car a b a.length)]=zG (zu (a.length+1) (val a+val b)):=by rw[xc,hset,aZ]
  have f1:IntKind.u32.wrap (car a b a.length:Int)=(car a b a.length:Int):=IntWalk.u32_in _ (by omega)
  have hle:a.length+1≤(zu (a.length+1) (val a+val b)).length:=by rw[zy]; exact Nat.le_refl _
  have htk:(zG (zu (a.length+1) (val a+val b))).take (a.length+1)=zG (zu (a.length+1) (val a+val b)):=List.take_of_length_le (by rw[List.length_map,zy]; exact Nat.le_refl _)
  have key:=yZ (m:=.plain) (a:=zu (a.length+1) (val a+val b)) yt (by rw[zy]; omega)
  rw[yh hS] at key
  simp[nV,lE,dY,hfk,splice,f1,hset',xa,s7,htk,hle]
  refine ⟨by omega,?_⟩
  refine za key (by simp) (by simp) ?_
  simp[SR]
  exact AV.imp.refl
theorem gS {m1 m2:Am.Mode} {a b:List Nat} (ha:ok a) (hb:ok b) (hna:a.length<1099511627775) (hnb:b.length<1099511627775):zd Try.prog jj [nl m1 a,nl m2 b] (nD (val a+val b)):=by
 refine wT ac6 (by simp) ?_
 by_cases h:a.length<b.length
 ·have h':(a.length:Int)<b.length:=by omega
  have w:IntKind.i64.wrap ((b.length:Int)+1)=(b.length:Int)+1:=wrap64 (by omega) (by omega)
  have key:=Ph (m1:=m2) (m2:=m1) hb ha (by omega) (by omega)
  rw[Nat.add_comm (val b)] at key
  have e1:((b.length:Int)+1).toNat=b.length+1:=by omega
  simp[So,h',w,eMk,e1]
  refine ⟨by omega,by omega,by omega,?_⟩
  have e2:lE m2 m1 b a 0={env:=[(0,nl m2 b),(1,nl m1 a),(5,.sl 19 1 0 (b.length+1)),(6,z7 0),(21,iv b.length),(22,iv 0)],sto:=[(19,.arr 1 (List.replicate (b.length+1) [uv 0]))]}:=by
   simp[lE,Xx,k8]
  rw[e2] at key
  exact key
 ·have h':¬ (a.length:Int)<b.length:=by omega
  have w:IntKind.i64.wrap ((a.length:Int)+1)=(a.length:Int)+1:=wrap64 (by omega) (by omega)
  have key:=Ph (m1:=m1) (m2:=m2) ha hb (by omega) (by omega)
  have e1:((a.length:Int)+1).toNat=a.length+1:=by omega
  simp[So,h',w,eMk,e1]
  refine ⟨by omega,by omega,by omega,?_⟩
  have e2:lE m1 m2 a b 0={env:=[(0,nl m1 a),(1,nl m2 b),(5,.sl 19 1 0 (a.length+1)),(6,z7 0),(21,iv a.length),(22,iv 0)],sto:=[(19,.arr 1 (List.replicate (a.length+1) [uv 0]))]}:=by
   simp[lE,Xx,k8]
  rw[e2] at key
  exact key
def yQ (x y:Nat):Int:=if x<y then -1 else if y<x then 1 else 0
def YC (x y:Nat) (k:Nat):St:={env:=[(0,nD x),(1,nD y),(22,iv (zf x).length),(23,iv k)],sto:=[]}
theorem lV {m1 m2:Am.Mode} {a b:List Nat} (ha:ok a) (hb:ok b) (hna:a.length<1099511627776) (hnb:b.length<1099511627776):zd Try.prog ne [nl m1 a,nl m2 b] (iv (yQ (val a) (val b))):=by
 refine zD ac7 (by simp) ?_
 simp[LV]
 refine za (yZ (m:=stm m1) ha hna) (by simp[qN]) (by simp) ?_
 simp
 refine za (yZ (m:=stm m2) hb hnb) (by simp[qN]) (by simp) ?_
 have lx:=we ha
 have ly:=we hb
 generalize val a=x at *
 generalize val b=y at *
 by_cases hl:(zf x).length=(zf y).length
 ·have hl':(((zf x).length:Nat):Int)=((zf y).length:Int):=by omega
  simp[hl']
  refine zl (YC x y) (fun k=>(zf x).drop ((zf x).length-k)=(zf y).drop ((zf x).length-k)) (zf x).length (by simp[YC,hl]) (by simp[hl]) (fun k hk hi=>?_) (fun hi=>?_)
  ·have e:(k:Int)<(zf x).length:=by omega
   have w:IntKind.i64.wrap (((zf x).length:Int)-1-k)=(((zf x).length-1-k:Nat):Int):=by rw[wrap64]<;>omega
   have w0:IntKind.i64.wrap (((zf x).length:Int)-1)=((zf x).length:Int)-1:=by rw[wrap64]<;>omega
   obtain ⟨j,hj⟩:∃ j,(zf x).length-1-k=j:=⟨_,rfl⟩
   rw[hj] at w
   have hjx:j<(zf x).length:=by omega
   have hjy:j<(zf y).length:=by omega
   have ejx:(j:Int)<(zf x).length:=by omega
   have ejy:(j:Int)<(zf y).length:=by omega
   have hd:(zf x).drop (j+1)=(zf y).drop (j+1):=by
    have:j+1=(zf x).length-k:=by omega
    rw[this]; exact hi
   rcases Nat.lt_trichotomy (zf x)[j] (zf y)[j] with h | h | h
   ·have hlt:=YY (zw x) (zw y) hl hjx hd h
    rw[zI,zI] at hlt
    have hc:yQ x y=-1:=by simp[yQ,hlt]
    simp[nW,YC,e,w0,w,hjx,hjy,ejx,ejy,h,jx,hc]
   ·have hnext:(zf x).drop ((zf x).length-(k+1))=(zf y).drop ((zf x).length-(k+1)):=by
     have:(zf x).length-(k+1)=j:=by omega
     rw[this,List.drop_eq_getElem_cons hjx,List.drop_eq_getElem_cons hjy,h,hd]
    simp[nW,YC,e,w0,w,hjx,hjy,ejx,ejy,h,zq (show k<4611686018427387904 by omega),hnext]
   ·have hlt:=YY (zw y) (zw x) hl.symm hjy hd.symm h
    rw[zI,zI] at hlt
    have hn:¬ (zf x)[j]<(zf y)[j]:=by omega
    have hc:yQ x y=1:=by
     have:¬ x<y:=by omega
     simp[yQ,hlt,this]
    simp[nW,YC,e,w0,w,hjx,hjy,ejx,ejy,h,hn,jx,hc]
  ·have hxy:x=y:=cj (by simpa using hi)
   have hc:yQ x y=0:=by simp[yQ,hxy]
   simp[nW,YC,UJ,jx,hc]
 ·have hl':¬ (((zf x).length:Nat):Int)=((zf y).length:Int):=by omega
  by_cases hlt:(zf x).length<(zf y).length
  ·have hlt':(((zf x).length:Nat):Int)<((zf y).length:Int):=by omega
   have hc:yQ x y=-1:=by simp[yQ,fA hlt]
   simp[hl',hlt',jx,hc]
  ·have hlt':¬ (((zf x).length:Nat):Int)<((zf y).length:Int):=by omega
   have h2:=fA (show (zf y).length<(zf x).length by omega)
   have hc:yQ x y=1:=by
    have:¬ x<y:=by omega
    simp[yQ,h2,this]
   simp[hl',hlt',jx,hc]
theorem aaA (u v:Int):IntKind.u64.wrap (IntKind.u64.wrap u-v)=IntKind.u64.wrap (u-v):=by
 rw[MO,MO,MO]; omega
theorem Q9 (u:Int):IntKind.u32.wrap (IntKind.u64.wrap u)=u%4294967296:=by
 rw[MO,IntKind.wrap_u32]; omega
theorem Q7 {u:Int} (h1:-8589934592≤u) (h2:u<8589934592):(IntKind.u64.wrap u).fdiv (2^min 63 IntKind.u64.bits)=if u<0 then 1 else 0:=by
 have:min 63 IntKind.u64.bits=63:=rfl
 rw[this,Int.fdiv_eq_ediv_of_nonneg _ (by decide),MO]
 have:(2:Int)^63=9223372036854775808:=by decide
 rw[this]
 split<;>omega
end Go.Proofs.Ytfmcplfbnkoglaa

namespace Go.Dig
theorem YN {o:List Nat} {j d:Nat} (hj:j<o.length):val (o.set j d)+B^j*o[j]=val o+B^j*d:=by
 induction o generalizing j with
 | nil=>simp at hj
 | cons x o ih =>
  rcases j with _ | j
  ·simp[val]; omega
  ·simp only[List.length_cons,Nat.add_lt_add_iff_right] at hj
   have:=ih hj
   simp only[List.set_cons_succ,val,List.getElem_cons_succ,Nat.pow_succ]
   have e1:B^j*B*o[j]=B*(B^j*o[j]):=by rw[Nat.mul_comm (B^j) B,Nat.mul_assoc]
   have e2:B^j*B*d=B*(B^j*d):=by rw[Nat.mul_comm (B^j) B,Nat.mul_assoc]
   rw[e1,e2]
   have e3:B*(val (o.set j d)+B^j*o[j])=B*(val o+B^j*d):=by rw[this]
   rw[Nat.mul_add,Nat.mul_add] at e3
   omega
def mY (a b:List Nat) (i k:Nat) (s:List Nat × Nat):List Nat × Nat :=
 let t:=a.getD i 0*b.getD k 0+s.1.getD (i+k) 0+s.2
 (s.1.set (i+k) (t%B),t/B)
def s8 (a b:List Nat):Nat→List Nat
 | 0=>List.replicate (a.length+b.length) 0
 | i+1=>let s:=itr (mY a b i) (s8 a b i,0) b.length; s.1.set (i+b.length) s.2
def x6 (a b:List Nat) (i k:Nat):List Nat × Nat:=itr (mY a b i) (s8 a b i,0) k
theorem EC {a b:List Nat} {i:Nat}:x6 a b i 0=(s8 a b i,0):=rfl
theorem R5 {a b:List Nat} {i:Nat}:s8 a b (i+1)=(x6 a b i b.length).1.set (i+b.length) (x6 a b i b.length).2:=rfl
theorem R4 {a b:List Nat} {i k:Nat}:x6 a b i (k+1)=mY a b i k (x6 a b i k):=rfl
structure aq (a b o:List Nat) (c i k:Nat):Prop where
 len:o.length=a.length+b.length
 ok:ok o
 lt:c<B
 val:val o+B^(i+k)*c=val (a.take i)*val b+B^i*(a.getD i 0*val (b.take k))
 zero:∀ j (hj:j<o.length),i+b.length≤j→o[j]=0
theorem vV {a:List Nat} (h:ok a) (i:Nat):a.getD i 0<B:=by
 rw[List.getD_eq_getElem?_getD]
 by_cases hi:i<a.length
 ·rw[List.getElem?_eq_getElem hi]; exact xC h hi
 ·rw[List.getElem?_eq_none (by omega)]; exact zU
theorem fC {x y z w:Nat} (hx:x<B) (hy:y<B) (hz:z<B) (hw:w<B):x*y+z+w<B*B:=by
 have h:x*y≤(B-1)*(B-1):=Nat.mul_le_mul (by omega) (by omega)
 have:(B-1)*(B-1)+(B-1)+(B-1)<B*B:=by decide
 omega
theorem BP {a b o:List Nat} {c i k:Nat} (ha:ok a) (hb:ok b) (hi:i<a.length) (hk:k<b.length) (h:aq a b o c i k) :
  aq a b (mY a b i k (o,c)).1 (mY a b i k (o,c)).2 i (k+1):=by
 have hlen:=h.len
 have hik:i+k<o.length:=by omega
 obtain ⟨t,ht⟩:∃ t,t=a.getD i 0*b.getD k 0+o.getD (i+k) 0+c:=⟨_,rfl⟩
 have hbd:=fC (vV ha i) (vV hb k) (vV h.ok (i+k)) h.lt
 rw[← ht] at hbd
 simp only[mY,← ht]
 constructor
 ·simp[hlen]
 ·exact TA h.ok (Nat.mod_lt _ zU)
 ·exact Nat.div_lt_of_lt_mul hbd
 ·have e1:=YN (o:=o) (j:=i+k) (d:=t%B) hik
  have e2:=Nat.mod_add_div t B
  have e3:=h.val
  have e4:=xE hk
  have e5:o.getD (i+k) 0=o[i+k]:=by simp[hik]
  have e6:b.getD k 0=b[k]:=by simp[hk]
  rw[e5,e6] at ht
  rw[e4]
  have e7:B^(i+(k+1))*(t/B)=B^(i+k)*(B*(t/B)):=by rw[← Nat.add_assoc,Nat.pow_succ,Nat.mul_assoc]
  rw[e7]
  have e8:B^(i+k)*(t%B)+B^(i+k)*(B*(t/B))=B^(i+k)*t:=by rw[← Nat.mul_add,e2]
  have e9:B^(i+k)*t=B^(i+k)*(a.getD i 0*b[k])+B^(i+k)*o[i+k]+B^(i+k)*c:=by rw[ht,Nat.mul_add,Nat.mul_add]
  have e10:B^i*(a.getD i 0*(val (b.take k)+B^k*b[k]))=B^i*(a.getD i 0*val (b.take k))+B^(i+k)*(a.getD i 0*b[k]):=by
   rw[Nat.mul_add,Nat.mul_add,Nat.pow_add]
   congr 1
   rw[Nat.mul_assoc]
   congr 1
   rw[Nat.mul_left_comm]
  rw[e10]
  omega
 ·intro j hj hle
  simp only[List.length_set] at hj
  rw[List.getElem_set_ne (by omega)]
  exact h.zero j hj hle
theorem fD {a b:List Nat} {i:Nat} (ha:ok a) (hb:ok b) (hi:i<a.length) (h:aq a b (s8 a b i) 0 i 0):∀ k,k≤b.length→aq a b (x6 a b i k).1 (x6 a b i k).2 i k
 | 0,_=>h
 | k+1,hk=>by rw[R4]; exact BP ha hb hi (by omega) (fD ha hb hi h k (by omega))
theorem Zq {a b:List Nat} (ha:ok a) (hb:ok b):∀ i,i≤a.length→aq a b (s8 a b i) 0 i 0
 | 0,_=>⟨by simp[s8],NL _,zU,by simp[s8,YM,val],fun j hj _=>by simp[s8]⟩
 | i+1,hi=>by
  have ih:=Zq ha hb i (by omega)
  have h:=fD ha hb (by omega) ih b.length (Nat.le_refl _)
  have hlen:=h.len
  have hib:i+b.length<(x6 a b i b.length).1.length:=by omega
  rw[R5]
  have hz:=h.zero (i+b.length) hib (Nat.le_refl _)
  have hv:=YN (d:=(x6 a b i b.length).2) hib
  have h3:=h.val
  rw[hz,Nat.mul_zero,Nat.add_zero] at hv
  refine ⟨by simp[hlen],TA h.ok h.lt,zU,?_,?_⟩
  ·rw[hv,h3,List.take_of_length_le (Nat.le_refl b.length)]
   have:val (a.take (i+1))=val (a.take i)+B^i*a.getD i 0:=by
    rw[xE (by omega)]; simp[show i<a.length by omega]
   rw[this,Nat.add_mul,Nat.mul_assoc]
   simp[val]
  ·intro j hj hle
   simp only[List.length_set] at hj
   rw[List.getElem_set_ne (by omega)]
   exact h.zero j hj (by omega)
theorem abW {a b:List Nat} (ha:ok a) (hb:ok b):ok (s8 a b a.length)∧(s8 a b a.length).length=a.length+b.length∧val (s8 a b a.length)=val a*val b:=by
 have h:=Zq ha hb a.length (Nat.le_refl _)
 refine ⟨h.ok,h.len,?_⟩
 have:=h.val
 simp[val] at this
 exact this
def vj (n D i:Nat):List Nat:=List.replicate (n-i) 0++(zu n D).drop (n-i)
theorem Xh {n D:Nat}:vj n D 0=List.replicate n 0:=by
 simp[vj,zy]
theorem TM {n D:Nat}:vj n D n=zu n D:=by simp[vj]
theorem TN {n D i:Nat} (_h:i≤n):(vj n D i).length=n:=by simp[vj,zy]; try omega
theorem TO {n D i:Nat} (h:i<n):(vj n D i).set (n-1-i) (D/B^(n-1-i)%B)=vj n D (i+1):=by
 obtain ⟨j,hj⟩:∃ j,n-1-i=j:=⟨_,rfl⟩
 have h1:n-i=j+1:=by omega
 have h2:n-(i+1)=j:=by omega
 unfold vj
 rw[hj,h1,h2,List.replicate_succ']
 rw[List.append_assoc,List.set_append_right _ _ (by simp)]
 simp only[List.length_replicate,Nat.sub_self]
 have hlt:j<(zu n D).length:=by rw[zy]; omega
 rw[List.drop_eq_getElem_cons hlt,vf]
 rfl
theorem TP {A d:Nat} (hd:0<d):(A/B%d*B+A%B)/d=A/d%B∧(A/B%d*B+A%B)%d=A%d∧A/B%d*B+A%B<d*B:=by
 have hA:=Nat.div_add_mod A B
 have h1:=Nat.div_add_mod (A/B) d
 have hm:=Nat.mod_lt (A/B) hd
 have hb:=Nat.mod_lt A zU
 have hlt:A/B%d*B+A%B<d*B:=by
  have:(A/B%d+1)*B≤d*B:=Nat.mul_le_mul_right _ hm
  rw[Nat.add_mul] at this
  omega
 have key:A=d*(A/B/d*B)+(A/B%d*B+A%B):=by
  have e:B*(A/B)=B*(d*(A/B/d)+A/B%d):=by rw[h1]
  rw[Nat.mul_add] at e
  have e2:d*(A/B/d*B)=B*(d*(A/B/d)):=by rw[← Nat.mul_assoc,Nat.mul_comm]
  rw[e2,Nat.mul_comm (A/B%d)]
  omega
 generalize A/B%d*B+A%B=t at *
 generalize A/B/d=g at *
 have hq:t/d<B:=Nat.div_lt_of_lt_mul hlt
 refine ⟨?_,?_,hlt⟩
 ·rw[key,Nat.mul_add_div hd,Nat.add_comm (g*B) _,Nat.add_mul_mod_self_right,Nat.mod_eq_of_lt hq]
 ·rw[key,Nat.mul_add_mod]
end Go.Dig

namespace Go.Proofs.Ytfmcplfbnkoglaa
open Go Go.Am Go.Dig
theorem qD {x:Nat} (h:x<18446744073709551616):zd Try.prog vW [z7 x] (nD x):=by
 have f2:(x:Int).fdiv (2^min 32 IntKind.u64.bits)=((x/B:Nat):Int):=c6 x
 have f1:=w32 x
 have f3:=w32 (x/B)
 obtain ⟨d0,h0⟩:∃ d,x%B=d:=⟨_,rfl⟩
 obtain ⟨q,hq⟩:∃ q,x/B=q:=⟨_,rfl⟩
 obtain ⟨d1,h1⟩:∃ d,q%B=d:=⟨_,rfl⟩
 rw[hq] at f2 f3
 rw[h0] at f1
 rw[h1] at f3
 have hok:ok [d0,d1]:=by
  intro d hd
  simp at hd
  rcases hd with rfl | rfl
  ·rw[← h0]; exact Nat.mod_lt _ zU
  ·rw[← h1]; exact Nat.mod_lt _ zU
 have hv:val [d0,d1]=x:=by
  have e1:=Nat.mod_add_div x B
  have hq2:q<B:=by rw[← hq,z5]; omega
  rw[Nat.mod_eq_of_lt hq2] at h1
  simp only[val,Nat.mul_zero,Nat.add_zero]
  rw[← h1,← h0,← hq]
  exact e1
 have key:=yZ (m:=.full) (a:=[d0,d1]) hok (by simp)
 rw[hv] at key
 refine zD MC (by simp) ?_
 simp[aF,ww,f1,f2,f3,uh]
 refine za key (by simp) (by simp) ?_
 simp[ZA]
theorem or_hi {r a:Nat} (hr:r<B) (ha:a<B):rC .or .u64 ((r*B:Nat):Int) (a:Int)=((r*B+a:Nat):Int):=by
 rw[z5] at *
 have hbits:IntKind.u64.bits=64:=rfl
 simp only[rC]
 rw[BitVec.toNat_or]
 have e1:(BitVec.ofInt IntKind.u64.bits ((r*4294967296:Nat):Int)).toNat=r*4294967296:=by rw[hbits,BitVec.toNat_ofInt]; omega
 have e2:(BitVec.ofInt IntKind.u64.bits (a:Int)).toNat=a:=by rw[hbits,BitVec.toNat_ofInt]; omega
 rw[e1,e2]
 have h3:=Nat.shiftLeft_add_eq_or_of_lt (i:=32) (b:=a) (by omega) r
 rw[Nat.shiftLeft_eq] at h3
 have:(2:Nat)^32=4294967296:=by decide
 rw[this] at h3
 rw[← h3]
 exact w64 (by omega)
theorem Q6 {r:Nat} (hr:r<B):IntKind.u64.wrap ((r:Int)*2^min 32 IntKind.u64.bits)=((r*B:Nat):Int):=by
 have:min 32 IntKind.u64.bits=32:=rfl
 rw[this]
 have:(2:Int)^32=4294967296:=by decide
 rw[this]
 rw[z5] at *
 rw[vL]<;>omega
def GR (m:Am.Mode) (a:List Nat) (d i:Nat):St :=
 {env:=[(0,nl m a),(1,uv d),(6,.sl 13 1 0 a.length),(7,z7 (val a/B^(a.length-i)%d)),(15,iv a.length),(16,iv i)],sto:=[(13,.arr 1 (zG (vj a.length (val a/d) i)))]}
theorem Lx {m:Am.Mode} {a:List Nat} {d:Nat} (ha:ok a) (hn:a.length<1099511627776) (h0:0<d) (hd:d<B) (f1:stm m=m) :
  zd Try.prog ak [nl m a,uv d] (.tuple [nD (val a/d),uv (val a%d)]):=by
 refine wT Ch (by simp) ?_
 simp[RD,eMk]
 refine ⟨by omega,by omega,?_⟩
 have hz:val a/B^a.length%d=0:=by rw[Nat.div_eq_of_lt (vm ha)]; exact Nat.zero_mod _
 refine zl (GR m a d) (fun _=>True) a.length (by simp[GR,Xh,hz]) trivial (fun i hi _=>?_) (fun _=>?_)
 ·have e:(i:Int)<a.length:=by omega
  obtain ⟨k,hk⟩:∃ k,a.length-1-i=k:=⟨_,rfl⟩
  have hk1:a.length-i=k+1:=by omega
  have hk2:a.length-(i+1)=k:=by omega
  have hka:k<a.length:=by omega
  have w0:IntKind.i64.wrap ((a.length:Int)-1)=(a.length:Int)-1:=by rw[wrap64]<;>omega
  have w1:IntKind.i64.wrap ((a.length:Int)-1-i)=(k:Int):=by rw[wrap64]<;>omega
  obtain ⟨s1,s2,s3⟩:=TP (A:=val a/B^k) h0
  rw[← mS ha hka,Nat.div_div_eq_div_mul,← Nat.pow_succ] at s1 s2 s3
  obtain ⟨r,hr⟩:∃ r,val a/B^(k+1)%d=r:=⟨_,rfl⟩
  have hrd:r<d:=by rw[← hr]; exact Nat.mod_lt _ h0
  have hrB:r<B:=by omega
  have hak:=xC ha hka
  have hor:=or_hi hrB hak
  have hsh:=Q6 hrB
  rw[Nat.succ_eq_add_one,hr] at s1 s2 s3
  obtain ⟨t,ht⟩:∃ t,r*B+a[k]=t:=⟨_,rfl⟩
  obtain ⟨rb,hrb⟩:∃ rb,r*B=rb:=⟨_,rfl⟩
  rw[ht] at hor s1 s2 s3
  rw[hrb] at hor hsh
  have hset:=TO (n:=a.length) (D:=val a/d) hi
  rw[hk,Nat.div_div_eq_div_mul,Nat.mul_comm d,← Nat.div_div_eq_div_mul,← s1] at hset
  obtain ⟨q,hq⟩:∃ q,t/d=q:=⟨_,rfl⟩
  obtain ⟨r2,hr2⟩:∃ r2,t%d=r2:=⟨_,rfl⟩
  rw[hq] at hset s1
  rw[hr2] at s2
  have hqB:q<B:=by rw[s1]; exact Nat.mod_lt _ zU
  have hset':(zG (vj a.length (val a/d) i)).set k [uv q]=zG (vj a.length (val a/d) (i+1)):=by rw[xc,hset]
  have htB:t<18446744073709551616:=by
   have:d*B≤B*B:=Nat.mul_le_mul_right _ (by omega)
   have hBB:B*B=18446744073709551616:=by decide
   omega
  have hfl:=TN (D:=val a/d) (show i≤a.length by omega)
  have hkl:k<(vj a.length (val a/d) i).length:=by omega
  rw[z5] at hak hqB hd
  have u1:IntKind.u64.wrap ((a[k]:Nat):Int)=(a[k]:Nat):=w64 (by omega)
  have u2:IntKind.u64.wrap (d:Int)=d:=w64 (by omega)
  have hd0:¬ (d:Int)=0:=by omega
  have hd0n:¬ d=0:=by omega
  have u3:IntKind.u64.wrap ((t:Int).tdiv d)=(q:Int):=by
   rw[show (t:Int).tdiv d=((t/d:Nat):Int) from rfl,hq]; exact w64 (by omega)
  have u3':IntKind.u64.wrap ((t:Int)/d)=(q:Int):=by
   rw[show (t:Int)/d=((t/d:Nat):Int) by simp,hq]; exact w64 (by omega)
  have u4:(t:Int).tmod d=(r2:Int):=by rw[show (t:Int).tmod d=((t%d:Nat):Int) from rfl,hr2]
  have u5:IntKind.u32.wrap (q:Int)=q:=IntWalk.u32_in _ (by omega)
  simp[jS,GR,e,w0,w1,hka,hkl,hk1,hk2,hr,vI,hsh,u1,hor,u2,uS,rO,hd0n,u3',u4,u5,splice,hset',s2,zq (show i<4611686018427387904 by omega)]
 ·have htk:(zG (zu a.length (val a/d))).take a.length=zG (zu a.length (val a/d)):=List.take_of_length_le (by rw[List.length_map,zy]; exact Nat.le_refl _)
  have hle2:a.length≤(zu a.length (val a/d)).length:=by rw[zy]; exact Nat.le_refl _
  have key:=yZ (m:=.plain) (a:=zu a.length (val a/d)) yt (by rw[zy]; omega)
  have hlt:val a/d<B^a.length:=Nat.lt_of_le_of_lt (Nat.div_le_self _ _) (vm ha)
  rw[yh hlt] at key
  have hr:val a%d<d:=Nat.mod_lt _ h0
  have u5:IntKind.u32.wrap ((val a%d:Nat):Int)=(val a%d:Nat):=IntWalk.u32_in _ (by rw[z5] at hd; omega)
  obtain ⟨r,hr2⟩:∃ r,val a%d=r:=⟨_,rfl⟩
  have hr3:val a/B^(a.length-a.length)%d=r:=by simp[hr2]
  rw[hr2] at u5 ⊢
  simp[jS,GR,TM,aG,xa,XF f1,s7,htk,hle2,hr2]
  refine za key (by simp) (by simp) ?_
  simp[Qg,u5]
  exact AV.imp.refl
end Go.Proofs.Ytfmcplfbnkoglaa

namespace Go.Dig
def me (w u2 v1 v2:Nat):Nat:=min (B-1) ((w*B+u2)/(v1*B+v2))
def MH (g r u2 v2:Nat):Prop:=B≤g∨r*B+u2<g*v2
theorem acp {w u2 v1 v2:Nat} (h1:0<v1) (hu:u2<B):me w u2 v1 v2≤w/v1:=by
 unfold me
 refine Nat.le_trans (Nat.min_le_right _ _) ?_
 rw[Nat.le_div_iff_mul_le h1]
 have h:=Nat.div_mul_le_self (w*B+u2) (v1*B+v2)
 generalize (w*B+u2)/(v1*B+v2)=q at *
 rw[Nat.mul_add,← Nat.mul_assoc] at h
 apply Nat.le_of_not_lt
 intro hlt
 have:(w+1)*B≤q*v1*B:=Nat.mul_le_mul_right _ hlt
 rw[Nat.add_mul] at this
 omega
theorem bu {g r w u2 v1 v2:Nat} (h1:0<v1) (hr:w=g*v1+r):MH g r u2 v2↔me w u2 v1 v2<g:=by
 have hV:0<v1*B+v2:=by have:=Nat.mul_pos h1 zU; omega
 have key:g≤(w*B+u2)/(v1*B+v2)↔g*v2≤r*B+u2:=by
  rw[Nat.le_div_iff_mul_le hV,hr,Nat.mul_add,Nat.add_mul,← Nat.mul_assoc]
  omega
 unfold MH me
 have hB:=zU
 constructor
 ·rintro (h | h)
  ·exact Nat.lt_of_le_of_lt (Nat.min_le_left _ _) (by omega)
  ·exact Nat.lt_of_le_of_lt (Nat.min_le_right _ _) (by omega)
 ·intro h
  apply Classical.byContradiction
  intro hno
  have h2:g≤B-1:=by
   apply Nat.le_of_not_lt; intro h3; exact hno (.inl (by omega))
  have h3:g≤(w*B+u2)/(v1*B+v2):=key.2 (by
   apply Nat.le_of_not_lt; intro h4; exact hno (.inr h4))
  have:=Nat.le_min.2 ⟨h2,h3⟩
  omega
theorem CP {g r w u2 v1 v2:Nat} (_h1:0<v1) (hr:w=g*v1+r) (hw:w≤v1*B+(B-1)) (hv2:v2<B) (hrB:B≤r):¬ MH g r u2 v2:=by
 have hg:g≤B-1:=by
  apply Nat.le_of_not_lt
  intro h
  have:B*v1≤g*v1:=Nat.mul_le_mul_right _ (by omega)
  rw[Nat.mul_comm v1] at hw
  have:=zU
  omega
 rintro (h | h)
 ·have:=zU; omega
 ·have h2:g*v2≤(B-1)*(B-1):=Nat.mul_le_mul hg (by omega)
  have h3:B*B≤r*B:=Nat.mul_le_mul_right _ hrB
  have h4:(B-1)*(B-1)<B*B:=by decide
  omega
theorem Gi {w u2 v1 v2 U V P Q R:Nat} (h1:0<v1) (hu2:u2<B) (hv2:v2<B) (hU:U=(w*B+u2)*P+R) (hR:R<P) (hV:V=(v1*B+v2)*P+Q) (hQ:Q<P) (hUV:U<V*B) :
  U/V≤me w u2 v1 v2∧me w u2 v1 v2≤U/V+1:=by
 have hP:0<P:=by omega
 have hV2:0<v1*B+v2:=by have:=Nat.mul_pos h1 zU; omega
 have hVpos:0<V:=by have:=Nat.mul_pos hV2 hP; omega
 constructor
 ·unfold me
  refine Nat.le_min.2 ⟨?_,?_⟩
  ·have:U/V<B:=Nat.div_lt_of_lt_mul hUV
   omega
  ·rw[Nat.le_div_iff_mul_le hV2]
   have h:=Nat.div_mul_le_self U V
   generalize U/V=q at *
   have h2:q*((v1*B+v2)*P)≤q*V:=Nat.mul_le_mul_left _ (by omega)
   rw[← Nat.mul_assoc] at h2
   apply Nat.le_of_not_lt
   intro hlt
   have:(w*B+u2+1)*P≤q*(v1*B+v2)*P:=Nat.mul_le_mul_right _ hlt
   rw[Nat.add_mul] at this
   omega
 ·have hq1:me w u2 v1 v2≤B-1:=Nat.min_le_left _ _
  have hq2:me w u2 v1 v2*(v1*B+v2)≤w*B+u2:=by
   have:me w u2 v1 v2≤(w*B+u2)/(v1*B+v2):=Nat.min_le_right _ _
   exact Nat.le_trans (Nat.mul_le_mul_right _ this) (Nat.div_mul_le_self _ _)
  generalize me w u2 v1 v2=g at *
  rcases g with _ | g
  ·exact Nat.zero_le _
  ·have:g≤U/V:=by
    rw[Nat.le_div_iff_mul_le hVpos]
    -- (g+1) V2 P≤U,and V<(V2+1) P,g+1≤B-1≤v1 B
    have e1:(g+1)*(v1*B+v2)*P≤(w*B+u2)*P:=Nat.mul_le_mul_right _ hq2
    have e2:g*V≤g*((v1*B+v2)*P+P):=Nat.mul_le_mul_left _ (by omega)
    have e3:g*P≤(v1*B+v2)*P:=Nat.mul_le_mul_right _ (by
     have:1*B≤v1*B:=Nat.mul_le_mul_right _ h1
     omega)
    rw[Nat.add_mul,Nat.one_mul,Nat.add_mul] at e1
    rw[Nat.mul_add,← Nat.mul_assoc] at e2
    omega
   omega
theorem abV {g:Nat} {v:List Nat} {k:Nat} (hk:k<v.length):(g*val v)/B^k%B=(g*v[k]+g*val (v.take k)/B^k)%B∧g*val (v.take (k+1))/B^(k+1)=(g*v[k]+g*val (v.take k)/B^k)/B:=by
 have e1:=xE hk
 have e2:=vT v (k+1)
 rw[Nat.min_eq_left (by omega)] at e2
 constructor
 ·rw[e2,e1,Nat.mul_add,Nat.mul_add,Nat.mul_left_comm g (B^k),Nat.mul_left_comm g (B^(k+1)),fk,Nat.add_comm]
 ·rw[e1,Nat.mul_add,Nat.mul_left_comm g (B^k),fj,Nat.add_comm]
theorem Zp {g:Nat} {v:List Nat} (hv:ok v) (hg:g<B) (k:Nat):g*val (v.take k)/B^k<B:=by
 apply Nat.div_lt_of_lt_mul
 have h1:=yC (ut hv k) (n:=k) (by simp; omega)
 have:g*val (v.take k)≤B*val (v.take k):=Nat.mul_le_mul_right _ (by omega)
 have h2:B*val (v.take k)<B*B^k:=Nat.mul_lt_mul_of_pos_left h1 zU
 rw[Nat.mul_comm (B^k)]
 omega
def yN (Z:Nat) (u:List Nat) (k:Nat):List Nat:=zu k Z++u.drop k
theorem Zo {Z:Nat} {u:List Nat}:yN Z u 0=u:=by simp[yN,zu]
theorem gn {Z:Nat} {u:List Nat} {k:Nat} (h:k≤u.length):(yN Z u k).length=u.length:=by simp[yN,zy]; omega
theorem cI {Z:Nat} {u:List Nat} {k:Nat} (h:k<u.length):(yN Z u k)[k]'(by rw[gn (by omega)]; exact h)=u[k]:=by
 unfold yN
 rw[List.getElem_append_right (by rw[zy]; exact Nat.le_refl _)]
 simp[zy]
theorem cJ {Z:Nat} {u:List Nat} {k:Nat} (h:k<u.length):(yN Z u k).set k (Z/B^k%B)=yN Z u (k+1):=by
 unfold yN
 rw[List.set_append_right _ _ (by rw[zy]; exact Nat.le_refl _),zy,Nat.sub_self,List.drop_eq_getElem_cons h,List.set_cons_zero,se]
 simp
theorem Ny {Z:Nat} {u:List Nat} {n:Nat} (h:u.length=n):yN Z u n=zu n Z:=by
 unfold yN; rw[List.drop_of_length_le (by omega)]; simp
theorem RP {n x:Nat}:zu n (x+B^n)=zu n x:=by
 refine YL yt yt (by rw[zy,zy]) ?_
 rw[fW,fW,Nat.add_mod_right]
theorem FL {U n k:Nat} (hk:k<n):(U+B^n)/B^k%B=U/B^k%B:=by
 have h:=RP (n:=n) (x:=U)
 have h1:k<(zu n (U+B^n)).length:=by rw[zy]; exact hk
 have h2:k<(zu n U).length:=by rw[zy]; exact hk
 rw[← vf h1,← vf h2]
 simp only[h]
def seg (W:List Nat) (off:Nat) (X:List Nat):List Nat:=W.take off++X++W.drop (off+X.length)
theorem jy {W X:List Nat} {off:Nat} (h:off+X.length≤W.length):(seg W off X).length=W.length:=by simp[seg]; omega
theorem YA {W X:List Nat} {off i:Nat} (h:off+X.length≤W.length) (hi:i<X.length):(seg W off X)[off+i]'(by rw[jy h]; omega)=X[i]:=by
 unfold seg
 rw[List.getElem_append_left (by simp; omega),List.getElem_append_right (by simp; omega)]
 congr 1
 simp; omega
theorem YB {W X:List Nat} {off i d:Nat} (h:off+X.length≤W.length) (hi:i<X.length):(seg W off X).set (off+i) d=seg W off (X.set i d):=by
 unfold seg
 rw[List.length_set,List.set_append_left _ _ (by simp; omega),List.set_append_right _ _ (by simp; omega)]
 have:off+i-(List.take off W).length=i:=by simp; omega
 rw[this]
theorem AN {W:List Nat} {off n:Nat} (h:off+n≤W.length):seg W off ((W.drop off).take n)=W:=by
 unfold seg
 have:((W.drop off).take n).length=n:=by simp; omega
 rw[this]
 rw[List.append_assoc,← List.drop_drop,List.take_append_drop,List.take_append_drop]
theorem TK {N L i t:Nat} (hL:L<B^(i+1)) (hi:i+1<N) (hlt:L+B^i*t<B^N) (ht:(L/B^i+t)/B<B) :
  ((zu N L).set i ((L/B^i+t)%B)).set (i+1) ((L/B^i+t)/B)=zu N (L+B^i*t):=by
 have hLN:L<B^N:=Nat.lt_of_lt_of_le hL (Nat.pow_le_pow_right zU (by omega))
 have hlen:=zy (n:=N) (x:=L)
 have ho:ok (zu N L):=yt
 have hd1:(L/B^i+t)%B<B:=Nat.mod_lt _ zU
 refine YL (TA (TA ho hd1) ht) yt (by simp[zy]) ?_
 rw[yh hlt]
 have e1:=YN (o:=zu N L) (j:=i) (d:=(L/B^i+t)%B) (by omega)
 have e2:=YN (o:=(zu N L).set i ((L/B^i+t)%B)) (j:=i+1) (d:=(L/B^i+t)/B) (by simp; omega)
 rw[yh hLN,vf] at e1
 rw[List.getElem_set_ne (by omega),vf,Nat.div_eq_of_lt hL] at e2
 have h0:0%B=0:=rfl
 rw[h0,Nat.mul_zero,Nat.add_zero] at e2
 have hc:L/B^i<B:=Nat.div_lt_of_lt_mul (by rw[← Nat.pow_succ]; exact hL)
 rw[Nat.mod_eq_of_lt hc] at e1
 have e3:=Nat.mod_add_div (L/B^i+t) B
 have e4:B^(i+1)*((L/B^i+t)/B)=B^i*(B*((L/B^i+t)/B)):=by rw[Nat.pow_succ,Nat.mul_assoc]
 have e5:B^i*((L/B^i+t)%B)+B^i*(B*((L/B^i+t)/B))=B^i*(L/B^i)+B^i*t:=by rw[← Nat.mul_add,e3,Nat.mul_add]
 rw[e2,e4]
 omega
theorem Ew {c a bits:Nat} (hb:bits<32) (hc:c<2^bits) (_ha:a<B):c ||| (a*2^bits%B)=c+a*2^bits%B∧c+a*2^bits%B=(c+a*2^bits)%B∧a*2^bits/B=(c+a*2^bits)/B∧c+a*2^bits%B<B:=by
 have hB:B=2^(32-bits)*2^bits:=by
  rw[← Nat.pow_add,Nat.sub_add_cancel (by omega)]; rfl
 have hm:a*2^bits%B=(a%2^(32-bits))*2^bits:=by
  rw[hB,Nat.mul_mod_mul_right]
 have hlt:a%2^(32-bits)<2^(32-bits):=Nat.mod_lt _ (Nat.pow_pos (by omega))
 have hd:=Nat.div_add_mod (a*2^bits) B
 have hsum:c+a*2^bits%B<B:=by
  rw[hm]
  have:(a%2^(32-bits)+1)*2^bits≤2^(32-bits)*2^bits:=Nat.mul_le_mul_right _ hlt
  rw[Nat.add_mul,← hB] at this
  omega
 refine ⟨?_,?_,?_,hsum⟩
 ·rw[hm]
  have h:=Nat.shiftLeft_add_eq_or_of_lt hc (a%2^(32-bits))
  rw[Nat.shiftLeft_eq] at h
  rw[Nat.or_comm,← h]; omega
 ·have:c+a*2^bits=c+a*2^bits%B+B*(a*2^bits/B):=by omega
  rw[this,Nat.add_mul_mod_self_left,Nat.mod_eq_of_lt hsum]
 ·have:c+a*2^bits=c+a*2^bits%B+B*(a*2^bits/B):=by omega
  rw[this,Nat.add_mul_div_left _ _ zU,Nat.div_eq_of_lt hsum,Nat.zero_add]
def shL (a:List Nat) (bits i:Nat):Nat:=val (a.take i)*2^bits
theorem Mc {a:List Nat} {bits:Nat}:shL a bits 0=0:=by simp[shL,val]
theorem gr {bits:Nat} (hb:bits<32):2^bits<B:=by
 have:2^bits<2^32:=Nat.pow_lt_pow_right (by omega) hb
 exact this
theorem TJ {a:List Nat} {bits i:Nat} (ha:ok a):shL a bits i<B^i*2^bits:=by
 unfold shL
 exact Nat.mul_lt_mul_of_pos_right (yC (ut ha i) (by simp; omega)) (Nat.pow_pos (by omega))
theorem Mb {a:List Nat} {bits i:Nat} (hi:i<a.length):shL a bits (i+1)=shL a bits i+B^i*(a[i]*2^bits):=by
 unfold shL
 rw[xE hi,Nat.add_mul,Nat.mul_assoc]
theorem Je {a:List Nat} {bits:Nat}:shL a bits a.length=val a*2^bits:=by
 unfold shL; rw[List.take_of_length_le (Nat.le_refl _)]
theorem U2 {n:Nat}:zu n 0=List.replicate n 0:=by
 refine YL yt (NL n) (by simp[zy]) ?_
 rw[fW,YM,Nat.zero_mod]
end Go.Dig

namespace Go.Proofs.Ytfmcplfbnkoglaa
open Go Go.Am Go.Dig
theorem Ac {c x:Nat} (hc:c<B) (hx:x<B) (h:c ||| x<B):rC .or .u32 (c:Int) (x:Int)=((c ||| x:Nat):Int):=by
 rw[z5] at *
 have hbits:IntKind.u32.bits=32:=rfl
 simp only[rC]
 rw[BitVec.toNat_or]
 have e1:(BitVec.ofInt IntKind.u32.bits (c:Int)).toNat=c:=by rw[hbits,BitVec.toNat_ofInt]; omega
 have e2:(BitVec.ofInt IntKind.u32.bits (x:Int)).toNat=x:=by rw[hbits,BitVec.toNat_ofInt]; omega
 rw[e1,e2]
 exact IntWalk.u32_in _ (by omega)
def ZQ (a:List Nat) (m:Am.Mode) (σ:List (Nat × ze)) (out:List (List (Nat × AV))) (b bits i:Nat):St :=
 {env:=[(0,nl m a),(1,z7 bits),(5,.sl (b+11) 1 0 (a.length+1)),(13,iv a.length),(14,iv i)],sto:=pt σ (b+11) (.arr 1 (zG (zu (a.length+1) (shL a bits i)))),out:=out,base:=b}
theorem AQ {m:Am.Mode} {a:List Nat} {bits:Nat} {s:St} {K:AV→St→Prop} (b:Nat) (ha:ok a) (hn:a.length<1099511627775) (hb:bits<32) (hf:lk s.sto (b+11)=none)
  (h:K (.sl (b+11) 1 0 (a.length+1)) ⟨s.env,pt s.sto (b+11) (.arr 1 (zG (zu (a.length+1) (val a*2^bits)))),s.out,s.base⟩):yc Try.prog q7 [nl m a,z7 bits] s K:=by
 obtain ⟨env,σ,out,base⟩:=s
 simp only at hf h
 refine vF b Xk (by simp) ?_
 have w:IntKind.i64.wrap ((a.length:Int)+1)=(a.length:Int)+1:=wrap64 (by omega) (by omega)
 have e1:((a.length:Int)+1).toNat=a.length+1:=by omega
 simp[f8,w,eMk,e1,hf]
 refine ⟨by omega,by omega,by omega,?_⟩
 refine zl (ZQ a m σ (env::out) b bits) (fun _=>True) a.length (by simp[ZQ,Mc,U2]; exact .inl rfl) trivial (fun i hi _=>?_) (fun _=>?_)
 ·have e:(i:Int)<a.length:=by omega
  have hpow:=gr hb
  have hak:=xC ha hi
  have hL:=TJ (bits:=bits) (i:=i) ha
  have hLB:shL a bits i<B^(i+1):=by
   have:B^i*2^bits≤B^i*B:=Nat.mul_le_mul_left _ (by omega)
   rw[Nat.pow_succ]; omega
  have hc:shL a bits i/B^i<2^bits:=Nat.div_lt_of_lt_mul hL
  obtain ⟨o1,o2,o3,o4⟩:=Ew (c:=shL a bits i/B^i) (a:=a[i]) hb hc hak
  have hsucc:=Mb (bits:=bits) hi
  have hL2:=TJ (bits:=bits) (i:=i+1) ha
  have hLN:shL a bits (i+1)<B^(a.length+1):=by
   have h1:B^(i+1)*2^bits≤B^(i+1)*B:=Nat.mul_le_mul_left _ (by omega)
   have h3:B^(i+1+1)=B^(i+1)*B:=Nat.pow_succ _ _
   have h2:B^(i+1+1)≤B^(a.length+1):=Nat.pow_le_pow_right zU (by omega)
   omega
  have htB:(shL a bits i/B^i+a[i]*2^bits)/B<B:=by
   rw[← o3]
   apply Nat.div_lt_of_lt_mul
   exact Nat.mul_lt_mul_of_lt_of_lt hak hpow
  have hstep:=TK (N:=a.length+1) (i:=i) (t:=a[i]*2^bits) hLB (by omega) (by rw[← hsucc]; exact hLN) htB
  rw[← hsucc,← o2,← o3] at hstep
  have hlen:=zy (n:=a.length+1) (x:=shL a bits i)
  have hi1:i<(zu (a.length+1) (shL a bits i)).length:=by omega
  have hget:(zu (a.length+1) (shL a bits i))[i]=shL a bits i/B^i:=by
   rw[vf,Nat.mod_eq_of_lt (Nat.lt_trans hc hpow)]
  obtain ⟨c,hcE⟩:∃ c,shL a bits i/B^i=c:=⟨_,rfl⟩
  obtain ⟨t,htE⟩:∃ t,a[i]*2^bits=t:=⟨_,rfl⟩
  have htlt:t<B*B:=by rw[← htE]; exact Nat.mul_lt_mul_of_lt_of_lt hak hpow
  rw[hcE,htE] at o1 o4 hstep
  rw[hcE] at hget hc
  obtain ⟨x,hxE⟩:∃ x,t%B=x:=⟨_,rfl⟩
  obtain ⟨q,hqE⟩:∃ q,t/B=q:=⟨_,rfl⟩
  rw[hxE] at o1 o4 hstep
  rw[hqE] at hstep
  have hxB:x<B:=by rw[← hxE]; exact Nat.mod_lt _ zU
  have hqB:q<B:=by rw[← hqE]; exact Nat.div_lt_of_lt_mul htlt
  have hor:=Ac (c:=c) (x:=x) (by omega) hxB (by rw[o1]; exact o4)
  rw[o1] at hor
  obtain ⟨y,hyE⟩:∃ y,c+x=y:=⟨_,rfl⟩
  rw[hyE] at hor hstep
  have hBB:B*B=18446744073709551616:=by decide
  rw[hBB] at htlt
  have f1:IntKind.u32.wrap (t:Int)=(x:Int):=by rw[w32,hxE]
  have f2:(t:Int).fdiv (2^min 32 IntKind.u64.bits)=(q:Int):=by rw[c6,hqE]
  have f3:IntKind.u32.wrap (q:Int)=q:=IntWalk.u32_in _ (by rw[z5] at hqB; omega)
  have u1:IntKind.u64.wrap ((a[i]:Nat):Int)=(a[i]:Nat):=w64 (by rw[z5] at hak; omega)
  have hmin:min bits IntKind.u64.bits=bits:=by
   have:IntKind.u64.bits=64:=rfl
   omega
  have u2:IntKind.u64.wrap (((a[i]:Nat):Int)*2^bits)=(t:Int):=by
   rw[show ((a[i]:Nat):Int)*2^bits=((a[i]*2^bits:Nat):Int) by simp,htE]; exact w64 htlt
  have hset:((zG (zu (a.length+1) (shL a bits i))).set i [uv y]).set (i+1) [uv q]=zG (zu (a.length+1) (shL a bits (i+1))):=by
   rw[xc,xc,hstep]
  have wi:IntKind.i64.wrap ((i:Int)+1)=(i:Int)+1:=wrap64 (by omega) (by omega)
  have ei1:(i:Int)<a.length+1:=by omega
  have e2:((i:Int)+1).toNat=i+1:=by omega
  have e3:(0:Int)≤(i:Int)+1:=by omega
  have hi2:i+1<(zu (a.length+1) (shL a bits i)).length:=by omega
  have hnb:¬ ((bits:Int)<0):=by omega
  simp[tp,ZQ,e,hi,hi1,hi2,ei1,e2,e3,hget,hor,u1,vI,ww,hmin,u2,f1,f2,f3,wi,splice,hset]
 ·have:zu (a.length+1) (shL a bits a.length)=zu (a.length+1) (val a*2^bits):=by rw[Je]
  simp[tp,ZQ,mK,eG,this]
  exact h
def gK (w v1 k:Nat):Nat:=w/v1-k
def rK (w v1 k:Nat):Nat:=w%v1+k*v1
theorem JO {w v1 k:Nat} (hk:k≤w/v1):w=gK w v1 k*v1+rK w v1 k:=by
 unfold gK rK
 have h:=Nat.div_add_mod w v1
 have:(w/v1-k)*v1+k*v1=v1*(w/v1):=by rw[← Nat.add_mul,Nat.sub_add_cancel hk,Nat.mul_comm]
 omega
structure dM (W v:List Nat) (off e:Nat):Prop where
 okW:ok W
 okv:ok v
 hv:v.length=e+2
 hW:off+e+3≤W.length
 small:W.length<1099511627776
def ajX (W:List Nat) (off e:Nat):Nat:=W.getD (off+(e+2)) 0*B+W.getD (off+(e+1)) 0
def ZK (m:Am.Mode) (W v:List Nat) (σ:List (Nat × ze)) (out:List (List (Nat × AV))) (b j off e k:Nat):St :=
 {env:=[(0,.sl j 1 off (e+3)),(1,nl m v),(5,iv ((e:Int)+2)),(7,z7 (gK (ajX W off e) (v.getD (e+1) 0) k)),(8,z7 (rK (ajX W off e) (v.getD (e+1) 0) k))],sto:=σ,out:=out,base:=b}
theorem M0 {m:Am.Mode} {W v:List Nat} {σ:List (Nat × ze)} {out:List (List (Nat × AV))} {b j off e:Nat} {K:Exit→St→Prop} (h:dM W v off e) (hj:lk σ j=some (.arr 1 (zG W)))
  (h1:0<v.getD (e+1) 0) (hw:ajX W off e≤v.getD (e+1) 0*B+(B-1)) (g:Nat) (hg:g=me (ajX W off e) (W.getD (off+e) 0) (v.getD (e+1) 0) (v.getD e 0))
  (hK:∀ r q y,(q=69∨q=81)→awp Try.prog vd {env:=[(0,.sl j 1 off (e+3)),(1,nl m v),(5,iv ((e:Int)+2)),(7,z7 g),(8,r),(q,y)],sto:=σ,out:=out,base:=b} K) :
  awp Try.prog (.loop wu) (ZK m W v σ out b j off e 0) (vb 0 (r9 Try.prog vd K)):=by
 have hvl:=h.hv
 have hWl:=h.hW
 have hsm:=h.small
 have hv0:e<v.length:=by omega
 have hv1:e+1<v.length:=by omega
 have hW0:off+e<W.length:=by omega
 have q1:v.getD (e+1) 0=v[e+1]:=by simp[hv1]
 have q2:v.getD e 0=v[e]:=by simp[hv0]
 have q3:W.getD (off+e) 0=W[off+e]:=by simp[hW0]
 have hu2:W.getD (off+e) 0<B:=vV h.okW _
 have hv2B:v.getD e 0<B:=vV h.okv _
 have hv1B:v.getD (e+1) 0<B:=vV h.okv _
 have hwB:ajX W off e<B*B:=by
  have a1:=vV h.okW (off+(e+2))
  have a2:=vV h.okW (off+(e+1))
  have:(W.getD (off+(e+2)) 0+1)*B≤B*B:=Nat.mul_le_mul_right _ a1
  unfold ajX
  rw[Nat.add_mul] at this
  omega
 generalize hwe:ajX W off e=w at *
 generalize hv1e:v.getD (e+1) 0=v1 at *
 generalize hu2e:W.getD (off+e) 0=u2 at *
 generalize hv2e:v.getD e 0=v2 at *
 have hle:=acp (w:=w) (v2:=v2) h1 hu2
 rw[← hg] at hle
 rw[show B*B=18446744073709551616 by decide] at hwB
 have hst:∀ k,ZK m W v σ out b j off e k={env:=[(0,.sl j 1 off (e+3)),(1,nl m v),(5,iv ((e:Int)+2)),(7,z7 (gK w v1 k)),(8,z7 (rK w v1 k))],sto:=σ,out:=out,base:=b}:=fun k=>by
  rw[ZK,hwe,hv1e]
 have i1:IntKind.i64.wrap ((e:Int))=e:=wrap64 (by omega) (by omega)
 have i2:IntKind.i64.wrap ((e:Int)+1)=(e:Int)+1:=wrap64 (by omega) (by omega)
 have i5:IntKind.i64.wrap ((e:Int)+2-1)=(e:Int)+1:=by rw[wrap64]<;>omega
 have i6:IntKind.i64.wrap ((e:Int)+2-2)=(e:Int):=by rw[wrap64]<;>omega
 have i3:((e:Int)+1).toNat=e+1:=by omega
 have i4:(0:Int)≤(e:Int)+1:=by omega
 have c1:IntKind.u64.wrap (v1:Int)=v1:=w64 (by rw[z5] at hv1B; omega)
 have c2:IntKind.u64.wrap (v2:Int)=v2:=w64 (by rw[z5] at hv2B; omega)
 have c3:IntKind.u64.wrap (u2:Int)=u2:=w64 (by rw[z5] at hu2; omega)
 have p1:v[e+1]=v1:=by rw[← q1]
 have p2:v[e]=v2:=by rw[← q2]
 have p3:W[off+e]=u2:=by rw[← q3]
 have x1:(e:Int)<v.length:=by omega
 have x2:(e:Int)+1<v.length:=by omega
 have x3:(e:Int)<(e:Int)+3:=by omega
 refine zl (ZK m W v σ out b j off e) (fun k=>rK w v1 k<B) (w/v1-g) (by rw[hst]; simp) ?_ (fun k hk hr=>?_) (fun hr=>?_)
 ·show rK w v1 0<B
  unfold rK
  rw[Nat.zero_mul,Nat.add_zero]
  exact Nat.lt_trans (Nat.mod_lt w h1) hv1B
 ·have hkw:k≤w/v1:=Nat.le_trans (Nat.le_of_lt hk) (Nat.sub_le _ _)
  have hkw2:k+1≤w/v1:=Nat.le_trans hk (Nat.sub_le _ _)
  have heq:=JO (w:=w) (v1:=v1) (k:=k) hkw
  have hbig:=(bu (u2:=u2) (v2:=v2) h1 heq).2 (by rw[← hg]; unfold gK; omega)
  have hgk:gK w v1 (k+1)+1=gK w v1 k:=by unfold gK; omega
  have hrk:rK w v1 (k+1)=rK w v1 k+v1:=by unfold rK; rw[Nat.add_mul]; omega
  have heq2:=JO (w:=w) (v1:=v1) (k:=k+1) (by omega)
  have hbrk:=fun hB=>CP (u2:=u2) (v2:=v2) h1 heq2 hw hv2B hB
  have hgle:gK w v1 k≤w:=by
   have:w/v1≤w:=Nat.div_le_self _ _
   unfold gK; omega
  have hend:B≤rK w v1 (k+1)→gK w v1 (k+1)=g:=fun hB=>by
   have:=hbrk hB
   rw[bu h1 heq2,← hg] at this
   unfold gK at *
   omega
  rw[hst]
  have hgsub:IntKind.u64.wrap ((gK w v1 k:Int)-1)=(gK w v1 (k+1):Int):=by rw[vL]<;>omega
  have hradd:IntKind.u64.wrap ((rK w v1 k:Int)+(v1:Int))=(rK w v1 (k+1):Int):=by
   rw[z5] at hr hv1B
   rw[vL]<;>omega
  have rest:∀ K2,(∀ q y,(q=69∨q=81)→(¬ B≤rK w v1 (k+1)→K2 Exit.normal {env:=[(0,.sl j 1 off (e+3)),(1,nl m v),(5,iv ((e:Int)+2)),(7,z7 (gK w v1 (k+1))),(8,z7 (rK w v1 (k+1))),(q,y)],sto:=σ,out:=out,base:=b}) ∧
    (B≤rK w v1 (k+1)→K2 (Exit.exit 0) {env:=[(0,.sl j 1 off (e+3)),(1,nl m v),(5,iv ((e:Int)+2)),(7,z7 (gK w v1 (k+1))),(8,z7 (rK w v1 (k+1))),(q,y)],sto:=σ,out:=out,base:=b})) →
    awp Try.prog wu {env:=[(0,.sl j 1 off (e+3)),(1,nl m v),(5,iv ((e:Int)+2)),(7,z7 (gK w v1 k)),(8,z7 (rK w v1 k))],sto:=σ,out:=out,base:=b} K2:=by
   intro K2 hK2
   by_cases hB:B≤gK w v1 k
   ·have hB':(4294967296:Int)≤gK w v1 k:=by rw[z5] at hB; omega
    by_cases hBr:B≤rK w v1 (k+1)
    ·have hBr':(4294967296:Int)≤rK w v1 (k+1):=by rw[z5] at hBr; omega
     simp[wu,hB',hBr',hgsub,i5,i3,i4,x2,hv1,p1,c1,hradd]
     exact (hK2 _ _ (by simp)).2 hBr
    ·have hBr':¬ (4294967296:Int)≤rK w v1 (k+1):=by rw[z5] at hBr; omega
     simp[wu,hB',hBr',hgsub,i5,i3,i4,x2,hv1,p1,c1,hradd]
     exact (hK2 _ _ (by simp)).1 hBr
   ·have hB':¬ (4294967296:Int)≤gK w v1 k:=by rw[z5] at hB; omega
    have hlt:rK w v1 k*B+u2<gK w v1 k*v2:=hbig.resolve_left hB
    have hor:=or_hi hr hu2
    have hsh:=Q6 hr
    have hpl:gK w v1 k*v2<18446744073709551616:=by
     have:gK w v1 k*v2≤(B-1)*(B-1):=Nat.mul_le_mul (by omega) (by omega)
     have:(B-1)*(B-1)<18446744073709551616:=by decide
     omega
    obtain ⟨p,hp⟩:∃ p,gK w v1 k*v2=p:=⟨_,rfl⟩
    obtain ⟨rb,hrb⟩:∃ rb,rK w v1 k*B=rb:=⟨_,rfl⟩
    rw[hp] at hlt hpl
    rw[hrb] at hlt hor hsh
    have hmul:IntKind.u64.wrap ((gK w v1 k:Int)*(v2:Int))=(p:Int):=by
     rw[show (gK w v1 k:Int)*(v2:Int)=((gK w v1 k*v2:Nat):Int) by simp,hp]; exact w64 hpl
    have hlt':(rb:Int)+(u2:Int)<(p:Int):=by omega
    simp only[Int.natCast_add] at hor
    by_cases hBr:B≤rK w v1 (k+1)
    ·have hBr':(4294967296:Int)≤rK w v1 (k+1):=by rw[z5] at hBr; omega
     simp[wu,hB',hBr',hgsub,i1,i5,i3,i4,x1,x2,x3,hv0,hv1,hW0,p1,p2,p3,c1,c2,c3,hj,hmul,vI,hsh,hor,hlt',hradd]
     exact (hK2 _ _ (by simp)).2 hBr
    ·have hBr':¬ (4294967296:Int)≤rK w v1 (k+1):=by rw[z5] at hBr; omega
     simp[wu,hB',hBr',hgsub,i1,i5,i3,i4,x1,x2,x3,hv0,hv1,hW0,p1,p2,p3,c1,c2,c3,hj,hmul,vI,hsh,hor,hlt',hradd]
     exact (hK2 _ _ (by simp)).1 hBr
  refine rest _ fun q y hq=>⟨fun hB=>?_,fun hB=>?_⟩
  ·rw[ZT,hst]
   refine ⟨by rcases hq with rfl | rfl<;>simp,by omega⟩
  ·have:=hend hB
   rw[this]
   exact hK _ _ _ hq
 ·have hgk:gK w v1 (w/v1-g)=g:=by unfold gK; omega
  have heq:=JO (w:=w) (v1:=v1) (k:=w/v1-g) (by omega)
  have hnb:=fun hb=>(bu (u2:=u2) (v2:=v2) h1 heq).1 hb
  rw[hgk,← hg] at hnb
  have hB:¬ B≤g:=fun hb=>Nat.lt_irrefl _ (hnb (.inl hb))
  have hlt:¬ rK w v1 (w/v1-g)*B+u2<g*v2:=fun hb=>Nat.lt_irrefl _ (hnb (.inr hb))
  have hB':¬ (4294967296:Int)≤g:=by rw[z5] at hB; omega
  have hor:=or_hi hr hu2
  have hsh:=Q6 hr
  have hst2:ZK m W v σ out b j off e (w/v1-g)={env:=[(0,.sl j 1 off (e+3)),(1,nl m v),(5,iv ((e:Int)+2)),(7,z7 g),(8,z7 (rK w v1 (w/v1-g)))],sto:=σ,out:=out,base:=b}:=by
   rw[hst,hgk]
  rw[hst2]
  clear hst2 heq
  generalize rK w v1 (w/v1-g)=r at *
  obtain ⟨p,hp⟩:∃ p,g*v2=p:=⟨_,rfl⟩
  obtain ⟨rb,hrb⟩:∃ rb,r*B=rb:=⟨_,rfl⟩
  have hpl:g*v2<18446744073709551616:=by
   have:g*v2≤(B-1)*(B-1):=Nat.mul_le_mul (by omega) (by omega)
   have:(B-1)*(B-1)<18446744073709551616:=by decide
   omega
  rw[hp] at hlt hpl
  rw[hrb] at hlt hor hsh
  have hmul:IntKind.u64.wrap ((g:Int)*(v2:Int))=(p:Int):=by
   rw[show (g:Int)*(v2:Int)=((g*v2:Nat):Int) by simp,hp]; exact w64 hpl
  have hlt':¬ (rb:Int)+(u2:Int)<(p:Int):=by omega
  simp only[Int.natCast_add] at hor
  simp[wu,hB',i1,x1,x3,hv0,hW0,p2,p3,c2,c3,hj,hmul,vI,hsh,hor,hlt']
  exact hK _ _ _ (by simp)
theorem aa1 {p:Nat} (hp:p<18446744073709551616):rC .and .u64 (p:Int) 4294967295=((p%B:Nat):Int):=by
 have hbits:IntKind.u64.bits=64:=rfl
 simp only[rC]
 rw[BitVec.toNat_and]
 have e1:(BitVec.ofInt IntKind.u64.bits (p:Int)).toNat=p:=by rw[hbits,BitVec.toNat_ofInt]; omega
 have e2:(BitVec.ofInt IntKind.u64.bits 4294967295).toNat=4294967295:=rfl
 rw[e1,e2]
 have h:=Nat.and_two_pow_sub_one_eq_mod p 32
 have:(2:Nat)^32-1=4294967295:=by decide
 rw[this] at h
 rw[h,show (2:Nat)^32=B from rfl]
 exact w64 (Nat.lt_trans (Nat.mod_lt _ zU) (by decide))
def cK (g:Nat) (v:List Nat) (k:Nat):Nat:=g*val (v.take k)/B^k
def ZL (m:Am.Mode) (W v u:List Nat) (σ:List (Nat × ze)) (out:List (List (Nat × AV))) (b j off e g x T k:Nat):St :=
 {env:=[(0,.sl j 1 off (e+3)),(1,nl m v),(5,iv ((e:Int)+2)),(7,z7 g),(9,z7 (cK g v k)),(10,z7 (bor x T k)),(82,iv ((e:Int)+2)),(83,iv k)],sto:=pt σ j (.arr 1 (zG (seg W off (yN (x-T) u k)))),out:=out,base:=b}
section
variable {m:Am.Mode} {W v:List Nat} {σ:List (Nat × ze)} {out:List (List (Nat × AV))} {b j off e g x:Nat} {K:Exit→St→Prop} (h:dM W v off e) (hj:lk σ j=some (.arr 1 (zG W)))
  (hg:g<B) (hx:∀ k,k<e+3→x/B^k%B=W.getD (off+k) 0) (hT:g*val v≤x)
include h hj hg hx hT
omit hj in
theorem RO {s:St} (hs:mT s (ZL m W v ((W.drop off).take (e+3)) σ out b j off e g x (g*val v) 0))
  (hK:awp Try.prog tn {env:=[(0,.sl j 1 off (e+3)),(1,nl m v),(5,iv ((e:Int)+2)),(7,z7 g),(9,z7 (cK g v (e+2))),(10,z7 (bor x (g*val v) (e+2))),(82,iv ((e:Int)+2)),(83,iv ((e:Int)+2)),(84,bv false)],sto:=pt σ j (.arr 1 (zG (seg W off (yN (x-g*val v) ((W.drop off).take (e+3)) (e+2))))),out:=out,base:=b} K) :
  awp Try.prog (.loop nX) s (vb 2 (r9 Try.prog tn K)):=by
 have hvl:=h.hv
 have hWl:=h.hW
 have hsm:=h.small
 generalize hue:(W.drop off).take (e+3)=u at *
 have hul:u.length=e+3:=by rw[← hue]; simp; omega
 refine zl (ZL m W v u σ out b j off e g x (g*val v)) (fun _=>True) (e+2) hs trivial (fun k hk _=>?_) (fun _=>?_)
 ·have hkv:k<v.length:=by omega
  have hku:k<u.length:=by omega
  have hvB:=xC h.okv hkv
  have hWk:off+k<W.length:=by omega
  have huk:u[k]=W[off+k]:=by subst hue; simp
  have hq:W.getD (off+k) 0=W[off+k]:=by simp[hWk]
  have hukB:u[k]<B:=by rw[huk]; exact xC h.okW hWk
  have hcB:cK g v k<B:=Zp h.okv hg k
  obtain ⟨m1,m2⟩:=abV (g:=g) hkv
  have hsd:=fP (k:=k) hT
  have hbs:=dS (x:=x) (y:=g*val v) (k:=k)
  have hb1:=UG (x:=x) (y:=g*val v) (k:=k)
  rw[hx k (by omega),hq,← huk,m1] at hsd hbs
  have hck:cK g v (k+1)=(g*v[k]+cK g v k)/B:=m2
  change (((x-g*val v)/B^k%B:Nat):Int)=((u[k]:Nat)-((g*v[k]+cK g v k)%B:Nat)-(bor x (g*val v) k:Nat):Int)%4294967296 at hsd
  change bor x (g*val v) (k+1)=if u[k]<(g*v[k]+cK g v k)%B+bor x (g*val v) k then 1 else 0 at hbs
  have hpB:g*v[k]+cK g v k<18446744073709551616:=by
   have:=fC hg hvB hcB zU
   have hBB:B*B=18446744073709551616:=by decide
   omega
  have hmx:=cJ (Z:=x-g*val v) hku
  have hml:=gn (Z:=x-g*val v) (u:=u) (k:=k) (by omega)
  have hmg:=cI (Z:=x-g*val v) hku
  have hsl:=jy (W:=W) (X:=yN (x-g*val v) u k) (off:=off) (by rw[hml]; omega)
  have hsg:=YA (W:=W) (X:=yN (x-g*val v) u k) (off:=off) (i:=k) (by rw[hml]; omega) (by omega)
  have hss:=YB (W:=W) (X:=yN (x-g*val v) u k) (off:=off) (i:=k) (d:=(x-g*val v)/B^k%B) (by rw[hml]; omega) (by omega)
  rw[hmx] at hss
  rw[hmg] at hsg
  obtain ⟨d,hd⟩:∃ d,(x-g*val v)/B^k%B=d:=⟨_,rfl⟩
  rw[hd] at hss hsd
  obtain ⟨p,hp⟩:∃ p,g*v[k]+cK g v k=p:=⟨_,rfl⟩
  obtain ⟨gv,hgv⟩:∃ gv,g*v[k]=gv:=⟨_,rfl⟩
  rw[hp] at hsd hbs hck hpB
  rw[hgv] at hp
  obtain ⟨pl,hpl⟩:∃ pl,p%B=pl:=⟨_,rfl⟩
  rw[hpl] at hsd hbs
  have hplB:pl<B:=by rw[← hpl]; exact Nat.mod_lt _ zU
  obtain ⟨c2,hc2⟩:∃ c2,p/B=c2:=⟨_,rfl⟩
  rw[hc2] at hck
  rw[ZL]
  generalize bor x (g*val v) k=b0 at *
  generalize hb2:bor x (g*val v) (k+1)=b2 at *
  have hA:off+k<(seg W off (yN (x-g*val v) u k)).length:=by omega
  have hset:(zG (seg W off (yN (x-g*val v) u k))).set (off+k) [uv d]=zG (seg W off (yN (x-g*val v) u (k+1))):=by rw[xc,hss]
  have hst1:ZL m W v u σ out b j off e g x (g*val v) (k+1)={env:=[(0,.sl j 1 off (e+3)),(1,nl m v),(5,iv ((e:Int)+2)),(7,z7 g),(9,z7 c2),(10,z7 b2),(82,iv ((e:Int)+2)),(83,iv ((k:Int)+1))],sto:=pt σ j (.arr 1 (zG (seg W off (yN (x-g*val v) u (k+1))))),out:=out,base:=b}:=by
   rw[ZL,hck,hb2]; rfl
  clear hd
  generalize huk2:u[k]=uk at *
  have ek:(k:Int)<(e:Int)+2:=by omega
  have ekv:(k:Int)<v.length:=by omega
  have ek3:(k:Int)<(e:Int)+3:=by omega
  have u1:IntKind.u64.wrap ((v[k]:Nat):Int)=(v[k]:Nat):=w64 (Nat.lt_trans hvB (by decide))
  have u2:IntKind.u64.wrap ((g:Int)*(v[k]:Int))=(gv:Int):=by
   rw[show (g:Int)*(v[k]:Int)=((g*v[k]:Nat):Int) by simp,hgv]; exact w64 (by omega)
  have u3:IntKind.u64.wrap ((gv:Int)+(cK g v k:Int))=(p:Int):=by rw[vL]<;>omega
  have u4:(p:Int).fdiv (2^min 32 IntKind.u64.bits)=(c2:Int):=by rw[c6,hc2]
  have u5:=aa1 hpB
  rw[hpl] at u5
  rw[z5] at hukB hplB
  have u6:IntKind.u64.wrap (uk:Int)=uk:=w64 (by omega)
  have u7:=aaA ((uk:Int)-(pl:Int)) (b0:Int)
  have u8:=Q9 ((uk:Int)-(pl:Int)-(b0:Int))
  rw[← hsd] at u8
  have u9:=Q7 (u:=(uk:Int)-(pl:Int)-(b0:Int)) (by omega) (by omega)
  have u10:(if (uk:Int)-(pl:Int)-(b0:Int)<0 then (1:Int) else 0)=(b2:Int):=by
   rw[hbs]; split<;>split<;>omega
  rw[u10] at u9
  have w1:IntKind.i64.wrap ((k:Int)+1)=(k:Int)+1:=wrap64 (by omega) (by omega)
  simp[nX,ek,ekv,ek3,hkv,u1,u2,u3,u4,u5,u6,u7,u8,u9,hA,hsg,splice,hset,w1,ww,hst1]
 ·simp[nX,ZL]
  exact hK
end
def Uf (m:Am.Mode) (W v z:List Nat) (σ:List (Nat × ze)) (out:List (List (Nat × AV))) (b j off e g k:Nat):St :=
 {env:=[(0,.sl j 1 off (e+3)),(1,nl m v),(5,iv ((e:Int)+2)),(7,z7 g),(9,z7 (car z v k)),(134,iv ((e:Int)+2)),(135,iv k)],sto:=pt σ j (.arr 1 (zG (seg W off (yN (val z+val v) z k)))),out:=out,base:=b}
section
variable {m:Am.Mode} {W v z:List Nat} {σ:List (Nat × ze)} {out:List (List (Nat × AV))} {b j off e g:Nat} {K:Exit→St→Prop} (h:dM W v off e) (hz:ok z) (hzl:z.length=e+3)
include h hz hzl
theorem Jv {s:St} (hs:mT s (Uf m W v z σ out b j off e g 0))
  (hK:awp Try.prog rL {env:=[(0,.sl j 1 off (e+3)),(1,nl m v),(5,iv ((e:Int)+2)),(7,z7 g),(9,z7 (car z v (e+2))),(134,iv ((e:Int)+2)),(135,iv ((e:Int)+2)),(136,bv false)],sto:=pt σ j (.arr 1 (zG (seg W off (yN (val z+val v) z (e+2))))),out:=out,base:=b} K) :
  awp Try.prog (.loop nY) s (vb 4 (r9 Try.prog rL K)):=by
 have hvl:=h.hv
 have hWl:=h.hW
 have hsm:=h.small
 refine zl (Uf m W v z σ out b j off e g) (fun _=>True) (e+2) hs trivial (fun k hk _=>?_) (fun _=>?_)
 ·have hkv:k<v.length:=by omega
  have hkz:k<z.length:=by omega
  have hvB:=xC h.okv hkv
  have hzB:=xC hz hkz
  have hc:=UW hz h.okv k
  obtain ⟨t,ht,g1,g2⟩:=Sj (a:=z) (b:=v) hkz (by omega)
  rw[List.getElem?_eq_getElem hkv,Option.getD_some] at ht
  have hmx:=cJ (Z:=val z+val v) hkz
  have hml:=gn (Z:=val z+val v) (u:=z) (k:=k) (by omega)
  have hmg:=cI (Z:=val z+val v) hkz
  have hsl:=jy (W:=W) (X:=yN (val z+val v) z k) (off:=off) (by rw[hml]; omega)
  have hsg:=YA (W:=W) (X:=yN (val z+val v) z k) (off:=off) (i:=k) (by rw[hml]; omega) (by omega)
  have hss:=YB (W:=W) (X:=yN (val z+val v) z k) (off:=off) (i:=k) (d:=(val z+val v)/B^k%B) (by rw[hml]; omega) (by omega)
  rw[hmx,g1] at hss
  rw[hmg] at hsg
  obtain ⟨d,hd⟩:∃ d,t%B=d:=⟨_,rfl⟩
  obtain ⟨q,hq⟩:∃ q,t/B=q:=⟨_,rfl⟩
  rw[hd] at hss
  rw[hq] at g2
  have hA:off+k<(seg W off (yN (val z+val v) z k)).length:=by omega
  have hset:(zG (seg W off (yN (val z+val v) z k))).set (off+k) [uv d]=zG (seg W off (yN (val z+val v) z (k+1))):=by rw[xc,hss]
  have hst1:Uf m W v z σ out b j off e g (k+1)={env:=[(0,.sl j 1 off (e+3)),(1,nl m v),(5,iv ((e:Int)+2)),(7,z7 g),(9,z7 q),(134,iv ((e:Int)+2)),(135,iv ((k:Int)+1))],sto:=pt σ j (.arr 1 (zG (seg W off (yN (val z+val v) z (k+1))))),out:=out,base:=b}:=by
   rw[Uf,g2]; rfl
  rw[Uf]
  generalize car z v k=c at *
  generalize hzk:z[k]=zk at *
  generalize hvk:v[k]=vk at *
  rw[z5] at hvB hzB
  have ek:(k:Int)<(e:Int)+2:=by omega
  have ekv:(k:Int)<v.length:=by omega
  have ek3:(k:Int)<(e:Int)+3:=by omega
  have f1:IntKind.u32.wrap (t:Int)=(d:Int):=by rw[w32,hd]
  have f2:(t:Int).fdiv (2^min 32 IntKind.u64.bits)=(q:Int):=by rw[c6,hq]
  have u1:IntKind.u64.wrap (vk:Int)=vk:=w64 (by omega)
  have u2:IntKind.u64.wrap (zk:Int)=zk:=w64 (by omega)
  have u3:IntKind.u64.wrap ((zk:Int)+(vk:Int))=(zk:Int)+vk:=by rw[vL]<;>omega
  have u4:IntKind.u64.wrap ((zk:Int)+(vk:Int)+(c:Int))=(t:Int):=by rw[vL]<;>omega
  have w1:IntKind.i64.wrap ((k:Int)+1)=(k:Int)+1:=wrap64 (by omega) (by omega)
  simp[nY,ek,ekv,ek3,hkv,hvk,u1,u2,u3,u4,f1,f2,hA,hsg,splice,hset,w1,ww,hst1]
 ·simp[nY,Uf]
  exact hK
theorem CL (hg:0<g) (hgB:g<B):awp Try.prog rL {env:=[(0,.sl j 1 off (e+3)),(1,nl m v),(5,iv ((e:Int)+2)),(7,z7 g),(9,z7 (car z v (e+2))),(134,iv ((e:Int)+2)),(135,iv ((e:Int)+2)),(136,bv false)],sto:=pt σ j (.arr 1 (zG (seg W off (yN (val z+val v) z (e+2))))),out:=out,base:=b}
  (fun ex s=>ex=.ret∧s={env:=[(4,uv (g-1))],sto:=pt σ j (.arr 1 (zG (seg W off (zu (e+3) (val z+val v))))),out:=out,base:=b}):=by
 have hvl:=h.hv
 have hWl:=h.hW
 have hsm:=h.small
 have hkz:e+2<z.length:=by omega
 have hzB:=xC hz hkz
 have hc:=UW hz h.okv (e+2)
 obtain ⟨t,ht,g1,g2⟩:=Sj (a:=z) (b:=v) hkz (by omega)
 rw[List.getElem?_eq_none (by omega),Option.getD_none] at ht
 have hmx:=cJ (Z:=val z+val v) hkz
 have hml:=gn (Z:=val z+val v) (u:=z) (k:=e+2) (by omega)
 have hmg:=cI (Z:=val z+val v) hkz
 have hsl:=jy (W:=W) (X:=yN (val z+val v) z (e+2)) (off:=off) (by rw[hml]; omega)
 have hsg:=YA (W:=W) (X:=yN (val z+val v) z (e+2)) (off:=off) (i:=e+2) (by rw[hml]; omega) (by omega)
 have hss:=YB (W:=W) (X:=yN (val z+val v) z (e+2)) (off:=off) (i:=e+2) (d:=(val z+val v)/B^(e+2)%B) (by rw[hml]; omega) (by omega)
 rw[hmx,g1,show e+2+1=e+3 from rfl,Ny hzl] at hss
 rw[hmg] at hsg
 obtain ⟨d,hd⟩:∃ d,t%B=d:=⟨_,rfl⟩
 rw[hd] at hss
 have hA:off+(e+2)<(seg W off (yN (val z+val v) z (e+2))).length:=by omega
 have hset:(zG (seg W off (yN (val z+val v) z (e+2)))).set (off+(e+2)) [uv d]=zG (seg W off (zu (e+3) (val z+val v))):=by rw[xc,hss]
 generalize car z v (e+2)=c at *
 generalize hzk:z[e+2]=zk at *
 have e1:((e:Int)+2).toNat=e+2:=by omega
 have e2:(0:Int)≤(e:Int)+2:=by omega
 have e3:(e:Int)+2<(e:Int)+3:=by omega
 have u1:IntKind.u32.wrap (c:Int)=c:=IntWalk.u32_in _ (by omega)
 have u2:IntKind.u32.wrap ((zk:Int)+(c:Int))=(d:Int):=by
  have:(zk:Int)+(c:Int)=(t:Int):=by omega
  rw[this,w32,hd]
 rw[z5] at hgB
 have u3:IntKind.u64.wrap ((g:Int)-1)=((g-1:Nat):Int):=by rw[vL]<;>omega
 have u4:IntKind.u32.wrap ((g-1:Nat):Int)=((g-1:Nat):Int):=IntWalk.u32_in _ (by omega)
 simp[rL,e1,e2,e3,hA,hsg,u1,u2,u3,u4,splice,hset]
end
theorem Tk {α:Type} {l:List (Nat × α)} {n:Nat} {x:α} (h:lk l n=some x):lk (pt l n x)=lk l:=by
 funext i
 rw[xO]
 split
 ·subst i; exact h.symm
 ·rfl
section
variable {m:Am.Mode} {W v:List Nat} {σ:List (Nat × ze)} {out:List (List (Nat × AV))} {b j off e g x:Nat} {K:Exit→St→Prop} (h:dM W v off e)
  (hg:g<B) (hx:∀ k,k<e+3→x/B^k%B=W.getD (off+k) 0) (hT:g*val v≤x) (hZ:x-g*val v<B^(e+3))
include h hg hx hT hZ
theorem Jw (hK0:bor x (g*val v) (e+3)=0→K .ret {env:=[(4,uv g)],sto:=pt σ j (.arr 1 (zG (seg W off (zu (e+3) (x-g*val v))))),out:=out,base:=b})
  (hK1:bor x (g*val v) (e+3)=1→0<g∧K .ret {env:=[(4,uv (g-1))],sto:=pt σ j (.arr 1 (zG (seg W off (zu (e+3) (x-g*val v+val v))))),out:=out,base:=b}) :
  awp Try.prog tn {env:=[(0,.sl j 1 off (e+3)),(1,nl m v),(5,iv ((e:Int)+2)),(7,z7 g),(9,z7 (cK g v (e+2))),(10,z7 (bor x (g*val v) (e+2))),(82,iv ((e:Int)+2)),(83,iv ((e:Int)+2)),(84,bv false)],sto:=pt σ j (.arr 1 (zG (seg W off (yN (x-g*val v) ((W.drop off).take (e+3)) (e+2))))),out:=out,base:=b} K:=by
 have hvl:=h.hv
 have hWl:=h.hW
 have hsm:=h.small
 generalize hue:(W.drop off).take (e+3)=u at *
 have hul:u.length=e+3:=by rw[← hue]; simp; omega
 have hku:e+2<u.length:=by omega
 have hWk:off+(e+2)<W.length:=by omega
 have huk:u[e+2]=W[off+(e+2)]:=by subst hue; simp
 have hq:W.getD (off+(e+2)) 0=W[off+(e+2)]:=by simp[hWk]
 have hukB:u[e+2]<B:=by rw[huk]; exact xC h.okW hWk
 have hcB:cK g v (e+2)<B:=Zp h.okv hg (e+2)
 have hcT:g*val v/B^(e+2)%B=cK g v (e+2):=by
  have:cK g v (e+2)=g*val v/B^(e+2):=by unfold cK; rw[List.take_of_length_le (by omega)]
  rw[← this,Nat.mod_eq_of_lt hcB]
 have hsd:=fP (k:=e+2) hT
 have hbs:=dS (x:=x) (y:=g*val v) (k:=e+2)
 have hb1:=UG (x:=x) (y:=g*val v) (k:=e+2)
 rw[hx (e+2) (by omega),hq,← huk,hcT] at hsd hbs
 have hmx:=cJ (Z:=x-g*val v) hku
 rw[show e+2+1=e+3 from rfl,Ny hul] at hmx
 have hml:=gn (Z:=x-g*val v) (u:=u) (k:=e+2) (by omega)
 have hmg:=cI (Z:=x-g*val v) hku
 have hsl:=jy (W:=W) (X:=yN (x-g*val v) u (e+2)) (off:=off) (by rw[hml]; omega)
 have hsg:=YA (W:=W) (X:=yN (x-g*val v) u (e+2)) (off:=off) (i:=e+2) (by rw[hml]; omega) (by omega)
 have hss:=YB (W:=W) (X:=yN (x-g*val v) u (e+2)) (off:=off) (i:=e+2) (d:=(x-g*val v)/B^(e+2)%B) (by rw[hml]; omega) (by omega)
 rw[hmx] at hss
 rw[hmg] at hsg
 obtain ⟨d,hd⟩:∃ d,(x-g*val v)/B^(e+2)%B=d:=⟨_,rfl⟩
 rw[hd] at hss hsd
 rw[show e+2+1=e+3 from rfl] at hbs
 have hA:off+(e+2)<(seg W off (yN (x-g*val v) u (e+2))).length:=by omega
 have hset:(zG (seg W off (yN (x-g*val v) u (e+2)))).set (off+(e+2)) [uv d]=zG (seg W off (zu (e+3) (x-g*val v))):=by rw[xc,hss]
 have hg0:bor x (g*val v) (e+3)=1→0<g:=fun h1=>by
  rcases Nat.eq_zero_or_pos g with h0 | h0
  ·exfalso
   rw[h0,Nat.zero_mul] at h1
   simp[bor] at h1
  ·exact h0
 generalize cK g v (e+2)=c at *
 generalize bor x (g*val v) (e+2)=b0 at *
 generalize hb2:bor x (g*val v) (e+3)=b2 at *
 generalize huk2:u[e+2]=uk at *
 clear hd
 have e1:((e:Int)+2).toNat=e+2:=by omega
 have e2:(0:Int)≤(e:Int)+2:=by omega
 have e3:(e:Int)+2<(e:Int)+3:=by omega
 rw[z5] at hukB hcB
 have u6:IntKind.u64.wrap (uk:Int)=uk:=w64 (by omega)
 have u7:=aaA ((uk:Int)-(c:Int)) (b0:Int)
 have u8:=Q9 ((uk:Int)-(c:Int)-(b0:Int))
 have hsd':((d:Nat):Int)=((uk:Int)-(c:Int)-(b0:Int))%4294967296:=hsd
 rw[← hsd'] at u8
 have u9:=Q7 (u:=(uk:Int)-(c:Int)-(b0:Int)) (by omega) (by omega)
 have u10:(if (uk:Int)-(c:Int)-(b0:Int)<0 then (1:Int) else 0)=(b2:Int):=by
  rw[hbs]; split<;>split<;>omega
 rw[u10] at u9
 have hgB:=hg
 rw[z5] at hgB
 have u11:IntKind.u32.wrap (g:Int)=(g:Int):=IntWalk.u32_in _ (by omega)
 have hb2v:b2=0∨b2=1:=by rw[hbs]; split<;>simp
 rcases hb2v with h0 | h0
 ·subst h0
  simp[tn,e1,e2,e3,hA,hsg,u6,u7,u8,u9,u11,ww,splice,hset]
  exact hK0 rfl
 ·subst h0
  obtain ⟨hgp,hfin⟩:=hK1 rfl
  simp[tn,e1,e2,e3,hA,hsg,u6,u7,u8,u9,ww,splice,hset]
  refine Jv (m:=m) (σ:=σ) (out:=out) (b:=b) (j:=j) (g:=g) h (yt (n:=e+3) (x:=x-g*val v)) zy ?_ ?_
  ·simp[Uf,Zo,Xx]
  ·refine xL (fun ex s hs=>?_) (CL h (yt (n:=e+3) (x:=x-g*val v)) zy hgp hg)
   rw[yh hZ] at hs
   obtain ⟨rfl,rfl⟩:=hs
   exact hfin
theorem RN (hj:lk σ j=some (.arr 1 (zG W))) {r y:AV} {q:Nat} (hq:q=69∨q=81) (hK0:bor x (g*val v) (e+3)=0→K .ret {env:=[(4,uv g)],sto:=pt σ j (.arr 1 (zG (seg W off (zu (e+3) (x-g*val v))))),out:=out,base:=b})
  (hK1:bor x (g*val v) (e+3)=1→0<g∧K .ret {env:=[(4,uv (g-1))],sto:=pt σ j (.arr 1 (zG (seg W off (zu (e+3) (x-g*val v+val v))))),out:=out,base:=b}) :
  awp Try.prog vd {env:=[(0,.sl j 1 off (e+3)),(1,nl m v),(5,iv ((e:Int)+2)),(7,z7 g),(8,r),(q,y)],sto:=σ,out:=out,base:=b} K:=by
 have hl:=Jw (m:=m) (σ:=σ) (out:=out) (b:=b) (j:=j) h hg hx hT hZ hK0 hK1
 have hc0:cK g v 0=0:=by simp[cK,val]
 have hs:=AN (W:=W) (off:=off) (n:=e+3) (by have:=h.hW; omega)
 rcases hq with rfl | rfl
 ·simp[vd]
  refine RO h hg hx hT ?_ hl
  simp[ZL,Zo,hs,hc0,dU]
  exact .inr (.inl (Tk hj))
 ·simp[vd]
  refine RO h hg hx hT ?_ hl
  simp[ZL,Zo,hs,hc0,dU]
  exact .inr (.inl (Tk hj))
end
theorem Cs {v:List Nat} {e:Nat} (h:v.length=e+2):val v=(v.getD (e+1) 0*B+v.getD e 0)*B^e+val (v.take e):=by
 have h1:=vT v e
 have h2:v.drop e=[v[e],v[e+1]]:=by
  rw[List.drop_eq_getElem_cons (by omega),List.drop_eq_getElem_cons (by omega),List.drop_of_length_le (by omega)]
 rw[Nat.min_eq_left (by omega),h2] at h1
 have q1:v.getD (e+1) 0=v[e+1]:=by simp[h]
 have q2:v.getD e 0=v[e]:=by simp[h]
 rw[h1,q1,q2]
 simp only[val,Nat.mul_zero,Nat.add_zero]
 grind
theorem Ct {u:List Nat} {e:Nat} (h:u.length=e+3):val u=((u.getD (e+2) 0*B+u.getD (e+1) 0)*B+u.getD e 0)*B^e+val (u.take e):=by
 have h1:=vT u e
 have h2:u.drop e=[u[e],u[e+1],u[e+2]]:=by
  rw[List.drop_eq_getElem_cons (by omega),List.drop_eq_getElem_cons (by omega),List.drop_eq_getElem_cons (by omega),List.drop_of_length_le (by omega)]
 rw[Nat.min_eq_left (by omega),h2] at h1
 have q0:u.getD (e+2) 0=u[e+2]:=by simp[h]
 have q1:u.getD (e+1) 0=u[e+1]:=by simp[h]
 have q2:u.getD e 0=u[e]:=by simp[h]
 rw[h1,q0,q1,q2]
 simp only[val,Nat.mul_zero,Nat.add_zero]
 grind
theorem aeZ {t v1 v2 u2 P Q R U V:Nat} (_hP:0<P) (hU:U=(t*B+u2)*P+R) (hV:V=(v1*B+v2)*P+Q) (hQ:Q<P) (hv2:v2<B) (hlt:U<V*B):t≤v1*B+(B-1):=by
 have a1:t*B*P≤U:=by
  rw[hU]
  have:t*B*P≤(t*B+u2)*P:=Nat.mul_le_mul_right _ (Nat.le_add_right _ _)
  exact Nat.le_trans this (Nat.le_add_right _ _)
 have a2:V≤(v1*B+B)*P:=by
  rw[hV]
  have h1:(v1*B+v2+1)*P≤(v1*B+B)*P:=Nat.mul_le_mul_right _ (by omega)
  rw[Nat.add_mul,Nat.one_mul] at h1
  exact Nat.le_trans (Nat.add_le_add_left (Nat.le_of_lt hQ) _) h1
 have a3:V*B≤(v1*B+B)*P*B:=Nat.mul_le_mul_right _ a2
 have a4:t*(P*B)<(v1*B+B)*(P*B):=by
  rw[← Nat.mul_assoc,← Nat.mul_assoc]
  rw[Nat.mul_assoc t,Nat.mul_comm B P,← Nat.mul_assoc] at a1
  exact Nat.lt_of_le_of_lt a1 (Nat.lt_of_lt_of_le hlt a3)
 have a5:=Nat.lt_of_mul_lt_mul_right a4
 have:=zU
 generalize v1*B=q at *
 omega
theorem abG {w v1:Nat}:gK w v1 0=w/v1:=Nat.sub_zero _
theorem acq {w v1:Nat}:rK w v1 0=w%v1:=by unfold rK; rw[Nat.zero_mul,Nat.add_zero]
theorem Sb {a c:Nat} (ha:a<B) (hc:c<B):a*B+c<18446744073709551616:=by
 have:(a+1)*B≤B*B:=Nat.mul_le_mul_right _ ha
 have hBB:B*B=18446744073709551616:=by decide
 rw[Nat.add_mul,hBB,Nat.one_mul] at this
 exact Nat.lt_of_lt_of_le (Nat.add_lt_add_left hc _) this
theorem C7 {z n:Nat}:zu n (z+B^n)=zu n z:=RP
theorem abs {m:Am.Mode} {W v:List Nat} {σ:List (Nat × ze)} {out:List (List (Nat × AV))} {b j off e g U Q R:Nat} {K:Exit→St→Prop} (h:dM W v off e) (hg:g<B) (hj:lk σ j=some (.arr 1 (zG W)))
  {r y:AV} {q:Nat} (hq:q=69∨q=81) (hx:∀ k,k<e+3→U/B^k%B=W.getD (off+k) 0) (hUN:U<B^(e+3)) (hTN:g*val v<B^(e+3)) (hmod:val v*Q+R=U) (hR:R<val v) (hc:Q≤g∧g≤Q+1)
  (hK:∀ ex s,ex=.ret→s={env:=[(4,uv Q)],sto:=pt σ j (.arr 1 (zG (seg W off (zu (e+3) R)))),out:=out,base:=b}→K ex s) :
  awp Try.prog vd {env:=[(0,.sl j 1 off (e+3)),(1,nl m v),(5,iv ((e:Int)+2)),(7,z7 g),(8,r),(q,y)],sto:=σ,out:=out,base:=b} K:=by
 rcases Nat.lt_or_ge U (g*val v) with hlt | hle
 ·have hgQ:g=Q+1:=by
   rcases Nat.lt_or_ge Q g with h1 | h1
   ·omega
   ·exfalso
    have:g*val v≤Q*val v:=Nat.mul_le_mul_right _ h1
    rw[Nat.mul_comm] at hmod
    omega
  subst hgQ
  have hz:U+B^(e+3)-(Q+1)*val v+val v=R+B^(e+3):=by
   rw[Nat.add_mul,Nat.one_mul] at *
   rw[Nat.mul_comm] at hmod
   omega
  refine RN (x:=U+B^(e+3)) h hg (fun k hk=>?_) (by omega) (by omega) hj hq (fun h0=>?_) (fun _=>⟨by omega,?_⟩)
  ·rw[FL hk]; exact hx k hk
  ·exfalso
   simp only[bor,Nat.add_mod_right,Nat.mod_eq_of_lt hUN,Nat.mod_eq_of_lt hTN,if_pos hlt] at h0
   exact absurd h0 (by decide)
  ·refine hK _ _ rfl ?_
   rw[hz,C7,Nat.add_sub_cancel]
 ·have hgQ:g=Q:=by
   rcases Nat.lt_or_ge Q g with h1 | h1
   ·exfalso
    have:(Q+1)*val v≤g*val v:=Nat.mul_le_mul_right _ h1
    rw[Nat.add_mul,Nat.one_mul] at this
    rw[Nat.mul_comm] at hmod
    omega
   ·omega
  subst hgQ
  have hz:U-g*val v=R:=by
   rw[Nat.mul_comm] at hmod
   omega
  refine RN (x:=U) h hg hx hle (by omega) hj hq (fun _=>?_) (fun h1=>?_)
  ·exact hK _ _ rfl (by rw[hz])
  ·exfalso
   simp only[bor,Nat.mod_eq_of_lt hUN,Nat.mod_eq_of_lt hTN,if_neg (Nat.not_lt.mpr hle)] at h1
   exact absurd h1 (by decide)
theorem adX {m:Am.Mode} {W v:List Nat} {s:St} {K:AV→St→Prop} (b:Nat) {j off e U:Nat} (h:dM W v off e) (hj:lk s.sto j=some (.arr 1 (zG W)))
  (h1:0<v.getD (e+1) 0) (hU:U=val ((W.drop off).take (e+3))) (hlt:U<val v*B)
  (hK:K (uv (U/val v)) ⟨s.env,pt s.sto j (.arr 1 (zG (seg W off (zu (e+3) (U%val v))))),s.out,s.base⟩):yc Try.prog aj [.sl j 1 off (e+3),nl m v] s K:=by
 obtain ⟨env,σ,out,base⟩:=s
 simp only at hj hK
 have hvl:=h.hv
 have hWl:=h.hW
 have hsm:=h.small
 have hul:((W.drop off).take (e+3)).length=e+3:=by simp; omega
 have hug:∀ k,k<e+3→((W.drop off).take (e+3)).getD k 0=W.getD (off+k) 0:=fun k hk=>by
  simp[List.getD,hk]
 have hvV:=Cs hvl
 have huU:=Ct hul
 rw[← hU,hug _ (by omega),hug _ (by omega),hug _ (by omega)] at huU
 have okv2:ok ((W.drop off).take (e+3)):=ut (SN h.okW off) _
 have hv2:v.getD e 0<B:=vV h.okv _
 have hu2:W.getD (off+e) 0<B:=vV h.okW _
 have hQ:val (v.take e)<B^e:=yC (ut h.okv e) (by simp; omega)
 have hR:val (((W.drop off).take (e+3)).take e)<B^e:=yC (ut okv2 e) (by simp; omega)
 have hclose:=Gi (w:=ajX W off e) h1 hu2 hv2 huU hR hvV hQ hlt
 have hw:ajX W off e≤v.getD (e+1) 0*B+(B-1):=by
  exact aeZ (Nat.pow_pos zU) huU hvV hQ hv2 hlt
 have hv1:e+1<v.length:=by omega
 have hWa:off+(e+2)<W.length:=by omega
 have hWb:off+(e+1)<W.length:=by omega
 refine vF b Cg (by simp) ?_
 have p1:v.getD (e+1) 0=v[e+1]:=by simp[hv1]
 have p2:W.getD (off+(e+2)) 0=W[off+(e+2)]:=by simp[hWa]
 have p3:W.getD (off+(e+1)) 0=W[off+(e+1)]:=by simp[hWb]
 have b1:v[e+1]<B:=xC h.okv hv1
 have b2:W[off+(e+2)]<B:=xC h.okW hWa
 have b3:W[off+(e+1)]<B:=xC h.okW hWb
 have hsh:=Q6 b2
 have hwe:ajX W off e=W[off+(e+2)]*B+W[off+(e+1)]:=by rw[ajX,p2,p3]
 have hor:rC .or .u64 ((W[off+(e+2)]*B:Nat):Int) (W[off+(e+1)]:Int)=((ajX W off e:Nat):Int):=by rw[hwe]; exact or_hi b2 b3
 have hwB:ajX W off e<18446744073709551616:=by rw[hwe]; exact Sb b2 b3
 have fin:∀ K2:Exit→St→Prop,(∀ ex s,ex=.ret→s={env:=[(4,uv (U/val v))],sto:=pt σ j (.arr 1 (zG (seg W off (zu (e+3) (U%val v))))),out:=env::out,base:=b}→K2 ex s) →
   awp Try.prog (.loop wu) (ZK m W v σ (env::out) b j off e 0) (vb 0 (r9 Try.prog vd K2)):=by
  intro K2 hK2
  have hw3:∀ k,k<e+3→U/B^k%B=W.getD (off+k) 0:=fun k hk=>by
   have hd:=aT okv2
   rw[hul,← hU] at hd
   have h2:k<(zu (e+3) U).length:=by rw[zy]; exact hk
   rw[← vf h2,← hug k hk,← hd]
   simp[List.getD,h2]
  have hUN:U<B^(e+3):=by rw[hU]; exact yC okv2 (Nat.le_of_eq hul)
  have hVpos:0<val v:=by
   have hpp:=Nat.pow_pos (n:=e) zU
   rw[hvV]
   exact Nat.lt_of_lt_of_le (Nat.mul_pos (Nat.lt_of_lt_of_le (Nat.mul_pos h1 zU) (Nat.le_add_right _ _)) hpp) (Nat.le_add_right _ _)
  have hgB:me (ajX W off e) (W.getD (off+e) 0) (v.getD (e+1) 0) (v.getD e 0)<B:=Nat.lt_of_le_of_lt (Nat.min_le_left _ _) (by decide)
  refine M0 h hj h1 hw _ rfl fun r q y hq=>?_
  generalize me (ajX W off e) (W.getD (off+e) 0) (v.getD (e+1) 0) (v.getD e 0)=g at *
  have hmod:val v*(U/val v)+U%val v=U:=Nat.div_add_mod U (val v)
  have hml:=Nat.mod_lt U hVpos
  have hVN:val v<B^(e+2):=yC h.okv (Nat.le_of_eq hvl)
  have hTN:g*val v<B^(e+3):=by
   rw[show e+3=(e+2)+1 from rfl,Nat.pow_succ,Nat.mul_comm]
   exact Nat.mul_lt_mul_of_lt_of_lt hVN hgB
  exact abs h hgB hj hq hw3 hUN hTN hmod hml hclose hK2
 have st0:ZK m W v σ (env::out) b j off e 0={env:=[(0,.sl j 1 off (e+3)),(1,nl m v),(5,iv ((e:Int)+2)),(7,z7 (ajX W off e/v.getD (e+1) 0)),(8,z7 (ajX W off e%v.getD (e+1) 0))],sto:=σ,out:=env::out,base:=b}:=by
  rw[ZK,abG,acq]
 rw[st0] at fin
 clear hwe
 clear st0 hclose hw huU hvV
 obtain ⟨rb,hrb⟩:∃ rb,W[off+(e+2)]*B=rb:=⟨_,rfl⟩
 rw[hrb] at hor hsh
 generalize ajX W off e=w at *
 rw[p1] at fin h1
 generalize g1:v[e+1]=v1 at *
 generalize g2:W[off+(e+2)]=w3 at *
 generalize g3:W[off+(e+1)]=w2 at *
 have t1:IntKind.u64.wrap ((w:Int).tdiv v1)=((w/v1:Nat):Int):=by
  rw[← Int.ofNat_tdiv]
  exact w64 (Nat.lt_of_le_of_lt (Nat.div_le_self _ _) hwB)
 have t2:((w:Int).tmod v1)=((w%v1:Nat):Int):=by rw[← Int.ofNat_tmod]
 have t3:IntKind.u64.wrap ((w:Int)/v1)=((w/v1:Nat):Int):=by
  rw[← Int.natCast_ediv]
  exact w64 (Nat.lt_of_le_of_lt (Nat.div_le_self _ _) hwB)
 generalize w/v1=q at *
 generalize w%v1=r at *
 have hv10:¬ v1=0:=by omega
 have c0:(e:Int)+2<(e:Int)+3:=by omega
 have c1:((e:Int)+2).toNat=e+2:=by omega
 have c2:((e:Int)+1).toNat=e+1:=by omega
 have c3:(0:Int)≤(e:Int)+2:=by omega
 have c4:(0:Int)≤(e:Int)+1:=by omega
 have c5:(e:Int)+1<(e:Int)+3:=by omega
 have i5:IntKind.i64.wrap ((e:Int)+2-1)=(e:Int)+1:=by rw[wrap64]<;>omega
 have hlen:(v.length:Int)=(e:Int)+2:=by omega
 rw[z5] at b1 b2 b3
 have u1:IntKind.u64.wrap (v1:Int)=v1:=w64 (by omega)
 have u2:IntKind.u64.wrap (w3:Int)=w3:=w64 (by omega)
 have u3:IntKind.u64.wrap (w2:Int)=w2:=w64 (by omega)
 simp[RC,hj,g1,g2,g3,c0,c1,c2,c3,c4,c5,i5,hlen,u1,u2,u3,hWa,hWb,hv1,hv10,vI,hsh,hor,uS,rO,t2,t3]
 refine fin _ fun ex s he hs=>?_
 subst he hs
 simp[Qf]
 exact hK
end Go.Proofs.Ytfmcplfbnkoglaa

namespace Go.Dig
def lz (t:Nat):Nat:=31-Nat.log2 t
theorem Q3 {t:Nat}:lz t<32:=by unfold lz; omega
theorem ael {t:Nat} (ht:t<B):Nat.log2 t<32:=by
 rcases Nat.eq_zero_or_pos t with h | h
 ·subst h; decide
 ·exact (Nat.log2_lt (by omega)).2 ht
theorem BJ {t k:Nat} (_ht:t<B) (hk:k<lz t):t*2^k<2147483648:=by
 have h1:t<2^(Nat.log2 t+1):=Nat.lt_log2_self
 have h2:t*2^k<2^(Nat.log2 t+1)*2^k:=Nat.mul_lt_mul_of_pos_right h1 (Nat.pow_pos (by omega))
 rw[← Nat.pow_add] at h2
 have h3:2^(Nat.log2 t+1+k)≤2^31:=Nat.pow_le_pow_right (by omega) (by unfold lz at hk; omega)
 have h4:(2:Nat)^31=2147483648:=by decide
 omega
theorem Nw {t:Nat} (h0:0<t) (ht:t<B):2147483648≤t*2^lz t∧t*2^lz t<B:=by
 have hl:=ael ht
 constructor
 ·have h1:2^Nat.log2 t≤t:=Nat.log2_self_le (by omega)
  have h2:2^Nat.log2 t*2^lz t≤t*2^lz t:=Nat.mul_le_mul_right _ h1
  rw[← Nat.pow_add,show Nat.log2 t+lz t=31 by unfold lz; omega] at h2
  have h4:(2:Nat)^31=2147483648:=by decide
  omega
 ·have h1:t<2^(Nat.log2 t+1):=Nat.lt_log2_self
  have h2:t*2^lz t<2^(Nat.log2 t+1)*2^lz t:=Nat.mul_lt_mul_of_pos_right h1 (Nat.pow_pos (by omega))
  rw[← Nat.pow_add,show Nat.log2 t+1+lz t=32 by unfold lz; omega] at h2
  exact h2
theorem M1 {x n:Nat} (h1:B^n≤x) (h2:x<B^(n+1)):(zf x).length=n+1:=by
 have a:=zE.2 h2
 have b:=eC.2 h1
 omega
theorem fT {D n:Nat} (h:(zf D).length=n+1):B^n≤D∧D<B^(n+1)∧0<D/B^n∧D/B^n<B:=by
 have a:B^n≤D:=eC.1 (by omega)
 have b:D<B^(n+1):=zE.1 (by omega)
 refine ⟨a,b,Nat.div_pos a (vg n),Nat.div_lt_of_lt_mul ?_⟩
 rw[← Nat.pow_succ]; exact b
theorem DB {D n N:Nat} (h:(zf D).length=n+1) (hN:N=lz (D/B^n)):B^n≤D*2^N∧D*2^N<B^(n+1)∧(zf (D*2^N)).length=n+1:=by
 obtain ⟨a,b,c,d⟩:=fT h
 have hl:=(Nw c d).2
 rw[← hN] at hl
 have hN32:N<32:=by rw[hN]; exact Q3
 have hB:B=2^(32-N)*2^N:=by
  rw[← Nat.pow_add,Nat.sub_add_cancel (by omega)]; rfl
 have h1:D/B^n+1≤2^(32-N):=by
  have h0:=hl
  generalize D/B^n=t at *
  rw[hB] at h0
  exact Nat.lt_of_mul_lt_mul_right h0
 have h2:D<(D/B^n+1)*B^n:=by
  have:=Nat.lt_mul_div_succ D (vg n)
  rw[Nat.mul_comm] at this
  exact this
 have h3:D<2^(32-N)*B^n:=Nat.lt_of_lt_of_le h2 (Nat.mul_le_mul_right _ h1)
 have h4:D*2^N<2^(32-N)*B^n*2^N:=Nat.mul_lt_mul_of_pos_right h3 (Nat.pow_pos (by omega))
 have h5:2^(32-N)*B^n*2^N=B^(n+1):=by
  rw[Nat.mul_right_comm,← hB,Nat.pow_succ,Nat.mul_comm]
 have h6:B^n≤D*2^N:=Nat.le_trans a (Nat.le_mul_of_pos_right _ (Nat.pow_pos (by omega)))
 rw[h5] at h4
 exact ⟨h6,h4,M1 h6 h4⟩
def rst (A V j:Nat):Nat:=A/B^j%V*B^j+A%B^j
theorem TH {A V j n:Nat} (hV:V<B^n) (h0:0<V):rst A V j<B^(j+n):=by
 have h1:A/B^j%V+1≤B^n:=Nat.le_trans (Nat.mod_lt _ h0) (Nat.le_of_lt hV)
 have h2:(A/B^j%V+1)*B^j≤B^n*B^j:=Nat.mul_le_mul_right _ h1
 have h3:A%B^j<B^j:=Nat.mod_lt _ (vg j)
 have h4:B^(j+n)=B^n*B^j:=by rw[Nat.pow_add,Nat.mul_comm]
 unfold rst
 rw[h4]
 rw[Nat.add_mul,Nat.one_mul] at h2
 omega
theorem AG {A V:Nat}:rst A V 0=A%V:=by simp[rst,Nat.mod_one]
theorem acE {A V j:Nat} (h:A/B^j<V):rst A V j=A:=by
 unfold rst
 rw[Nat.mod_eq_of_lt h,Nat.mul_comm]
 exact Nat.div_add_mod A (B^j)
theorem acC {A V j:Nat}:rst A V j%B^j=A%B^j:=by
 unfold rst
 rw[Nat.add_comm,Nat.add_mul_mod_self_right,Nat.mod_mod]
theorem acD {A V j:Nat}:rst A V (j+1)/B^j=A/B^j/B%V*B+A/B^j%B:=by
 unfold rst
 rw[show A/B^(j+1)=A/B^j/B by rw[Nat.pow_succ,Nat.div_div_eq_div_mul]]
 have h1:A%B^(j+1)=A%B^j+B^j*(A/B^j%B):=by rw[Nat.pow_succ,Nat.mod_mul]
 rw[h1,Nat.pow_succ]
 have h2:A/B^j/B%V*(B^j*B)+(A%B^j+B^j*(A/B^j%B))=A%B^j+(A/B^j/B%V*B+A/B^j%B)*B^j:=by grind
 rw[h2,Nat.add_mul_div_right _ _ (vg j),Nat.div_eq_of_lt (Nat.mod_lt _ (vg j)),Nat.zero_add]
theorem AF {A V j L n:Nat} (hV:V<B^n) (h0:0<V) (hL:j+n+1≤L):seg (zu L (rst A V (j+1))) j (zu (n+1) (A/B^j%V))=zu L (rst A V j):=by
 have hlen:j+(zu (n+1) (A/B^j%V)).length≤(zu L (rst A V (j+1))).length:=by rw[zy,zy]; omega
 have hlt1:=TH (A:=A) (j:=j+1) hV h0
 have hlt0:=TH (A:=A) (j:=j) hV h0
 have hle:B^(j+1+n)≤B^L:=Nat.pow_le_pow_right zU (by omega)
 have hle0:B^(j+n)≤B^L:=Nat.pow_le_pow_right zU (by omega)
 have hL1:rst A V (j+1)<B^L:=Nat.lt_of_lt_of_le hlt1 hle
 have o1:ok (zu L (rst A V (j+1))):=yt
 refine YL ?_ yt (by rw[jy hlen,zy,zy]) ?_
 ·unfold seg
  exact Zu.2 ⟨Zu.2 ⟨ut o1 _,yt⟩,SN o1 _⟩
 ·unfold seg
  rw[val_append,val_append,MN o1 (by rw[zy]; omega),Us o1 (by rw[zy,zy]; omega),yh hL1,yh (Nat.lt_of_lt_of_le hlt0 hle0)]
  have hz:rst A V (j+1)/B^(j+(zu (n+1) (A/B^j%V)).length)=0:=by
   rw[zy]
   exact Nat.div_eq_of_lt (by rw[show j+(n+1)=j+1+n by omega]; exact hlt1)
  have hl:(List.take j (zu L (rst A V (j+1)))).length=j:=by simp[zy]; omega
  have hx:A/B^j%V<B^(n+1):=Nat.lt_trans (Nat.lt_trans (Nat.mod_lt _ h0) hV) (Nat.pow_lt_pow_right (by decide) (by omega))
  rw[hz,hl,yh hx,Nat.mul_zero,Nat.add_zero]
  have h1:rst A V (j+1)%B^j=A%B^j:=by
   have h2:rst A V (j+1)%B^(j+1)%B^j=A%B^(j+1)%B^j:=by rw[acC]
   rw[Nat.mod_mod_of_dvd _ (Nat.pow_dvd_pow B (by omega)),Nat.mod_mod_of_dvd _ (Nat.pow_dvd_pow B (by omega))] at h2
   exact h2
  rw[h1]
  unfold rst
  rw[Nat.mul_comm,Nat.add_comm]
theorem Dw {A V j:Nat} (h0:0<V):(rst A V (j+1)/B^j)/V=A/V/B^j%B∧(rst A V (j+1)/B^j)%V=A/B^j%V∧rst A V (j+1)/B^j<V*B:=by
 obtain ⟨s1,s2,s3⟩:=TP (A:=A/B^j) h0
 rw[acD]
 refine ⟨?_,s2,s3⟩
 rw[s1,Nat.div_div_eq_div_mul,Nat.div_div_eq_div_mul,Nat.mul_comm]
theorem DD {X N i:Nat} (hN:N<32):(X/2^N)/B^i%B=(X/B^i%B)/2^N+(X/B^(i+1)%B)*2^(32-N)%B ∧
  (X/B^i%B)/2^N ||| (X/B^(i+1)%B)*2^(32-N)%B=(X/B^i%B)/2^N+(X/B^(i+1)%B)*2^(32-N)%B:=by
 have hB:B=2^(32-N)*2^N:=by
  rw[← Nat.pow_add,Nat.sub_add_cancel (by omega)]; rfl
 have hP:0<2^N:=Nat.pow_pos (by omega)
 have hM:0<2^(32-N):=Nat.pow_pos (by omega)
 rw[show X/2^N/B^i=X/B^i/2^N by rw[Nat.div_div_eq_div_mul,Nat.div_div_eq_div_mul,Nat.mul_comm],show X/B^(i+1)=X/B^i/B by rw[Nat.pow_succ,Nat.div_div_eq_div_mul]]
 generalize X/B^i=Y
 have hx:Y%B/2^N<2^(32-N):=by
  apply Nat.div_lt_of_lt_mul
  rw[Nat.mul_comm,← hB]; exact Nat.mod_lt _ zU
 have hc:∀ q,q*2^(32-N)%B=(q%2^N)*2^(32-N):=fun q=>by
  have h:=Nat.mul_mod_mul_right (2^(32-N)) q (2^N)
  rw[Nat.mul_comm (2^N) (2^(32-N)),← hB] at h
  exact h
 have hY:Y/2^N=Y/B*2^(32-N)+Y%B/2^N:=by
  have h1:Y=Y%B+2^N*(Y/B*2^(32-N)):=by
   have h2:=Nat.mod_add_div Y B
   have h3:2^N*(Y/B*2^(32-N))=B*(Y/B):=by
    have:2^N*(Y/B*2^(32-N))=2^(32-N)*2^N*(Y/B):=by
     generalize Y/B=z
     generalize (2:Nat)^N=p
     generalize (2:Nat)^(32-N)=m
     grind
    rw[this,← hB]
   rw[h3]; exact h2.symm
  have h4:Y/2^N=(Y%B+2^N*(Y/B*2^(32-N)))/2^N:=by rw[← h1]
  rw[h4,Nat.add_mul_div_left _ _ hP,Nat.add_comm]
 have hd:2^N ∣ B:=⟨2^(32-N),by rw[hB,Nat.mul_comm]⟩
 rw[hY,hc (Y/B%B),Nat.mod_mod_of_dvd _ hd]
 generalize hq:Y/B%2^N=a
 have ha:a<2^N:=by rw[← hq]; exact Nat.mod_lt _ hP
 generalize Y%B/2^N=c at *
 have hlt:a*2^(32-N)+c<B:=by
  have h1:(a+1)*2^(32-N)≤2^N*2^(32-N):=Nat.mul_le_mul_right _ ha
  rw[Nat.mul_comm (2^N),← hB,Nat.add_mul,Nat.one_mul] at h1
  omega
 constructor
 ·have h2:=hc (Y/B)
  rw[hq] at h2
  rw[Nat.add_mod,h2,Nat.mod_eq_of_lt (a:=c) (by omega),Nat.mod_eq_of_lt hlt,Nat.add_comm]
 ·have h:=Nat.two_pow_add_eq_or_of_lt hx a
  rw[Nat.or_comm,Nat.mul_comm a,← h,Nat.add_comm]
structure QU (A D n m N X V:Nat):Prop where
 N32:N<32
 X_eq:X=A*2^N
 V_eq:V=D*2^N
 Xlt:X<B^(n+2+m+1)
 Vlen:(zf V).length=n+2
 Vpos:0<V
 Vlt:V<B^(n+2)
 top:X/B^(m+1)<V
 q:X/V=A/D
 r:X%V=(A%D)*2^N
 vtop:0<(zf V).getD (n+1) 0
theorem afr {A D n m:Nat} (hA:(zf A).length=n+2+m) (hD:(zf D).length=n+2):QU A D n m (lz (D/B^(n+1))) (A*2^lz (D/B^(n+1))) (D*2^lz (D/B^(n+1))):=by
 have hN32:lz (D/B^(n+1))<32:=Q3
 obtain ⟨h1,h2,h3⟩:=DB (n:=n+1) hD rfl
 obtain ⟨h4,h5,h6,h7⟩:=fT (n:=n+1) hD
 have hP:0<2^lz (D/B^(n+1)):=Nat.pow_pos (by omega)
 have hAlt:A<B^(n+2+m):=zE.1 (Nat.le_of_eq hA)
 generalize lz (D/B^(n+1))=N at *
 obtain ⟨k1,k2,k3,k4⟩:=fT (n:=n+1) h3
 refine ⟨hN32,rfl,rfl,?_,h3,Nat.lt_of_lt_of_le (vg _) h1,h2,?_,Nat.mul_div_mul_right _ _ hP,Nat.mul_mod_mul_right _ _ _,?_⟩
 ·have:2^N≤B:=Nat.le_of_lt (gr hN32)
  rw[Nat.pow_succ]
  exact Nat.lt_of_lt_of_le (Nat.mul_lt_mul_of_pos_right hAlt hP) (Nat.mul_le_mul_left _ this)
 ·apply Nat.div_lt_of_lt_mul
  have a1:A*2^N<B^(n+2+m)*2^N:=Nat.mul_lt_mul_of_pos_right hAlt hP
  have a2:B^(n+1)*2^N≤D*2^N:=Nat.mul_le_mul_right _ h4
  have a3:B^(m+1)*(B^(n+1)*2^N)≤B^(m+1)*(D*2^N):=Nat.mul_le_mul_left _ a2
  have a4:B^(n+2+m)=B^(m+1)*B^(n+1):=by rw[← Nat.pow_add]; congr 1; omega
  rw[a4,Nat.mul_assoc] at a1
  exact Nat.lt_of_lt_of_le a1 a3
 ·have hl:n+1<(zf (D*2^N)).length:=by rw[h3]; omega
  have:(zf (D*2^N)).getD (n+1) 0=D*2^N/B^(n+1):=by
   rw[List.getD_eq_getElem?_getD,List.getElem?_eq_getElem hl,Option.getD_some,pZ,Nat.mod_eq_of_lt k4]
  rw[this]
  exact k3
theorem acF {A V j n L:Nat} (hV:V<B^n) (h0:0<V) (hL:j+n+1≤L):rst A V (j+1)/B^j=val (((zu L (rst A V (j+1))).drop j).take (n+1)):=by
 have o1:ok (zu L (rst A V (j+1))):=yt
 have hlt1:=TH (A:=A) (j:=j+1) hV h0
 have hL1:rst A V (j+1)<B^L:=Nat.lt_of_lt_of_le hlt1 (Nat.pow_le_pow_right zU (by omega))
 have hlen:n+1≤((zu L (rst A V (j+1))).drop j).length:=by rw[List.length_drop,zy]; omega
 rw[MN (SN o1 _) hlen,Us o1 (by rw[zy]; omega),yh hL1,Nat.mod_eq_of_lt]
 apply Nat.div_lt_of_lt_mul
 rw[← Nat.pow_add,show j+(n+1)=j+1+n by omega]
 exact hlt1
end Go.Dig

namespace Go.Proofs.Ytfmcplfbnkoglaa
open Go Go.Am Go.Dig
def YD (A D k:Nat):St:={env:=[(0,nD A),(1,nD D),(9,z7 k)],sto:=[]}
abbrev co (A D:Nat):AV:=AV.tuple [nD (A/D),nD (A%D),iv 0]
theorem Nf {x1 x2 x3 y1 y2 y3:AV} (h1:AV.imp x1 y1) (h2:AV.imp x2 y2) (h3:AV.imp x3 y3):AV.imp (.tuple [x1,x2,x3]) (.tuple [y1,y2,y3]):=fun I w v hv=>by
 cases hv with
 | tuple cells vs hs hc =>
  refine .tuple _ _ (by simpa using hs) fun i c hi=>?_
  match i,hi with
  | 0,hi=>simp at hi; subst hi; exact h1 _ _ _ (hc 0 x1 rfl)
  | 1,hi=>simp at hi; subst hi; exact h2 _ _ _ (hc 1 x2 rfl)
  | 2,hi=>simp at hi; subst hi; exact h3 _ _ _ (hc 2 x3 rfl)
  | i+3,hi=>simp at hi
theorem gh {f:FuncId} {x y y' r:AV} (h:zd Try.prog f [x,y'] r) (hy:AV.imp y y'):zd Try.prog f [x,y] r:=fun I vs w h1 h2 h3 =>
 h I vs w h1 h2 fun i a hi=>by
  match i,hi with
  | 0,hi=>exact h3 0 a hi
  | 1,hi=>simp at hi; subst hi; exact hy _ _ _ (h3 1 y rfl)
  | i+2,hi=>simp at hi
theorem sC {sz:Nat}:AV.imp (.list sz .full []) (nD 0):=by
 rw[nD,yd]
 exact AV.imp_nil rfl
theorem FN {m1 m2:Am.Mode} {a c:List Nat} (ha:ok a) (hc:ok c) (hna:a.length<549755813888) (hnc:c.length<549755813888) (f1:stm m1=m1) (f2:stm m2=m2) (hD:val c≠0)
  (hmain:∀ n m,(zf (val c)).length=n+2→(zf (val a)).length=n+2+m→val c≤val a →
   awp Try.prog (.loop sH) (YD (val a) (val c) 0) (vb 0 (r9 Try.prog uq (cW akA (co (val a) (val c)))))) :
  zd Try.prog qk [nl m1 a,nl m2 c] (co (val a) (val c)):=by
 have k1:=yZ (m:=m1) ha (by omega)
 have k2:=yZ (m:=m2) hc (by omega)
 have hla:=we ha
 have hlc:=we hc
 generalize val a=A at *
 generalize val c=D at *
 have kc:=lV (m1:=.plain) (m2:=.plain) (zw A) (zw D) (by omega) (by omega)
 rw[zI,zI] at kc
 have hl0:¬ (zf D).length=0:=by rw[List.length_eq_zero_iff,yE]; exact hD
 have hl0':¬ zf D=[]:=by rw[yE]; exact hD
 refine wT G2 (by simp) ?_
 simp[UK]
 refine za k1 (by simp[f1]) (by simp) ?_
 simp
 refine za k2 (by simp[f2]) (by simp) ?_
 simp[hl0]
 refine za kc (by simp) (by simp) ?_
 by_cases hlt:A<D
 ·have hc1:yQ A D=-1:=by simp[yQ,hlt]
  simp[hc1]
  have ka:=gS (m1:=.plain) (m2:=.plain) (a:=zf A) (b:=[]) (zw A) NK (by omega) (by simp)
  rw[zI] at ka
  refine za (gh ka (AV.imp_nil (sz:=0) rfl)) (by simp) (by simp) ?_
  simp[akA,val]
  rw[co,Nat.div_eq_of_lt hlt,Nat.mod_eq_of_lt hlt]
  exact Nf sC AV.imp.refl AV.imp.refl
 ·have hc1:¬ yQ A D<0:=by simp only[yQ,if_neg hlt]; split<;>omega
  by_cases h1:(zf D).length=1
  ·have h1z:((zf D).length:Int)=1:=by omega
   have h10:0<(zf D).length:=by omega
   have hDB:D<B:=by
    have:=zE.1 (Nat.le_of_eq h1)
    simpa using this
   have hg:(zf D)[0]=D:=by rw[pZ]; simp[Nat.mod_eq_of_lt hDB]
   have ks:=Lx (m:=.plain) (a:=zf A) (d:=D) (zw A) (by omega) (by omega) hDB rfl
   rw[zI] at ks
   have hm:A%D<D:=Nat.mod_lt _ (by omega)
   generalize hq:A%D=r at *
   rw[z5] at hDB
   have kf:=qD (x:=r) (by omega)
   have u1:IntKind.u64.wrap (r:Int)=r:=w64 (by omega)
   simp[hc1,h1z,h10,hg]
   refine za ks (by simp) (by simp) ?_
   simp[u1]
   refine za kf (by simp) (by simp) ?_
   simp[akA]
   rw[co,hq]
   exact AV.imp.refl
  ·have h1z:¬ ((zf D).length:Int)=1:=by omega
   simp[hc1,h1z]
   obtain ⟨n,hn⟩:∃ n,(zf D).length=n+2:=⟨(zf D).length-2,by omega⟩
   have hle:(zf D).length≤(zf A).length:=by
    rcases Nat.lt_or_ge (zf A).length (zf D).length with h2 | h2
    ·exact absurd (fA h2) hlt
    ·exact h2
   obtain ⟨m,hm⟩:∃ m,(zf A).length=n+2+m:=⟨(zf A).length-(n+2),by omega⟩
   exact hmain n m hn hm (by omega)
theorem QF {m:Am.Mode} {a:List Nat} {bits:Nat} (ha:ok a) (hn:a.length<1099511627775) (hb:bits<32):zd Try.prog q7 [nl m a,z7 bits] (nl .plain (zu (a.length+1) (val a*2^bits))):=by
 refine wT Xk (by simp) ?_
 have w:IntKind.i64.wrap ((a.length:Int)+1)=(a.length:Int)+1:=wrap64 (by omega) (by omega)
 have e1:((a.length:Int)+1).toNat=a.length+1:=by omega
 simp[f8,w,eMk,e1]
 refine ⟨by omega,by omega,by omega,?_⟩
 refine zl (ZQ a m [] [] 0 bits) (fun _=>True) a.length (by simp[ZQ,Mc,U2]) trivial (fun i hi _=>?_) (fun _=>?_)
 ·have e:(i:Int)<a.length:=by omega
  have hpow:=gr hb
  have hak:=xC ha hi
  have hL:=TJ (bits:=bits) (i:=i) ha
  have hLB:shL a bits i<B^(i+1):=by
   have:B^i*2^bits≤B^i*B:=Nat.mul_le_mul_left _ (by omega)
   rw[Nat.pow_succ]; omega
  have hc:shL a bits i/B^i<2^bits:=Nat.div_lt_of_lt_mul hL
  obtain ⟨o1,o2,o3,o4⟩:=Ew (c:=shL a bits i/B^i) (a:=a[i]) hb hc hak
  have hsucc:=Mb (bits:=bits) hi
  have hL2:=TJ (bits:=bits) (i:=i+1) ha
  have hLN:shL a bits (i+1)<B^(a.length+1):=by
   have h1:B^(i+1)*2^bits≤B^(i+1)*B:=Nat.mul_le_mul_left _ (by omega)
   have h3:B^(i+1+1)=B^(i+1)*B:=Nat.pow_succ _ _
   have h2:B^(i+1+1)≤B^(a.length+1):=Nat.pow_le_pow_right zU (by omega)
   omega
  have htB:(shL a bits i/B^i+a[i]*2^bits)/B<B:=by
   rw[← o3]
   apply Nat.div_lt_of_lt_mul
   exact Nat.mul_lt_mul_of_lt_of_lt hak hpow
  have hstep:=TK (N:=a.length+1) (i:=i) (t:=a[i]*2^bits) hLB (by omega) (by rw[← hsucc]; exact hLN) htB
  rw[← hsucc,← o2,← o3] at hstep
  have hlen:=zy (n:=a.length+1) (x:=shL a bits i)
  have hi1:i<(zu (a.length+1) (shL a bits i)).length:=by omega
  have hget:(zu (a.length+1) (shL a bits i))[i]=shL a bits i/B^i:=by
   rw[vf,Nat.mod_eq_of_lt (Nat.lt_trans hc hpow)]
  obtain ⟨c,hcE⟩:∃ c,shL a bits i/B^i=c:=⟨_,rfl⟩
  obtain ⟨t,htE⟩:∃ t,a[i]*2^bits=t:=⟨_,rfl⟩
  have htlt:t<B*B:=by rw[← htE]; exact Nat.mul_lt_mul_of_lt_of_lt hak hpow
  rw[hcE,htE] at o1 o4 hstep
  rw[hcE] at hget hc
  obtain ⟨x,hxE⟩:∃ x,t%B=x:=⟨_,rfl⟩
  obtain ⟨q,hqE⟩:∃ q,t/B=q:=⟨_,rfl⟩
  rw[hxE] at o1 o4 hstep
  rw[hqE] at hstep
  have hxB:x<B:=by rw[← hxE]; exact Nat.mod_lt _ zU
  have hqB:q<B:=by rw[← hqE]; exact Nat.div_lt_of_lt_mul htlt
  have hor:=Ac (c:=c) (x:=x) (by omega) hxB (by rw[o1]; exact o4)
  rw[o1] at hor
  obtain ⟨y,hyE⟩:∃ y,c+x=y:=⟨_,rfl⟩
  rw[hyE] at hor hstep
  have hBB:B*B=18446744073709551616:=by decide
  rw[hBB] at htlt
  have f1:IntKind.u32.wrap (t:Int)=(x:Int):=by rw[w32,hxE]
  have f2:(t:Int).fdiv (2^min 32 IntKind.u64.bits)=(q:Int):=by rw[c6,hqE]
  have f3:IntKind.u32.wrap (q:Int)=q:=IntWalk.u32_in _ (by rw[z5] at hqB; omega)
  have u1:IntKind.u64.wrap ((a[i]:Nat):Int)=(a[i]:Nat):=w64 (by rw[z5] at hak; omega)
  have hmin:min bits IntKind.u64.bits=bits:=by
   have:IntKind.u64.bits=64:=rfl
   omega
  have u2:IntKind.u64.wrap (((a[i]:Nat):Int)*2^bits)=(t:Int):=by
   rw[show ((a[i]:Nat):Int)*2^bits=((a[i]*2^bits:Nat):Int) by simp,htE]; exact w64 htlt
  have hset:((zG (zu (a.length+1) (shL a bits i))).set i [uv y]).set (i+1) [uv q]=zG (zu (a.length+1) (shL a bits (i+1))):=by
   rw[xc,xc,hstep]
  have wi:IntKind.i64.wrap ((i:Int)+1)=(i:Int)+1:=wrap64 (by omega) (by omega)
  have ei1:(i:Int)<a.length+1:=by omega
  have e2:((i:Int)+1).toNat=i+1:=by omega
  have e3:(0:Int)≤(i:Int)+1:=by omega
  have hi2:i+1<(zu (a.length+1) (shL a bits i)).length:=by omega
  have hnb:¬ ((bits:Int)<0):=by omega
  simp[tp,ZQ,e,hi,hi1,hi2,ei1,e2,e3,hget,hor,u1,vI,ww,hmin,u2,f1,f2,f3,wi,splice,hset]
 ·have:zu (a.length+1) (shL a bits a.length)=zu (a.length+1) (val a*2^bits):=by rw[Je]
  have hlt:(zu (a.length+1) (val a*2^bits)).length=a.length+1:=zy
  have ht:List.take (a.length+1) (zG (zu (a.length+1) (val a*2^bits)))=zG (zu (a.length+1) (val a*2^bits)):=List.take_of_length_le (by rw[List.length_map,hlt]; exact Nat.le_refl _)
  simp[tp,ZQ,mK,eG,this,hlt,ht]
  exact AV.imp.refl
theorem abP {t:Nat} (h0:0<t) (ht:t<B):∃ p,t*2^lz t=p∧2147483648≤p∧p<4294967296:=⟨_,rfl,(Nw h0 ht).1,(Nw h0 ht).2⟩
theorem C8 {A D n _m:Nat} {K:Exit→St→Prop} (hD:(zf D).length=n+2) (hn:n<549755813888)
  (hK:∀ q y,(q=53)→awp Try.prog uq {env:=[(0,nD A),(1,nD D),(9,z7 (lz (D/B^(n+1)))),(q,y)],sto:=[]} K) :
  awp Try.prog (.loop sH) (YD A D 0) (vb 0 (r9 Try.prog uq K)):=by
 obtain ⟨_,_,ht0,htB⟩:True∧True∧0<D/B^(n+1)∧D/B^(n+1)<B:=⟨trivial,trivial,(fT (n:=n+1) hD).2.2⟩
 have hg:(zf D)[n+1]'(by omega)=D/B^(n+1):=by rw[pZ,Nat.mod_eq_of_lt htB]
 have hlen:((zf D).length:Int)=(n:Int)+2:=by omega
 have w0:IntKind.i64.wrap ((n:Int)+2-1)=(n:Int)+1:=by rw[wrap64]<;>omega
 have e1:((n:Int)+1).toNat=n+1:=by omega
 have e2:(0:Int)≤(n:Int)+1:=by omega
 have e3:n+1<(zf D).length:=by omega
 generalize D/B^(n+1)=t at *
 refine zl (YD A D) (fun _=>True) (lz t) (by simp[YD]) trivial (fun k hk _=>?_) (fun _=>?_)
 ·have hs:=BJ htB hk
  have h32:=Q3 (t:=t)
  obtain ⟨p,hp⟩:∃ p,t*2^k=p:=⟨_,rfl⟩
  rw[hp] at hs
  have hmin:min k IntKind.u32.bits=k:=by
   have:IntKind.u32.bits=32:=rfl
   omega
  have u1:IntKind.u32.wrap ((t:Int)*2^k)=(p:Int):=by
   rw[show (t:Int)*2^k=((t*2^k:Nat):Int) by simp,hp]; exact IntWalk.u32_in _ (by omega)
  have u2:IntKind.u64.wrap ((k:Int)+1)=(k:Int)+1:=vL (by omega) (by omega)
  have c1:(p:Int)<2147483648:=by omega
  have c2:¬ ((k:Int)<0):=by omega
  simp[sH,YD,hlen,w0,e1,e2,e3,hg,vI,hmin,u1,u2,c1,c2]
 ·have h32:=Q3 (t:=t)
  obtain ⟨p,hp,h1,h2⟩:=abP ht0 htB
  have hk0:=hK _ (bv false) rfl
  clear hK
  generalize lz t=k at *
  have hmin:min k IntKind.u32.bits=k:=by
   have:IntKind.u32.bits=32:=rfl
   omega
  have u1:IntKind.u32.wrap ((t:Int)*2^k)=(p:Int):=by
   rw[show (t:Int)*2^k=((t*2^k:Nat):Int) by simp,hp]; exact IntWalk.u32_in _ (by omega)
  have c1:¬ (p:Int)<2147483648:=by omega
  have c3:¬ p<2147483648:=by omega
  have c2:¬ ((k:Int)<0):=by omega
  simp[sH,YD,hlen,w0,e1,e2,e3,hg]
  rw[vI c2,Int.toNat_natCast,hmin,u1]
  generalize (p:Int)=z at *
  simp[c1]
  exact hk0
def qM (A D n m N X V k:Nat):St :=
 {env:=[(4,.sl 72 1 0 (m+1)),(9,z7 N),(10,.sl 1011 1 0 (n+2+m+1)),(11,nD V),(12,iv ((n:Int)+2)),(13,iv m),(74,iv ((m:Int)+1)),(75,iv k)],
  sto:=[(72,.arr 1 (zG (vj (m+1) (A/D) k))),(1011,.arr 1 (zG (zu (n+2+m+1) (rst X V (m+1-k)))))]}
theorem abu {A D n m N X V:Nat} {K:Exit→St→Prop} (hA:(zf A).length=n+2+m) (hD:(zf D).length=n+2) (hn:n+m<274877906944) {y:AV} (h:QU A D n m N X V)
  (hK:∀ s,mT s (qM A D n m N X V 0)→awp Try.prog (.loop sI) s (vb 2 (r9 Try.prog uo K))) :
  awp Try.prog uq {env:=[(0,nD A),(1,nD D),(9,z7 N),(53,y)],sto:=[]} K:=by
 have hN32:=h.N32
 have kt:=yZ (m:=.plain) (a:=zu (n+2+1) V) yt (by rw[zy]; omega)
 have hVlt:V<B^(n+2+1):=Nat.lt_trans h.Vlt (Nat.pow_lt_pow_right (by decide) (by omega))
 rw[yh hVlt] at kt
 have hVl:=h.Vlen
 have w1:IntKind.i64.wrap ((n:Int)+2+m-(n+2))=(m:Int):=by rw[wrap64]<;>omega
 have w2:IntKind.i64.wrap ((m:Int)+1)=(m:Int)+1:=by rw[wrap64]<;>omega
 have e1:((m:Int)+1).toNat=m+1:=by omega
 have e2:(zu (n+2+1) V).length=n+2+1:=zy
 have e3:(zG (zu (n+2+1) V)).length=n+2+1:=by rw[List.length_map,e2]
 simp[uq]
 refine ⟨rfl,?_⟩
 refine AQ 1000 (zw A) (by omega) hN32 (by simp) ?_
 simp
 have ks:=QF (m:=.plain) (bits:=N) (zw D) (by omega) hN32
 rw[zI,← h.V_eq,hD] at ks
 refine za ks (by simp) (by simp) ?_
 simp
 refine za kt (by simp) (by simp) ?_
 simp[hVl,hA,hD,w1,w2,eMk,e1]
 refine ⟨by omega,by omega,by omega,?_⟩
 rw[zI,← h.X_eq]
 have hz:rst X V (m+1)=X:=acE h.top
 refine hK _ ?_
 simp[qM,hz,Xh,qa]
theorem Ba {A D n m N X V:Nat} {K:Exit→St→Prop} (hn:n+m<274877906944) (h:QU A D n m N X V)
  (hK:∀ q y,q=76→awp Try.prog uo {(qM A D n m N X V (m+1)) with env:=(qM A D n m N X V (m+1)).env++[(q,y)]} K) :
  ∀ s,mT s (qM A D n m N X V 0)→awp Try.prog (.loop sI) s (vb 2 (r9 Try.prog uo K)):=by
 intro s hs
 refine zl (qM A D n m N X V) (fun _=>True) (m+1) hs trivial (fun k hk _=>?_) (fun _=>?_)
 ·obtain ⟨j,hj⟩:∃ j,m-k=j:=⟨_,rfl⟩
  have hj1:m+1-k=j+1:=by omega
  have hj2:m+1-(k+1)=j:=by omega
  have hj3:m+1-1-k=j:=by omega
  have hlt:=TH (A:=X) (j:=j+1) h.Vlt h.Vpos
  obtain ⟨d1,d2,d3⟩:=Dw (A:=X) (j:=j) h.Vpos
  have hstep:=AF (A:=X) (V:=V) (j:=j) (L:=n+2+m+1) h.Vlt h.Vpos (by omega)
  have hval:=acF (A:=X) (V:=V) (j:=j) (n:=n+2) (L:=n+2+m+1) h.Vlt h.Vpos (by omega)
  have hset:=TO (n:=m+1) (D:=A/D) (i:=k) hk
  rw[hj3] at hset
  rw[h.q] at d1
  have hql:=TN (D:=A/D) (show k≤m+1 by omega)
  have hVl:=h.Vlen
  have e:(k:Int)<(m:Int)+1:=by omega
  have w1:IntKind.i64.wrap ((m:Int)-k)=(j:Int):=by rw[wrap64]<;>omega
  have w2:IntKind.i64.wrap ((j:Int)+(n+2))=(j:Int)+(n+2):=by rw[wrap64]<;>omega
  have w3:IntKind.i64.wrap ((j:Int)+(n+2)+1)=(j:Int)+(n+2)+1:=by rw[wrap64]<;>omega
  have w4:IntKind.i64.wrap ((k:Int)+1)=(k:Int)+1:=by rw[wrap64]<;>omega
  have w5:((j:Int)+(n+2)+1).toNat-j=n+3:=by omega
  have ok:dM (zu (n+2+m+1) (rst X V (j+1))) (zf V) j n:=⟨yt,zw _,hVl,by rw[zy]; omega,by rw[zy]; omega⟩
  simp[sI,qM,e,w1,w2,w3,hj1,w5]
  refine ⟨by omega,by omega,rfl,?_⟩
  refine adX 3000 ok (by simp) h.vtop hval (by rw[zI]; exact d3) ?_
  have w6:j<(vj (m+1) (A/D) k).length:=by omega
  have w7:(j:Int)<(m:Int)+1:=by omega
  simp only[zI,d1,d2,hstep]
  generalize hd:A/D/B^j%B=d at *
  have hset':(zG (vj (m+1) (A/D) k)).set j [uv d]=zG (vj (m+1) (A/D) (k+1)):=by rw[xc,hset]
  simp[w6,w7,splice,hset',w4,hj2,qM]
 ·simp[sI,qM]
  have:=hK _ (bv false) rfl
  simp[qM] at this
  exact this
def YE (Q R n m N Y k:Nat):St :=
 {env:=[(4,.sl 72 1 0 (m+1)),(5,.sl 99 1 0 (n+2)),(9,z7 N),(10,.sl 1011 1 0 (n+2+m+1)),(100,iv ((n:Int)+2)),(101,iv k)],
  sto:=[(72,.arr 1 (zG (zu (m+1) Q))),(1011,.arr 1 (zG (zu (n+2+m+1) Y))),(99,.arr 1 (zG (wx (n+2) k R)))]}
theorem FM {R N i:Nat} (hN:N<32):∃ a c d,R*2^N/B^i%B/2^N=a∧(R*2^N/B^(i+1)%B)*2^(32-N)%B=c∧R/B^i%B=d∧a ||| c=d∧a<B∧c<B∧d<B∧(N=0→a=d):=by
 obtain ⟨h1,h2⟩:=DD (X:=R*2^N) (i:=i) hN
 have hP:0<2^N:=Nat.pow_pos (by omega)
 rw[Nat.mul_div_cancel _ hP] at h1
 refine ⟨_,_,_,rfl,rfl,rfl,by rw[h2,← h1],Nat.lt_of_le_of_lt (Nat.div_le_self _ _) (Nat.mod_lt _ zU),Nat.mod_lt _ zU,Nat.mod_lt _ zU,fun h0=>?_⟩
 subst h0
 rw[Nat.pow_zero,Nat.mul_one,Nat.div_one]
theorem afR {a c d:Nat} (ha:a<B) (hc:c<B) (h:a ||| c=d) (hd:d<B):rC .or .u32 (a:Int) (c:Int)=(d:Int):=by
 have:=Ac (c:=a) (x:=c) ha hc (by rw[h]; exact hd)
 rw[h] at this
 exact this
theorem abt {A D n m N X V:Nat} (hn:n+m<274877906944) (hD:(zf D).length=n+2) (h:QU A D n m N X V) :
  ∀ q y,q=76→awp Try.prog uo {(qM A D n m N X V (m+1)) with env:=(qM A D n m N X V (m+1)).env++[(q,y)]} (cW akA (co A D)):=by
 intro q y hq
 subst hq
 have hN:=h.N32
 have hY:rst X V 0=A%D*2^N:=by rw[AG,h.r]
 have hDlt:D<B^(n+2):=zE.1 (Nat.le_of_eq hD)
 have hD0:0<D:=by
  rcases Nat.eq_zero_or_pos D with h0 | h0
  ·subst h0; simp[yd] at hD
  ·exact h0
 have hRlt:A%D<B^(n+2):=Nat.lt_trans (Nat.mod_lt _ hD0) hDlt
 have hQlt:A/D<B^(m+1):=by
  rw[← h.q]
  apply Nat.div_lt_of_lt_mul
  have h1:=Nat.lt_mul_div_succ X (vg (m+1))
  have h2:B^(m+1)*(X/B^(m+1)+1)≤B^(m+1)*V:=Nat.mul_le_mul_left _ h.top
  rw[Nat.mul_comm V]
  exact Nat.lt_of_lt_of_le h1 h2
 have w1:((n:Int)+2).toNat=n+2:=by omega
 have kq:=yZ (m:=.plain) (a:=zu (m+1) (A/D)) yt (by rw[zy]; omega)
 have kr:=yZ (m:=.plain) (a:=zu (n+2) (A%D)) yt (by rw[zy]; omega)
 rw[yh hQlt] at kq
 rw[yh hRlt] at kr
 have lp:∀ s,mT s (YE (A/D) (A%D) n m N (A%D*2^N) 0)→awp Try.prog (.loop sJ) s (vb 4 (r9 Try.prog kE (cW akA (co A D)))):=by
  intro s hs
  refine zl (YE (A/D) (A%D) n m N (A%D*2^N)) (fun _=>True) (n+2) hs trivial (fun i hi _=>?_) (fun _=>?_)
  ·obtain ⟨a,c,d,h1,h2,h3,h4,h5,h6,h7,h8⟩:=FM (R:=A%D) (i:=i) hN
   have hL:=zy (n:=n+2+m+1) (x:=A%D*2^N)
   have i1:i<(zu (n+2+m+1) (A%D*2^N)).length:=by omega
   have i2:i+1<(zu (n+2+m+1) (A%D*2^N)).length:=by omega
   have g1:=vf i1
   have g2:=vf i2
   have hset:=fw (S:=A%D) hi
   rw[h3] at hset
   have hfl:=fu (n:=n+2) (k:=i) (S:=A%D) (by omega)
   have i3:i<(wx (n+2) i (A%D)).length:=by omega
   have hor:=afR h5 h6 h4 h7
   have hmin:min N IntKind.u32.bits=N:=by
    have:IntKind.u32.bits=32:=rfl
    omega
   have hmin2:min (32-N) IntKind.u32.bits=32-N:=by
    have:IntKind.u32.bits=32:=rfl
    omega
   have i4:i+1<n+2+m+1:=by omega
   have s1:∀ y0 a:Nat,y0/2^N=a→(y0:Int).fdiv (2^N)=(a:Int):=fun y0 a h=>by
    rw[show (2:Int)^N=((2^N:Nat):Int) by simp,← Int.ofNat_fdiv,h]
   have s2:∀ y1 c:Nat,y1*2^(32-N)%B=c→IntKind.u32.wrap ((y1:Int)*2^(32-N))=(c:Int):=fun y1 c h=>by
    rw[show (y1:Int)*2^(32-N)=((y1*2^(32-N):Nat):Int) by simp,w32,h]
   have s1':=s1 _ _ h1
   have s2':=s2 _ _ h2
   clear s1 s2 h1 h2
   rw[← g1] at s1'
   rw[← g2] at s2'
   clear g1 g2
   generalize A%D*2^N=Y at *
   generalize A%D=R at *
   generalize hy0:(zu (n+2+m+1) Y)[i]=y0 at *
   generalize hy1:(zu (n+2+m+1) Y)[i+1]=y1 at *
   have hset':(zG (wx (n+2) i R)).set i [uv d]=zG (wx (n+2) (i+1) R):=by rw[xc,hset]
   have e:(i:Int)<(n:Int)+2:=by omega
   have e2:(i:Int)<(n:Int)+2+m+1:=by omega
   have e3:(i:Int)+1<(n:Int)+2+m+1:=by omega
   have e4:((i:Int)+1).toNat=i+1:=by omega
   have e5:(0:Int)≤(i:Int)+1:=by omega
   have w2:IntKind.i64.wrap ((i:Int)+1)=(i:Int)+1:=by rw[wrap64]<;>omega
   have w3:IntKind.u64.wrap ((32:Int)-N)=32-N:=vL (by omega) (by omega)
   have w4:((32:Int)-N).toNat=32-N:=by omega
   have w5:¬ ((32:Int)-N<0):=by omega
   rcases Nat.eq_zero_or_pos N with hN0 | hN0
   ·have ha:=h8 hN0
    have hN1:¬ 0<N:=by omega
    subst ha
    simp[sJ,YE,e,e2,hy0,i1,i3,ww,hmin,s1',hN1,splice,hset',w2]
   ·simp[sJ,YE,e,e2,e3,e4,e5,hy0,hy1,i1,i2,i3,ww,vI,hmin,hmin2,s1',s2',hN0,splice,hset',w2,w3,w4,w5,hor]
  ·have l1:∀ k z,k≤(zu k z).length:=fun k z=>Nat.le_of_eq zy.symm
   have l2:∀ k z,List.take k (zG (zu k z))=zG (zu k z):=fun k z=>List.take_of_length_le (by rw[List.length_map,zy]; exact Nat.le_refl _)
   simp[sJ,YE,aZ,kE,xa,s7,l1,l2]
   refine za kq (by simp) (by simp) ?_
   simp
   refine za kr (by simp) (by simp) ?_
   simp[akA]
   exact AV.imp.refl
 simp[uo,qM,TM,hY,eMk,w1]
 refine ⟨by omega,by omega,by omega,?_⟩
 refine lp _ ?_
 simp[YE,k8,qa]
theorem j9 {m1 m2:Am.Mode} {a c:List Nat} (ha:ok a) (hc:ok c) (hna:a.length<137438953472) (hnc:c.length<137438953472) (f1:stm m1=m1) (f2:stm m2=m2) (hD:val c≠0) :
  zd Try.prog qk [nl m1 a,nl m2 c] (co (val a) (val c)):=by
 refine FN ha hc (by omega) (by omega) f1 f2 hD fun n m h1 h2 hle=>?_
 have hla:=we ha
 have hn:n+m<274877906944:=by omega
 have h:=afr h2 h1
 exact C8 (_m:=m) h1 (by omega) fun q y hq=>by
  subst hq
  exact abu h2 h1 hn h (Ba hn h (abt hn h1 h))
def eu:Nat→Nat→Nat→Nat × Nat
 | a,b,0=>(a,b)
 | a,b,k+1=>eu b (a%b) k
theorem Sy:∀ (k a b:Nat),eu a b (k+1)=((eu a b k).2,(eu a b k).1%(eu a b k).2)
 | 0,_,_=>rfl
 | k+1,a,b=>by rw[eu,Sy k b (a%b)]; rfl
theorem FY:∀ (b a:Nat),∃ N,(∀ k,k<N→(eu a b k).2≠0)∧eu a b N=(Nat.gcd a b,0):=by
 intro b
 induction b using Nat.strongRecOn with
 | ind b ih =>
  intro a
  rcases Nat.eq_zero_or_pos b with h | h
  ·subst h
   exact ⟨0,fun k hk=>absurd hk (Nat.not_lt_zero _),by rw[eu,Nat.gcd_zero_right]⟩
  ·obtain ⟨N,h1,h2⟩:=ih (a%b) (Nat.mod_lt _ h) b
   refine ⟨N+1,fun k hk=>?_,?_⟩
   ·match k with
    | 0=>exact Nat.ne_of_gt h
    | k+1=>exact h1 k (by omega)
   ·rw[eu,h2,Nat.gcd_comm b,← Nat.gcd_rec,Nat.gcd_comm]
theorem JC {M:Nat}:∀ (k a b:Nat),a<M→b<M→(eu a b k).1<M∧(eu a b k).2<M
 | 0,_,_,h1,h2=>⟨h1,h2⟩
 | k+1,a,b,h1,h2=>JC k b (a%b) h2 (Nat.lt_of_le_of_lt (Nat.mod_le _ _) h1)
def stG (p:Nat × Nat):St:={env:=[(0,nD p.1),(1,nD p.2)],sto:=[]}
theorem RR {m1 m2:Am.Mode} {a c:List Nat} (ha:ok a) (hc:ok c) (hna:a.length<137438953472) (hnc:c.length<137438953472) (f1:stm m1=m1) (f2:stm m2=m2) :
  zd Try.prog Z5 [nl m1 a,nl m2 c] (nD (Nat.gcd (val a) (val c))):=by
 have k1:=gS (m1:=m1) (m2:=.plain) (b:=[]) ha NK (by omega) (by simp)
 have k2:=gS (m1:=m2) (m2:=.plain) (b:=[]) hc NK (by omega) (by simp)
 obtain ⟨N,h1,h2⟩:=FY (val c) (val a)
 obtain ⟨L,hL⟩:∃ L,L=137438953471:=⟨_,rfl⟩
 have hL1:val a<B^L:=yC ha (by omega)
 have hL2:val c<B^L:=yC hc (by omega)
 have hb:=fun k=>JC k (val a) (val c) hL1 hL2
 generalize hM:B^L=M at *
 have hlen:∀ x,x<M→(zf x).length<137438953472:=fun x hx=>by
  rw[← hM] at hx
  exact Nat.lt_of_le_of_lt (zE.2 hx) (by omega)
 clear hM
 have v0:val []=0:=rfl
 rw[v0,Nat.add_zero] at k1 k2
 generalize val a=A at *
 generalize val c=D at *
 refine zD ac8 (by simp) ?_
 simp[LW]
 refine za (gh k1 (AV.imp_nil (sz:=0) rfl)) (by simp[f1]) (by simp) ?_
 simp
 refine za (gh k2 (AV.imp_nil (sz:=0) rfl)) (by simp[f2]) (by simp) ?_
 simp
 refine zl (fun k=>stG (eu A D k)) (fun _=>True) N (by simp[stG,eu]) trivial (fun k hk _=>?_) (fun _=>?_)
 ·have hne:=h1 k hk
  obtain ⟨b1,b2⟩:=hb k
  have b1':=hlen _ b1
  have b2':=hlen _ b2
  have hs:=Sy k A D
  obtain ⟨x,hx⟩:∃ x,(eu A D k).1=x:=⟨_,rfl⟩
  obtain ⟨y,hy⟩:∃ y,(eu A D k).2=y:=⟨_,rfl⟩
  rw[hx,hy] at hs
  rw[hx] at b1'
  rw[hy] at b2' hne
  have kd:=j9 (m1:=.plain) (m2:=.plain) (zw x) (zw y) b1' b2' rfl rfl (by rw[zI]; exact hne)
  rw[zI,zI] at kd
  have hl0:0<(zf y).length:=by
   rcases Nat.eq_zero_or_pos (zf y).length with h | h
   ·rw[List.length_eq_zero_iff,yE] at h; exact absurd h hne
   ·exact h
  simp[d6,stG,hl0,hx,hy]
  refine za kd (by simp) (by simp) ?_
  simp[hs]
 ·simp only[h2]
  simp[d6,UL,KV,stG,yd]
def xk (neg:Bool) (N D:Nat):AV:=.agg [bv (neg&&decide (N≠0)),nD (N/Nat.gcd N D),nD (D/Nat.gcd N D)]
theorem P8 {N D:Nat} (hD:D≠0):Nat.gcd N D≠0∧(N/Nat.gcd N D=0↔N=0)∧Nat.gcd N D≤D:=by
 have hg:0<Nat.gcd N D:=Nat.gcd_pos_of_pos_right _ (by omega)
 refine ⟨by omega,?_,Nat.gcd_le_right _ (by omega)⟩
 constructor
 ·intro h
  have:=Nat.div_mul_cancel (Nat.gcd_dvd_left N D)
  rw[h,Nat.zero_mul] at this
  exact this.symm
 ·intro h
  rw[h,Nat.zero_div]
theorem cF {neg:Bool} {N D:Nat} (hN:(zf N).length<68719476736) (hD:(zf D).length<68719476736) (h0:D≠0) :
  zd Try.prog jB [bv neg,nD N,nD D] (.tuple [xk neg N D,iv 0]):=by
 obtain ⟨g0,g1,g2⟩:=P8 (N:=N) h0
 have kg:=RR (m1:=.plain) (m2:=.plain) (zw N) (zw D) (by omega) (by omega) rfl rfl
 rw[zI,zI] at kg
 have hgl:(zf (Nat.gcd N D)).length<68719476736:=by
  have h1:D<B^(zf D).length:=zE.1 (Nat.le_refl _)
  exact Nat.lt_of_le_of_lt (zE.2 (Nat.lt_of_le_of_lt g2 h1)) hD
 have hl0:¬ (zf D).length=0:=by rw[List.length_eq_zero_iff,yE]; exact h0
 have hl1:¬ zf D=[]:=by rw[yE]; exact h0
 unfold xk
 have hz:(zf (N/Nat.gcd N D)).length=0↔N=0:=by rw[List.length_eq_zero_iff,yE]; exact g1
 generalize Nat.gcd N D=g at *
 have kn:=j9 (m1:=.plain) (m2:=.plain) (zw N) (zw g) (by omega) (by omega) rfl rfl (by rw[zI]; exact g0)
 have kd:=j9 (m1:=.plain) (m2:=.plain) (zw D) (zw g) (by omega) (by omega) rfl rfl (by rw[zI]; exact g0)
 simp only[zI] at kn kd
 refine zD aam (by simp) ?_
 simp[Pu,hl0]
 refine za kg (by simp) (by simp) ?_
 simp
 refine za kn (by simp) (by simp) ?_
 simp
 refine za kd (by simp) (by simp) ?_
 cases neg
 ·simp[cS]
 ·by_cases hN0:N=0
  ·have:=hz.2 hN0
   simp[cS,hN0,yd]
  ·have:0<(zf (N/g)).length:=by omega
   simp[cS,this,hN0]
theorem qG {neg:Bool} {N D:Nat} (hN:(zf N).length<68719476736) (hD:(zf D).length<68719476736) (h0:D≠0) :
  zd Try.prog ry [bv neg,nD N,nD D] (xk neg N D):=by
 have k:=cF (neg:=neg) hN hD h0
 unfold xk at *
 generalize N/Nat.gcd N D=n at *
 generalize D/Nat.gcd N D=d at *
 refine zD aao (by simp) ?_
 simp[Pv]
 refine za k (by simp) (by simp) ?_
 simp[NT]
end Go.Proofs.Ytfmcplfbnkoglaa
