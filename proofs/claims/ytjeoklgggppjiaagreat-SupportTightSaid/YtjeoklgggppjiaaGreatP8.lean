/- What the proof rests on, part 8: Dig N0 IM GA CM N1 N1v N2 N3c Dig2 N4f N5 Dig3 Dig4 N6 N7 N8 N9 N10 Dig5 N11 N6b N12 N13 N14 F1 F3f F5 FR N3 N4 N20 N21 N22 N23. -/
import Derived.Test.YtjeoklgggppjiaaGreatP7
set_option maxRecDepth 100000
set_option maxHeartbeats 4000000
namespace Go.Dig
def B:Nat:=4294967296
theorem z8:B=4294967296:=rfl
theorem zZ:0<B:=by decide
theorem ut (k:Nat):0<B^k:=Nat.pow_pos zZ
def val:List Nat→Nat
 | []=>0
 | d::l=>d+B*val l
def ok (l:List Nat):Prop:=∀ d∈l,d<B
def zg (x:Nat):List Nat:=if x=0 then [] else x%B::zg (x/B)
termination_by x
decreasing_by exact Nat.div_lt_self (by omega) (by decide)
theorem yz:zg 0=[]:=by rw[zg]; rfl
theorem li {x:Nat} (h:x≠0):zg x=x%B::zg (x/B):=by rw[zg,if_neg h]
theorem zO (x:Nat):val (zg x)=x:=by
 induction x using Nat.strongRecOn with
 | ind x ih =>
  by_cases h:x=0
  ·subst h; rw[yz]; rfl
  ·rw[li h,val,ih _ (Nat.div_lt_self (by omega) (by decide))]
   exact Nat.mod_add_div x B
theorem zD (x:Nat):ok (zg x):=by
 induction x using Nat.strongRecOn with
 | ind x ih =>
  by_cases h:x=0
  ·subst h; rw[yz]; intro d hd; cases hd
  ·rw[li h]
   intro d hd
   rcases List.mem_cons.1 hd with rfl | hd
   ·exact Nat.mod_lt _ zZ
   ·exact ih _ (Nat.div_lt_self (by omega) (by decide)) d hd
theorem yT {x:Nat}:zg x=[]↔x=0:=by
 constructor
 ·intro h; have:=zO x; rw[h] at this; exact this.symm
 ·rintro rfl; exact yz
theorem Uc {x y:Nat} (h:zg x=zg y):x=y:=by rw[← zO x,h,zO]
theorem Mn:ok []:=fun _ h=>by cases h
theorem Ry {d:Nat} {l:List Nat}:ok (d::l)↔d<B∧ok l:=by simp[ok]
theorem QK {a b:List Nat}:ok (a++b)↔ok a∧ok b:=by
 constructor
 ·intro h; exact ⟨fun d hd=>h d (by simp[hd]),fun d hd=>h d (by simp[hd])⟩
 ·rintro ⟨h1,h2⟩ d hd
  rcases List.mem_append.1 hd with hd | hd
  ·exact h1 d hd
  ·exact h2 d hd
theorem tP {a:List Nat} (h:ok a) (k:Nat):ok (a.take k):=fun d hd=>h d (List.mem_of_mem_take hd)
theorem Rz {a:List Nat} (h:ok a) (k:Nat):ok (a.drop k):=fun d hd=>h d (List.mem_of_mem_drop hd)
theorem T8 {a:List Nat} (h:ok a) {k x:Nat} (hx:x<B):ok (a.set k x):=fun d hd=>by
 rcases List.mem_or_eq_of_mem_set hd with hd | rfl
 ·exact h d hd
 ·exact hx
theorem DJ (n:Nat):ok (List.replicate n 0):=fun d hd=>by
 rw[List.eq_of_mem_replicate hd]; exact zZ
theorem xO {a:List Nat} (h:ok a) {k:Nat} (hk:k<a.length):a[k]<B:=h _ (List.getElem_mem hk)
theorem val_append (a b:List Nat):val (a++b)=val a+B^a.length*val b:=by
 induction a with
 | nil=>simp[val]
 | cons d a ih=>simp only[List.cons_append,val,ih,List.length_cons,Nat.pow_succ,Nat.mul_add]; rw[Nat.mul_comm (B^a.length) B,Nat.mul_assoc]; omega
theorem Qd (n:Nat):val (List.replicate n 0)=0:=by
 induction n with
 | zero=>rfl
 | succ n ih=>simp[List.replicate_succ,val,ih]
theorem uy {a:List Nat} (h:ok a):val a<B^a.length:=by
 induction a with
 | nil=>simp[val]
 | cons d a ih =>
  have h1:=(Ry.1 h).1
  have h2:=ih (Ry.1 h).2
  simp only[val,List.length_cons,Nat.pow_succ]
  have:B*(val a+1)≤B*B^a.length:=Nat.mul_le_mul_left _ h2
  rw[Nat.mul_add] at this
  rw[Nat.mul_comm (B^a.length)]
  omega
theorem xh {a:List Nat} (h:ok a) {n:Nat} (hn:a.length≤n):val a<B^n :=
 Nat.lt_of_lt_of_le (uy h) (Nat.pow_le_pow_right zZ hn)
theorem v3 (a:List Nat) (k:Nat):val a=val (a.take k)+B^(min k a.length)*val (a.drop k):=by
 have:=val_append (a.take k) (a.drop k)
 rwa [List.take_append_drop,List.length_take] at this
theorem wc {a:List Nat} {k:Nat} (hk:k<a.length):val (a.take (k+1))=val (a.take k)+B^k*a[k]:=by
 rw[List.take_succ_eq_append_getElem hk,val_append,List.length_take,Nat.min_eq_left (by omega)]
 simp[val]
theorem LA {a:List Nat} (h:ok a) {k:Nat} (hk:k≤a.length):val (a.take k)=val a%B^k:=by
 have h1:=v3 a k
 have h2:=uy (tP h k)
 rw[List.length_take,Nat.min_eq_left hk] at h2
 rw[Nat.min_eq_left hk] at h1
 rw[h1,Nat.add_mul_mod_self_left,Nat.mod_eq_of_lt h2]
theorem U2 {a:List Nat} (h:ok a) {k:Nat} (hk:k≤a.length):val (a.drop k)=val a/B^k:=by
 have h1:=v3 a k
 have h2:=uy (tP h k)
 rw[List.length_take,Nat.min_eq_left hk] at h2
 rw[Nat.min_eq_left hk] at h1
 rw[h1,Nat.add_mul_div_left _ _ (ut k),Nat.div_eq_of_lt h2,Nat.zero_add]
theorem lC {a:List Nat} (h:ok a) {k:Nat} (hk:k<a.length):a[k]=val a/B^k%B:=by
 rw[← U2 h (by omega),List.drop_eq_getElem_cons hk,val,Nat.add_mul_mod_self_left,Nat.mod_eq_of_lt (xO h hk)]
def zu (n x:Nat):List Nat:=(List.range n).map fun i=>x/B^i%B
theorem zy {n x:Nat}:(zu n x).length=n:=by simp[zu]
theorem vr {n x k:Nat} (hk:k<(zu n x).length):(zu n x)[k]=x/B^k%B:=by simp[zu]
theorem yD {n x:Nat}:ok (zu n x):=fun d hd=>by
 simp only[zu,List.mem_map] at hd
 obtain ⟨i,_,rfl⟩:=hd
 exact Nat.mod_lt _ zZ
theorem ZD {a:List Nat} (h:ok a):zu a.length (val a)=a:=by
 apply List.ext_getElem
 ·simp[zu]
 ·intro i h1 h2
  rw[vr,← lC h h2]
theorem qP {n x:Nat}:zu (n+1) x=zu n x++[x/B^n%B]:=by
 simp[zu,List.range_succ]
theorem dd {n x:Nat}:val (zu n x)=x%B^n:=by
 induction n with
 | zero=>simp[zu,val,Nat.mod_one]
 | succ n ih =>
  rw[qP,val_append,ih,zy,Nat.pow_succ,Nat.mod_mul]
  simp[val]
theorem Xh {a b:List Nat} (ha:ok a) (hb:ok b) (hl:a.length=b.length) (hv:val a=val b):a=b:=by
 rw[← ZD ha,← ZD hb,hl,hv]
def wC (n k S:Nat):List Nat:=zu k S++List.replicate (n-k) 0
theorem jZ {n S:Nat}:wC n 0 S=List.replicate n 0:=by simp[wC,zu]
theorem eI {n k S:Nat} (hk:k≤n):(wC n k S).length=n:=by simp[wC,zy]; omega
theorem ZI {n S:Nat}:wC n n S=zu n S:=by simp[wC]
theorem eJ {n k S:Nat} (hk:k<n):(wC n k S).set k (S/B^k%B)=wC n (k+1) S:=by
 unfold wC
 obtain ⟨m,hm⟩:∃ m,n-k=m+1:=⟨n-k-1,by omega⟩
 have hm2:n-(k+1)=m:=by omega
 rw[hm,hm2,qP,List.set_append_right _ _ (by rw[zy]; exact Nat.le_refl _),zy,Nat.sub_self,List.replicate_succ,List.set_cons_zero]
 simp
theorem yk {n x:Nat} (h:x<B^n):val (zu n x)=x:=by rw[dd,Nat.mod_eq_of_lt h]
theorem acF {a:List Nat} (h:ok a) (hn:∀ hk:0<a.length,a[a.length-1]≠0):zg (val a)=a:=by
 induction a with
 | nil=>exact yz
 | cons d a ih =>
  have h1:=Ry.1 h
  by_cases ha:a=[]
  ·subst ha
   have:d≠0:=hn (by simp)
   have h2:(d+B*0)=d:=by omega
   simp only[val,h2]
   rw[li this,Nat.mod_eq_of_lt h1.1,Nat.div_eq_of_lt h1.1,yz]
  ·have hpos:0<a.length:=by
    rcases a with _ | ⟨x,a⟩
    ·exact absurd rfl ha
    ·simp
   have hlast:∀ hk:0<a.length,a[a.length-1]≠0:=fun _=>by
    have:=hn (by simp)
    simp only[List.length_cons,Nat.add_sub_cancel] at this
    rw[List.getElem_cons] at this
    rw[dif_neg (by omega)] at this
    exact this
   have ih:=ih h1.2 hlast
   have hne:val a≠0:=by
    intro h0
    rw[h0,yz] at ih
    exact ha ih.symm
   have h0:d+B*val a≠0:=by
    have:0<B*val a:=Nat.mul_pos zZ (by omega)
    omega
   simp only[val]
   rw[li h0,Nat.add_mul_mod_self_left,Nat.mod_eq_of_lt h1.1,Nat.add_mul_div_left _ _ zZ,Nat.div_eq_of_lt h1.1,Nat.zero_add,ih]
theorem ZE {x:Nat} (h:0<(zg x).length):(zg x)[(zg x).length-1]≠0:=by
 induction x using Nat.strongRecOn with
 | ind x ih =>
  by_cases h0:x=0
  ·subst h0; rw[yz] at h; simp at h
  ·have e:=li h0
   by_cases h1:x/B=0
   ·have e2:zg x=[x%B]:=by rw[e,h1,yz]
    simp only[e2,List.length_singleton,Nat.sub_self,List.getElem_cons_zero]
    have:x<B:=by
     rcases Nat.lt_or_ge x B with h | h
     ·exact h
     ·have:=Nat.div_pos h zZ; omega
    rw[Nat.mod_eq_of_lt this]; exact h0
   ·have hp:0<(zg (x/B)).length:=by
     rw[li h1]; simp
    have:=ih _ (Nat.div_lt_self (by omega) (by decide)) hp
    simp only[e,List.length_cons,Nat.add_sub_cancel]
    rw[List.getElem_cons,dif_neg (by omega)]
    exact this
theorem zI {x n:Nat}:(zg x).length≤n↔x<B^n:=by
 constructor
 ·intro h
  have:=xh (zD x) h
  rwa [zO] at this
 ·intro h
  rcases Nat.lt_or_ge n (zg x).length with hlt | hge
  ·exfalso
   have hp:0<(zg x).length:=by omega
   have h1:=ZE hp
   have h2:=lC (zD x) (k:=(zg x).length-1) (by omega)
   rw[zO] at h2
   have h3:x/B^((zg x).length-1)=0:=by
    apply Nat.div_eq_of_lt
    exact Nat.lt_of_lt_of_le h (Nat.pow_le_pow_right zZ (by omega))
   rw[h3] at h2
   exact h1 h2
  ·exact hge
theorem dt {x n:Nat}:n<(zg x).length↔B^n≤x:=by
 have:=@zI x n
 omega
theorem Bh {a:List Nat} (h:ok a) {n:Nat} (hn:n≤a.length) (h0:∀ k (hk:k<a.length),n≤k→a[k]=0) (h1:∀ hk:0<n,a[n-1]'(by omega)≠0):a.take n=zg (val a):=by
 have hz:a.drop n=List.replicate (a.length-n) 0:=by
  apply List.ext_getElem
  ·simp
  ·intro i hi hj
   simp only[List.getElem_drop,List.getElem_replicate]
   exact h0 _ _ (by omega)
 have hv:val a=val (a.take n):=by
  rw[v3 a n,hz,Qd]; omega
 rw[hv]
 refine (acF (tP h n) fun hk=>?_).symm
 simp only[List.length_take,Nat.min_eq_left hn] at hk ⊢
 simp only[List.getElem_take]
 exact h1 hk
theorem wo {a:List Nat} (h:ok a):(zg (val a)).length≤a.length:=zI.2 (uy h)
def itr {σ:Type} (f:Nat→σ→σ) (s:σ):Nat→σ
 | 0=>s
 | k+1=>f k (itr f s k)
theorem nw {x i:Nat} (h:i<(zg x).length):(zg x)[i]=x/B^i%B:=by
 rw[lC (zD x) h,zO]
theorem ZQ {a:List Nat} (h:ok a):(zg (val a)).length≤a.length∧(∀ i (hi:i<a.length),(zg (val a)).length≤i→a[i]=0) ∧
  (∀ (_h0:0<(zg (val a)).length) (h1:(zg (val a)).length-1<a.length),a[(zg (val a)).length-1]≠0)∧a.take (zg (val a)).length=zg (val a):=by
 have h1:=wo h
 have h2:∀ i (hi:i<a.length),(zg (val a)).length≤i→a[i]=0:=fun i hi hle=>by
  rw[lC h hi]
  have h3:=zI.1 hle
  rw[Nat.div_eq_of_lt h3]
  rfl
 have h3:∀ (h0:0<(zg (val a)).length) (h1:(zg (val a)).length-1<a.length),a[(zg (val a)).length-1]≠0:=fun h0 h4=>by
  rw[lC h h4,← nw (by omega)]
  exact ZE h0
 exact ⟨h1,h2,h3,Bh h h1 (fun k hk hle=>h2 k hk hle) (fun h0=>h3 h0 (by omega))⟩
theorem Xz {a b:List Nat} (ha:ok a) (_hb:ok b) (hl:a.length=b.length) {k:Nat} (hk:k<a.length) (heq:a.drop (k+1)=b.drop (k+1)) (hlt:a[k]<b[k]'(by omega)):val a<val b:=by
 have e1:=v3 a (k+1)
 have e2:=v3 b (k+1)
 rw[heq] at e1
 rw[Nat.min_eq_left (by omega)] at e1 e2
 have t1:=wc hk
 have t2:=wc (a:=b) (k:=k) (by omega)
 have l1:=uy (tP ha k)
 rw[List.length_take,Nat.min_eq_left (by omega)] at l1
 have:B^k*(a[k]+1)≤B^k*b[k]'(by omega):=Nat.mul_le_mul_left _ hlt
 rw[Nat.mul_add] at this
 omega
theorem eN {x y:Nat} (h:(zg x).length<(zg y).length):x<y:=by
 have h1:=zI.1 (Nat.le_refl (zg x).length)
 have h2:=dt.1 h
 omega
theorem ZB {L t R k:Nat}:(L+B^k*t+B^(k+1)*R)/B^k%B=(L/B^k+t)%B:=by
 have:L+B^k*t+B^(k+1)*R=L+B^k*(t+B*R):=by rw[Nat.pow_succ,Nat.mul_add,Nat.mul_assoc]; omega
 rw[this,Nat.add_mul_div_left _ _ (ut k),← Nat.add_assoc,Nat.add_mul_mod_self_left]
theorem ZA {L t k:Nat}:(L+B^k*t)/B^(k+1)=(L/B^k+t)/B:=by
 rw[Nat.pow_succ,← Nat.div_div_eq_div_mul,Nat.add_mul_div_left _ _ (ut k)]
def bor (x y k:Nat):Nat:=if x%B^k<y%B^k then 1 else 0
theorem Tg {x y k:Nat}:bor x y k≤1:=by unfold bor; split<;>omega
theorem cJ {x y:Nat}:bor x y 0=0:=by simp[bor,Nat.mod_one]
theorem aem {x y P:Nat} (hP:0<P) (h:y≤x):(x-y)/P=x/P-y/P-(if x%P<y%P then 1 else 0)∧y/P+(if x%P<y%P then 1 else 0)≤x/P:=by
 have e1:=Nat.div_add_mod x P
 have e2:=Nat.div_add_mod y P
 have l1:=Nat.mod_lt x hP
 have l2:=Nat.mod_lt y hP
 have hq:y/P≤x/P:=Nat.div_le_div_right h
 generalize x/P=a at *
 generalize y/P=b at *
 generalize x%P=r at *
 generalize y%P=s at *
 obtain ⟨c,rfl⟩:∃ c,a=b+c:=⟨a-b,by omega⟩
 rw[Nat.mul_add] at e1
 by_cases hlt:r<s
 ·simp only[hlt,if_true]
  rcases c with _ | c
  ·simp at e1; omega
  ·rw[Nat.mul_add,Nat.mul_one] at e1
   have:x-y=P*c+(P+r-s):=by omega
   rw[this,Nat.mul_add_div hP,Nat.div_eq_of_lt (by omega)]
   omega
 ·simp only[hlt,if_false]
  have:x-y=P*c+(r-s):=by omega
  rw[this,Nat.mul_add_div hP,Nat.div_eq_of_lt (by omega)]
  omega
theorem da {x y k:Nat} (h:y≤x):(((x-y)/B^k%B:Nat):Int)=((x/B^k%B:Nat)-(y/B^k%B:Nat)-(bor x y k:Nat):Int)%4294967296:=by
 obtain ⟨h1,h2⟩:=aem (ut k) h
 have e:(if x%B^k<y%B^k then 1 else 0)=bor x y k:=rfl
 rw[e] at h1 h2
 rw[h1]
 generalize x/B^k=a at *
 generalize y/B^k=b at *
 generalize bor x y k=c at *
 rw[z8]
 omega
theorem cI {x y k:Nat}:bor x y (k+1)=if x/B^k%B<y/B^k%B+bor x y k then 1 else 0:=by
 unfold bor
 rw[Nat.pow_succ,Nat.mod_mul,Nat.mod_mul]
 have l1:=Nat.mod_lt x (ut k)
 have l2:=Nat.mod_lt y (ut k)
 generalize x/B^k%B=a
 generalize y/B^k%B=b
 generalize x%B^k=r at *
 generalize y%B^k=s at *
 generalize B^k=P at *
 rcases Nat.lt_trichotomy a b with h | h | h
 ·have:P*(a+1)≤P*b:=Nat.mul_le_mul_left _ h
  rw[Nat.mul_add] at this
  rw[if_pos (by omega),if_pos (by omega)]
 ·subst h
  by_cases hrs:r<s
  ·rw[if_pos (by omega),if_pos (by rw[if_pos hrs]; omega)]
  ·rw[if_neg (by omega),if_neg (by rw[if_neg hrs]; omega)]
 ·have:P*(b+1)≤P*a:=Nat.mul_le_mul_left _ h
  rw[Nat.mul_add] at this
  rw[if_neg (by omega),if_neg (by split<;>omega)]
theorem E6 {x i:Nat}:(zg x)[i]?.getD 0=x/B^i%B:=by
 by_cases h:i<(zg x).length
 ·rw[List.getElem?_eq_getElem h,Option.getD_some,nw h]
 ·rw[List.getElem?_eq_none (by omega),Option.getD_none]
  have:=zI.1 (Nat.le_of_not_lt h)
  rw[Nat.div_eq_of_lt this]; rfl
end Go.Dig

namespace Go.Proofs.YtjeoklgggppjiaaGreat
open Go Go.Am Go.Dig
theorem zn {k:Nat} (h:k<4611686018427387904):IntKind.i64.wrap ((k:Int)+1)=((k+1:Nat):Int):=by
 rw[wrap64]<;>omega
abbrev uv (n:Nat):AV:=.val (.int .u32 (n:Int))
abbrev zH (a:List Nat):List (List AV):=a.map fun d=>[uv d]
abbrev nl (m:Am.Mode) (a:List Nat):AV:=.list 1 m (zH a)
abbrev nD (x:Nat):AV:=nl .plain (zg x)
theorem wd {sz:Nat} {rows:List (List AV)}:AV.imp (.list sz .full rows) (.list sz .plain rows):=fun I w v h=>by
 cases h with
 | listNil _ _ a cap hm ho=>exact .listNil _ _ a cap (by simp) (by simp)
 | list _ _ _ b o cap g hcap hm ho hrow hcell hc=>exact .list _ _ _ b o cap g hcap (by simp) (by simp) hrow hcell hc
theorem NT {sz:Nat} {rows:List (List AV)}:AV.imp (Mr sz rows) (.list sz .plain rows):=by
 unfold Mr
 by_cases h:rows=[]
 ·subst h; simp only[if_true]; exact AV.imp_nil rfl
 ·simp only[h,if_false]; exact AV.imp.refl
theorem w32 (n:Nat):IntKind.u32.wrap (n:Int)=((n%B:Nat):Int):=by
 rw[IntKind.wrap_u32,z8]; omega
theorem w64 {n:Nat} (h:n<18446744073709551616):IntKind.u64.wrap (n:Int)=n:=IntWalk.u64_in n (by omega)
theorem vW {n:Int} (h:0≤n) (h2:n<18446744073709551616):IntKind.u64.wrap n=n:=IntWalk.u64_in n (by omega)
abbrev yI:AV:=.list 0 .full []
theorem Da {sz:Nat} {m:Am.Mode} {rows:List (List AV)} (h:stm m=m):AV.imp (.list sz m rows) (.list sz .plain rows):=by
 cases m with
 | plain=>exact AV.imp.refl
 | full=>exact wd
 | own l=>cases h
def lE (xs ys:List AV):Prop:=xs.length=ys.length∧∀ (i:Nat) x y,xs[i]?=some x→ys[i]?=some y→AV.imp x y
theorem qj:lE [] []:=⟨rfl,fun i x y h=>by simp at h⟩
theorem z3 {x y:AV} {xs ys:List AV} (h:AV.imp x y) (hs:lE xs ys):lE (x::xs) (y::ys) :=
 ⟨by simp[hs.1],fun i a b ha hb=>by
  cases i with
  | zero=>simp only[List.getElem?_cons_zero,Option.some.injEq] at ha hb; subst ha hb; exact h
  | succ i=>simp only[List.getElem?_cons_succ] at ha hb; exact hs.2 i a b ha hb⟩
theorem jg {xs:List AV}:lE xs xs:=⟨rfl,fun i x y h h'=>by rw[h] at h'; cases h'; exact AV.imp.refl⟩
theorem tG {α:Type} {l:List α} {i:Nat} (h:i<l.length):l[i]?=some l[i]:=by simp[h]
theorem gp {xs ys:List AV} (h:lE xs ys):AV.imp (.agg xs) (.agg ys):=fun I w v hv=>by
 cases hv with
 | agg _ vs hs h1 hc =>
  refine .agg _ vs (by rw[hs,h.1]) h1 fun i c hi=>?_
  have:i<xs.length:=by rw[h.1]; exact (List.getElem?_eq_some_iff.1 hi).1
  exact h.2 i _ c (tG this) hi _ _ _ (hc i _ (tG this))
theorem acZ {xs ys:List AV} (h:lE xs ys):AV.imp (.tuple xs) (.tuple ys):=fun I w v hv=>by
 cases hv with
 | tuple _ vs hs hc =>
  refine .tuple _ vs (by rw[hs,h.1]) fun i c hi=>?_
  have:i<xs.length:=by rw[h.1]; exact (List.getElem?_eq_some_iff.1 hi).1
  exact h.2 i _ c (tG this) hi _ _ _ (hc i _ (tG this))
def At (xs ys:List (List AV)):Prop:=xs.length=ys.length∧∀ (i:Nat) x y,xs[i]?=some x→ys[i]?=some y→lE x y
theorem As {sz:Nat} {m:Am.Mode} {xs ys:List (List AV)} (hm:stm m=m) (h:At xs ys):AV.imp (.list sz m xs) (.list sz .plain ys):=fun I w v hv=>by
 have hv:=Da hm I w v hv
 cases hv with
 | listNil _ _ a cap _ _ =>
  have:ys=[]:=List.eq_nil_of_length_eq_zero (by rw[← h.1]; rfl)
  subst this
  exact .listNil _ _ _ _ (fun h=>by cases h) (fun _ h=>by cases h)
 | list _ _ _ b o cap g hcap hm' ho hrow hcell hc =>
  have get:∀ (i:Nat) r,ys[i]?=some r→∃ r0,xs[i]?=some r0∧lE r0 r:=fun i r hi=>by
   have:i<xs.length:=by rw[h.1]; exact (List.getElem?_eq_some_iff.1 hi).1
   exact ⟨xs[i],tG this,h.2 i _ r (tG this) hi⟩
  rw[h.1]
  refine .list _ _ _ b o cap g (by rw[← h.1]; exact hcap) (fun h=>by cases h) (fun _ h=>by cases h) (fun i r hi=>?_) (fun i r j c hi hj=>?_) fun i r j c hi hj=>?_
  ·obtain ⟨r0,h1,h2⟩:=get i r hi
   rw[← h2.1]; exact hrow i r0 h1
  ·obtain ⟨r0,h1,h2⟩:=get i r hi
   have hj0:j<r0.length:=by rw[h2.1]; exact (List.getElem?_eq_some_iff.1 hj).1
   exact hcell i r0 j _ h1 (tG hj0)
  ·obtain ⟨r0,h1,h2⟩:=get i r hi
   have hj0:j<r0.length:=by rw[h2.1]; exact (List.getElem?_eq_some_iff.1 hj).1
   exact h2.2 j _ c (tG hj0) hj _ _ _ (hc i r0 j _ h1 (tG hj0))
noncomputable def apc (tok sz:Nat) (rows:List (List AV)):AV:=if rows.length=0 then yI else .list sz (.own tok) rows
noncomputable def plc (sz:Nat) (rows:List (List AV)):AV:=if rows.length=0 then yI else .list sz .plain rows
section
variable {tok sz l k:Nat} {rows:List (List AV)}
theorem nK (h:rows.length=0):apc tok sz rows=yI:=if_pos h
theorem ti (h:¬ rows.length=0):apc tok sz rows=.list sz (.own tok) rows:=if_neg h
@[simp] theorem ajD:rf (apc tok sz rows)=true:=by unfold apc; split<;>rfl
@[simp] theorem Ed:strip (apc tok sz rows)=plc sz rows:=by unfold apc plc; split<;>rfl
@[simp] theorem ahV:cellsOf (apc tok sz rows)=some [apc tok sz rows]:=by unfold apc; split<;>rfl
@[simp] theorem ai2 {σ:Nat→Option ze}:wM σ (apc tok sz rows)=some (plc sz rows):=by unfold apc plc; split<;>rfl
@[simp] theorem aiw:zT k (apc tok sz rows)=false:=by unfold apc; split<;>rfl
theorem rR (h:¬ tok=l):dg l (apc tok sz rows)=apc tok sz rows:=by
 unfold apc
 split
 ·simp
 ·simp only[dg]; rw[if_neg h]
@[simp] theorem ahW:cellsOf (plc sz rows)=some [plc sz rows]:=by unfold plc; split<;>rfl
@[simp] theorem akm:rf (plc sz rows)=true:=by unfold plc; split<;>rfl
@[simp] theorem aih:strip (plc sz rows)=plc sz rows:=by unfold plc; split<;>rfl
@[simp] theorem akl:dg l (plc sz rows)=plc sz rows:=by unfold plc; split<;>simp
@[simp] theorem aiZ:zT k (plc sz rows)=false:=by unfold plc; split<;>rfl
theorem qY {rows':List (List AV)} (h:At rows rows'):AV.imp (plc sz rows) (.list sz .plain rows'):=by
 unfold plc
 split
 ·rename_i h0
  have:rows'=[]:=List.eq_nil_of_length_eq_zero (by rw[← h.1]; exact h0)
  subst this
  exact AV.imp_nil rfl
 ·exact As rfl h
end
@[simp] theorem ahZ {tok sz:Nat} {rows:List (List AV)} {K:AV→Option ze→Prop}:qQ false K (apc tok sz rows)=K (.val (.int .i64 rows.length)) none:=by
 unfold apc; split
 ·rename_i h; rw[h]; simp[qQ]
 ·simp[qQ]
theorem du {tok sz i:Nat} {rows:List (List AV)} {K:AV→Option ze→Prop} (h:i<rows.length):wY sz [apc tok sz rows,iv i] K=K (.ro rows[i]) none:=by
 have h0:¬ rows.length=0:=by omega
 rw[ti h0]
 have h1:(i:Int)<rows.length:=by omega
 simp[wY,h1,h]
theorem TG {sz i:Nat} {m:Am.Mode} {rows:List (List AV)} {K:AV→Option ze→Prop} (h:i<rows.length):wY sz [.list sz m rows,iv i] K=K (.ro rows[i]) none:=by
 have h1:(i:Int)<rows.length:=by omega
 simp[wY,h1,h]
theorem t5 {rows:List (List AV)}:At rows rows:=⟨rfl,fun i x y h h'=>by rw[h] at h'; cases h'; exact jg⟩
theorem QZ {f:FuncId} {args:List AV} {r r':AV} (h:zd Tryz.prog f args r) (hr:AV.imp r r'):zd Tryz.prog f args r':=fun I vs w h1 h2 h3 =>
 Calls.mono (h I vs w h1 h2 h3) fun _ _ ⟨v,e,hb,hv⟩=>⟨v,e,hb,hr _ _ _ hv⟩
theorem ny {f:FuncId} {xs ys:List AV} {r:AV} (h:zd Tryz.prog f ys r) (hi:lE xs ys):zd Tryz.prog f xs r:=fun I vs w h1 h2 h3 =>
 h I vs w h1 (by rw[h2,hi.1]) fun i y hy=>by
  have hx:i<xs.length:=by rw[hi.1]; exact (List.getElem?_eq_some_iff.1 hy).1
  exact hi.2 i _ y (tG hx) hy _ _ _ (h3 i _ (tG hx))
theorem abL {a a':AV} (h:AV.imp a a'):lE [a] [a']:=z3 h qj
theorem GN {a a' b b':AV} (h:AV.imp a a') (h2:AV.imp b b'):lE [a,b] [a',b']:=z3 h (z3 h2 qj)
theorem ahd {a a' b b' c c':AV} (h:AV.imp a a') (h2:AV.imp b b') (h3:AV.imp c c'):lE [a,b,c] [a',b',c']:=z3 h (z3 h2 (z3 h3 qj))
theorem z9 {P:Program} {f:FuncId} {xs:List AV} {s:St} {dst:Option Nat} {K:St→Prop} (h:z0 P f xs s fun r s'=>s'.base=s.base∧K (s'.put dst r)):tD P f xs s dst K:=h
def EO (f:FuncId) (ds:List Nat) (s:St) (d:Option Nat) (K:St→Prop) (xs:List AV):Prop :=
 tF s.sto s.base ds∧∀ D:List Nat,z0 Tryz.prog f xs {s with env:=del D s.env} fun r s'=>∃ A:St,s'={A with env:=del D A.env}∧A.base=s.base∧tF A.sto A.base ds∧K (A.put d r)
def afm (f:FuncId) (xs:List Opd) (s:St) (d:Option Nat) (K:St→Prop):Prop :=
 ∀ D:List Nat,(∀ x∈xs,ev (s.mask D) x=ev s x)→z0 Tryz.prog f (xs.map (ev s)) (s.mask D) fun r s'=>∃ A:St,s'=A.mask D∧A.base=s.base∧(∀ e,lk s.sto (s.base+e)=none→lk A.sto (s.base+e)=none)∧K (A.put d r)
@[simp] theorem aic {f:FuncId} {ds:List Nat} {xs:List Opd} {d:Option Nat} {os:List zh} {s:St} {KS:St→Prop} :
  zj Tryz.prog (⟨d,.callM f ds,xs,none⟩::os) s KS=(yJ Tryz.prog f=true∧(EO f ds s d (fo Tryz.prog os KS) (xs.map (ev s))∨afm f xs s d (fo Tryz.prog os KS))):=propext Iff.rfl
theorem AA {M:Nat} {D:List Nat} {env:List (Nat × AV)} (h:yH M env):yH M (del D env):=by
 intro p hp
 induction env with
 | nil=>cases hp
 | cons q env ih =>
  obtain ⟨m,x⟩:=q
  simp only[del] at hp
  split at hp
  ·exact ih (fun p hp=>h p (by simp[hp])) hp
  ·rcases List.mem_cons.1 hp with rfl | hp
   ·exact h _ (by simp)
   ·exact ih (fun p hp=>h p (by simp[hp])) hp
theorem mF {M:Nat} {n:Int}:Am.low M (iv n)=true:=rfl
theorem sU {M:Nat} {b:Bool}:Am.low M (bv b)=true:=rfl
theorem xz {M k off:Nat}:Am.low M (.ptr k off)=decide (k<M):=rfl
theorem Xy {P:Program} {f:FuncId} {xs args:List AV} {s:St} {r:AV} {K:AV→St→Prop} (h:zd P f args r) (hs:yu (wM (lk s.sto)) xs=some args)
  (hp:xs.any sS=true→pf r=true) (hK:K r s):z0 P f xs s K:=by
 intro F a w I β lam hI vs hv hR
 obtain ⟨hl,hg⟩:=bH hs
 have done:∀ (J:Nat→Nat→Prop),(∀ b o,J b o→b<w.heap.size)→(∀ i x,args[i]?=some x→R0 J w x (vs.getD i undef)) →
   (∀ (w':World) (v:Value),R0 (fun b o=>(J b o∨w.heap.size≤b)∧b<w'.heap.size) w' r v→w.heap.size≤w'.heap.size→R0 (fun b o=>I b o∨(w.heap.size≤b∧b<w'.heap.size)) w' r v) →
   Calls P f vs w fun e w'=>∃ v,e=.returned v∧∃ r s' I' β' lam',K r s'∧Inv F s'.look (lk s'.sto) I' β' lam' a w'∧R I' w' β' lam' r v:=by
  intro J hJ hJR hres
  refine Calls.mono (h J vs w hJ (by omega) hJR) fun e w' ⟨v,he,hb,hr⟩=>⟨v,he,r,s,fun b o=>I b o∨(w.heap.size≤b∧b<w'.heap.size),β,lam,hK,?_,.base (hres w' v hr hb.size)⟩
  exact hI.grow hb (fun _ _ h=>.inl h) (fun _ _ h=>h)
 by_cases href:xs.any sS=true
 ·refine done (Seen I β lam) (fun b o h=>?_) (fun i x hi=>?_) (fun w' v hr _=>abP hr (hp href))
  ·rcases h with h | h
   ·exact hI.Isub _ _ h
   ·rcases h with ⟨k,h⟩ | ⟨l,p,cap,sz,h,h0⟩
    ·exact (hI.bnew _ _ h).2.1
    ·exact hI.hlm _ _ _ _ _ h h0
  ·obtain ⟨x',hx',hsn⟩:=hg i x hi
   exact (gw hI.hread hI.usto hsn (hR i x' hx')).1
 ·refine done I hI.Isub (fun i x hi=>?_) (fun w' v hr hle=>hr.mono (fun b o hb=>?_) (fun _ _ _ _ h=>h))
  ·obtain ⟨x',hx',hsn⟩:=hg i x hi
   refine (gw hI.hread hI.usto hsn (hR i x' hx')).2 ?_
   have:=List.any_eq_false.1 (by simpa using href) x' (List.mem_iff_getElem?.2 ⟨i,hx'⟩)
   simpa using this
  ·rcases hb.1 with h | h
   ·exact .inl h
   ·exact .inr ⟨h,hb.2⟩
theorem Ns {f:FuncId} {ds:List Nat} {xs args:List AV} {s:St} {d:Option Nat} {r:AV} {K:St→Prop} {Q:Prop} (h:zd Tryz.prog f args r) (hf:tF s.sto s.base ds) (hs:yu (wM (lk s.sto)) xs=some args)
  (hp:xs.any sS=true→pf r=true) (hK:K (s.put d r)):EO f ds s d K xs∨Q :=
 .inl ⟨hf,fun _=>Xy h hs hp ⟨s,rfl,rfl,hf,hK⟩⟩
def Lg (m:Am.Mode) (a:List Nat) (k:Nat):St:={env:=[(0,nl m a),(3,iv ((a.length-k:Nat):Int))],sto:=[]}
theorem y8 {m:Am.Mode} {a:List Nat} (ha:ok a) (hn:a.length<1099511627776):zd Tryz.prog xA [nl m a] (nD (val a)):=by
 obtain ⟨h1,h2,h3,h4⟩:=ZQ ha
 refine vc abs (by simp) ?_
 simp[P3]
 generalize hT:(zg (val a)).length=T at h1 h2 h3 h4
 refine ab9 (Lg m a) (a.length-T) ?_ (fun k hk=>?_) ?_
 ·simp[Lg]
 ·have hp:0<a.length-k:=by omega
  have hp2:k<a.length:=by omega
  have w:IntKind.i64.wrap (((a.length-k:Nat):Int)-1)=((a.length-(k+1):Nat):Int):=by rw[wrap64]<;>omega
  have hlt:a.length-(k+1)<a.length:=by omega
  have hz:=h2 (a.length-(k+1)) hlt (by omega)
  simp[l0,Lg,hp,w,hlt,hz]
 ·have e:a.length-(a.length-T)=T:=by omega
  rcases T with _ | T
  ·have h5:zg (val a)=[]:=by rw[← h4]; rfl
   simp[l0,Lg,dl,UA]
   rw[show nD (val a)=.list 1 .plain [] by simp only[nD,nl,zH,h5,List.map_nil]]
   exact wd
  ·have w:IntKind.i64.wrap (((T+1:Nat):Int)-1)=(T:Int):=by rw[wrap64]<;>omega
   have hz:=h3 (by omega) (by omega)
   simp only[Nat.add_sub_cancel] at hz
   have hlt:T<a.length:=by omega
   have ht:List.take (T+1) (zH a)=zH (zg (val a)):=by rw[← h4]; simp
   have en:((T:Int)+1).toNat=T+1:=by omega
   have e0:(0:Int)≤(T:Int)+1:=by omega
   have e1:(T:Int)+1≤a.length:=by omega
   simp at w
   simp[l0,Lg,e,w,hlt,hz,e0,e1,en,dl,UA]
   first | (rw[ht]; exact wd) | (simp only[← List.map_take]; rw[h4]; exact wd)
theorem X0 {m:Am.Mode} {a:List Nat} (ha:ok a) (hn:a.length<1099511627776):zd Tryz.prog fQ [nl m a] (bv (decide (a=zg (val a)))):=by
 refine zx Bb (by simp) ?_
 simp[Qk]
 refine za (y8 (m:=stm m) ha hn) (by simp[pd]) (by simp) ?_
 obtain ⟨h1,h2,h3,h4⟩:=ZQ ha
 have:decide ((((zg (val a)).length:Nat):Int)=(a.length:Int))=decide (a=zg (val a)):=by
  by_cases h:(zg (val a)).length=a.length
  ·have:a=zg (val a):=by rw[← h4,h]; simp
   simp[← this]
  ·have:a≠zg (val a):=fun e=>h (congrArg List.length e.symm)
   have h':¬ (((zg (val a)).length:Nat):Int)=(a.length:Int):=by omega
   simp[this]
   omega
 simp[QS]
 simpa using this
theorem LD (n:Int):IntKind.u64.wrap n=n%18446744073709551616:=by simp[IntKind.wrap,IntKind.bits,IntKind.signed]
abbrev ya (n:Nat):AV:=.val (.int .u64 (n:Int))
theorem aj (n:Nat):(n:Int).fdiv (2^min 32 IntKind.u64.bits)=((n/B:Nat):Int):=by
 have:min 32 IntKind.u64.bits=32:=rfl
 rw[this,Int.fdiv_eq_ediv_of_nonneg _ (by decide),z8]
 rfl
theorem xg {a:List Nat} {k d:Nat}:(zH a).set k [uv d]=zH (a.set k d):=by simp[List.map_set]
theorem qy {b:List Nat} {k:Nat} (h:b.length≤k):val (b.take k)=val b:=by rw[List.take_of_length_le h]
theorem XZ {a:List Nat} (h:ok a) (k:Nat):val (a.take k)<B^k:=xh (tP h k) (by simp; omega)
def low (a b:List Nat) (k:Nat):Nat:=val (a.take k)+val (b.take k)
def car (a b:List Nat) (k:Nat):Nat:=low a b k/B^k
theorem TA {a b:List Nat} (ha:ok a) (hb:ok b) (k:Nat):car a b k≤1:=by
 have h1:=XZ ha k
 have h2:=XZ hb k
 have:low a b k<2*B^k:=by unfold low; omega
 have:=Nat.div_lt_of_lt_mul (Nat.mul_comm 2 _▸this)
 unfold car
 omega
theorem Ua {a b:List Nat}:car a b 0=0:=by simp[car,low,val]
theorem QE {a b:List Nat} {k t R:Nat} (h:low a b (k+1)=low a b k+B^k*t) (hs:val a+val b=low a b (k+1)+B^(k+1)*R) :
  (val a+val b)/B^k%B=(car a b k+t)%B∧car a b (k+1)=(car a b k+t)/B:=by
 constructor
 ·rw[hs,h,ZB]; rfl
 ·unfold car; rw[h,ZA]
theorem AC (a b:List Nat) (k:Nat) (ha:k≤a.length) (hb:k≤b.length∨b.length≤k):∃ R,val a+val b=low a b k+B^k*R:=by
 have e1:=v3 a k
 rw[Nat.min_eq_left ha] at e1
 rcases hb with hb | hb
 ·have e2:=v3 b k
  rw[Nat.min_eq_left hb] at e2
  exact ⟨val (a.drop k)+val (b.drop k),by unfold low; rw[Nat.mul_add]; omega⟩
 ·exact ⟨val (a.drop k),by unfold low; rw[qy hb]; omega⟩
theorem S8 {a b:List Nat} {k:Nat} (hk:k<a.length) (hb:k<b.length∨b.length≤k):∃ t,t=car a b k+(a[k]+(b[k]?.getD 0))∧(val a+val b)/B^k%B=t%B∧car a b (k+1)=t/B:=by
 refine ⟨_,rfl,?_⟩
 obtain ⟨R,hR⟩:=AC a b (k+1) (by omega) (by omega)
 rcases hb with hb | hb
 ·rw[List.getElem?_eq_getElem hb,Option.getD_some]
  exact QE (by unfold low; rw[wc hk,wc hb,Nat.mul_add]; omega) hR
 ·rw[List.getElem?_eq_none hb,Option.getD_none]
  exact QE (by unfold low; rw[wc hk,qy hb,qy (show b.length≤k+1 by omega)]; simp; omega) hR
def kH (m1 m2:Am.Mode) (a b:List Nat) (k:Nat):St :=
 {env:=[(0,nl m1 a),(1,nl m2 b),(5,.sl 19 1 0 (a.length+1)),(6,ya (car a b k)),(21,iv a.length),(22,iv k)],sto:=[(19,.arr 1 (zH (wC (a.length+1) k (val a+val b))))]}
theorem PR {m1 m2:Am.Mode} {a b:List Nat} (ha:ok a) (hb:ok b) (hl:b.length≤a.length) (hn:a.length<1099511627775) :
  awp Tryz.prog (.loop mu) (kH m1 m2 a b 0) (wP 0 (rm Tryz.prog cO (b8 RD (nD (val a+val b))))):=by
 have hS:val a+val b<B^(a.length+1):=by
  have h1:=uy ha
  have h2:=xh hb hl
  rw[Nat.pow_succ,z8] at *
  omega
 refine zr (kH m1 m2 a b) (fun _=>True) a.length (by simp[kH]) trivial (fun k hk _=>?_) (fun _=>?_)
 ·have e:(k:Int)<a.length:=by omega
  have hc:=TA ha hb k
  have hak:=xO ha hk
  have hfl:=eI (n:=a.length+1) (k:=k) (S:=val a+val b) (by omega)
  have hfk:k<(wC (a.length+1) k (val a+val b)).length:=by omega
  have hset:=eJ (n:=a.length+1) (k:=k) (S:=val a+val b) (by omega)
  have e1:IntKind.u64.wrap ((a[k]:Nat):Int)=(a[k]:Nat):=w64 (by rw[z8] at hak; omega)
  obtain ⟨t,ht,g1,g2⟩:=S8 (a:=a) (b:=b) hk (by omega)
  rw[g1] at hset
  obtain ⟨d,hd⟩:∃ d,t%B=d:=⟨_,rfl⟩
  obtain ⟨q,hq⟩:∃ q,t/B=q:=⟨_,rfl⟩
  have f1:IntKind.u32.wrap (t:Int)=(d:Int):=by rw[w32,hd]
  have f2:(t:Int).fdiv (2^min 32 IntKind.u64.bits)=(q:Int):=by rw[aj,hq]
  rw[hd] at hset
  have hset':(zH (wC (a.length+1) k (val a+val b))).set k [uv d]=zH (wC (a.length+1) (k+1) (val a+val b)):=by rw[xg,hset]
  rw[hq] at g2
  rw[z8] at hak
  have e4:IntKind.u64.wrap ((a[k]:Int)+(car a b k:Int))=((a[k]:Int)+(car a b k:Int)):=by rw[vW]<;>omega
  by_cases hkb:k<b.length
  ·have e2:(k:Int)<b.length:=by omega
   have hbk:=xO hb hkb
   rw[z8] at hbk
   rw[List.getElem?_eq_getElem hkb,Option.getD_some] at ht
   have e3:IntKind.u64.wrap ((b[k]:Nat):Int)=(b[k]:Nat):=w64 (by omega)
   have e5:IntKind.u64.wrap ((a[k]:Int)+(car a b k:Int)+(b[k]:Int))=(t:Int):=by rw[vW]<;>omega
   simp[mu,kH,e,e2,hk,hkb,e1,e3,e4,e5,wB,hfk,splice,f1,f2,hset',g2,zn (show k<4611686018427387904 by omega)]
   omega
  ·have e2:¬ (k:Int)<b.length:=by omega
   rw[List.getElem?_eq_none (by omega),Option.getD_none] at ht
   have e5:(a[k]:Int)+(car a b k:Int)=(t:Int):=by omega
   rw[e5] at e4
   simp[mu,kH,e,e2,hk,e1,e5,e4,wB,hfk,splice,f1,f2,hset',g2,zn (show k<4611686018427387904 by omega)]
   omega
 ·have hfl:=eI (n:=a.length+1) (k:=a.length) (S:=val a+val b) (by omega)
  have hfk:a.length<(wC (a.length+1) a.length (val a+val b)).length:=by omega
  have hset:=eJ (n:=a.length+1) (k:=a.length) (S:=val a+val b) (by omega)
  have hc:=TA ha hb a.length
  have hcl:(val a+val b)/B^a.length%B=car a b a.length:=by
   have h1:car a b a.length=(val a+val b)/B^a.length:=by
    unfold car low; rw[qy (Nat.le_refl _),qy hl]
   rw[← h1,Nat.mod_eq_of_lt (by rw[z8]; omega)]
  rw[hcl] at hset
  have hset':(zH (wC (a.length+1) a.length (val a+val b))).set a.length [uv (car a b a.length)]=zH (zu (a.length+1) (val a+val b)):=by rw[xg,hset,ZI]
  have f1:IntKind.u32.wrap (car a b a.length:Int)=(car a b a.length:Int):=IntWalk.u32_in _ (by omega)
  have hle:a.length+1≤(zu (a.length+1) (val a+val b)).length:=by rw[zy]; exact Nat.le_refl _
  have htk:(zH (zu (a.length+1) (val a+val b))).take (a.length+1)=zH (zu (a.length+1) (val a+val b)):=List.take_of_length_le (by rw[List.length_map,zy]; exact Nat.le_refl _)
  have key:=y8 (m:=.plain) (a:=zu (a.length+1) (val a+val b)) yD (by rw[zy]; omega)
  rw[yk hS] at key
  simp[mu,kH,cO,hfk,splice,f1,hset',xf,vU,htk,hle]
  refine ⟨by omega,?_⟩
  refine za key (by simp) (by simp) ?_
  simp[RD]
  exact AV.imp.refl
theorem fU {m1 m2:Am.Mode} {a b:List Nat} (ha:ok a) (hb:ok b) (hna:a.length<1099511627775) (hnb:b.length<1099511627775):zd Tryz.prog gd [nl m1 a,nl m2 b] (nD (val a+val b)):=by
 refine vc aey (by simp) ?_
 by_cases h:a.length<b.length
 ·have h':(a.length:Int)<b.length:=by omega
  have w:IntKind.i64.wrap ((b.length:Int)+1)=(b.length:Int)+1:=wrap64 (by omega) (by omega)
  have key:=PR (m1:=m2) (m2:=m1) hb ha (by omega) (by omega)
  rw[Nat.add_comm (val b)] at key
  have e1:((b.length:Int)+1).toNat=b.length+1:=by omega
  simp[Rd,h',w,eMk,e1]
  refine ⟨by omega,by omega,by omega,?_⟩
  have e2:kH m2 m1 b a 0={env:=[(0,nl m2 b),(1,nl m1 a),(5,.sl 19 1 0 (b.length+1)),(6,ya 0),(21,iv b.length),(22,iv 0)],sto:=[(19,.arr 1 (List.replicate (b.length+1) [uv 0]))]}:=by
   simp[kH,Ua,jZ]
  rw[e2] at key
  exact key
 ·have h':¬ (a.length:Int)<b.length:=by omega
  have w:IntKind.i64.wrap ((a.length:Int)+1)=(a.length:Int)+1:=wrap64 (by omega) (by omega)
  have key:=PR (m1:=m1) (m2:=m2) ha hb (by omega) (by omega)
  have e1:((a.length:Int)+1).toNat=a.length+1:=by omega
  simp[Rd,h',w,eMk,e1]
  refine ⟨by omega,by omega,by omega,?_⟩
  have e2:kH m1 m2 a b 0={env:=[(0,nl m1 a),(1,nl m2 b),(5,.sl 19 1 0 (a.length+1)),(6,ya 0),(21,iv a.length),(22,iv 0)],sto:=[(19,.arr 1 (List.replicate (a.length+1) [uv 0]))]}:=by
   simp[kH,Ua,jZ]
  rw[e2] at key
  exact key
def yU (x y:Nat):Int:=if x<y then -1 else if y<x then 1 else 0
def Xa (x y:Nat) (k:Nat):St:={env:=[(0,nD x),(1,nD y),(22,iv (zg x).length),(23,iv k)],sto:=[]}
theorem jd {m1 m2:Am.Mode} {a b:List Nat} (ha:ok a) (hb:ok b) (hna:a.length<1099511627776) (hnb:b.length<1099511627776):zd Tryz.prog nI [nl m1 a,nl m2 b] (iv (yU (val a) (val b))):=by
 refine zx aez (by simp) ?_
 simp[KO]
 refine za (y8 (m:=stm m1) ha hna) (by simp[pd]) (by simp) ?_
 simp
 refine za (y8 (m:=stm m2) hb hnb) (by simp[pd]) (by simp) ?_
 have lx:=wo ha
 have ly:=wo hb
 generalize val a=x at *
 generalize val b=y at *
 by_cases hl:(zg x).length=(zg y).length
 ·have hl':(((zg x).length:Nat):Int)=((zg y).length:Int):=by omega
  simp[hl']
  refine zr (Xa x y) (fun k=>(zg x).drop ((zg x).length-k)=(zg y).drop ((zg x).length-k)) (zg x).length (by simp[Xa,hl]) (by simp[hl]) (fun k hk hi=>?_) (fun hi=>?_)
  ·have e:(k:Int)<(zg x).length:=by omega
   have w:IntKind.i64.wrap (((zg x).length:Int)-1-k)=(((zg x).length-1-k:Nat):Int):=by rw[wrap64]<;>omega
   have w0:IntKind.i64.wrap (((zg x).length:Int)-1)=((zg x).length:Int)-1:=by rw[wrap64]<;>omega
   obtain ⟨j,hj⟩:∃ j,(zg x).length-1-k=j:=⟨_,rfl⟩
   rw[hj] at w
   have hjx:j<(zg x).length:=by omega
   have hjy:j<(zg y).length:=by omega
   have ejx:(j:Int)<(zg x).length:=by omega
   have ejy:(j:Int)<(zg y).length:=by omega
   have hd:(zg x).drop (j+1)=(zg y).drop (j+1):=by
    have:j+1=(zg x).length-k:=by omega
    rw[this]; exact hi
   rcases Nat.lt_trichotomy (zg x)[j] (zg y)[j] with h | h | h
   ·have hlt:=Xz (zD x) (zD y) hl hjx hd h
    rw[zO,zO] at hlt
    have hc:yU x y=-1:=by simp[yU,hlt]
    simp[mv,Xa,e,w0,w,hjx,hjy,ejx,ejy,h,gr,hc]
   ·have hnext:(zg x).drop ((zg x).length-(k+1))=(zg y).drop ((zg x).length-(k+1)):=by
     have:(zg x).length-(k+1)=j:=by omega
     rw[this,List.drop_eq_getElem_cons hjx,List.drop_eq_getElem_cons hjy,h,hd]
    simp[mv,Xa,e,w0,w,hjx,hjy,ejx,ejy,h,zn (show k<4611686018427387904 by omega),hnext]
   ·have hlt:=Xz (zD y) (zD x) hl.symm hjy hd.symm h
    rw[zO,zO] at hlt
    have hn:¬ (zg x)[j]<(zg y)[j]:=by omega
    have hc:yU x y=1:=by
     have:¬ x<y:=by omega
     simp[yU,hlt,this]
    simp[mv,Xa,e,w0,w,hjx,hjy,ejx,ejy,h,hn,gr,hc]
  ·have hxy:x=y:=Uc (by simpa using hi)
   have hc:yU x y=0:=by simp[yU,hxy]
   simp[mv,Xa,Tm,gr,hc]
 ·have hl':¬ (((zg x).length:Nat):Int)=((zg y).length:Int):=by omega
  by_cases hlt:(zg x).length<(zg y).length
  ·have hlt':(((zg x).length:Nat):Int)<((zg y).length:Int):=by omega
   have hc:yU x y=-1:=by simp[yU,eN hlt]
   simp[hl',hlt',gr,hc]
  ·have hlt':¬ (((zg x).length:Nat):Int)<((zg y).length:Int):=by omega
   have h2:=eN (show (zg y).length<(zg x).length by omega)
   have hc:yU x y=1:=by
    have:¬ x<y:=by omega
    simp[yU,h2,this]
   simp[hl',hlt',gr,hc]
theorem abC (u v:Int):IntKind.u64.wrap (IntKind.u64.wrap u-v)=IntKind.u64.wrap (u-v):=by
 rw[LD,LD,LD]; omega
theorem PJ (u:Int):IntKind.u32.wrap (IntKind.u64.wrap u)=u%4294967296:=by
 rw[LD,IntKind.wrap_u32]; omega
theorem PF {u:Int} (h1:-8589934592≤u) (h2:u<8589934592):(IntKind.u64.wrap u).fdiv (2^min 63 IntKind.u64.bits)=if u<0 then 1 else 0:=by
 have:min 63 IntKind.u64.bits=63:=rfl
 rw[this,Int.fdiv_eq_ediv_of_nonneg _ (by decide),LD]
 have:(2:Int)^63=9223372036854775808:=by decide
 rw[this]
 split<;>omega
end Go.Proofs.YtjeoklgggppjiaaGreat

namespace Go.Dig
theorem Xi {o:List Nat} {j d:Nat} (hj:j<o.length):val (o.set j d)+B^j*o[j]=val o+B^j*d:=by
 induction o generalizing j with
 | nil=>simp at hj
 | cons x o ih =>
  rcases j with _ | j
  ·simp[val]; omega
  ·simp only[List.length_cons,Nat.add_lt_add_iff_right] at hj
   have:=ih hj
   simp only[List.set_cons_succ,val,List.getElem_cons_succ,Nat.pow_succ]
   have e1:B^j*B*o[j]=B*(B^j*o[j]):=by rw[Nat.mul_comm (B^j) B,Nat.mul_assoc]
   have e2:B^j*B*d=B*(B^j*d):=by rw[Nat.mul_comm (B^j) B,Nat.mul_assoc]
   rw[e1,e2]
   have e3:B*(val (o.set j d)+B^j*o[j])=B*(val o+B^j*d):=by rw[this]
   rw[Nat.mul_add,Nat.mul_add] at e3
   omega
def lJ (a b:List Nat) (i k:Nat) (s:List Nat × Nat):List Nat × Nat :=
 let t:=a.getD i 0*b.getD k 0+s.1.getD (i+k) 0+s.2
 (s.1.set (i+k) (t%B),t/B)
def rj (a b:List Nat):Nat→List Nat
 | 0=>List.replicate (a.length+b.length) 0
 | i+1=>let s:=itr (lJ a b i) (rj a b i,0) b.length; s.1.set (i+b.length) s.2
def we (a b:List Nat) (i k:Nat):List Nat × Nat:=itr (lJ a b i) (rj a b i,0) k
theorem Dy {a b:List Nat} {i:Nat}:we a b i 0=(rj a b i,0):=rfl
theorem QH {a b:List Nat} {i:Nat}:rj a b (i+1)=(we a b i b.length).1.set (i+b.length) (we a b i b.length).2:=rfl
theorem QG {a b:List Nat} {i k:Nat}:we a b i (k+1)=lJ a b i k (we a b i k):=rfl
structure Zk (a b o:List Nat) (c i k:Nat):Prop where
 len:o.length=a.length+b.length
 ok:ok o
 lt:c<B
 val:val o+B^(i+k)*c=val (a.take i)*val b+B^i*(a.getD i 0*val (b.take k))
 zero:∀ j (hj:j<o.length),i+b.length≤j→o[j]=0
theorem v5 {a:List Nat} (h:ok a) (i:Nat):a.getD i 0<B:=by
 rw[List.getD_eq_getElem?_getD]
 by_cases hi:i<a.length
 ·rw[List.getElem?_eq_getElem hi]; exact xO h hi
 ·rw[List.getElem?_eq_none (by omega)]; exact zZ
theorem ZV {x y z w:Nat} (hx:x<B) (hy:y<B) (hz:z<B) (hw:w<B):x*y+z+w<B*B:=by
 have h:x*y≤(B-1)*(B-1):=Nat.mul_le_mul (by omega) (by omega)
 have:(B-1)*(B-1)+(B-1)+(B-1)<B*B:=by decide
 omega
theorem AJ {a b o:List Nat} {c i k:Nat} (ha:ok a) (hb:ok b) (hi:i<a.length) (hk:k<b.length) (h:Zk a b o c i k) :
  Zk a b (lJ a b i k (o,c)).1 (lJ a b i k (o,c)).2 i (k+1):=by
 have hlen:=h.len
 have hik:i+k<o.length:=by omega
 obtain ⟨t,ht⟩:∃ t,t=a.getD i 0*b.getD k 0+o.getD (i+k) 0+c:=⟨_,rfl⟩
 have hbd:=ZV (v5 ha i) (v5 hb k) (v5 h.ok (i+k)) h.lt
 rw[← ht] at hbd
 simp only[lJ,← ht]
 constructor
 ·simp[hlen]
 ·exact T8 h.ok (Nat.mod_lt _ zZ)
 ·exact Nat.div_lt_of_lt_mul hbd
 ·have e1:=Xi (o:=o) (j:=i+k) (d:=t%B) hik
  have e2:=Nat.mod_add_div t B
  have e3:=h.val
  have e4:=wc hk
  have e5:o.getD (i+k) 0=o[i+k]:=by simp[hik]
  have e6:b.getD k 0=b[k]:=by simp[hk]
  rw[e5,e6] at ht
  rw[e4]
  have e7:B^(i+(k+1))*(t/B)=B^(i+k)*(B*(t/B)):=by rw[← Nat.add_assoc,Nat.pow_succ,Nat.mul_assoc]
  rw[e7]
  have e8:B^(i+k)*(t%B)+B^(i+k)*(B*(t/B))=B^(i+k)*t:=by rw[← Nat.mul_add,e2]
  have e9:B^(i+k)*t=B^(i+k)*(a.getD i 0*b[k])+B^(i+k)*o[i+k]+B^(i+k)*c:=by rw[ht,Nat.mul_add,Nat.mul_add]
  have e10:B^i*(a.getD i 0*(val (b.take k)+B^k*b[k]))=B^i*(a.getD i 0*val (b.take k))+B^(i+k)*(a.getD i 0*b[k]):=by
   rw[Nat.mul_add,Nat.mul_add,Nat.pow_add]
   congr 1
   rw[Nat.mul_assoc]
   congr 1
   rw[Nat.mul_left_comm]
  rw[e10]
  omega
 ·intro j hj hle
  simp only[List.length_set] at hj
  rw[List.getElem_set_ne (by omega)]
  exact h.zero j hj hle
theorem eP {a b:List Nat} {i:Nat} (ha:ok a) (hb:ok b) (hi:i<a.length) (h:Zk a b (rj a b i) 0 i 0):∀ k,k≤b.length→Zk a b (we a b i k).1 (we a b i k).2 i k
 | 0,_=>h
 | k+1,hk=>by rw[QG]; exact AJ ha hb hi (by omega) (eP ha hb hi h k (by omega))
theorem ZX {a b:List Nat} (ha:ok a) (hb:ok b):∀ i,i≤a.length→Zk a b (rj a b i) 0 i 0
 | 0,_=>⟨by simp[rj],DJ _,zZ,by simp[rj,Qd,val],fun j hj _=>by simp[rj]⟩
 | i+1,hi=>by
  have ih:=ZX ha hb i (by omega)
  have h:=eP ha hb (by omega) ih b.length (Nat.le_refl _)
  have hlen:=h.len
  have hib:i+b.length<(we a b i b.length).1.length:=by omega
  rw[QH]
  have hz:=h.zero (i+b.length) hib (Nat.le_refl _)
  have hv:=Xi (d:=(we a b i b.length).2) hib
  have h3:=h.val
  rw[hz,Nat.mul_zero,Nat.add_zero] at hv
  refine ⟨by simp[hlen],T8 h.ok h.lt,zZ,?_,?_⟩
  ·rw[hv,h3,List.take_of_length_le (Nat.le_refl b.length)]
   have:val (a.take (i+1))=val (a.take i)+B^i*a.getD i 0:=by
    rw[wc (by omega)]; simp[show i<a.length by omega]
   rw[this,Nat.add_mul,Nat.mul_assoc]
   simp[val]
  ·intro j hj hle
   simp only[List.length_set] at hj
   rw[List.getElem_set_ne (by omega)]
   exact h.zero j hj (by omega)
theorem adh {a b:List Nat} (ha:ok a) (hb:ok b):ok (rj a b a.length)∧(rj a b a.length).length=a.length+b.length∧val (rj a b a.length)=val a*val b:=by
 have h:=ZX ha hb a.length (Nat.le_refl _)
 refine ⟨h.ok,h.len,?_⟩
 have:=h.val
 simp[val] at this
 exact this
def vw (n D i:Nat):List Nat:=List.replicate (n-i) 0++(zu n D).drop (n-i)
theorem XU {n D:Nat}:vw n D 0=List.replicate n 0:=by
 simp[vw,zy]
theorem So {n D:Nat}:vw n D n=zu n D:=by simp[vw]
theorem Sp {n D i:Nat} (_h:i≤n):(vw n D i).length=n:=by simp[vw,zy]; try omega
theorem Sq {n D i:Nat} (h:i<n):(vw n D i).set (n-1-i) (D/B^(n-1-i)%B)=vw n D (i+1):=by
 obtain ⟨j,hj⟩:∃ j,n-1-i=j:=⟨_,rfl⟩
 have h1:n-i=j+1:=by omega
 have h2:n-(i+1)=j:=by omega
 unfold vw
 rw[hj,h1,h2,List.replicate_succ']
 rw[List.append_assoc,List.set_append_right _ _ (by simp)]
 simp only[List.length_replicate,Nat.sub_self]
 have hlt:j<(zu n D).length:=by rw[zy]; omega
 rw[List.drop_eq_getElem_cons hlt,vr]
 rfl
theorem Sr {A d:Nat} (hd:0<d):(A/B%d*B+A%B)/d=A/d%B∧(A/B%d*B+A%B)%d=A%d∧A/B%d*B+A%B<d*B:=by
 have hA:=Nat.div_add_mod A B
 have h1:=Nat.div_add_mod (A/B) d
 have hm:=Nat.mod_lt (A/B) hd
 have hb:=Nat.mod_lt A zZ
 have hlt:A/B%d*B+A%B<d*B:=by
  have:(A/B%d+1)*B≤d*B:=Nat.mul_le_mul_right _ hm
  rw[Nat.add_mul] at this
  omega
 have key:A=d*(A/B/d*B)+(A/B%d*B+A%B):=by
  have e:B*(A/B)=B*(d*(A/B/d)+A/B%d):=by rw[h1]
  rw[Nat.mul_add] at e
  have e2:d*(A/B/d*B)=B*(d*(A/B/d)):=by rw[← Nat.mul_assoc,Nat.mul_comm]
  rw[e2,Nat.mul_comm (A/B%d)]
  omega
 generalize A/B%d*B+A%B=t at *
 generalize A/B/d=g at *
 have hq:t/d<B:=Nat.div_lt_of_lt_mul hlt
 refine ⟨?_,?_,hlt⟩
 ·rw[key,Nat.mul_add_div hd,Nat.add_comm (g*B) _,Nat.add_mul_mod_self_right,Nat.mod_eq_of_lt hq]
 ·rw[key,Nat.mul_add_mod]
end Go.Dig

namespace Go.Proofs.YtjeoklgggppjiaaGreat
open Go Go.Am Go.Dig
theorem qT {x:Nat} (h:x<18446744073709551616):zd Tryz.prog v7 [ya x] (nD x):=by
 have f2:(x:Int).fdiv (2^min 32 IntKind.u64.bits)=((x/B:Nat):Int):=aj x
 have f1:=w32 x
 have f3:=w32 (x/B)
 obtain ⟨d0,h0⟩:∃ d,x%B=d:=⟨_,rfl⟩
 obtain ⟨q,hq⟩:∃ q,x/B=q:=⟨_,rfl⟩
 obtain ⟨d1,h1⟩:∃ d,q%B=d:=⟨_,rfl⟩
 rw[hq] at f2 f3
 rw[h0] at f1
 rw[h1] at f3
 have hok:ok [d0,d1]:=by
  intro d hd
  simp at hd
  rcases hd with rfl | rfl
  ·rw[← h0]; exact Nat.mod_lt _ zZ
  ·rw[← h1]; exact Nat.mod_lt _ zZ
 have hv:val [d0,d1]=x:=by
  have e1:=Nat.mod_add_div x B
  have hq2:q<B:=by rw[← hq,z8]; omega
  rw[Nat.mod_eq_of_lt hq2] at h1
  simp only[val,Nat.mul_zero,Nat.add_zero]
  rw[← h1,← h0,← hq]
  exact e1
 have key:=y8 (m:=.full) (a:=[d0,d1]) hok (by simp)
 rw[hv] at key
 refine zx Lq (by simp) ?_
 simp[Zr,wB,f1,f2,f3,uA]
 refine za key (by simp) (by simp) ?_
 simp[Z6]
theorem or_hi {r a:Nat} (hr:r<B) (ha:a<B):rS .or .u64 ((r*B:Nat):Int) (a:Int)=((r*B+a:Nat):Int):=by
 rw[z8] at *
 have hbits:IntKind.u64.bits=64:=rfl
 simp only[rS]
 rw[BitVec.toNat_or]
 have e1:(BitVec.ofInt IntKind.u64.bits ((r*4294967296:Nat):Int)).toNat=r*4294967296:=by rw[hbits,BitVec.toNat_ofInt]; omega
 have e2:(BitVec.ofInt IntKind.u64.bits (a:Int)).toNat=a:=by rw[hbits,BitVec.toNat_ofInt]; omega
 rw[e1,e2]
 have h3:=Nat.shiftLeft_add_eq_or_of_lt (i:=32) (b:=a) (by omega) r
 rw[Nat.shiftLeft_eq] at h3
 have:(2:Nat)^32=4294967296:=by decide
 rw[this] at h3
 rw[← h3]
 exact w64 (by omega)
theorem PE {r:Nat} (hr:r<B):IntKind.u64.wrap ((r:Int)*2^min 32 IntKind.u64.bits)=((r*B:Nat):Int):=by
 have:min 32 IntKind.u64.bits=32:=rfl
 rw[this]
 have:(2:Int)^32=4294967296:=by decide
 rw[this]
 rw[z8] at *
 rw[vW]<;>omega
def FP (m:Am.Mode) (a:List Nat) (d i:Nat):St :=
 {env:=[(0,nl m a),(1,uv d),(6,.sl 13 1 0 a.length),(7,ya (val a/B^(a.length-i)%d)),(15,iv a.length),(16,iv i)],sto:=[(13,.arr 1 (zH (vw a.length (val a/d) i)))]}
theorem Kt {m:Am.Mode} {a:List Nat} {d:Nat} (ha:ok a) (hn:a.length<1099511627776) (h0:0<d) (hd:d<B) (f1:stm m=m) :
  zd Tryz.prog Zj [nl m a,uv d] (.tuple [nD (val a/d),uv (val a%d)]):=by
 refine vc Bd (by simp) ?_
 simp[Qm,eMk]
 refine ⟨by omega,by omega,?_⟩
 have hz:val a/B^a.length%d=0:=by rw[Nat.div_eq_of_lt (uy ha)]; exact Nat.zero_mod _
 refine zr (FP m a d) (fun _=>True) a.length (by simp[FP,XU,hz]) trivial (fun i hi _=>?_) (fun _=>?_)
 ·have e:(i:Int)<a.length:=by omega
  obtain ⟨k,hk⟩:∃ k,a.length-1-i=k:=⟨_,rfl⟩
  have hk1:a.length-i=k+1:=by omega
  have hk2:a.length-(i+1)=k:=by omega
  have hka:k<a.length:=by omega
  have w0:IntKind.i64.wrap ((a.length:Int)-1)=(a.length:Int)-1:=by rw[wrap64]<;>omega
  have w1:IntKind.i64.wrap ((a.length:Int)-1-i)=(k:Int):=by rw[wrap64]<;>omega
  obtain ⟨s1,s2,s3⟩:=Sr (A:=val a/B^k) h0
  rw[← lC ha hka,Nat.div_div_eq_div_mul,← Nat.pow_succ] at s1 s2 s3
  obtain ⟨r,hr⟩:∃ r,val a/B^(k+1)%d=r:=⟨_,rfl⟩
  have hrd:r<d:=by rw[← hr]; exact Nat.mod_lt _ h0
  have hrB:r<B:=by omega
  have hak:=xO ha hka
  have hor:=or_hi hrB hak
  have hsh:=PE hrB
  rw[Nat.succ_eq_add_one,hr] at s1 s2 s3
  obtain ⟨t,ht⟩:∃ t,r*B+a[k]=t:=⟨_,rfl⟩
  obtain ⟨rb,hrb⟩:∃ rb,r*B=rb:=⟨_,rfl⟩
  rw[ht] at hor s1 s2 s3
  rw[hrb] at hor hsh
  have hset:=Sq (n:=a.length) (D:=val a/d) hi
  rw[hk,Nat.div_div_eq_div_mul,Nat.mul_comm d,← Nat.div_div_eq_div_mul,← s1] at hset
  obtain ⟨q,hq⟩:∃ q,t/d=q:=⟨_,rfl⟩
  obtain ⟨r2,hr2⟩:∃ r2,t%d=r2:=⟨_,rfl⟩
  rw[hq] at hset s1
  rw[hr2] at s2
  have hqB:q<B:=by rw[s1]; exact Nat.mod_lt _ zZ
  have hset':(zH (vw a.length (val a/d) i)).set k [uv q]=zH (vw a.length (val a/d) (i+1)):=by rw[xg,hset]
  have htB:t<18446744073709551616:=by
   have:d*B≤B*B:=Nat.mul_le_mul_right _ (by omega)
   have hBB:B*B=18446744073709551616:=by decide
   omega
  have hfl:=Sp (D:=val a/d) (show i≤a.length by omega)
  have hkl:k<(vw a.length (val a/d) i).length:=by omega
  rw[z8] at hak hqB hd
  have u1:IntKind.u64.wrap ((a[k]:Nat):Int)=(a[k]:Nat):=w64 (by omega)
  have u2:IntKind.u64.wrap (d:Int)=d:=w64 (by omega)
  have hd0:¬ (d:Int)=0:=by omega
  have hd0n:¬ d=0:=by omega
  have u3:IntKind.u64.wrap ((t:Int).tdiv d)=(q:Int):=by
   rw[show (t:Int).tdiv d=((t/d:Nat):Int) from rfl,hq]; exact w64 (by omega)
  have u3':IntKind.u64.wrap ((t:Int)/d)=(q:Int):=by
   rw[show (t:Int)/d=((t/d:Nat):Int) by simp,hq]; exact w64 (by omega)
  have u4:(t:Int).tmod d=(r2:Int):=by rw[show (t:Int).tmod d=((t%d:Nat):Int) from rfl,hr2]
  have u5:IntKind.u32.wrap (q:Int)=q:=IntWalk.u32_in _ (by omega)
  simp[gO,FP,e,w0,w1,hka,hkl,hk1,hk2,hr,vH,hsh,u1,hor,u2,sy,nv,hd0n,u3',u4,u5,splice,hset',s2,zn (show i<4611686018427387904 by omega)]
 ·have htk:(zH (zu a.length (val a/d))).take a.length=zH (zu a.length (val a/d)):=List.take_of_length_le (by rw[List.length_map,zy]; exact Nat.le_refl _)
  have hle2:a.length≤(zu a.length (val a/d)).length:=by rw[zy]; exact Nat.le_refl _
  have key:=y8 (m:=.plain) (a:=zu a.length (val a/d)) yD (by rw[zy]; omega)
  have hlt:val a/d<B^a.length:=Nat.lt_of_le_of_lt (Nat.div_le_self _ _) (uy ha)
  rw[yk hlt] at key
  have hr:val a%d<d:=Nat.mod_lt _ h0
  have u5:IntKind.u32.wrap ((val a%d:Nat):Int)=(val a%d:Nat):=IntWalk.u32_in _ (by rw[z8] at hd; omega)
  obtain ⟨r,hr2⟩:∃ r,val a%d=r:=⟨_,rfl⟩
  have hr3:val a/B^(a.length-a.length)%d=r:=by simp[hr2]
  rw[hr2] at u5 ⊢
  simp[gO,FP,So,Zs,xf,Uj f1,vU,htk,hle2,hr2]
  refine za key (by simp) (by simp) ?_
  simp[QU,u5]
  exact AV.imp.refl
end Go.Proofs.YtjeoklgggppjiaaGreat

namespace Go.Dig
def mJ (w u2 v1 v2:Nat):Nat:=min (B-1) ((w*B+u2)/(v1*B+v2))
def Lu (g r u2 v2:Nat):Prop:=B≤g∨r*B+u2<g*v2
theorem adJ {w u2 v1 v2:Nat} (h1:0<v1) (hu:u2<B):mJ w u2 v1 v2≤w/v1:=by
 unfold mJ
 refine Nat.le_trans (Nat.min_le_right _ _) ?_
 rw[Nat.le_div_iff_mul_le h1]
 have h:=Nat.div_mul_le_self (w*B+u2) (v1*B+v2)
 generalize (w*B+u2)/(v1*B+v2)=q at *
 rw[Nat.mul_add,← Nat.mul_assoc] at h
 apply Nat.le_of_not_lt
 intro hlt
 have:(w+1)*B≤q*v1*B:=Nat.mul_le_mul_right _ hlt
 rw[Nat.add_mul] at this
 omega
theorem aE {g r w u2 v1 v2:Nat} (h1:0<v1) (hr:w=g*v1+r):Lu g r u2 v2↔mJ w u2 v1 v2<g:=by
 have hV:0<v1*B+v2:=by have:=Nat.mul_pos h1 zZ; omega
 have key:g≤(w*B+u2)/(v1*B+v2)↔g*v2≤r*B+u2:=by
  rw[Nat.le_div_iff_mul_le hV,hr,Nat.mul_add,Nat.add_mul,← Nat.mul_assoc]
  omega
 unfold Lu mJ
 have hB:=zZ
 constructor
 ·rintro (h | h)
  ·exact Nat.lt_of_le_of_lt (Nat.min_le_left _ _) (by omega)
  ·exact Nat.lt_of_le_of_lt (Nat.min_le_right _ _) (by omega)
 ·intro h
  apply Classical.byContradiction
  intro hno
  have h2:g≤B-1:=by
   apply Nat.le_of_not_lt; intro h3; exact hno (.inl (by omega))
  have h3:g≤(w*B+u2)/(v1*B+v2):=key.2 (by
   apply Nat.le_of_not_lt; intro h4; exact hno (.inr h4))
  have:=Nat.le_min.2 ⟨h2,h3⟩
  omega
theorem BH {g r w u2 v1 v2:Nat} (_h1:0<v1) (hr:w=g*v1+r) (hw:w≤v1*B+(B-1)) (hv2:v2<B) (hrB:B≤r):¬ Lu g r u2 v2:=by
 have hg:g≤B-1:=by
  apply Nat.le_of_not_lt
  intro h
  have:B*v1≤g*v1:=Nat.mul_le_mul_right _ (by omega)
  rw[Nat.mul_comm v1] at hw
  have:=zZ
  omega
 rintro (h | h)
 ·have:=zZ; omega
 ·have h2:g*v2≤(B-1)*(B-1):=Nat.mul_le_mul hg (by omega)
  have h3:B*B≤r*B:=Nat.mul_le_mul_right _ hrB
  have h4:(B-1)*(B-1)<B*B:=by decide
  omega
theorem Fc {w u2 v1 v2 U V P Q R:Nat} (h1:0<v1) (hu2:u2<B) (hv2:v2<B) (hU:U=(w*B+u2)*P+R) (hR:R<P) (hV:V=(v1*B+v2)*P+Q) (hQ:Q<P) (hUV:U<V*B) :
  U/V≤mJ w u2 v1 v2∧mJ w u2 v1 v2≤U/V+1:=by
 have hP:0<P:=by omega
 have hV2:0<v1*B+v2:=by have:=Nat.mul_pos h1 zZ; omega
 have hVpos:0<V:=by have:=Nat.mul_pos hV2 hP; omega
 constructor
 ·unfold mJ
  refine Nat.le_min.2 ⟨?_,?_⟩
  ·have:U/V<B:=Nat.div_lt_of_lt_mul hUV
   omega
  ·rw[Nat.le_div_iff_mul_le hV2]
   have h:=Nat.div_mul_le_self U V
   generalize U/V=q at *
   have h2:q*((v1*B+v2)*P)≤q*V:=Nat.mul_le_mul_left _ (by omega)
   rw[← Nat.mul_assoc] at h2
   apply Nat.le_of_not_lt
   intro hlt
   have:(w*B+u2+1)*P≤q*(v1*B+v2)*P:=Nat.mul_le_mul_right _ hlt
   rw[Nat.add_mul] at this
   omega
 ·have hq1:mJ w u2 v1 v2≤B-1:=Nat.min_le_left _ _
  have hq2:mJ w u2 v1 v2*(v1*B+v2)≤w*B+u2:=by
   have:mJ w u2 v1 v2≤(w*B+u2)/(v1*B+v2):=Nat.min_le_right _ _
   exact Nat.le_trans (Nat.mul_le_mul_right _ this) (Nat.div_mul_le_self _ _)
  generalize mJ w u2 v1 v2=g at *
  rcases g with _ | g
  ·exact Nat.zero_le _
  ·have:g≤U/V:=by
    rw[Nat.le_div_iff_mul_le hVpos]
    -- (g+1) V2 P≤U,and V<(V2+1) P,g+1≤B-1≤v1 B
    have e1:(g+1)*(v1*B+v2)*P≤(w*B+u2)*P:=Nat.mul_le_mul_right _ hq2
    have e2:g*V≤g*((v1*B+v2)*P+P):=Nat.mul_le_mul_left _ (by omega)
    have e3:g*P≤(v1*B+v2)*P:=Nat.mul_le_mul_right _ (by
     have:1*B≤v1*B:=Nat.mul_le_mul_right _ h1
     omega)
    rw[Nat.add_mul,Nat.one_mul,Nat.add_mul] at e1
    rw[Nat.mul_add,← Nat.mul_assoc] at e2
    omega
   omega
theorem adf {g:Nat} {v:List Nat} {k:Nat} (hk:k<v.length):(g*val v)/B^k%B=(g*v[k]+g*val (v.take k)/B^k)%B∧g*val (v.take (k+1))/B^(k+1)=(g*v[k]+g*val (v.take k)/B^k)/B:=by
 have e1:=wc hk
 have e2:=v3 v (k+1)
 rw[Nat.min_eq_left (by omega)] at e2
 constructor
 ·rw[e2,e1,Nat.mul_add,Nat.mul_add,Nat.mul_left_comm g (B^k),Nat.mul_left_comm g (B^(k+1)),ZB,Nat.add_comm]
 ·rw[e1,Nat.mul_add,Nat.mul_left_comm g (B^k),ZA,Nat.add_comm]
theorem ZW {g:Nat} {v:List Nat} (hv:ok v) (hg:g<B) (k:Nat):g*val (v.take k)/B^k<B:=by
 apply Nat.div_lt_of_lt_mul
 have h1:=xh (tP hv k) (n:=k) (by simp; omega)
 have:g*val (v.take k)≤B*val (v.take k):=Nat.mul_le_mul_right _ (by omega)
 have h2:B*val (v.take k)<B*B^k:=Nat.mul_lt_mul_of_pos_left h1 zZ
 rw[Nat.mul_comm (B^k)]
 omega
def yQ (Z:Nat) (u:List Nat) (k:Nat):List Nat:=zu k Z++u.drop k
theorem ZU {Z:Nat} {u:List Nat}:yQ Z u 0=u:=by simp[yQ,zu]
theorem fi {Z:Nat} {u:List Nat} {k:Nat} (h:k≤u.length):(yQ Z u k).length=u.length:=by simp[yQ,zy]; omega
theorem bM {Z:Nat} {u:List Nat} {k:Nat} (h:k<u.length):(yQ Z u k)[k]'(by rw[fi (by omega)]; exact h)=u[k]:=by
 unfold yQ
 rw[List.getElem_append_right (by rw[zy]; exact Nat.le_refl _)]
 simp[zy]
theorem bN {Z:Nat} {u:List Nat} {k:Nat} (h:k<u.length):(yQ Z u k).set k (Z/B^k%B)=yQ Z u (k+1):=by
 unfold yQ
 rw[List.set_append_right _ _ (by rw[zy]; exact Nat.le_refl _),zy,Nat.sub_self,List.drop_eq_getElem_cons h,List.set_cons_zero,qP]
 simp
theorem Mc {Z:Nat} {u:List Nat} {n:Nat} (h:u.length=n):yQ Z u n=zu n Z:=by
 unfold yQ; rw[List.drop_of_length_le (by omega)]; simp
theorem Qt {n x:Nat}:zu n (x+B^n)=zu n x:=by
 refine Xh yD yD (by rw[zy,zy]) ?_
 rw[dd,dd,Nat.add_mod_right]
theorem EG {U n k:Nat} (hk:k<n):(U+B^n)/B^k%B=U/B^k%B:=by
 have h:=Qt (n:=n) (x:=U)
 have h1:k<(zu n (U+B^n)).length:=by rw[zy]; exact hk
 have h2:k<(zu n U).length:=by rw[zy]; exact hk
 rw[← vr h1,← vr h2]
 simp only[h]
def seg (W:List Nat) (off:Nat) (X:List Nat):List Nat:=W.take off++X++W.drop (off+X.length)
theorem gu {W X:List Nat} {off:Nat} (h:off+X.length≤W.length):(seg W off X).length=W.length:=by simp[seg]; omega
theorem Y8 {W X:List Nat} {off i:Nat} (h:off+X.length≤W.length) (hi:i<X.length):(seg W off X)[off+i]'(by rw[gu h]; omega)=X[i]:=by
 unfold seg
 rw[List.getElem_append_left (by simp; omega),List.getElem_append_right (by simp; omega)]
 congr 1
 simp; omega
theorem Y9 {W X:List Nat} {off i d:Nat} (h:off+X.length≤W.length) (hi:i<X.length):(seg W off X).set (off+i) d=seg W off (X.set i d):=by
 unfold seg
 rw[List.length_set,List.set_append_left _ _ (by simp; omega),List.set_append_right _ _ (by simp; omega)]
 have:off+i-(List.take off W).length=i:=by simp; omega
 rw[this]
theorem aaO {W:List Nat} {off n:Nat} (h:off+n≤W.length):seg W off ((W.drop off).take n)=W:=by
 unfold seg
 have:((W.drop off).take n).length=n:=by simp; omega
 rw[this]
 rw[List.append_assoc,← List.drop_drop,List.take_append_drop,List.take_append_drop]
theorem Sm {N L i t:Nat} (hL:L<B^(i+1)) (hi:i+1<N) (hlt:L+B^i*t<B^N) (ht:(L/B^i+t)/B<B) :
  ((zu N L).set i ((L/B^i+t)%B)).set (i+1) ((L/B^i+t)/B)=zu N (L+B^i*t):=by
 have hLN:L<B^N:=Nat.lt_of_lt_of_le hL (Nat.pow_le_pow_right zZ (by omega))
 have hlen:=zy (n:=N) (x:=L)
 have ho:ok (zu N L):=yD
 have hd1:(L/B^i+t)%B<B:=Nat.mod_lt _ zZ
 refine Xh (T8 (T8 ho hd1) ht) yD (by simp[zy]) ?_
 rw[yk hlt]
 have e1:=Xi (o:=zu N L) (j:=i) (d:=(L/B^i+t)%B) (by omega)
 have e2:=Xi (o:=(zu N L).set i ((L/B^i+t)%B)) (j:=i+1) (d:=(L/B^i+t)/B) (by simp; omega)
 rw[yk hLN,vr] at e1
 rw[List.getElem_set_ne (by omega),vr,Nat.div_eq_of_lt hL] at e2
 have h0:0%B=0:=rfl
 rw[h0,Nat.mul_zero,Nat.add_zero] at e2
 have hc:L/B^i<B:=Nat.div_lt_of_lt_mul (by rw[← Nat.pow_succ]; exact hL)
 rw[Nat.mod_eq_of_lt hc] at e1
 have e3:=Nat.mod_add_div (L/B^i+t) B
 have e4:B^(i+1)*((L/B^i+t)/B)=B^i*(B*((L/B^i+t)/B)):=by rw[Nat.pow_succ,Nat.mul_assoc]
 have e5:B^i*((L/B^i+t)%B)+B^i*(B*((L/B^i+t)/B))=B^i*(L/B^i)+B^i*t:=by rw[← Nat.mul_add,e3,Nat.mul_add]
 rw[e2,e4]
 omega
theorem Dr {c a bits:Nat} (hb:bits<32) (hc:c<2^bits) (_ha:a<B):c ||| (a*2^bits%B)=c+a*2^bits%B∧c+a*2^bits%B=(c+a*2^bits)%B∧a*2^bits/B=(c+a*2^bits)/B∧c+a*2^bits%B<B:=by
 have hB:B=2^(32-bits)*2^bits:=by
  rw[← Nat.pow_add,Nat.sub_add_cancel (by omega)]; rfl
 have hm:a*2^bits%B=(a%2^(32-bits))*2^bits:=by
  rw[hB,Nat.mul_mod_mul_right]
 have hlt:a%2^(32-bits)<2^(32-bits):=Nat.mod_lt _ (Nat.pow_pos (by omega))
 have hd:=Nat.div_add_mod (a*2^bits) B
 have hsum:c+a*2^bits%B<B:=by
  rw[hm]
  have:(a%2^(32-bits)+1)*2^bits≤2^(32-bits)*2^bits:=Nat.mul_le_mul_right _ hlt
  rw[Nat.add_mul,← hB] at this
  omega
 refine ⟨?_,?_,?_,hsum⟩
 ·rw[hm]
  have h:=Nat.shiftLeft_add_eq_or_of_lt hc (a%2^(32-bits))
  rw[Nat.shiftLeft_eq] at h
  rw[Nat.or_comm,← h]; omega
 ·have:c+a*2^bits=c+a*2^bits%B+B*(a*2^bits/B):=by omega
  rw[this,Nat.add_mul_mod_self_left,Nat.mod_eq_of_lt hsum]
 ·have:c+a*2^bits=c+a*2^bits%B+B*(a*2^bits/B):=by omega
  rw[this,Nat.add_mul_div_left _ _ zZ,Nat.div_eq_of_lt hsum,Nat.zero_add]
def shL (a:List Nat) (bits i:Nat):Nat:=val (a.take i)*2^bits
theorem MR {a:List Nat} {bits:Nat}:shL a bits 0=0:=by simp[shL,val]
theorem ft {bits:Nat} (hb:bits<32):2^bits<B:=by
 have:2^bits<2^32:=Nat.pow_lt_pow_right (by omega) hb
 exact this
theorem Sl {a:List Nat} {bits i:Nat} (ha:ok a):shL a bits i<B^i*2^bits:=by
 unfold shL
 exact Nat.mul_lt_mul_of_pos_right (xh (tP ha i) (by simp; omega)) (Nat.pow_pos (by omega))
theorem MQ {a:List Nat} {bits i:Nat} (hi:i<a.length):shL a bits (i+1)=shL a bits i+B^i*(a[i]*2^bits):=by
 unfold shL
 rw[wc hi,Nat.add_mul,Nat.mul_assoc]
theorem JV {a:List Nat} {bits:Nat}:shL a bits a.length=val a*2^bits:=by
 unfold shL; rw[List.take_of_length_le (Nat.le_refl _)]
theorem TE {n:Nat}:zu n 0=List.replicate n 0:=by
 refine Xh yD (DJ n) (by simp[zy]) ?_
 rw[dd,Qd,Nat.zero_mod]
end Go.Dig

namespace Go.Proofs.YtjeoklgggppjiaaGreat
open Go Go.Am Go.Dig
theorem A6 {c x:Nat} (hc:c<B) (hx:x<B) (h:c ||| x<B):rS .or .u32 (c:Int) (x:Int)=((c ||| x:Nat):Int):=by
 rw[z8] at *
 have hbits:IntKind.u32.bits=32:=rfl
 simp only[rS]
 rw[BitVec.toNat_or]
 have e1:(BitVec.ofInt IntKind.u32.bits (c:Int)).toNat=c:=by rw[hbits,BitVec.toNat_ofInt]; omega
 have e2:(BitVec.ofInt IntKind.u32.bits (x:Int)).toNat=x:=by rw[hbits,BitVec.toNat_ofInt]; omega
 rw[e1,e2]
 exact IntWalk.u32_in _ (by omega)
def Yn (a:List Nat) (m:Am.Mode) (σ:List (Nat × ze)) (out:List (List (Nat × AV))) (b bits i:Nat):St :=
 {env:=[(0,nl m a),(1,ya bits),(5,.sl (b+11) 1 0 (a.length+1)),(13,iv a.length),(14,iv i)],sto:=pt σ (b+11) (.arr 1 (zH (zu (a.length+1) (shL a bits i)))),out:=out,base:=b}
theorem aaS {m:Am.Mode} {a:List Nat} {bits:Nat} {s:St} {K:AV→St→Prop} (b:Nat) (ha:ok a) (hn:a.length<1099511627775) (hb:bits<32) (hf:lk s.sto (b+11)=none)
  (h:K (.sl (b+11) 1 0 (a.length+1)) ⟨s.env,pt s.sto (b+11) (.arr 1 (zH (zu (a.length+1) (val a*2^bits)))),s.out,s.base⟩):z0 Tryz.prog pE [nl m a,ya bits] s K:=by
 obtain ⟨env,σ,out,base⟩:=s
 simp only at hf h
 refine vb b XX (by simp) ?_
 have w:IntKind.i64.wrap ((a.length:Int)+1)=(a.length:Int)+1:=wrap64 (by omega) (by omega)
 have e1:((a.length:Int)+1).toNat=a.length+1:=by omega
 simp[dk,w,eMk,e1,hf]
 refine ⟨by omega,by omega,by omega,?_⟩
 refine zr (Yn a m σ (env::out) b bits) (fun _=>True) a.length (by simp[Yn,MR,TE]; exact .inl rfl) trivial (fun i hi _=>?_) (fun _=>?_)
 ·have e:(i:Int)<a.length:=by omega
  have hpow:=ft hb
  have hak:=xO ha hi
  have hL:=Sl (bits:=bits) (i:=i) ha
  have hLB:shL a bits i<B^(i+1):=by
   have:B^i*2^bits≤B^i*B:=Nat.mul_le_mul_left _ (by omega)
   rw[Nat.pow_succ]; omega
  have hc:shL a bits i/B^i<2^bits:=Nat.div_lt_of_lt_mul hL
  obtain ⟨o1,o2,o3,o4⟩:=Dr (c:=shL a bits i/B^i) (a:=a[i]) hb hc hak
  have hsucc:=MQ (bits:=bits) hi
  have hL2:=Sl (bits:=bits) (i:=i+1) ha
  have hLN:shL a bits (i+1)<B^(a.length+1):=by
   have h1:B^(i+1)*2^bits≤B^(i+1)*B:=Nat.mul_le_mul_left _ (by omega)
   have h3:B^(i+1+1)=B^(i+1)*B:=Nat.pow_succ _ _
   have h2:B^(i+1+1)≤B^(a.length+1):=Nat.pow_le_pow_right zZ (by omega)
   omega
  have htB:(shL a bits i/B^i+a[i]*2^bits)/B<B:=by
   rw[← o3]
   apply Nat.div_lt_of_lt_mul
   exact Nat.mul_lt_mul_of_lt_of_lt hak hpow
  have hstep:=Sm (N:=a.length+1) (i:=i) (t:=a[i]*2^bits) hLB (by omega) (by rw[← hsucc]; exact hLN) htB
  rw[← hsucc,← o2,← o3] at hstep
  have hlen:=zy (n:=a.length+1) (x:=shL a bits i)
  have hi1:i<(zu (a.length+1) (shL a bits i)).length:=by omega
  have hget:(zu (a.length+1) (shL a bits i))[i]=shL a bits i/B^i:=by
   rw[vr,Nat.mod_eq_of_lt (Nat.lt_trans hc hpow)]
  obtain ⟨c,hcE⟩:∃ c,shL a bits i/B^i=c:=⟨_,rfl⟩
  obtain ⟨t,htE⟩:∃ t,a[i]*2^bits=t:=⟨_,rfl⟩
  have htlt:t<B*B:=by rw[← htE]; exact Nat.mul_lt_mul_of_lt_of_lt hak hpow
  rw[hcE,htE] at o1 o4 hstep
  rw[hcE] at hget hc
  obtain ⟨x,hxE⟩:∃ x,t%B=x:=⟨_,rfl⟩
  obtain ⟨q,hqE⟩:∃ q,t/B=q:=⟨_,rfl⟩
  rw[hxE] at o1 o4 hstep
  rw[hqE] at hstep
  have hxB:x<B:=by rw[← hxE]; exact Nat.mod_lt _ zZ
  have hqB:q<B:=by rw[← hqE]; exact Nat.div_lt_of_lt_mul htlt
  have hor:=A6 (c:=c) (x:=x) (by omega) hxB (by rw[o1]; exact o4)
  rw[o1] at hor
  obtain ⟨y,hyE⟩:∃ y,c+x=y:=⟨_,rfl⟩
  rw[hyE] at hor hstep
  have hBB:B*B=18446744073709551616:=by decide
  rw[hBB] at htlt
  have f1:IntKind.u32.wrap (t:Int)=(x:Int):=by rw[w32,hxE]
  have f2:(t:Int).fdiv (2^min 32 IntKind.u64.bits)=(q:Int):=by rw[aj,hqE]
  have f3:IntKind.u32.wrap (q:Int)=q:=IntWalk.u32_in _ (by rw[z8] at hqB; omega)
  have u1:IntKind.u64.wrap ((a[i]:Nat):Int)=(a[i]:Nat):=w64 (by rw[z8] at hak; omega)
  have hmin:min bits IntKind.u64.bits=bits:=by
   have:IntKind.u64.bits=64:=rfl
   omega
  have u2:IntKind.u64.wrap (((a[i]:Nat):Int)*2^bits)=(t:Int):=by
   rw[show ((a[i]:Nat):Int)*2^bits=((a[i]*2^bits:Nat):Int) by simp,htE]; exact w64 htlt
  have hset:((zH (zu (a.length+1) (shL a bits i))).set i [uv y]).set (i+1) [uv q]=zH (zu (a.length+1) (shL a bits (i+1))):=by
   rw[xg,xg,hstep]
  have wi:IntKind.i64.wrap ((i:Int)+1)=(i:Int)+1:=wrap64 (by omega) (by omega)
  have ei1:(i:Int)<a.length+1:=by omega
  have e2:((i:Int)+1).toNat=i+1:=by omega
  have e3:(0:Int)≤(i:Int)+1:=by omega
  have hi2:i+1<(zu (a.length+1) (shL a bits i)).length:=by omega
  have hnb:¬ ((bits:Int)<0):=by omega
  simp[tB,Yn,e,hi,hi1,hi2,ei1,e2,e3,hget,hor,u1,vH,wB,hmin,u2,f1,f2,f3,wi,splice,hset]
 ·have:zu (a.length+1) (shL a bits a.length)=zu (a.length+1) (val a*2^bits):=by rw[JV]
  simp[tB,Yn,lf,dw,this]
  exact h
def gK (w v1 k:Nat):Nat:=w/v1-k
def rK (w v1 k:Nat):Nat:=w%v1+k*v1
theorem GI {w v1 k:Nat} (hk:k≤w/v1):w=gK w v1 k*v1+rK w v1 k:=by
 unfold gK rK
 have h:=Nat.div_add_mod w v1
 have:(w/v1-k)*v1+k*v1=v1*(w/v1):=by rw[← Nat.add_mul,Nat.sub_add_cancel hk,Nat.mul_comm]
 omega
structure cy (W v:List Nat) (off e:Nat):Prop where
 okW:ok W
 okv:ok v
 hv:v.length=e+2
 hW:off+e+3≤W.length
 small:W.length<1099511627776
def rq (W:List Nat) (off e:Nat):Nat:=W.getD (off+(e+2)) 0*B+W.getD (off+(e+1)) 0
def Yh (m:Am.Mode) (W v:List Nat) (σ:List (Nat × ze)) (out:List (List (Nat × AV))) (b j off e k:Nat):St :=
 {env:=[(0,.sl j 1 off (e+3)),(1,nl m v),(5,iv ((e:Int)+2)),(7,ya (gK (rq W off e) (v.getD (e+1) 0) k)),(8,ya (rK (rq W off e) (v.getD (e+1) 0) k))],sto:=σ,out:=out,base:=b}
theorem LO {m:Am.Mode} {W v:List Nat} {σ:List (Nat × ze)} {out:List (List (Nat × AV))} {b j off e:Nat} {K:Exit→St→Prop} (h:cy W v off e) (hj:lk σ j=some (.arr 1 (zH W)))
  (h1:0<v.getD (e+1) 0) (hw:rq W off e≤v.getD (e+1) 0*B+(B-1)) (g:Nat) (hg:g=mJ (rq W off e) (W.getD (off+e) 0) (v.getD (e+1) 0) (v.getD e 0))
  (hK:∀ r q y,(q=69∨q=81)→awp Tryz.prog vp {env:=[(0,.sl j 1 off (e+3)),(1,nl m v),(5,iv ((e:Int)+2)),(7,ya g),(8,r),(q,y)],sto:=σ,out:=out,base:=b} K) :
  awp Tryz.prog (.loop wA) (Yh m W v σ out b j off e 0) (wP 0 (rm Tryz.prog vp K)):=by
 have hvl:=h.hv
 have hWl:=h.hW
 have hsm:=h.small
 have hv0:e<v.length:=by omega
 have hv1:e+1<v.length:=by omega
 have hW0:off+e<W.length:=by omega
 have q1:v.getD (e+1) 0=v[e+1]:=by simp[hv1]
 have q2:v.getD e 0=v[e]:=by simp[hv0]
 have q3:W.getD (off+e) 0=W[off+e]:=by simp[hW0]
 have hu2:W.getD (off+e) 0<B:=v5 h.okW _
 have hv2B:v.getD e 0<B:=v5 h.okv _
 have hv1B:v.getD (e+1) 0<B:=v5 h.okv _
 have hwB:rq W off e<B*B:=by
  have a1:=v5 h.okW (off+(e+2))
  have a2:=v5 h.okW (off+(e+1))
  have:(W.getD (off+(e+2)) 0+1)*B≤B*B:=Nat.mul_le_mul_right _ a1
  unfold rq
  rw[Nat.add_mul] at this
  omega
 generalize hwe:rq W off e=w at *
 generalize hv1e:v.getD (e+1) 0=v1 at *
 generalize hu2e:W.getD (off+e) 0=u2 at *
 generalize hv2e:v.getD e 0=v2 at *
 have hle:=adJ (w:=w) (v2:=v2) h1 hu2
 rw[← hg] at hle
 rw[show B*B=18446744073709551616 by decide] at hwB
 have hst:∀ k,Yh m W v σ out b j off e k={env:=[(0,.sl j 1 off (e+3)),(1,nl m v),(5,iv ((e:Int)+2)),(7,ya (gK w v1 k)),(8,ya (rK w v1 k))],sto:=σ,out:=out,base:=b}:=fun k=>by
  rw[Yh,hwe,hv1e]
 have i1:IntKind.i64.wrap ((e:Int))=e:=wrap64 (by omega) (by omega)
 have i2:IntKind.i64.wrap ((e:Int)+1)=(e:Int)+1:=wrap64 (by omega) (by omega)
 have i5:IntKind.i64.wrap ((e:Int)+2-1)=(e:Int)+1:=by rw[wrap64]<;>omega
 have i6:IntKind.i64.wrap ((e:Int)+2-2)=(e:Int):=by rw[wrap64]<;>omega
 have i3:((e:Int)+1).toNat=e+1:=by omega
 have i4:(0:Int)≤(e:Int)+1:=by omega
 have c1:IntKind.u64.wrap (v1:Int)=v1:=w64 (by rw[z8] at hv1B; omega)
 have c2:IntKind.u64.wrap (v2:Int)=v2:=w64 (by rw[z8] at hv2B; omega)
 have c3:IntKind.u64.wrap (u2:Int)=u2:=w64 (by rw[z8] at hu2; omega)
 have p1:v[e+1]=v1:=by rw[← q1]
 have p2:v[e]=v2:=by rw[← q2]
 have p3:W[off+e]=u2:=by rw[← q3]
 have x1:(e:Int)<v.length:=by omega
 have x2:(e:Int)+1<v.length:=by omega
 have x3:(e:Int)<(e:Int)+3:=by omega
 refine zr (Yh m W v σ out b j off e) (fun k=>rK w v1 k<B) (w/v1-g) (by rw[hst]; simp) ?_ (fun k hk hr=>?_) (fun hr=>?_)
 ·show rK w v1 0<B
  unfold rK
  rw[Nat.zero_mul,Nat.add_zero]
  exact Nat.lt_trans (Nat.mod_lt w h1) hv1B
 ·have hkw:k≤w/v1:=Nat.le_trans (Nat.le_of_lt hk) (Nat.sub_le _ _)
  have hkw2:k+1≤w/v1:=Nat.le_trans hk (Nat.sub_le _ _)
  have heq:=GI (w:=w) (v1:=v1) (k:=k) hkw
  have hbig:=(aE (u2:=u2) (v2:=v2) h1 heq).2 (by rw[← hg]; unfold gK; omega)
  have hgk:gK w v1 (k+1)+1=gK w v1 k:=by unfold gK; omega
  have hrk:rK w v1 (k+1)=rK w v1 k+v1:=by unfold rK; rw[Nat.add_mul]; omega
  have heq2:=GI (w:=w) (v1:=v1) (k:=k+1) (by omega)
  have hbrk:=fun hB=>BH (u2:=u2) (v2:=v2) h1 heq2 hw hv2B hB
  have hgle:gK w v1 k≤w:=by
   have:w/v1≤w:=Nat.div_le_self _ _
   unfold gK; omega
  have hend:B≤rK w v1 (k+1)→gK w v1 (k+1)=g:=fun hB=>by
   have:=hbrk hB
   rw[aE h1 heq2,← hg] at this
   unfold gK at *
   omega
  rw[hst]
  have hgsub:IntKind.u64.wrap ((gK w v1 k:Int)-1)=(gK w v1 (k+1):Int):=by rw[vW]<;>omega
  have hradd:IntKind.u64.wrap ((rK w v1 k:Int)+(v1:Int))=(rK w v1 (k+1):Int):=by
   rw[z8] at hr hv1B
   rw[vW]<;>omega
  have rest:∀ K2,(∀ q y,(q=69∨q=81)→(¬ B≤rK w v1 (k+1)→K2 Exit.normal {env:=[(0,.sl j 1 off (e+3)),(1,nl m v),(5,iv ((e:Int)+2)),(7,ya (gK w v1 (k+1))),(8,ya (rK w v1 (k+1))),(q,y)],sto:=σ,out:=out,base:=b}) ∧
    (B≤rK w v1 (k+1)→K2 (Exit.exit 0) {env:=[(0,.sl j 1 off (e+3)),(1,nl m v),(5,iv ((e:Int)+2)),(7,ya (gK w v1 (k+1))),(8,ya (rK w v1 (k+1))),(q,y)],sto:=σ,out:=out,base:=b})) →
    awp Tryz.prog wA {env:=[(0,.sl j 1 off (e+3)),(1,nl m v),(5,iv ((e:Int)+2)),(7,ya (gK w v1 k)),(8,ya (rK w v1 k))],sto:=σ,out:=out,base:=b} K2:=by
   intro K2 hK2
   by_cases hB:B≤gK w v1 k
   ·have hB':(4294967296:Int)≤gK w v1 k:=by rw[z8] at hB; omega
    by_cases hBr:B≤rK w v1 (k+1)
    ·have hBr':(4294967296:Int)≤rK w v1 (k+1):=by rw[z8] at hBr; omega
     simp[wA,hB',hBr',hgsub,i5,i3,i4,x2,hv1,p1,c1,hradd]
     exact (hK2 _ _ (by simp)).2 hBr
    ·have hBr':¬ (4294967296:Int)≤rK w v1 (k+1):=by rw[z8] at hBr; omega
     simp[wA,hB',hBr',hgsub,i5,i3,i4,x2,hv1,p1,c1,hradd]
     exact (hK2 _ _ (by simp)).1 hBr
   ·have hB':¬ (4294967296:Int)≤gK w v1 k:=by rw[z8] at hB; omega
    have hlt:rK w v1 k*B+u2<gK w v1 k*v2:=hbig.resolve_left hB
    have hor:=or_hi hr hu2
    have hsh:=PE hr
    have hpl:gK w v1 k*v2<18446744073709551616:=by
     have:gK w v1 k*v2≤(B-1)*(B-1):=Nat.mul_le_mul (by omega) (by omega)
     have:(B-1)*(B-1)<18446744073709551616:=by decide
     omega
    obtain ⟨p,hp⟩:∃ p,gK w v1 k*v2=p:=⟨_,rfl⟩
    obtain ⟨rb,hrb⟩:∃ rb,rK w v1 k*B=rb:=⟨_,rfl⟩
    rw[hp] at hlt hpl
    rw[hrb] at hlt hor hsh
    have hmul:IntKind.u64.wrap ((gK w v1 k:Int)*(v2:Int))=(p:Int):=by
     rw[show (gK w v1 k:Int)*(v2:Int)=((gK w v1 k*v2:Nat):Int) by simp,hp]; exact w64 hpl
    have hlt':(rb:Int)+(u2:Int)<(p:Int):=by omega
    simp only[Int.natCast_add] at hor
    by_cases hBr:B≤rK w v1 (k+1)
    ·have hBr':(4294967296:Int)≤rK w v1 (k+1):=by rw[z8] at hBr; omega
     simp[wA,hB',hBr',hgsub,i1,i5,i3,i4,x1,x2,x3,hv0,hv1,hW0,p1,p2,p3,c1,c2,c3,hj,hmul,vH,hsh,hor,hlt',hradd]
     exact (hK2 _ _ (by simp)).2 hBr
    ·have hBr':¬ (4294967296:Int)≤rK w v1 (k+1):=by rw[z8] at hBr; omega
     simp[wA,hB',hBr',hgsub,i1,i5,i3,i4,x1,x2,x3,hv0,hv1,hW0,p1,p2,p3,c1,c2,c3,hj,hmul,vH,hsh,hor,hlt',hradd]
     exact (hK2 _ _ (by simp)).1 hBr
  refine rest _ fun q y hq=>⟨fun hB=>?_,fun hB=>?_⟩
  ·rw[Yq,hst]
   refine ⟨by rcases hq with rfl | rfl<;>simp,by omega⟩
  ·have:=hend hB
   rw[this]
   exact hK _ _ _ hq
 ·have hgk:gK w v1 (w/v1-g)=g:=by unfold gK; omega
  have heq:=GI (w:=w) (v1:=v1) (k:=w/v1-g) (by omega)
  have hnb:=fun hb=>(aE (u2:=u2) (v2:=v2) h1 heq).1 hb
  rw[hgk,← hg] at hnb
  have hB:¬ B≤g:=fun hb=>Nat.lt_irrefl _ (hnb (.inl hb))
  have hlt:¬ rK w v1 (w/v1-g)*B+u2<g*v2:=fun hb=>Nat.lt_irrefl _ (hnb (.inr hb))
  have hB':¬ (4294967296:Int)≤g:=by rw[z8] at hB; omega
  have hor:=or_hi hr hu2
  have hsh:=PE hr
  have hst2:Yh m W v σ out b j off e (w/v1-g)={env:=[(0,.sl j 1 off (e+3)),(1,nl m v),(5,iv ((e:Int)+2)),(7,ya g),(8,ya (rK w v1 (w/v1-g)))],sto:=σ,out:=out,base:=b}:=by
   rw[hst,hgk]
  rw[hst2]
  clear hst2 heq
  generalize rK w v1 (w/v1-g)=r at *
  obtain ⟨p,hp⟩:∃ p,g*v2=p:=⟨_,rfl⟩
  obtain ⟨rb,hrb⟩:∃ rb,r*B=rb:=⟨_,rfl⟩
  have hpl:g*v2<18446744073709551616:=by
   have:g*v2≤(B-1)*(B-1):=Nat.mul_le_mul (by omega) (by omega)
   have:(B-1)*(B-1)<18446744073709551616:=by decide
   omega
  rw[hp] at hlt hpl
  rw[hrb] at hlt hor hsh
  have hmul:IntKind.u64.wrap ((g:Int)*(v2:Int))=(p:Int):=by
   rw[show (g:Int)*(v2:Int)=((g*v2:Nat):Int) by simp,hp]; exact w64 hpl
  have hlt':¬ (rb:Int)+(u2:Int)<(p:Int):=by omega
  simp only[Int.natCast_add] at hor
  simp[wA,hB',i1,x1,x3,hv0,hW0,p2,p3,c2,c3,hj,hmul,vH,hsh,hor,hlt']
  exact hK _ _ _ (by simp)
theorem ab5 {p:Nat} (hp:p<18446744073709551616):rS .and .u64 (p:Int) 4294967295=((p%B:Nat):Int):=by
 have hbits:IntKind.u64.bits=64:=rfl
 simp only[rS]
 rw[BitVec.toNat_and]
 have e1:(BitVec.ofInt IntKind.u64.bits (p:Int)).toNat=p:=by rw[hbits,BitVec.toNat_ofInt]; omega
 have e2:(BitVec.ofInt IntKind.u64.bits 4294967295).toNat=4294967295:=rfl
 rw[e1,e2]
 have h:=Nat.and_two_pow_sub_one_eq_mod p 32
 have:(2:Nat)^32-1=4294967295:=by decide
 rw[this] at h
 rw[h,show (2:Nat)^32=B from rfl]
 exact w64 (Nat.lt_trans (Nat.mod_lt _ zZ) (by decide))
def cK (g:Nat) (v:List Nat) (k:Nat):Nat:=g*val (v.take k)/B^k
def Yi (m:Am.Mode) (W v u:List Nat) (σ:List (Nat × ze)) (out:List (List (Nat × AV))) (b j off e g x T k:Nat):St :=
 {env:=[(0,.sl j 1 off (e+3)),(1,nl m v),(5,iv ((e:Int)+2)),(7,ya g),(9,ya (cK g v k)),(10,ya (bor x T k)),(82,iv ((e:Int)+2)),(83,iv k)],sto:=pt σ j (.arr 1 (zH (seg W off (yQ (x-T) u k)))),out:=out,base:=b}
section
variable {m:Am.Mode} {W v:List Nat} {σ:List (Nat × ze)} {out:List (List (Nat × AV))} {b j off e g x:Nat} {K:Exit→St→Prop} (h:cy W v off e) (hj:lk σ j=some (.arr 1 (zH W)))
  (hg:g<B) (hx:∀ k,k<e+3→x/B^k%B=W.getD (off+k) 0) (hT:g*val v≤x)
include h hj hg hx hT
omit hj in
theorem Qs {s:St} (hs:lD s (Yi m W v ((W.drop off).take (e+3)) σ out b j off e g x (g*val v) 0))
  (hK:awp Tryz.prog tA {env:=[(0,.sl j 1 off (e+3)),(1,nl m v),(5,iv ((e:Int)+2)),(7,ya g),(9,ya (cK g v (e+2))),(10,ya (bor x (g*val v) (e+2))),(82,iv ((e:Int)+2)),(83,iv ((e:Int)+2)),(84,bv false)],sto:=pt σ j (.arr 1 (zH (seg W off (yQ (x-g*val v) ((W.drop off).take (e+3)) (e+2))))),out:=out,base:=b} K) :
  awp Tryz.prog (.loop mw) s (wP 2 (rm Tryz.prog tA K)):=by
 have hvl:=h.hv
 have hWl:=h.hW
 have hsm:=h.small
 generalize hue:(W.drop off).take (e+3)=u at *
 have hul:u.length=e+3:=by rw[← hue]; simp; omega
 refine zr (Yi m W v u σ out b j off e g x (g*val v)) (fun _=>True) (e+2) hs trivial (fun k hk _=>?_) (fun _=>?_)
 ·have hkv:k<v.length:=by omega
  have hku:k<u.length:=by omega
  have hvB:=xO h.okv hkv
  have hWk:off+k<W.length:=by omega
  have huk:u[k]=W[off+k]:=by subst hue; simp
  have hq:W.getD (off+k) 0=W[off+k]:=by simp[hWk]
  have hukB:u[k]<B:=by rw[huk]; exact xO h.okW hWk
  have hcB:cK g v k<B:=ZW h.okv hg k
  obtain ⟨m1,m2⟩:=adf (g:=g) hkv
  have hsd:=da (k:=k) hT
  have hbs:=cI (x:=x) (y:=g*val v) (k:=k)
  have hb1:=Tg (x:=x) (y:=g*val v) (k:=k)
  rw[hx k (by omega),hq,← huk,m1] at hsd hbs
  have hck:cK g v (k+1)=(g*v[k]+cK g v k)/B:=m2
  change (((x-g*val v)/B^k%B:Nat):Int)=((u[k]:Nat)-((g*v[k]+cK g v k)%B:Nat)-(bor x (g*val v) k:Nat):Int)%4294967296 at hsd
  change bor x (g*val v) (k+1)=if u[k]<(g*v[k]+cK g v k)%B+bor x (g*val v) k then 1 else 0 at hbs
  have hpB:g*v[k]+cK g v k<18446744073709551616:=by
   have:=ZV hg hvB hcB zZ
   have hBB:B*B=18446744073709551616:=by decide
   omega
  have hmx:=bN (Z:=x-g*val v) hku
  have hml:=fi (Z:=x-g*val v) (u:=u) (k:=k) (by omega)
  have hmg:=bM (Z:=x-g*val v) hku
  have hsl:=gu (W:=W) (X:=yQ (x-g*val v) u k) (off:=off) (by rw[hml]; omega)
  have hsg:=Y8 (W:=W) (X:=yQ (x-g*val v) u k) (off:=off) (i:=k) (by rw[hml]; omega) (by omega)
  have hss:=Y9 (W:=W) (X:=yQ (x-g*val v) u k) (off:=off) (i:=k) (d:=(x-g*val v)/B^k%B) (by rw[hml]; omega) (by omega)
  rw[hmx] at hss
  rw[hmg] at hsg
  obtain ⟨d,hd⟩:∃ d,(x-g*val v)/B^k%B=d:=⟨_,rfl⟩
  rw[hd] at hss hsd
  obtain ⟨p,hp⟩:∃ p,g*v[k]+cK g v k=p:=⟨_,rfl⟩
  obtain ⟨gv,hgv⟩:∃ gv,g*v[k]=gv:=⟨_,rfl⟩
  rw[hp] at hsd hbs hck hpB
  rw[hgv] at hp
  obtain ⟨pl,hpl⟩:∃ pl,p%B=pl:=⟨_,rfl⟩
  rw[hpl] at hsd hbs
  have hplB:pl<B:=by rw[← hpl]; exact Nat.mod_lt _ zZ
  obtain ⟨c2,hc2⟩:∃ c2,p/B=c2:=⟨_,rfl⟩
  rw[hc2] at hck
  rw[Yi]
  generalize bor x (g*val v) k=b0 at *
  generalize hb2:bor x (g*val v) (k+1)=b2 at *
  have hA:off+k<(seg W off (yQ (x-g*val v) u k)).length:=by omega
  have hset:(zH (seg W off (yQ (x-g*val v) u k))).set (off+k) [uv d]=zH (seg W off (yQ (x-g*val v) u (k+1))):=by rw[xg,hss]
  have hst1:Yi m W v u σ out b j off e g x (g*val v) (k+1)={env:=[(0,.sl j 1 off (e+3)),(1,nl m v),(5,iv ((e:Int)+2)),(7,ya g),(9,ya c2),(10,ya b2),(82,iv ((e:Int)+2)),(83,iv ((k:Int)+1))],sto:=pt σ j (.arr 1 (zH (seg W off (yQ (x-g*val v) u (k+1))))),out:=out,base:=b}:=by
   rw[Yi,hck,hb2]; rfl
  clear hd
  generalize huk2:u[k]=uk at *
  have ek:(k:Int)<(e:Int)+2:=by omega
  have ekv:(k:Int)<v.length:=by omega
  have ek3:(k:Int)<(e:Int)+3:=by omega
  have u1:IntKind.u64.wrap ((v[k]:Nat):Int)=(v[k]:Nat):=w64 (Nat.lt_trans hvB (by decide))
  have u2:IntKind.u64.wrap ((g:Int)*(v[k]:Int))=(gv:Int):=by
   rw[show (g:Int)*(v[k]:Int)=((g*v[k]:Nat):Int) by simp,hgv]; exact w64 (by omega)
  have u3:IntKind.u64.wrap ((gv:Int)+(cK g v k:Int))=(p:Int):=by rw[vW]<;>omega
  have u4:(p:Int).fdiv (2^min 32 IntKind.u64.bits)=(c2:Int):=by rw[aj,hc2]
  have u5:=ab5 hpB
  rw[hpl] at u5
  rw[z8] at hukB hplB
  have u6:IntKind.u64.wrap (uk:Int)=uk:=w64 (by omega)
  have u7:=abC ((uk:Int)-(pl:Int)) (b0:Int)
  have u8:=PJ ((uk:Int)-(pl:Int)-(b0:Int))
  rw[← hsd] at u8
  have u9:=PF (u:=(uk:Int)-(pl:Int)-(b0:Int)) (by omega) (by omega)
  have u10:(if (uk:Int)-(pl:Int)-(b0:Int)<0 then (1:Int) else 0)=(b2:Int):=by
   rw[hbs]; split<;>split<;>omega
  rw[u10] at u9
  have w1:IntKind.i64.wrap ((k:Int)+1)=(k:Int)+1:=wrap64 (by omega) (by omega)
  simp[mw,ek,ekv,ek3,hkv,u1,u2,u3,u4,u5,u6,u7,u8,u9,hA,hsg,splice,hset,w1,wB,hst1]
 ·simp[mw,Yi]
  exact hK
end
def UP (m:Am.Mode) (W v z:List Nat) (σ:List (Nat × ze)) (out:List (List (Nat × AV))) (b j off e g k:Nat):St :=
 {env:=[(0,.sl j 1 off (e+3)),(1,nl m v),(5,iv ((e:Int)+2)),(7,ya g),(9,ya (car z v k)),(134,iv ((e:Int)+2)),(135,iv k)],sto:=pt σ j (.arr 1 (zH (seg W off (yQ (val z+val v) z k)))),out:=out,base:=b}
section
variable {m:Am.Mode} {W v z:List Nat} {σ:List (Nat × ze)} {out:List (List (Nat × AV))} {b j off e g:Nat} {K:Exit→St→Prop} (h:cy W v off e) (hz:ok z) (hzl:z.length=e+3)
include h hz hzl
theorem Gn {s:St} (hs:lD s (UP m W v z σ out b j off e g 0))
  (hK:awp Tryz.prog r7 {env:=[(0,.sl j 1 off (e+3)),(1,nl m v),(5,iv ((e:Int)+2)),(7,ya g),(9,ya (car z v (e+2))),(134,iv ((e:Int)+2)),(135,iv ((e:Int)+2)),(136,bv false)],sto:=pt σ j (.arr 1 (zH (seg W off (yQ (val z+val v) z (e+2))))),out:=out,base:=b} K) :
  awp Tryz.prog (.loop my) s (wP 4 (rm Tryz.prog r7 K)):=by
 have hvl:=h.hv
 have hWl:=h.hW
 have hsm:=h.small
 refine zr (UP m W v z σ out b j off e g) (fun _=>True) (e+2) hs trivial (fun k hk _=>?_) (fun _=>?_)
 ·have hkv:k<v.length:=by omega
  have hkz:k<z.length:=by omega
  have hvB:=xO h.okv hkv
  have hzB:=xO hz hkz
  have hc:=TA hz h.okv k
  obtain ⟨t,ht,g1,g2⟩:=S8 (a:=z) (b:=v) hkz (by omega)
  rw[List.getElem?_eq_getElem hkv,Option.getD_some] at ht
  have hmx:=bN (Z:=val z+val v) hkz
  have hml:=fi (Z:=val z+val v) (u:=z) (k:=k) (by omega)
  have hmg:=bM (Z:=val z+val v) hkz
  have hsl:=gu (W:=W) (X:=yQ (val z+val v) z k) (off:=off) (by rw[hml]; omega)
  have hsg:=Y8 (W:=W) (X:=yQ (val z+val v) z k) (off:=off) (i:=k) (by rw[hml]; omega) (by omega)
  have hss:=Y9 (W:=W) (X:=yQ (val z+val v) z k) (off:=off) (i:=k) (d:=(val z+val v)/B^k%B) (by rw[hml]; omega) (by omega)
  rw[hmx,g1] at hss
  rw[hmg] at hsg
  obtain ⟨d,hd⟩:∃ d,t%B=d:=⟨_,rfl⟩
  obtain ⟨q,hq⟩:∃ q,t/B=q:=⟨_,rfl⟩
  rw[hd] at hss
  rw[hq] at g2
  have hA:off+k<(seg W off (yQ (val z+val v) z k)).length:=by omega
  have hset:(zH (seg W off (yQ (val z+val v) z k))).set (off+k) [uv d]=zH (seg W off (yQ (val z+val v) z (k+1))):=by rw[xg,hss]
  have hst1:UP m W v z σ out b j off e g (k+1)={env:=[(0,.sl j 1 off (e+3)),(1,nl m v),(5,iv ((e:Int)+2)),(7,ya g),(9,ya q),(134,iv ((e:Int)+2)),(135,iv ((k:Int)+1))],sto:=pt σ j (.arr 1 (zH (seg W off (yQ (val z+val v) z (k+1))))),out:=out,base:=b}:=by
   rw[UP,g2]; rfl
  rw[UP]
  generalize car z v k=c at *
  generalize hzk:z[k]=zk at *
  generalize hvk:v[k]=vk at *
  rw[z8] at hvB hzB
  have ek:(k:Int)<(e:Int)+2:=by omega
  have ekv:(k:Int)<v.length:=by omega
  have ek3:(k:Int)<(e:Int)+3:=by omega
  have f1:IntKind.u32.wrap (t:Int)=(d:Int):=by rw[w32,hd]
  have f2:(t:Int).fdiv (2^min 32 IntKind.u64.bits)=(q:Int):=by rw[aj,hq]
  have u1:IntKind.u64.wrap (vk:Int)=vk:=w64 (by omega)
  have u2:IntKind.u64.wrap (zk:Int)=zk:=w64 (by omega)
  have u3:IntKind.u64.wrap ((zk:Int)+(vk:Int))=(zk:Int)+vk:=by rw[vW]<;>omega
  have u4:IntKind.u64.wrap ((zk:Int)+(vk:Int)+(c:Int))=(t:Int):=by rw[vW]<;>omega
  have w1:IntKind.i64.wrap ((k:Int)+1)=(k:Int)+1:=wrap64 (by omega) (by omega)
  simp[my,ek,ekv,ek3,hkv,hvk,u1,u2,u3,u4,f1,f2,hA,hsg,splice,hset,w1,wB,hst1]
 ·simp[my,UP]
  exact hK
theorem BC (hg:0<g) (hgB:g<B):awp Tryz.prog r7 {env:=[(0,.sl j 1 off (e+3)),(1,nl m v),(5,iv ((e:Int)+2)),(7,ya g),(9,ya (car z v (e+2))),(134,iv ((e:Int)+2)),(135,iv ((e:Int)+2)),(136,bv false)],sto:=pt σ j (.arr 1 (zH (seg W off (yQ (val z+val v) z (e+2))))),out:=out,base:=b}
  (fun ex s=>ex=.ret∧s={env:=[(4,uv (g-1))],sto:=pt σ j (.arr 1 (zH (seg W off (zu (e+3) (val z+val v))))),out:=out,base:=b}):=by
 have hvl:=h.hv
 have hWl:=h.hW
 have hsm:=h.small
 have hkz:e+2<z.length:=by omega
 have hzB:=xO hz hkz
 have hc:=TA hz h.okv (e+2)
 obtain ⟨t,ht,g1,g2⟩:=S8 (a:=z) (b:=v) hkz (by omega)
 rw[List.getElem?_eq_none (by omega),Option.getD_none] at ht
 have hmx:=bN (Z:=val z+val v) hkz
 have hml:=fi (Z:=val z+val v) (u:=z) (k:=e+2) (by omega)
 have hmg:=bM (Z:=val z+val v) hkz
 have hsl:=gu (W:=W) (X:=yQ (val z+val v) z (e+2)) (off:=off) (by rw[hml]; omega)
 have hsg:=Y8 (W:=W) (X:=yQ (val z+val v) z (e+2)) (off:=off) (i:=e+2) (by rw[hml]; omega) (by omega)
 have hss:=Y9 (W:=W) (X:=yQ (val z+val v) z (e+2)) (off:=off) (i:=e+2) (d:=(val z+val v)/B^(e+2)%B) (by rw[hml]; omega) (by omega)
 rw[hmx,g1,show e+2+1=e+3 from rfl,Mc hzl] at hss
 rw[hmg] at hsg
 obtain ⟨d,hd⟩:∃ d,t%B=d:=⟨_,rfl⟩
 rw[hd] at hss
 have hA:off+(e+2)<(seg W off (yQ (val z+val v) z (e+2))).length:=by omega
 have hset:(zH (seg W off (yQ (val z+val v) z (e+2)))).set (off+(e+2)) [uv d]=zH (seg W off (zu (e+3) (val z+val v))):=by rw[xg,hss]
 generalize car z v (e+2)=c at *
 generalize hzk:z[e+2]=zk at *
 have e1:((e:Int)+2).toNat=e+2:=by omega
 have e2:(0:Int)≤(e:Int)+2:=by omega
 have e3:(e:Int)+2<(e:Int)+3:=by omega
 have u1:IntKind.u32.wrap (c:Int)=c:=IntWalk.u32_in _ (by omega)
 have u2:IntKind.u32.wrap ((zk:Int)+(c:Int))=(d:Int):=by
  have:(zk:Int)+(c:Int)=(t:Int):=by omega
  rw[this,w32,hd]
 rw[z8] at hgB
 have u3:IntKind.u64.wrap ((g:Int)-1)=((g-1:Nat):Int):=by rw[vW]<;>omega
 have u4:IntKind.u32.wrap ((g-1:Nat):Int)=((g-1:Nat):Int):=IntWalk.u32_in _ (by omega)
 simp[r7,e1,e2,e3,hA,hsg,u1,u2,u3,u4,splice,hset]
end
theorem TU {α:Type} {l:List (Nat × α)} {n:Nat} {x:α} (h:lk l n=some x):lk (pt l n x)=lk l:=by
 funext i
 rw[wb]
 split
 ·subst i; exact h.symm
 ·rfl
section
variable {m:Am.Mode} {W v:List Nat} {σ:List (Nat × ze)} {out:List (List (Nat × AV))} {b j off e g x:Nat} {K:Exit→St→Prop} (h:cy W v off e)
  (hg:g<B) (hx:∀ k,k<e+3→x/B^k%B=W.getD (off+k) 0) (hT:g*val v≤x) (hZ:x-g*val v<B^(e+3))
include h hg hx hT hZ
theorem Gp (hK0:bor x (g*val v) (e+3)=0→K .ret {env:=[(4,uv g)],sto:=pt σ j (.arr 1 (zH (seg W off (zu (e+3) (x-g*val v))))),out:=out,base:=b})
  (hK1:bor x (g*val v) (e+3)=1→0<g∧K .ret {env:=[(4,uv (g-1))],sto:=pt σ j (.arr 1 (zH (seg W off (zu (e+3) (x-g*val v+val v))))),out:=out,base:=b}) :
  awp Tryz.prog tA {env:=[(0,.sl j 1 off (e+3)),(1,nl m v),(5,iv ((e:Int)+2)),(7,ya g),(9,ya (cK g v (e+2))),(10,ya (bor x (g*val v) (e+2))),(82,iv ((e:Int)+2)),(83,iv ((e:Int)+2)),(84,bv false)],sto:=pt σ j (.arr 1 (zH (seg W off (yQ (x-g*val v) ((W.drop off).take (e+3)) (e+2))))),out:=out,base:=b} K:=by
 have hvl:=h.hv
 have hWl:=h.hW
 have hsm:=h.small
 generalize hue:(W.drop off).take (e+3)=u at *
 have hul:u.length=e+3:=by rw[← hue]; simp; omega
 have hku:e+2<u.length:=by omega
 have hWk:off+(e+2)<W.length:=by omega
 have huk:u[e+2]=W[off+(e+2)]:=by subst hue; simp
 have hq:W.getD (off+(e+2)) 0=W[off+(e+2)]:=by simp[hWk]
 have hukB:u[e+2]<B:=by rw[huk]; exact xO h.okW hWk
 have hcB:cK g v (e+2)<B:=ZW h.okv hg (e+2)
 have hcT:g*val v/B^(e+2)%B=cK g v (e+2):=by
  have:cK g v (e+2)=g*val v/B^(e+2):=by unfold cK; rw[List.take_of_length_le (by omega)]
  rw[← this,Nat.mod_eq_of_lt hcB]
 have hsd:=da (k:=e+2) hT
 have hbs:=cI (x:=x) (y:=g*val v) (k:=e+2)
 have hb1:=Tg (x:=x) (y:=g*val v) (k:=e+2)
 rw[hx (e+2) (by omega),hq,← huk,hcT] at hsd hbs
 have hmx:=bN (Z:=x-g*val v) hku
 rw[show e+2+1=e+3 from rfl,Mc hul] at hmx
 have hml:=fi (Z:=x-g*val v) (u:=u) (k:=e+2) (by omega)
 have hmg:=bM (Z:=x-g*val v) hku
 have hsl:=gu (W:=W) (X:=yQ (x-g*val v) u (e+2)) (off:=off) (by rw[hml]; omega)
 have hsg:=Y8 (W:=W) (X:=yQ (x-g*val v) u (e+2)) (off:=off) (i:=e+2) (by rw[hml]; omega) (by omega)
 have hss:=Y9 (W:=W) (X:=yQ (x-g*val v) u (e+2)) (off:=off) (i:=e+2) (d:=(x-g*val v)/B^(e+2)%B) (by rw[hml]; omega) (by omega)
 rw[hmx] at hss
 rw[hmg] at hsg
 obtain ⟨d,hd⟩:∃ d,(x-g*val v)/B^(e+2)%B=d:=⟨_,rfl⟩
 rw[hd] at hss hsd
 rw[show e+2+1=e+3 from rfl] at hbs
 have hA:off+(e+2)<(seg W off (yQ (x-g*val v) u (e+2))).length:=by omega
 have hset:(zH (seg W off (yQ (x-g*val v) u (e+2)))).set (off+(e+2)) [uv d]=zH (seg W off (zu (e+3) (x-g*val v))):=by rw[xg,hss]
 have hg0:bor x (g*val v) (e+3)=1→0<g:=fun h1=>by
  rcases Nat.eq_zero_or_pos g with h0 | h0
  ·exfalso
   rw[h0,Nat.zero_mul] at h1
   simp[bor] at h1
  ·exact h0
 generalize cK g v (e+2)=c at *
 generalize bor x (g*val v) (e+2)=b0 at *
 generalize hb2:bor x (g*val v) (e+3)=b2 at *
 generalize huk2:u[e+2]=uk at *
 clear hd
 have e1:((e:Int)+2).toNat=e+2:=by omega
 have e2:(0:Int)≤(e:Int)+2:=by omega
 have e3:(e:Int)+2<(e:Int)+3:=by omega
 rw[z8] at hukB hcB
 have u6:IntKind.u64.wrap (uk:Int)=uk:=w64 (by omega)
 have u7:=abC ((uk:Int)-(c:Int)) (b0:Int)
 have u8:=PJ ((uk:Int)-(c:Int)-(b0:Int))
 have hsd':((d:Nat):Int)=((uk:Int)-(c:Int)-(b0:Int))%4294967296:=hsd
 rw[← hsd'] at u8
 have u9:=PF (u:=(uk:Int)-(c:Int)-(b0:Int)) (by omega) (by omega)
 have u10:(if (uk:Int)-(c:Int)-(b0:Int)<0 then (1:Int) else 0)=(b2:Int):=by
  rw[hbs]; split<;>split<;>omega
 rw[u10] at u9
 have hgB:=hg
 rw[z8] at hgB
 have u11:IntKind.u32.wrap (g:Int)=(g:Int):=IntWalk.u32_in _ (by omega)
 have hb2v:b2=0∨b2=1:=by rw[hbs]; split<;>simp
 rcases hb2v with h0 | h0
 ·subst h0
  simp[tA,e1,e2,e3,hA,hsg,u6,u7,u8,u9,u11,wB,splice,hset]
  exact hK0 rfl
 ·subst h0
  obtain ⟨hgp,hfin⟩:=hK1 rfl
  simp[tA,e1,e2,e3,hA,hsg,u6,u7,u8,u9,wB,splice,hset]
  refine Gn (m:=m) (σ:=σ) (out:=out) (b:=b) (j:=j) (g:=g) h (yD (n:=e+3) (x:=x-g*val v)) zy ?_ ?_
  ·simp[UP,ZU,Ua]
  ·refine xP (fun ex s hs=>?_) (BC h (yD (n:=e+3) (x:=x-g*val v)) zy hgp hg)
   rw[yk hZ] at hs
   obtain ⟨rfl,rfl⟩:=hs
   exact hfin
theorem Qr (hj:lk σ j=some (.arr 1 (zH W))) {r y:AV} {q:Nat} (hq:q=69∨q=81) (hK0:bor x (g*val v) (e+3)=0→K .ret {env:=[(4,uv g)],sto:=pt σ j (.arr 1 (zH (seg W off (zu (e+3) (x-g*val v))))),out:=out,base:=b})
  (hK1:bor x (g*val v) (e+3)=1→0<g∧K .ret {env:=[(4,uv (g-1))],sto:=pt σ j (.arr 1 (zH (seg W off (zu (e+3) (x-g*val v+val v))))),out:=out,base:=b}) :
  awp Tryz.prog vp {env:=[(0,.sl j 1 off (e+3)),(1,nl m v),(5,iv ((e:Int)+2)),(7,ya g),(8,r),(q,y)],sto:=σ,out:=out,base:=b} K:=by
 have hl:=Gp (m:=m) (σ:=σ) (out:=out) (b:=b) (j:=j) h hg hx hT hZ hK0 hK1
 have hc0:cK g v 0=0:=by simp[cK,val]
 have hs:=aaO (W:=W) (off:=off) (n:=e+3) (by have:=h.hW; omega)
 rcases hq with rfl | rfl
 ·simp[vp]
  refine Qs h hg hx hT ?_ hl
  simp[Yi,ZU,hs,hc0,cJ]
  exact .inr (.inl (TU hj))
 ·simp[vp]
  refine Qs h hg hx hT ?_ hl
  simp[Yi,ZU,hs,hc0,cJ]
  exact .inr (.inl (TU hj))
end
theorem Bl {v:List Nat} {e:Nat} (h:v.length=e+2):val v=(v.getD (e+1) 0*B+v.getD e 0)*B^e+val (v.take e):=by
 have h1:=v3 v e
 have h2:v.drop e=[v[e],v[e+1]]:=by
  rw[List.drop_eq_getElem_cons (by omega),List.drop_eq_getElem_cons (by omega),List.drop_of_length_le (by omega)]
 rw[Nat.min_eq_left (by omega),h2] at h1
 have q1:v.getD (e+1) 0=v[e+1]:=by simp[h]
 have q2:v.getD e 0=v[e]:=by simp[h]
 rw[h1,q1,q2]
 simp only[val,Nat.mul_zero,Nat.add_zero]
 grind
theorem Bm {u:List Nat} {e:Nat} (h:u.length=e+3):val u=((u.getD (e+2) 0*B+u.getD (e+1) 0)*B+u.getD e 0)*B^e+val (u.take e):=by
 have h1:=v3 u e
 have h2:u.drop e=[u[e],u[e+1],u[e+2]]:=by
  rw[List.drop_eq_getElem_cons (by omega),List.drop_eq_getElem_cons (by omega),List.drop_eq_getElem_cons (by omega),List.drop_of_length_le (by omega)]
 rw[Nat.min_eq_left (by omega),h2] at h1
 have q0:u.getD (e+2) 0=u[e+2]:=by simp[h]
 have q1:u.getD (e+1) 0=u[e+1]:=by simp[h]
 have q2:u.getD e 0=u[e]:=by simp[h]
 rw[h1,q0,q1,q2]
 simp only[val,Nat.mul_zero,Nat.add_zero]
 grind
theorem agv {t v1 v2 u2 P Q R U V:Nat} (_hP:0<P) (hU:U=(t*B+u2)*P+R) (hV:V=(v1*B+v2)*P+Q) (hQ:Q<P) (hv2:v2<B) (hlt:U<V*B):t≤v1*B+(B-1):=by
 have a1:t*B*P≤U:=by
  rw[hU]
  have:t*B*P≤(t*B+u2)*P:=Nat.mul_le_mul_right _ (Nat.le_add_right _ _)
  exact Nat.le_trans this (Nat.le_add_right _ _)
 have a2:V≤(v1*B+B)*P:=by
  rw[hV]
  have h1:(v1*B+v2+1)*P≤(v1*B+B)*P:=Nat.mul_le_mul_right _ (by omega)
  rw[Nat.add_mul,Nat.one_mul] at h1
  exact Nat.le_trans (Nat.add_le_add_left (Nat.le_of_lt hQ) _) h1
 have a3:V*B≤(v1*B+B)*P*B:=Nat.mul_le_mul_right _ a2
 have a4:t*(P*B)<(v1*B+B)*(P*B):=by
  rw[← Nat.mul_assoc,← Nat.mul_assoc]
  rw[Nat.mul_assoc t,Nat.mul_comm B P,← Nat.mul_assoc] at a1
  exact Nat.lt_of_le_of_lt a1 (Nat.lt_of_lt_of_le hlt a3)
 have a5:=Nat.lt_of_mul_lt_mul_right a4
 have:=zZ
 generalize v1*B=q at *
 omega
theorem acT {w v1:Nat}:gK w v1 0=w/v1:=Nat.sub_zero _
theorem adK {w v1:Nat}:rK w v1 0=w%v1:=by unfold rK; rw[Nat.zero_mul,Nat.add_zero]
theorem SY {a c:Nat} (ha:a<B) (hc:c<B):a*B+c<18446744073709551616:=by
 have:(a+1)*B≤B*B:=Nat.mul_le_mul_right _ ha
 have hBB:B*B=18446744073709551616:=by decide
 rw[Nat.add_mul,hBB,Nat.one_mul] at this
 exact Nat.lt_of_lt_of_le (Nat.add_lt_add_left hc _) this
theorem BX {z n:Nat}:zu n (z+B^n)=zu n z:=Qt
theorem acE {m:Am.Mode} {W v:List Nat} {σ:List (Nat × ze)} {out:List (List (Nat × AV))} {b j off e g U Q R:Nat} {K:Exit→St→Prop} (h:cy W v off e) (hg:g<B) (hj:lk σ j=some (.arr 1 (zH W)))
  {r y:AV} {q:Nat} (hq:q=69∨q=81) (hx:∀ k,k<e+3→U/B^k%B=W.getD (off+k) 0) (hUN:U<B^(e+3)) (hTN:g*val v<B^(e+3)) (hmod:val v*Q+R=U) (hR:R<val v) (hc:Q≤g∧g≤Q+1)
  (hK:∀ ex s,ex=.ret→s={env:=[(4,uv Q)],sto:=pt σ j (.arr 1 (zH (seg W off (zu (e+3) R)))),out:=out,base:=b}→K ex s) :
  awp Tryz.prog vp {env:=[(0,.sl j 1 off (e+3)),(1,nl m v),(5,iv ((e:Int)+2)),(7,ya g),(8,r),(q,y)],sto:=σ,out:=out,base:=b} K:=by
 rcases Nat.lt_or_ge U (g*val v) with hlt | hle
 ·have hgQ:g=Q+1:=by
   rcases Nat.lt_or_ge Q g with h1 | h1
   ·omega
   ·exfalso
    have:g*val v≤Q*val v:=Nat.mul_le_mul_right _ h1
    rw[Nat.mul_comm] at hmod
    omega
  subst hgQ
  have hz:U+B^(e+3)-(Q+1)*val v+val v=R+B^(e+3):=by
   rw[Nat.add_mul,Nat.one_mul] at *
   rw[Nat.mul_comm] at hmod
   omega
  refine Qr (x:=U+B^(e+3)) h hg (fun k hk=>?_) (by omega) (by omega) hj hq (fun h0=>?_) (fun _=>⟨by omega,?_⟩)
  ·rw[EG hk]; exact hx k hk
  ·exfalso
   simp only[bor,Nat.add_mod_right,Nat.mod_eq_of_lt hUN,Nat.mod_eq_of_lt hTN,if_pos hlt] at h0
   exact absurd h0 (by decide)
  ·refine hK _ _ rfl ?_
   rw[hz,BX,Nat.add_sub_cancel]
 ·have hgQ:g=Q:=by
   rcases Nat.lt_or_ge Q g with h1 | h1
   ·exfalso
    have:(Q+1)*val v≤g*val v:=Nat.mul_le_mul_right _ h1
    rw[Nat.add_mul,Nat.one_mul] at this
    rw[Nat.mul_comm] at hmod
    omega
   ·omega
  subst hgQ
  have hz:U-g*val v=R:=by
   rw[Nat.mul_comm] at hmod
   omega
  refine Qr (x:=U) h hg hx hle (by omega) hj hq (fun _=>?_) (fun h1=>?_)
  ·exact hK _ _ rfl (by rw[hz])
  ·exfalso
   simp only[bor,Nat.mod_eq_of_lt hUN,Nat.mod_eq_of_lt hTN,if_neg (Nat.not_lt.mpr hle)] at h1
   exact absurd h1 (by decide)
theorem afk {m:Am.Mode} {W v:List Nat} {s:St} {K:AV→St→Prop} (b:Nat) {j off e U:Nat} (h:cy W v off e) (hj:lk s.sto j=some (.arr 1 (zH W)))
  (h1:0<v.getD (e+1) 0) (hU:U=val ((W.drop off).take (e+3))) (hlt:U<val v*B)
  (hK:K (uv (U/val v)) ⟨s.env,pt s.sto j (.arr 1 (zH (seg W off (zu (e+3) (U%val v))))),s.out,s.base⟩):z0 Tryz.prog Zi [.sl j 1 off (e+3),nl m v] s K:=by
 obtain ⟨env,σ,out,base⟩:=s
 simp only at hj hK
 have hvl:=h.hv
 have hWl:=h.hW
 have hsm:=h.small
 have hul:((W.drop off).take (e+3)).length=e+3:=by simp; omega
 have hug:∀ k,k<e+3→((W.drop off).take (e+3)).getD k 0=W.getD (off+k) 0:=fun k hk=>by
  simp[List.getD,hk]
 have hvV:=Bl hvl
 have huU:=Bm hul
 rw[← hU,hug _ (by omega),hug _ (by omega),hug _ (by omega)] at huU
 have okv2:ok ((W.drop off).take (e+3)):=tP (Rz h.okW off) _
 have hv2:v.getD e 0<B:=v5 h.okv _
 have hu2:W.getD (off+e) 0<B:=v5 h.okW _
 have hQ:val (v.take e)<B^e:=xh (tP h.okv e) (by simp; omega)
 have hR:val (((W.drop off).take (e+3)).take e)<B^e:=xh (tP okv2 e) (by simp; omega)
 have hclose:=Fc (w:=rq W off e) h1 hu2 hv2 huU hR hvV hQ hlt
 have hw:rq W off e≤v.getD (e+1) 0*B+(B-1):=by
  exact agv (Nat.pow_pos zZ) huU hvV hQ hv2 hlt
 have hv1:e+1<v.length:=by omega
 have hWa:off+(e+2)<W.length:=by omega
 have hWb:off+(e+1)<W.length:=by omega
 refine vb b Bc (by simp) ?_
 have p1:v.getD (e+1) 0=v[e+1]:=by simp[hv1]
 have p2:W.getD (off+(e+2)) 0=W[off+(e+2)]:=by simp[hWa]
 have p3:W.getD (off+(e+1)) 0=W[off+(e+1)]:=by simp[hWb]
 have b1:v[e+1]<B:=xO h.okv hv1
 have b2:W[off+(e+2)]<B:=xO h.okW hWa
 have b3:W[off+(e+1)]<B:=xO h.okW hWb
 have hsh:=PE b2
 have hwe:rq W off e=W[off+(e+2)]*B+W[off+(e+1)]:=by rw[rq,p2,p3]
 have hor:rS .or .u64 ((W[off+(e+2)]*B:Nat):Int) (W[off+(e+1)]:Int)=((rq W off e:Nat):Int):=by rw[hwe]; exact or_hi b2 b3
 have hwB:rq W off e<18446744073709551616:=by rw[hwe]; exact SY b2 b3
 have fin:∀ K2:Exit→St→Prop,(∀ ex s,ex=.ret→s={env:=[(4,uv (U/val v))],sto:=pt σ j (.arr 1 (zH (seg W off (zu (e+3) (U%val v))))),out:=env::out,base:=b}→K2 ex s) →
   awp Tryz.prog (.loop wA) (Yh m W v σ (env::out) b j off e 0) (wP 0 (rm Tryz.prog vp K2)):=by
  intro K2 hK2
  have hw3:∀ k,k<e+3→U/B^k%B=W.getD (off+k) 0:=fun k hk=>by
   have hd:=ZD okv2
   rw[hul,← hU] at hd
   have h2:k<(zu (e+3) U).length:=by rw[zy]; exact hk
   rw[← vr h2,← hug k hk,← hd]
   simp[List.getD,h2]
  have hUN:U<B^(e+3):=by rw[hU]; exact xh okv2 (Nat.le_of_eq hul)
  have hVpos:0<val v:=by
   have hpp:=Nat.pow_pos (n:=e) zZ
   rw[hvV]
   exact Nat.lt_of_lt_of_le (Nat.mul_pos (Nat.lt_of_lt_of_le (Nat.mul_pos h1 zZ) (Nat.le_add_right _ _)) hpp) (Nat.le_add_right _ _)
  have hgB:mJ (rq W off e) (W.getD (off+e) 0) (v.getD (e+1) 0) (v.getD e 0)<B:=Nat.lt_of_le_of_lt (Nat.min_le_left _ _) (by decide)
  refine LO h hj h1 hw _ rfl fun r q y hq=>?_
  generalize mJ (rq W off e) (W.getD (off+e) 0) (v.getD (e+1) 0) (v.getD e 0)=g at *
  have hmod:val v*(U/val v)+U%val v=U:=Nat.div_add_mod U (val v)
  have hml:=Nat.mod_lt U hVpos
  have hVN:val v<B^(e+2):=xh h.okv (Nat.le_of_eq hvl)
  have hTN:g*val v<B^(e+3):=by
   rw[show e+3=(e+2)+1 from rfl,Nat.pow_succ,Nat.mul_comm]
   exact Nat.mul_lt_mul_of_lt_of_lt hVN hgB
  exact acE h hgB hj hq hw3 hUN hTN hmod hml hclose hK2
 have st0:Yh m W v σ (env::out) b j off e 0={env:=[(0,.sl j 1 off (e+3)),(1,nl m v),(5,iv ((e:Int)+2)),(7,ya (rq W off e/v.getD (e+1) 0)),(8,ya (rq W off e%v.getD (e+1) 0))],sto:=σ,out:=env::out,base:=b}:=by
  rw[Yh,acT,adK]
 rw[st0] at fin
 clear hwe
 clear st0 hclose hw huU hvV
 obtain ⟨rb,hrb⟩:∃ rb,W[off+(e+2)]*B=rb:=⟨_,rfl⟩
 rw[hrb] at hor hsh
 generalize rq W off e=w at *
 rw[p1] at fin h1
 generalize g1:v[e+1]=v1 at *
 generalize g2:W[off+(e+2)]=w3 at *
 generalize g3:W[off+(e+1)]=w2 at *
 have t1:IntKind.u64.wrap ((w:Int).tdiv v1)=((w/v1:Nat):Int):=by
  rw[← Int.ofNat_tdiv]
  exact w64 (Nat.lt_of_le_of_lt (Nat.div_le_self _ _) hwB)
 have t2:((w:Int).tmod v1)=((w%v1:Nat):Int):=by rw[← Int.ofNat_tmod]
 have t3:IntKind.u64.wrap ((w:Int)/v1)=((w/v1:Nat):Int):=by
  rw[← Int.natCast_ediv]
  exact w64 (Nat.lt_of_le_of_lt (Nat.div_le_self _ _) hwB)
 generalize w/v1=q at *
 generalize w%v1=r at *
 have hv10:¬ v1=0:=by omega
 have c0:(e:Int)+2<(e:Int)+3:=by omega
 have c1:((e:Int)+2).toNat=e+2:=by omega
 have c2:((e:Int)+1).toNat=e+1:=by omega
 have c3:(0:Int)≤(e:Int)+2:=by omega
 have c4:(0:Int)≤(e:Int)+1:=by omega
 have c5:(e:Int)+1<(e:Int)+3:=by omega
 have i5:IntKind.i64.wrap ((e:Int)+2-1)=(e:Int)+1:=by rw[wrap64]<;>omega
 have hlen:(v.length:Int)=(e:Int)+2:=by omega
 rw[z8] at b1 b2 b3
 have u1:IntKind.u64.wrap (v1:Int)=v1:=w64 (by omega)
 have u2:IntKind.u64.wrap (w3:Int)=w3:=w64 (by omega)
 have u3:IntKind.u64.wrap (w2:Int)=w2:=w64 (by omega)
 simp[Ql,hj,g1,g2,g3,c0,c1,c2,c3,c4,c5,i5,hlen,u1,u2,u3,hWa,hWb,hv1,hv10,vH,hsh,hor,sy,nv,t2,t3]
 refine fin _ fun ex s he hs=>?_
 subst he hs
 simp[QT]
 exact hK
end Go.Proofs.YtjeoklgggppjiaaGreat

namespace Go.Dig
def lz (t:Nat):Nat:=31-Nat.log2 t
theorem Pz {t:Nat}:lz t<32:=by unfold lz; omega
theorem afI {t:Nat} (ht:t<B):Nat.log2 t<32:=by
 rcases Nat.eq_zero_or_pos t with h | h
 ·subst h; decide
 ·exact (Nat.log2_lt (by omega)).2 ht
theorem AE {t k:Nat} (_ht:t<B) (hk:k<lz t):t*2^k<2147483648:=by
 have h1:t<2^(Nat.log2 t+1):=Nat.lt_log2_self
 have h2:t*2^k<2^(Nat.log2 t+1)*2^k:=Nat.mul_lt_mul_of_pos_right h1 (Nat.pow_pos (by omega))
 rw[← Nat.pow_add] at h2
 have h3:2^(Nat.log2 t+1+k)≤2^31:=Nat.pow_le_pow_right (by omega) (by unfold lz at hk; omega)
 have h4:(2:Nat)^31=2147483648:=by decide
 omega
theorem Ma {t:Nat} (h0:0<t) (ht:t<B):2147483648≤t*2^lz t∧t*2^lz t<B:=by
 have hl:=afI ht
 constructor
 ·have h1:2^Nat.log2 t≤t:=Nat.log2_self_le (by omega)
  have h2:2^Nat.log2 t*2^lz t≤t*2^lz t:=Nat.mul_le_mul_right _ h1
  rw[← Nat.pow_add,show Nat.log2 t+lz t=31 by unfold lz; omega] at h2
  have h4:(2:Nat)^31=2147483648:=by decide
  omega
 ·have h1:t<2^(Nat.log2 t+1):=Nat.lt_log2_self
  have h2:t*2^lz t<2^(Nat.log2 t+1)*2^lz t:=Nat.mul_lt_mul_of_pos_right h1 (Nat.pow_pos (by omega))
  rw[← Nat.pow_add,show Nat.log2 t+1+lz t=32 by unfold lz; omega] at h2
  exact h2
theorem LQ {x n:Nat} (h1:B^n≤x) (h2:x<B^(n+1)):(zg x).length=n+1:=by
 have a:=zI.2 h2
 have b:=dt.2 h1
 omega
theorem db {D n:Nat} (h:(zg D).length=n+1):B^n≤D∧D<B^(n+1)∧0<D/B^n∧D/B^n<B:=by
 have a:B^n≤D:=dt.1 (by omega)
 have b:D<B^(n+1):=zI.1 (by omega)
 refine ⟨a,b,Nat.div_pos a (ut n),Nat.div_lt_of_lt_mul ?_⟩
 rw[← Nat.pow_succ]; exact b
theorem Cv {D n N:Nat} (h:(zg D).length=n+1) (hN:N=lz (D/B^n)):B^n≤D*2^N∧D*2^N<B^(n+1)∧(zg (D*2^N)).length=n+1:=by
 obtain ⟨a,b,c,d⟩:=db h
 have hl:=(Ma c d).2
 rw[← hN] at hl
 have hN32:N<32:=by rw[hN]; exact Pz
 have hB:B=2^(32-N)*2^N:=by
  rw[← Nat.pow_add,Nat.sub_add_cancel (by omega)]; rfl
 have h1:D/B^n+1≤2^(32-N):=by
  have h0:=hl
  generalize D/B^n=t at *
  rw[hB] at h0
  exact Nat.lt_of_mul_lt_mul_right h0
 have h2:D<(D/B^n+1)*B^n:=by
  have:=Nat.lt_mul_div_succ D (ut n)
  rw[Nat.mul_comm] at this
  exact this
 have h3:D<2^(32-N)*B^n:=Nat.lt_of_lt_of_le h2 (Nat.mul_le_mul_right _ h1)
 have h4:D*2^N<2^(32-N)*B^n*2^N:=Nat.mul_lt_mul_of_pos_right h3 (Nat.pow_pos (by omega))
 have h5:2^(32-N)*B^n*2^N=B^(n+1):=by
  rw[Nat.mul_right_comm,← hB,Nat.pow_succ,Nat.mul_comm]
 have h6:B^n≤D*2^N:=Nat.le_trans a (Nat.le_mul_of_pos_right _ (Nat.pow_pos (by omega)))
 rw[h5] at h4
 exact ⟨h6,h4,LQ h6 h4⟩
def rst (A V j:Nat):Nat:=A/B^j%V*B^j+A%B^j
theorem Sh {A V j n:Nat} (hV:V<B^n) (h0:0<V):rst A V j<B^(j+n):=by
 have h1:A/B^j%V+1≤B^n:=Nat.le_trans (Nat.mod_lt _ h0) (Nat.le_of_lt hV)
 have h2:(A/B^j%V+1)*B^j≤B^n*B^j:=Nat.mul_le_mul_right _ h1
 have h3:A%B^j<B^j:=Nat.mod_lt _ (ut j)
 have h4:B^(j+n)=B^n*B^j:=by rw[Nat.pow_add,Nat.mul_comm]
 unfold rst
 rw[h4]
 rw[Nat.add_mul,Nat.one_mul] at h2
 omega
theorem aaF {A V:Nat}:rst A V 0=A%V:=by simp[rst,Nat.mod_one]
theorem ad0 {A V j:Nat} (h:A/B^j<V):rst A V j=A:=by
 unfold rst
 rw[Nat.mod_eq_of_lt h,Nat.mul_comm]
 exact Nat.div_add_mod A (B^j)
theorem adY {A V j:Nat}:rst A V j%B^j=A%B^j:=by
 unfold rst
 rw[Nat.add_comm,Nat.add_mul_mod_self_right,Nat.mod_mod]
theorem adZ {A V j:Nat}:rst A V (j+1)/B^j=A/B^j/B%V*B+A/B^j%B:=by
 unfold rst
 rw[show A/B^(j+1)=A/B^j/B by rw[Nat.pow_succ,Nat.div_div_eq_div_mul]]
 have h1:A%B^(j+1)=A%B^j+B^j*(A/B^j%B):=by rw[Nat.pow_succ,Nat.mod_mul]
 rw[h1,Nat.pow_succ]
 have h2:A/B^j/B%V*(B^j*B)+(A%B^j+B^j*(A/B^j%B))=A%B^j+(A/B^j/B%V*B+A/B^j%B)*B^j:=by grind
 rw[h2,Nat.add_mul_div_right _ _ (ut j),Nat.div_eq_of_lt (Nat.mod_lt _ (ut j)),Nat.zero_add]
theorem aaE {A V j L n:Nat} (hV:V<B^n) (h0:0<V) (hL:j+n+1≤L):seg (zu L (rst A V (j+1))) j (zu (n+1) (A/B^j%V))=zu L (rst A V j):=by
 have hlen:j+(zu (n+1) (A/B^j%V)).length≤(zu L (rst A V (j+1))).length:=by rw[zy,zy]; omega
 have hlt1:=Sh (A:=A) (j:=j+1) hV h0
 have hlt0:=Sh (A:=A) (j:=j) hV h0
 have hle:B^(j+1+n)≤B^L:=Nat.pow_le_pow_right zZ (by omega)
 have hle0:B^(j+n)≤B^L:=Nat.pow_le_pow_right zZ (by omega)
 have hL1:rst A V (j+1)<B^L:=Nat.lt_of_lt_of_le hlt1 hle
 have o1:ok (zu L (rst A V (j+1))):=yD
 refine Xh ?_ yD (by rw[gu hlen,zy,zy]) ?_
 ·unfold seg
  exact QK.2 ⟨QK.2 ⟨tP o1 _,yD⟩,Rz o1 _⟩
 ·unfold seg
  rw[val_append,val_append,LA o1 (by rw[zy]; omega),U2 o1 (by rw[zy,zy]; omega),yk hL1,yk (Nat.lt_of_lt_of_le hlt0 hle0)]
  have hz:rst A V (j+1)/B^(j+(zu (n+1) (A/B^j%V)).length)=0:=by
   rw[zy]
   exact Nat.div_eq_of_lt (by rw[show j+(n+1)=j+1+n by omega]; exact hlt1)
  have hl:(List.take j (zu L (rst A V (j+1)))).length=j:=by simp[zy]; omega
  have hx:A/B^j%V<B^(n+1):=Nat.lt_trans (Nat.lt_trans (Nat.mod_lt _ h0) hV) (Nat.pow_lt_pow_right (by decide) (by omega))
  rw[hz,hl,yk hx,Nat.mul_zero,Nat.add_zero]
  have h1:rst A V (j+1)%B^j=A%B^j:=by
   have h2:rst A V (j+1)%B^(j+1)%B^j=A%B^(j+1)%B^j:=by rw[adY]
   rw[Nat.mod_mod_of_dvd _ (Nat.pow_dvd_pow B (by omega)),Nat.mod_mod_of_dvd _ (Nat.pow_dvd_pow B (by omega))] at h2
   exact h2
  rw[h1]
  unfold rst
  rw[Nat.mul_comm,Nat.add_comm]
theorem Cp {A V j:Nat} (h0:0<V):(rst A V (j+1)/B^j)/V=A/V/B^j%B∧(rst A V (j+1)/B^j)%V=A/B^j%V∧rst A V (j+1)/B^j<V*B:=by
 obtain ⟨s1,s2,s3⟩:=Sr (A:=A/B^j) h0
 rw[adZ]
 refine ⟨?_,s2,s3⟩
 rw[s1,Nat.div_div_eq_div_mul,Nat.div_div_eq_div_mul,Nat.mul_comm]
theorem Cw {X N i:Nat} (hN:N<32):(X/2^N)/B^i%B=(X/B^i%B)/2^N+(X/B^(i+1)%B)*2^(32-N)%B ∧
  (X/B^i%B)/2^N ||| (X/B^(i+1)%B)*2^(32-N)%B=(X/B^i%B)/2^N+(X/B^(i+1)%B)*2^(32-N)%B:=by
 have hB:B=2^(32-N)*2^N:=by
  rw[← Nat.pow_add,Nat.sub_add_cancel (by omega)]; rfl
 have hP:0<2^N:=Nat.pow_pos (by omega)
 have hM:0<2^(32-N):=Nat.pow_pos (by omega)
 rw[show X/2^N/B^i=X/B^i/2^N by rw[Nat.div_div_eq_div_mul,Nat.div_div_eq_div_mul,Nat.mul_comm],show X/B^(i+1)=X/B^i/B by rw[Nat.pow_succ,Nat.div_div_eq_div_mul]]
 generalize X/B^i=Y
 have hx:Y%B/2^N<2^(32-N):=by
  apply Nat.div_lt_of_lt_mul
  rw[Nat.mul_comm,← hB]; exact Nat.mod_lt _ zZ
 have hc:∀ q,q*2^(32-N)%B=(q%2^N)*2^(32-N):=fun q=>by
  have h:=Nat.mul_mod_mul_right (2^(32-N)) q (2^N)
  rw[Nat.mul_comm (2^N) (2^(32-N)),← hB] at h
  exact h
 have hY:Y/2^N=Y/B*2^(32-N)+Y%B/2^N:=by
  have h1:Y=Y%B+2^N*(Y/B*2^(32-N)):=by
   have h2:=Nat.mod_add_div Y B
   have h3:2^N*(Y/B*2^(32-N))=B*(Y/B):=by
    have:2^N*(Y/B*2^(32-N))=2^(32-N)*2^N*(Y/B):=by
     generalize Y/B=z
     generalize (2:Nat)^N=p
     generalize (2:Nat)^(32-N)=m
     grind
    rw[this,← hB]
   rw[h3]; exact h2.symm
  have h4:Y/2^N=(Y%B+2^N*(Y/B*2^(32-N)))/2^N:=by rw[← h1]
  rw[h4,Nat.add_mul_div_left _ _ hP,Nat.add_comm]
 have hd:2^N ∣ B:=⟨2^(32-N),by rw[hB,Nat.mul_comm]⟩
 rw[hY,hc (Y/B%B),Nat.mod_mod_of_dvd _ hd]
 generalize hq:Y/B%2^N=a
 have ha:a<2^N:=by rw[← hq]; exact Nat.mod_lt _ hP
 generalize Y%B/2^N=c at *
 have hlt:a*2^(32-N)+c<B:=by
  have h1:(a+1)*2^(32-N)≤2^N*2^(32-N):=Nat.mul_le_mul_right _ ha
  rw[Nat.mul_comm (2^N),← hB,Nat.add_mul,Nat.one_mul] at h1
  omega
 constructor
 ·have h2:=hc (Y/B)
  rw[hq] at h2
  rw[Nat.add_mod,h2,Nat.mod_eq_of_lt (a:=c) (by omega),Nat.mod_eq_of_lt hlt,Nat.add_comm]
 ·have h:=Nat.two_pow_add_eq_or_of_lt hx a
  rw[Nat.or_comm,Nat.mul_comm a,← h,Nat.add_comm]
structure Pr (A D n m N X V:Nat):Prop where
 N32:N<32
 X_eq:X=A*2^N
 V_eq:V=D*2^N
 Xlt:X<B^(n+2+m+1)
 Vlen:(zg V).length=n+2
 Vpos:0<V
 Vlt:V<B^(n+2)
 top:X/B^(m+1)<V
 q:X/V=A/D
 r:X%V=(A%D)*2^N
 vtop:0<(zg V).getD (n+1) 0
theorem agW {A D n m:Nat} (hA:(zg A).length=n+2+m) (hD:(zg D).length=n+2):Pr A D n m (lz (D/B^(n+1))) (A*2^lz (D/B^(n+1))) (D*2^lz (D/B^(n+1))):=by
 have hN32:lz (D/B^(n+1))<32:=Pz
 obtain ⟨h1,h2,h3⟩:=Cv (n:=n+1) hD rfl
 obtain ⟨h4,h5,h6,h7⟩:=db (n:=n+1) hD
 have hP:0<2^lz (D/B^(n+1)):=Nat.pow_pos (by omega)
 have hAlt:A<B^(n+2+m):=zI.1 (Nat.le_of_eq hA)
 generalize lz (D/B^(n+1))=N at *
 obtain ⟨k1,k2,k3,k4⟩:=db (n:=n+1) h3
 refine ⟨hN32,rfl,rfl,?_,h3,Nat.lt_of_lt_of_le (ut _) h1,h2,?_,Nat.mul_div_mul_right _ _ hP,Nat.mul_mod_mul_right _ _ _,?_⟩
 ·have:2^N≤B:=Nat.le_of_lt (ft hN32)
  rw[Nat.pow_succ]
  exact Nat.lt_of_lt_of_le (Nat.mul_lt_mul_of_pos_right hAlt hP) (Nat.mul_le_mul_left _ this)
 ·apply Nat.div_lt_of_lt_mul
  have a1:A*2^N<B^(n+2+m)*2^N:=Nat.mul_lt_mul_of_pos_right hAlt hP
  have a2:B^(n+1)*2^N≤D*2^N:=Nat.mul_le_mul_right _ h4
  have a3:B^(m+1)*(B^(n+1)*2^N)≤B^(m+1)*(D*2^N):=Nat.mul_le_mul_left _ a2
  have a4:B^(n+2+m)=B^(m+1)*B^(n+1):=by rw[← Nat.pow_add]; congr 1; omega
  rw[a4,Nat.mul_assoc] at a1
  exact Nat.lt_of_lt_of_le a1 a3
 ·have hl:n+1<(zg (D*2^N)).length:=by rw[h3]; omega
  have:(zg (D*2^N)).getD (n+1) 0=D*2^N/B^(n+1):=by
   rw[List.getD_eq_getElem?_getD,List.getElem?_eq_getElem hl,Option.getD_some,nw,Nat.mod_eq_of_lt k4]
  rw[this]
  exact k3
theorem ad1 {A V j n L:Nat} (hV:V<B^n) (h0:0<V) (hL:j+n+1≤L):rst A V (j+1)/B^j=val (((zu L (rst A V (j+1))).drop j).take (n+1)):=by
 have o1:ok (zu L (rst A V (j+1))):=yD
 have hlt1:=Sh (A:=A) (j:=j+1) hV h0
 have hL1:rst A V (j+1)<B^L:=Nat.lt_of_lt_of_le hlt1 (Nat.pow_le_pow_right zZ (by omega))
 have hlen:n+1≤((zu L (rst A V (j+1))).drop j).length:=by rw[List.length_drop,zy]; omega
 rw[LA (Rz o1 _) hlen,U2 o1 (by rw[zy]; omega),yk hL1,Nat.mod_eq_of_lt]
 apply Nat.div_lt_of_lt_mul
 rw[← Nat.pow_add,show j+(n+1)=j+1+n by omega]
 exact hlt1
end Go.Dig

namespace Go.Proofs.YtjeoklgggppjiaaGreat
open Go Go.Am Go.Dig
def Xb (A D k:Nat):St:={env:=[(0,nD A),(1,nD D),(9,ya k)],sto:=[]}
abbrev c9 (A D:Nat):AV:=AV.tuple [nD (A/D),nD (A%D),iv 0]
theorem NV {x1 x2 x3 y1 y2 y3:AV} (h1:AV.imp x1 y1) (h2:AV.imp x2 y2) (h3:AV.imp x3 y3):AV.imp (.tuple [x1,x2,x3]) (.tuple [y1,y2,y3]):=fun I w v hv=>by
 cases hv with
 | tuple cells vs hs hc =>
  refine .tuple _ _ (by simpa using hs) fun i c hi=>?_
  match i,hi with
  | 0,hi=>simp at hi; subst hi; exact h1 _ _ _ (hc 0 x1 rfl)
  | 1,hi=>simp at hi; subst hi; exact h2 _ _ _ (hc 1 x2 rfl)
  | 2,hi=>simp at hi; subst hi; exact h3 _ _ _ (hc 2 x3 rfl)
  | i+3,hi=>simp at hi
theorem bD {f:FuncId} {x y y' r:AV} (h:zd Tryz.prog f [x,y'] r) (hy:AV.imp y y'):zd Tryz.prog f [x,y] r:=fun I vs w h1 h2 h3 =>
 h I vs w h1 h2 fun i a hi=>by
  match i,hi with
  | 0,hi=>exact h3 0 a hi
  | 1,hi=>simp at hi; subst hi; exact hy _ _ _ (h3 1 y rfl)
  | i+2,hi=>simp at hi
theorem mP {sz:Nat}:AV.imp (.list sz .full []) (nD 0):=by
 rw[nD,yz]
 exact AV.imp_nil rfl
theorem EI {m1 m2:Am.Mode} {a c:List Nat} (ha:ok a) (hc:ok c) (hna:a.length<549755813888) (hnc:c.length<549755813888) (f1:stm m1=m1) (f2:stm m2=m2) (hD:val c≠0)
  (hmain:∀ n m,(zg (val c)).length=n+2→(zg (val a)).length=n+2+m→val c≤val a →
   awp Tryz.prog (.loop sN) (Xb (val a) (val c) 0) (wP 0 (rm Tryz.prog uJ (b8 sF (c9 (val a) (val c)))))) :
  zd Tryz.prog qD [nl m1 a,nl m2 c] (c9 (val a) (val c)):=by
 have k1:=y8 (m:=m1) ha (by omega)
 have k2:=y8 (m:=m2) hc (by omega)
 have hla:=wo ha
 have hlc:=wo hc
 generalize val a=A at *
 generalize val c=D at *
 have kc:=jd (m1:=.plain) (m2:=.plain) (zD A) (zD D) (by omega) (by omega)
 rw[zO,zO] at kc
 have hl0:¬ (zg D).length=0:=by rw[List.length_eq_zero_iff,yT]; exact hD
 have hl0':¬ zg D=[]:=by rw[yT]; exact hD
 refine vc F3 (by simp) ?_
 simp[Tn]
 refine za k1 (by simp[f1]) (by simp) ?_
 simp
 refine za k2 (by simp[f2]) (by simp) ?_
 simp[hl0]
 refine za kc (by simp) (by simp) ?_
 by_cases hlt:A<D
 ·have hc1:yU A D=-1:=by simp[yU,hlt]
  simp[hc1]
  have ka:=fU (m1:=.plain) (m2:=.plain) (a:=zg A) (b:=[]) (zD A) Mn (by omega) (by simp)
  rw[zO] at ka
  refine za (bD ka (AV.imp_nil (sz:=0) rfl)) (by simp) (by simp) ?_
  simp[sF,val]
  rw[c9,Nat.div_eq_of_lt hlt,Nat.mod_eq_of_lt hlt]
  exact NV mP AV.imp.refl AV.imp.refl
 ·have hc1:¬ yU A D<0:=by simp only[yU,if_neg hlt]; split<;>omega
  by_cases h1:(zg D).length=1
  ·have h1z:((zg D).length:Int)=1:=by omega
   have h10:0<(zg D).length:=by omega
   have hDB:D<B:=by
    have:=zI.1 (Nat.le_of_eq h1)
    simpa using this
   have hg:(zg D)[0]=D:=by rw[nw]; simp[Nat.mod_eq_of_lt hDB]
   have ks:=Kt (m:=.plain) (a:=zg A) (d:=D) (zD A) (by omega) (by omega) hDB rfl
   rw[zO] at ks
   have hm:A%D<D:=Nat.mod_lt _ (by omega)
   generalize hq:A%D=r at *
   rw[z8] at hDB
   have kf:=qT (x:=r) (by omega)
   have u1:IntKind.u64.wrap (r:Int)=r:=w64 (by omega)
   simp[hc1,h1z,h10,hg]
   refine za ks (by simp) (by simp) ?_
   simp[u1]
   refine za kf (by simp) (by simp) ?_
   simp[sF]
   rw[c9,hq]
   exact AV.imp.refl
  ·have h1z:¬ ((zg D).length:Int)=1:=by omega
   simp[hc1,h1z]
   obtain ⟨n,hn⟩:∃ n,(zg D).length=n+2:=⟨(zg D).length-2,by omega⟩
   have hle:(zg D).length≤(zg A).length:=by
    rcases Nat.lt_or_ge (zg A).length (zg D).length with h2 | h2
    ·exact absurd (eN h2) hlt
    ·exact h2
   obtain ⟨m,hm⟩:∃ m,(zg A).length=n+2+m:=⟨(zg A).length-(n+2),by omega⟩
   exact hmain n m hn hm (by omega)
theorem Pc {m:Am.Mode} {a:List Nat} {bits:Nat} (ha:ok a) (hn:a.length<1099511627775) (hb:bits<32):zd Tryz.prog pE [nl m a,ya bits] (nl .plain (zu (a.length+1) (val a*2^bits))):=by
 refine vc XX (by simp) ?_
 have w:IntKind.i64.wrap ((a.length:Int)+1)=(a.length:Int)+1:=wrap64 (by omega) (by omega)
 have e1:((a.length:Int)+1).toNat=a.length+1:=by omega
 simp[dk,w,eMk,e1]
 refine ⟨by omega,by omega,by omega,?_⟩
 refine zr (Yn a m [] [] 0 bits) (fun _=>True) a.length (by simp[Yn,MR,TE]) trivial (fun i hi _=>?_) (fun _=>?_)
 ·have e:(i:Int)<a.length:=by omega
  have hpow:=ft hb
  have hak:=xO ha hi
  have hL:=Sl (bits:=bits) (i:=i) ha
  have hLB:shL a bits i<B^(i+1):=by
   have:B^i*2^bits≤B^i*B:=Nat.mul_le_mul_left _ (by omega)
   rw[Nat.pow_succ]; omega
  have hc:shL a bits i/B^i<2^bits:=Nat.div_lt_of_lt_mul hL
  obtain ⟨o1,o2,o3,o4⟩:=Dr (c:=shL a bits i/B^i) (a:=a[i]) hb hc hak
  have hsucc:=MQ (bits:=bits) hi
  have hL2:=Sl (bits:=bits) (i:=i+1) ha
  have hLN:shL a bits (i+1)<B^(a.length+1):=by
   have h1:B^(i+1)*2^bits≤B^(i+1)*B:=Nat.mul_le_mul_left _ (by omega)
   have h3:B^(i+1+1)=B^(i+1)*B:=Nat.pow_succ _ _
   have h2:B^(i+1+1)≤B^(a.length+1):=Nat.pow_le_pow_right zZ (by omega)
   omega
  have htB:(shL a bits i/B^i+a[i]*2^bits)/B<B:=by
   rw[← o3]
   apply Nat.div_lt_of_lt_mul
   exact Nat.mul_lt_mul_of_lt_of_lt hak hpow
  have hstep:=Sm (N:=a.length+1) (i:=i) (t:=a[i]*2^bits) hLB (by omega) (by rw[← hsucc]; exact hLN) htB
  rw[← hsucc,← o2,← o3] at hstep
  have hlen:=zy (n:=a.length+1) (x:=shL a bits i)
  have hi1:i<(zu (a.length+1) (shL a bits i)).length:=by omega
  have hget:(zu (a.length+1) (shL a bits i))[i]=shL a bits i/B^i:=by
   rw[vr,Nat.mod_eq_of_lt (Nat.lt_trans hc hpow)]
  obtain ⟨c,hcE⟩:∃ c,shL a bits i/B^i=c:=⟨_,rfl⟩
  obtain ⟨t,htE⟩:∃ t,a[i]*2^bits=t:=⟨_,rfl⟩
  have htlt:t<B*B:=by rw[← htE]; exact Nat.mul_lt_mul_of_lt_of_lt hak hpow
  rw[hcE,htE] at o1 o4 hstep
  rw[hcE] at hget hc
  obtain ⟨x,hxE⟩:∃ x,t%B=x:=⟨_,rfl⟩
  obtain ⟨q,hqE⟩:∃ q,t/B=q:=⟨_,rfl⟩
  rw[hxE] at o1 o4 hstep
  rw[hqE] at hstep
  have hxB:x<B:=by rw[← hxE]; exact Nat.mod_lt _ zZ
  have hqB:q<B:=by rw[← hqE]; exact Nat.div_lt_of_lt_mul htlt
  have hor:=A6 (c:=c) (x:=x) (by omega) hxB (by rw[o1]; exact o4)
  rw[o1] at hor
  obtain ⟨y,hyE⟩:∃ y,c+x=y:=⟨_,rfl⟩
  rw[hyE] at hor hstep
  have hBB:B*B=18446744073709551616:=by decide
  rw[hBB] at htlt
  have f1:IntKind.u32.wrap (t:Int)=(x:Int):=by rw[w32,hxE]
  have f2:(t:Int).fdiv (2^min 32 IntKind.u64.bits)=(q:Int):=by rw[aj,hqE]
  have f3:IntKind.u32.wrap (q:Int)=q:=IntWalk.u32_in _ (by rw[z8] at hqB; omega)
  have u1:IntKind.u64.wrap ((a[i]:Nat):Int)=(a[i]:Nat):=w64 (by rw[z8] at hak; omega)
  have hmin:min bits IntKind.u64.bits=bits:=by
   have:IntKind.u64.bits=64:=rfl
   omega
  have u2:IntKind.u64.wrap (((a[i]:Nat):Int)*2^bits)=(t:Int):=by
   rw[show ((a[i]:Nat):Int)*2^bits=((a[i]*2^bits:Nat):Int) by simp,htE]; exact w64 htlt
  have hset:((zH (zu (a.length+1) (shL a bits i))).set i [uv y]).set (i+1) [uv q]=zH (zu (a.length+1) (shL a bits (i+1))):=by
   rw[xg,xg,hstep]
  have wi:IntKind.i64.wrap ((i:Int)+1)=(i:Int)+1:=wrap64 (by omega) (by omega)
  have ei1:(i:Int)<a.length+1:=by omega
  have e2:((i:Int)+1).toNat=i+1:=by omega
  have e3:(0:Int)≤(i:Int)+1:=by omega
  have hi2:i+1<(zu (a.length+1) (shL a bits i)).length:=by omega
  have hnb:¬ ((bits:Int)<0):=by omega
  simp[tB,Yn,e,hi,hi1,hi2,ei1,e2,e3,hget,hor,u1,vH,wB,hmin,u2,f1,f2,f3,wi,splice,hset]
 ·have:zu (a.length+1) (shL a bits a.length)=zu (a.length+1) (val a*2^bits):=by rw[JV]
  have hlt:(zu (a.length+1) (val a*2^bits)).length=a.length+1:=zy
  have ht:List.take (a.length+1) (zH (zu (a.length+1) (val a*2^bits)))=zH (zu (a.length+1) (val a*2^bits)):=List.take_of_length_le (by rw[List.length_map,hlt]; exact Nat.le_refl _)
  simp[tB,Yn,lf,dw,this,hlt,ht]
  exact AV.imp.refl
theorem ac8 {t:Nat} (h0:0<t) (ht:t<B):∃ p,t*2^lz t=p∧2147483648≤p∧p<4294967296:=⟨_,rfl,(Ma h0 ht).1,(Ma h0 ht).2⟩
theorem BY {A D n _m:Nat} {K:Exit→St→Prop} (hD:(zg D).length=n+2) (hn:n<549755813888)
  (hK:∀ q y,(q=53)→awp Tryz.prog uJ {env:=[(0,nD A),(1,nD D),(9,ya (lz (D/B^(n+1)))),(q,y)],sto:=[]} K) :
  awp Tryz.prog (.loop sN) (Xb A D 0) (wP 0 (rm Tryz.prog uJ K)):=by
 obtain ⟨_,_,ht0,htB⟩:True∧True∧0<D/B^(n+1)∧D/B^(n+1)<B:=⟨trivial,trivial,(db (n:=n+1) hD).2.2⟩
 have hg:(zg D)[n+1]'(by omega)=D/B^(n+1):=by rw[nw,Nat.mod_eq_of_lt htB]
 have hlen:((zg D).length:Int)=(n:Int)+2:=by omega
 have w0:IntKind.i64.wrap ((n:Int)+2-1)=(n:Int)+1:=by rw[wrap64]<;>omega
 have e1:((n:Int)+1).toNat=n+1:=by omega
 have e2:(0:Int)≤(n:Int)+1:=by omega
 have e3:n+1<(zg D).length:=by omega
 generalize D/B^(n+1)=t at *
 refine zr (Xb A D) (fun _=>True) (lz t) (by simp[Xb]) trivial (fun k hk _=>?_) (fun _=>?_)
 ·have hs:=AE htB hk
  have h32:=Pz (t:=t)
  obtain ⟨p,hp⟩:∃ p,t*2^k=p:=⟨_,rfl⟩
  rw[hp] at hs
  have hmin:min k IntKind.u32.bits=k:=by
   have:IntKind.u32.bits=32:=rfl
   omega
  have u1:IntKind.u32.wrap ((t:Int)*2^k)=(p:Int):=by
   rw[show (t:Int)*2^k=((t*2^k:Nat):Int) by simp,hp]; exact IntWalk.u32_in _ (by omega)
  have u2:IntKind.u64.wrap ((k:Int)+1)=(k:Int)+1:=vW (by omega) (by omega)
  have c1:(p:Int)<2147483648:=by omega
  have c2:¬ ((k:Int)<0):=by omega
  simp[sN,Xb,hlen,w0,e1,e2,e3,hg,vH,hmin,u1,u2,c1,c2]
 ·have h32:=Pz (t:=t)
  obtain ⟨p,hp,h1,h2⟩:=ac8 ht0 htB
  have hk0:=hK _ (bv false) rfl
  clear hK
  generalize lz t=k at *
  have hmin:min k IntKind.u32.bits=k:=by
   have:IntKind.u32.bits=32:=rfl
   omega
  have u1:IntKind.u32.wrap ((t:Int)*2^k)=(p:Int):=by
   rw[show (t:Int)*2^k=((t*2^k:Nat):Int) by simp,hp]; exact IntWalk.u32_in _ (by omega)
  have c1:¬ (p:Int)<2147483648:=by omega
  have c3:¬ p<2147483648:=by omega
  have c2:¬ ((k:Int)<0):=by omega
  simp[sN,Xb,hlen,w0,e1,e2,e3,hg]
  rw[vH c2,Int.toNat_natCast,hmin,u1]
  generalize (p:Int)=z at *
  simp[c1]
  exact hk0
def q9 (A D n m N X V k:Nat):St :=
 {env:=[(4,.sl 72 1 0 (m+1)),(9,ya N),(10,.sl 1011 1 0 (n+2+m+1)),(11,nD V),(12,iv ((n:Int)+2)),(13,iv m),(74,iv ((m:Int)+1)),(75,iv k)],
  sto:=[(72,.arr 1 (zH (vw (m+1) (A/D) k))),(1011,.arr 1 (zH (zu (n+2+m+1) (rst X V (m+1-k)))))]}
theorem acH {A D n m N X V:Nat} {K:Exit→St→Prop} (hA:(zg A).length=n+2+m) (hD:(zg D).length=n+2) (hn:n+m<274877906944) {y:AV} (h:Pr A D n m N X V)
  (hK:∀ s,lD s (q9 A D n m N X V 0)→awp Tryz.prog (.loop sO) s (wP 2 (rm Tryz.prog uI K))) :
  awp Tryz.prog uJ {env:=[(0,nD A),(1,nD D),(9,ya N),(53,y)],sto:=[]} K:=by
 have hN32:=h.N32
 have kt:=y8 (m:=.plain) (a:=zu (n+2+1) V) yD (by rw[zy]; omega)
 have hVlt:V<B^(n+2+1):=Nat.lt_trans h.Vlt (Nat.pow_lt_pow_right (by decide) (by omega))
 rw[yk hVlt] at kt
 have hVl:=h.Vlen
 have w1:IntKind.i64.wrap ((n:Int)+2+m-(n+2))=(m:Int):=by rw[wrap64]<;>omega
 have w2:IntKind.i64.wrap ((m:Int)+1)=(m:Int)+1:=by rw[wrap64]<;>omega
 have e1:((m:Int)+1).toNat=m+1:=by omega
 have e2:(zu (n+2+1) V).length=n+2+1:=zy
 have e3:(zH (zu (n+2+1) V)).length=n+2+1:=by rw[List.length_map,e2]
 simp[uJ]
 refine ⟨rfl,?_⟩
 refine aaS 1000 (zD A) (by omega) hN32 (by simp) ?_
 simp
 have ks:=Pc (m:=.plain) (bits:=N) (zD D) (by omega) hN32
 rw[zO,← h.V_eq,hD] at ks
 refine za ks (by simp) (by simp) ?_
 simp
 refine za kt (by simp) (by simp) ?_
 simp[hVl,hA,hD,w1,w2,eMk,e1]
 refine ⟨by omega,by omega,by omega,?_⟩
 rw[zO,← h.X_eq]
 have hz:rst X V (m+1)=X:=ad0 h.top
 refine hK _ ?_
 simp[q9,hz,XU,qu]
theorem B0 {A D n m N X V:Nat} {K:Exit→St→Prop} (hn:n+m<274877906944) (h:Pr A D n m N X V)
  (hK:∀ q y,q=76→awp Tryz.prog uI {(q9 A D n m N X V (m+1)) with env:=(q9 A D n m N X V (m+1)).env++[(q,y)]} K) :
  ∀ s,lD s (q9 A D n m N X V 0)→awp Tryz.prog (.loop sO) s (wP 2 (rm Tryz.prog uI K)):=by
 intro s hs
 refine zr (q9 A D n m N X V) (fun _=>True) (m+1) hs trivial (fun k hk _=>?_) (fun _=>?_)
 ·obtain ⟨j,hj⟩:∃ j,m-k=j:=⟨_,rfl⟩
  have hj1:m+1-k=j+1:=by omega
  have hj2:m+1-(k+1)=j:=by omega
  have hj3:m+1-1-k=j:=by omega
  have hlt:=Sh (A:=X) (j:=j+1) h.Vlt h.Vpos
  obtain ⟨d1,d2,d3⟩:=Cp (A:=X) (j:=j) h.Vpos
  have hstep:=aaE (A:=X) (V:=V) (j:=j) (L:=n+2+m+1) h.Vlt h.Vpos (by omega)
  have hval:=ad1 (A:=X) (V:=V) (j:=j) (n:=n+2) (L:=n+2+m+1) h.Vlt h.Vpos (by omega)
  have hset:=Sq (n:=m+1) (D:=A/D) (i:=k) hk
  rw[hj3] at hset
  rw[h.q] at d1
  have hql:=Sp (D:=A/D) (show k≤m+1 by omega)
  have hVl:=h.Vlen
  have e:(k:Int)<(m:Int)+1:=by omega
  have w1:IntKind.i64.wrap ((m:Int)-k)=(j:Int):=by rw[wrap64]<;>omega
  have w2:IntKind.i64.wrap ((j:Int)+(n+2))=(j:Int)+(n+2):=by rw[wrap64]<;>omega
  have w3:IntKind.i64.wrap ((j:Int)+(n+2)+1)=(j:Int)+(n+2)+1:=by rw[wrap64]<;>omega
  have w4:IntKind.i64.wrap ((k:Int)+1)=(k:Int)+1:=by rw[wrap64]<;>omega
  have w5:((j:Int)+(n+2)+1).toNat-j=n+3:=by omega
  have ok:cy (zu (n+2+m+1) (rst X V (j+1))) (zg V) j n:=⟨yD,zD _,hVl,by rw[zy]; omega,by rw[zy]; omega⟩
  simp[sO,q9,e,w1,w2,w3,hj1,w5]
  refine ⟨by omega,by omega,rfl,?_⟩
  refine afk 3000 ok (by simp) h.vtop hval (by rw[zO]; exact d3) ?_
  have w6:j<(vw (m+1) (A/D) k).length:=by omega
  have w7:(j:Int)<(m:Int)+1:=by omega
  simp only[zO,d1,d2,hstep]
  generalize hd:A/D/B^j%B=d at *
  have hset':(zH (vw (m+1) (A/D) k)).set j [uv d]=zH (vw (m+1) (A/D) (k+1)):=by rw[xg,hset]
  simp[w6,w7,splice,hset',w4,hj2,q9]
 ·simp[sO,q9]
  have:=hK _ (bv false) rfl
  simp[q9] at this
  exact this
def Xc (Q R n m N Y k:Nat):St :=
 {env:=[(4,.sl 72 1 0 (m+1)),(5,.sl 99 1 0 (n+2)),(9,ya N),(10,.sl 1011 1 0 (n+2+m+1)),(100,iv ((n:Int)+2)),(101,iv k)],
  sto:=[(72,.arr 1 (zH (zu (m+1) Q))),(1011,.arr 1 (zH (zu (n+2+m+1) Y))),(99,.arr 1 (zH (wC (n+2) k R)))]}
theorem EH {R N i:Nat} (hN:N<32):∃ a c d,R*2^N/B^i%B/2^N=a∧(R*2^N/B^(i+1)%B)*2^(32-N)%B=c∧R/B^i%B=d∧a ||| c=d∧a<B∧c<B∧d<B∧(N=0→a=d):=by
 obtain ⟨h1,h2⟩:=Cw (X:=R*2^N) (i:=i) hN
 have hP:0<2^N:=Nat.pow_pos (by omega)
 rw[Nat.mul_div_cancel _ hP] at h1
 refine ⟨_,_,_,rfl,rfl,rfl,by rw[h2,← h1],Nat.lt_of_le_of_lt (Nat.div_le_self _ _) (Nat.mod_lt _ zZ),Nat.mod_lt _ zZ,Nat.mod_lt _ zZ,fun h0=>?_⟩
 subst h0
 rw[Nat.pow_zero,Nat.mul_one,Nat.div_one]
theorem ahm {a c d:Nat} (ha:a<B) (hc:c<B) (h:a ||| c=d) (hd:d<B):rS .or .u32 (a:Int) (c:Int)=(d:Int):=by
 have:=A6 (c:=a) (x:=c) ha hc (by rw[h]; exact hd)
 rw[h] at this
 exact this
theorem acG {A D n m N X V:Nat} (hn:n+m<274877906944) (hD:(zg D).length=n+2) (h:Pr A D n m N X V) :
  ∀ q y,q=76→awp Tryz.prog uI {(q9 A D n m N X V (m+1)) with env:=(q9 A D n m N X V (m+1)).env++[(q,y)]} (b8 sF (c9 A D)):=by
 intro q y hq
 subst hq
 have hN:=h.N32
 have hY:rst X V 0=A%D*2^N:=by rw[aaF,h.r]
 have hDlt:D<B^(n+2):=zI.1 (Nat.le_of_eq hD)
 have hD0:0<D:=by
  rcases Nat.eq_zero_or_pos D with h0 | h0
  ·subst h0; simp[yz] at hD
  ·exact h0
 have hRlt:A%D<B^(n+2):=Nat.lt_trans (Nat.mod_lt _ hD0) hDlt
 have hQlt:A/D<B^(m+1):=by
  rw[← h.q]
  apply Nat.div_lt_of_lt_mul
  have h1:=Nat.lt_mul_div_succ X (ut (m+1))
  have h2:B^(m+1)*(X/B^(m+1)+1)≤B^(m+1)*V:=Nat.mul_le_mul_left _ h.top
  rw[Nat.mul_comm V]
  exact Nat.lt_of_lt_of_le h1 h2
 have w1:((n:Int)+2).toNat=n+2:=by omega
 have kq:=y8 (m:=.plain) (a:=zu (m+1) (A/D)) yD (by rw[zy]; omega)
 have kr:=y8 (m:=.plain) (a:=zu (n+2) (A%D)) yD (by rw[zy]; omega)
 rw[yk hQlt] at kq
 rw[yk hRlt] at kr
 have lp:∀ s,lD s (Xc (A/D) (A%D) n m N (A%D*2^N) 0)→awp Tryz.prog (.loop sP) s (wP 4 (rm Tryz.prog jz (b8 sF (c9 A D)))):=by
  intro s hs
  refine zr (Xc (A/D) (A%D) n m N (A%D*2^N)) (fun _=>True) (n+2) hs trivial (fun i hi _=>?_) (fun _=>?_)
  ·obtain ⟨a,c,d,h1,h2,h3,h4,h5,h6,h7,h8⟩:=EH (R:=A%D) (i:=i) hN
   have hL:=zy (n:=n+2+m+1) (x:=A%D*2^N)
   have i1:i<(zu (n+2+m+1) (A%D*2^N)).length:=by omega
   have i2:i+1<(zu (n+2+m+1) (A%D*2^N)).length:=by omega
   have g1:=vr i1
   have g2:=vr i2
   have hset:=eJ (S:=A%D) hi
   rw[h3] at hset
   have hfl:=eI (n:=n+2) (k:=i) (S:=A%D) (by omega)
   have i3:i<(wC (n+2) i (A%D)).length:=by omega
   have hor:=ahm h5 h6 h4 h7
   have hmin:min N IntKind.u32.bits=N:=by
    have:IntKind.u32.bits=32:=rfl
    omega
   have hmin2:min (32-N) IntKind.u32.bits=32-N:=by
    have:IntKind.u32.bits=32:=rfl
    omega
   have i4:i+1<n+2+m+1:=by omega
   have s1:∀ y0 a:Nat,y0/2^N=a→(y0:Int).fdiv (2^N)=(a:Int):=fun y0 a h=>by
    rw[show (2:Int)^N=((2^N:Nat):Int) by simp,← Int.ofNat_fdiv,h]
   have s2:∀ y1 c:Nat,y1*2^(32-N)%B=c→IntKind.u32.wrap ((y1:Int)*2^(32-N))=(c:Int):=fun y1 c h=>by
    rw[show (y1:Int)*2^(32-N)=((y1*2^(32-N):Nat):Int) by simp,w32,h]
   have s1':=s1 _ _ h1
   have s2':=s2 _ _ h2
   clear s1 s2 h1 h2
   rw[← g1] at s1'
   rw[← g2] at s2'
   clear g1 g2
   generalize A%D*2^N=Y at *
   generalize A%D=R at *
   generalize hy0:(zu (n+2+m+1) Y)[i]=y0 at *
   generalize hy1:(zu (n+2+m+1) Y)[i+1]=y1 at *
   have hset':(zH (wC (n+2) i R)).set i [uv d]=zH (wC (n+2) (i+1) R):=by rw[xg,hset]
   have e:(i:Int)<(n:Int)+2:=by omega
   have e2:(i:Int)<(n:Int)+2+m+1:=by omega
   have e3:(i:Int)+1<(n:Int)+2+m+1:=by omega
   have e4:((i:Int)+1).toNat=i+1:=by omega
   have e5:(0:Int)≤(i:Int)+1:=by omega
   have w2:IntKind.i64.wrap ((i:Int)+1)=(i:Int)+1:=by rw[wrap64]<;>omega
   have w3:IntKind.u64.wrap ((32:Int)-N)=32-N:=vW (by omega) (by omega)
   have w4:((32:Int)-N).toNat=32-N:=by omega
   have w5:¬ ((32:Int)-N<0):=by omega
   rcases Nat.eq_zero_or_pos N with hN0 | hN0
   ·have ha:=h8 hN0
    have hN1:¬ 0<N:=by omega
    subst ha
    simp[sP,Xc,e,e2,hy0,i1,i3,wB,hmin,s1',hN1,splice,hset',w2]
   ·simp[sP,Xc,e,e2,e3,e4,e5,hy0,hy1,i1,i2,i3,wB,vH,hmin,hmin2,s1',s2',hN0,splice,hset',w2,w3,w4,w5,hor]
  ·have l1:∀ k z,k≤(zu k z).length:=fun k z=>Nat.le_of_eq zy.symm
   have l2:∀ k z,List.take k (zH (zu k z))=zH (zu k z):=fun k z=>List.take_of_length_le (by rw[List.length_map,zy]; exact Nat.le_refl _)
   simp[sP,Xc,ZI,jz,xf,vU,l1,l2]
   refine za kq (by simp) (by simp) ?_
   simp
   refine za kr (by simp) (by simp) ?_
   simp[sF]
   exact AV.imp.refl
 simp[uI,q9,So,hY,eMk,w1]
 refine ⟨by omega,by omega,by omega,?_⟩
 refine lp _ ?_
 simp[Xc,jZ,qu]
theorem g9 {m1 m2:Am.Mode} {a c:List Nat} (ha:ok a) (hc:ok c) (hna:a.length<137438953472) (hnc:c.length<137438953472) (f1:stm m1=m1) (f2:stm m2=m2) (hD:val c≠0) :
  zd Tryz.prog qD [nl m1 a,nl m2 c] (c9 (val a) (val c)):=by
 refine EI ha hc (by omega) (by omega) f1 f2 hD fun n m h1 h2 hle=>?_
 have hla:=wo ha
 have hn:n+m<274877906944:=by omega
 have h:=agW h2 h1
 exact BY (_m:=m) h1 (by omega) fun q y hq=>by
  subst hq
  exact acH h2 h1 hn h (B0 hn h (acG hn h1 h))
def eu:Nat→Nat→Nat→Nat × Nat
 | a,b,0=>(a,b)
 | a,b,k+1=>eu b (a%b) k
theorem Rj:∀ (k a b:Nat),eu a b (k+1)=((eu a b k).2,(eu a b k).1%(eu a b k).2)
 | 0,_,_=>rfl
 | k+1,a,b=>by rw[eu,Rj k b (a%b)]; rfl
theorem ET:∀ (b a:Nat),∃ N,(∀ k,k<N→(eu a b k).2≠0)∧eu a b N=(Nat.gcd a b,0):=by
 intro b
 induction b using Nat.strongRecOn with
 | ind b ih =>
  intro a
  rcases Nat.eq_zero_or_pos b with h | h
  ·subst h
   exact ⟨0,fun k hk=>absurd hk (Nat.not_lt_zero _),by rw[eu,Nat.gcd_zero_right]⟩
  ·obtain ⟨N,h1,h2⟩:=ih (a%b) (Nat.mod_lt _ h) b
   refine ⟨N+1,fun k hk=>?_,?_⟩
   ·match k with
    | 0=>exact Nat.ne_of_gt h
    | k+1=>exact h1 k (by omega)
   ·rw[eu,h2,Nat.gcd_comm b,← Nat.gcd_rec,Nat.gcd_comm]
theorem Gv {M:Nat}:∀ (k a b:Nat),a<M→b<M→(eu a b k).1<M∧(eu a b k).2<M
 | 0,_,_,h1,h2=>⟨h1,h2⟩
 | k+1,a,b,h1,h2=>Gv k b (a%b) h2 (Nat.lt_of_le_of_lt (Nat.mod_le _ _) h1)
def stG (p:Nat × Nat):St:={env:=[(0,nD p.1),(1,nD p.2)],sto:=[]}
theorem Qx {m1 m2:Am.Mode} {a c:List Nat} (ha:ok a) (hc:ok c) (hna:a.length<137438953472) (hnc:c.length<137438953472) (f1:stm m1=m1) (f2:stm m2=m2) :
  zd Tryz.prog YE [nl m1 a,nl m2 c] (nD (Nat.gcd (val a) (val c))):=by
 have k1:=fU (m1:=m1) (m2:=.plain) (b:=[]) ha Mn (by omega) (by simp)
 have k2:=fU (m1:=m2) (m2:=.plain) (b:=[]) hc Mn (by omega) (by simp)
 obtain ⟨N,h1,h2⟩:=ET (val c) (val a)
 obtain ⟨L,hL⟩:∃ L,L=137438953471:=⟨_,rfl⟩
 have hL1:val a<B^L:=xh ha (by omega)
 have hL2:val c<B^L:=xh hc (by omega)
 have hb:=fun k=>Gv k (val a) (val c) hL1 hL2
 generalize hM:B^L=M at *
 have hlen:∀ x,x<M→(zg x).length<137438953472:=fun x hx=>by
  rw[← hM] at hx
  exact Nat.lt_of_le_of_lt (zI.2 hx) (by omega)
 clear hM
 have v0:val []=0:=rfl
 rw[v0,Nat.add_zero] at k1 k2
 generalize val a=A at *
 generalize val c=D at *
 refine zx aeA (by simp) ?_
 simp[KP]
 refine za (bD k1 (AV.imp_nil (sz:=0) rfl)) (by simp[f1]) (by simp) ?_
 simp
 refine za (bD k2 (AV.imp_nil (sz:=0) rfl)) (by simp[f2]) (by simp) ?_
 simp
 refine zr (fun k=>stG (eu A D k)) (fun _=>True) N (by simp[stG,eu]) trivial (fun k hk _=>?_) (fun _=>?_)
 ·have hne:=h1 k hk
  obtain ⟨b1,b2⟩:=hb k
  have b1':=hlen _ b1
  have b2':=hlen _ b2
  have hs:=Rj k A D
  obtain ⟨x,hx⟩:∃ x,(eu A D k).1=x:=⟨_,rfl⟩
  obtain ⟨y,hy⟩:∃ y,(eu A D k).2=y:=⟨_,rfl⟩
  rw[hx,hy] at hs
  rw[hx] at b1'
  rw[hy] at b2' hne
  have kd:=g9 (m1:=.plain) (m2:=.plain) (zD x) (zD y) b1' b2' rfl rfl (by rw[zO]; exact hne)
  rw[zO,zO] at kd
  have hl0:0<(zg y).length:=by
   rcases Nat.eq_zero_or_pos (zg y).length with h | h
   ·rw[List.length_eq_zero_iff,yT] at h; exact absurd h hne
   ·exact h
  simp[cP,stG,hl0,hx,hy]
  refine za kd (by simp) (by simp) ?_
  simp[hs]
 ·simp only[h2]
  simp[cP,To,JD,stG,yz]
def xJ (neg:Bool) (N D:Nat):AV:=.agg [bv (neg&&decide (N≠0)),nD (N/Nat.gcd N D),nD (D/Nat.gcd N D)]
theorem NN {N D:Nat} (hD:D≠0):Nat.gcd N D≠0∧(N/Nat.gcd N D=0↔N=0)∧Nat.gcd N D≤D:=by
 have hg:0<Nat.gcd N D:=Nat.gcd_pos_of_pos_right _ (by omega)
 refine ⟨by omega,?_,Nat.gcd_le_right _ (by omega)⟩
 constructor
 ·intro h
  have:=Nat.div_mul_cancel (Nat.gcd_dvd_left N D)
  rw[h,Nat.zero_mul] at this
  exact this.symm
 ·intro h
  rw[h,Nat.zero_div]
theorem TZ {neg:Bool} {N D:Nat} (hN:(zg N).length<68719476736) (hD:(zg D).length<68719476736) (h0:D≠0) :
  zd Tryz.prog cz [bv neg,nD N,nD D] (.tuple [xJ neg N D,iv 0]):=by
 obtain ⟨g0,g1,g2⟩:=NN (N:=N) h0
 have kg:=Qx (m1:=.plain) (m2:=.plain) (zD N) (zD D) (by omega) (by omega) rfl rfl
 rw[zO,zO] at kg
 have hgl:(zg (Nat.gcd N D)).length<68719476736:=by
  have h1:D<B^(zg D).length:=zI.1 (Nat.le_refl _)
  exact Nat.lt_of_le_of_lt (zI.2 (Nat.lt_of_le_of_lt g2 h1)) hD
 have hl0:¬ (zg D).length=0:=by rw[List.length_eq_zero_iff,yT]; exact h0
 have hl1:¬ zg D=[]:=by rw[yT]; exact h0
 unfold xJ
 have hz:(zg (N/Nat.gcd N D)).length=0↔N=0:=by rw[List.length_eq_zero_iff,yT]; exact g1
 generalize Nat.gcd N D=g at *
 have kn:=g9 (m1:=.plain) (m2:=.plain) (zD N) (zD g) (by omega) (by omega) rfl rfl (by rw[zO]; exact g0)
 have kd:=g9 (m1:=.plain) (m2:=.plain) (zD D) (zD g) (by omega) (by omega) rfl rfl (by rw[zO]; exact g0)
 simp only[zO] at kn kd
 refine zx abo (by simp) ?_
 simp[P1,hl0]
 refine za kg (by simp) (by simp) ?_
 simp
 refine za kn (by simp) (by simp) ?_
 simp
 refine za kd (by simp) (by simp) ?_
 cases neg
 ·simp[bV]
 ·by_cases hN0:N=0
  ·have:=hz.2 hN0
   simp[bV,hN0,yz]
  ·have:0<(zg (N/g)).length:=by omega
   simp[bV,this,hN0]
theorem qV {neg:Bool} {N D:Nat} (hN:(zg N).length<68719476736) (hD:(zg D).length<68719476736) (h0:D≠0) :
  zd Tryz.prog rM [bv neg,nD N,nD D] (xJ neg N D):=by
 have k:=TZ (neg:=neg) hN hD h0
 unfold xJ at *
 generalize N/Nat.gcd N D=n at *
 generalize D/Nat.gcd N D=d at *
 refine zx abq (by simp) ?_
 simp[P2]
 refine za k (by simp) (by simp) ?_
 simp[My]
theorem Mf {P:Program} {k:IntKind} {a:Int}:zt P (Op.unary .neg (Value.int k a))=some (Value.int k (k.wrap (-a))):=by
 simp[zt,Op.unary,Op.intArith,pure]
theorem adq {k:IntKind} {a:Int}:ofV (Value.int k a)=.val (.int k a):=rfl
theorem jX {x:Nat} (h:x<18446744073709551616):(zg x).length≤2:=zI.2 (by
 have:B^2=18446744073709551616:=by decide
 omega)
theorem Pd {n:Int} (h1:-9223372036854775808≤n) (h2:n<9223372036854775808):zd Tryz.prog X1 [iv n] (nD n.natAbs):=by
 obtain ⟨x,hx⟩:∃ x,n.natAbs=x:=⟨_,rfl⟩
 have hxl:x<18446744073709551616:=by omega
 have k:=qT (x:=x) hxl
 rw[hx]
 refine zx abr (by simp) ?_
 by_cases h:n<0
 ·have w1:IntKind.i64.wrap (n+1)=n+1:=by rw[wrap64]<;>omega
  have w2:IntKind.i64.wrap (-(n+1))=(x:Int)-1:=by rw[wrap64]<;>omega
  have w2':IntKind.i64.wrap (-1+-n)=(x:Int)-1:=by rw[wrap64]<;>omega
  have w3:IntKind.u64.wrap ((x:Int)-1)=(x:Int)-1:=by rw[vW]<;>omega
  have w4:IntKind.u64.wrap (x:Int)=x:=w64 hxl
  simp[X8,h,w1,Mf,w2,w3,w4]
  refine za k (by simp) (by simp) ?_
  simp[Uz]
 ·have w4:IntKind.u64.wrap n=(x:Int):=by rw[vW]<;>omega
  simp[X8,h,w4]
  refine za k (by simp) (by simp) ?_
  simp[Uz]
theorem Q8 {n:Int} (h1:-9223372036854775808≤n) (h2:n<9223372036854775808):zd Tryz.prog zE [iv n] (xJ (decide (n<0)) n.natAbs 1):=by
 have k1:=Pd h1 h2
 have k2:=qT (x:=1) (by omega)
 have l1:=jX (x:=n.natAbs) (by omega)
 have l2:=jX (x:=1) (by omega)
 have k3:=qV (neg:=decide (n<0)) (N:=n.natAbs) (D:=1) (by omega) (by omega) (by omega)
 unfold xJ at *
 generalize n.natAbs/Nat.gcd n.natAbs 1=p at *
 generalize 1/Nat.gcd n.natAbs 1=q at *
 refine zx Kz (by simp) ?_
 simp[Xt]
 refine za k1 (by simp) (by simp) ?_
 simp
 refine za k2 (by simp) (by simp) ?_
 simp
 refine za k3 (by simp) (by simp) ?_
 simp[XR]
abbrev frA (s:Bool) (N D:Nat):AV:=.agg [bv s,nD N,nD D]
abbrev xU (q:Rat):AV:=frA (decide (q.num<0)) q.num.natAbs q.den
def sg (s:Bool) (N:Nat):Int:=if s then -(N:Int) else N
theorem qg {s:Bool} {N D:Nat} (h:D≠0):xJ s N D=xU (mkRat (sg s N) D):=by
 have hab:(sg s N).natAbs=N:=by unfold sg; split<;>omega
 have hm:mkRat (sg s N) D=Rat.normalize (sg s N) D h:=by simp[mkRat,h]
 rw[hm,Rat.normalize_eq]
 unfold xJ xU
 simp only[hab]
 have hg:0<Nat.gcd N D:=Nat.gcd_pos_of_pos_right _ (by omega)
 obtain ⟨c,hc⟩:=Nat.gcd_dvd_left N D
 generalize Nat.gcd N D=g at *
 subst hc
 have e1:(sg s (g*c))/(g:Int)=sg s c:=by
  unfold sg
  split
  ·rw[show -((g*c:Nat):Int)=(g:Int)*(-(c:Int)) by rw[Int.natCast_mul,Int.mul_neg]]
   exact Int.mul_ediv_cancel_left _ (by omega)
  ·rw[Int.natCast_mul]
   exact Int.mul_ediv_cancel_left _ (by omega)
 have e2:g*c/g=c:=Nat.mul_div_cancel_left _ hg
 rw[e1,e2]
 have e3:(sg s c).natAbs=c:=by unfold sg; split<;>omega
 have e4:(s&&decide (g*c≠0))=decide (sg s c<0):=by
  have hg0:¬ g=0:=by omega
  unfold sg
  rcases Nat.eq_zero_or_pos c with h0 | h0
  ·subst h0; cases s<;>simp
  ·have hc0:¬ c=0:=by omega
   have hcl:0<c:=h0
   have hng:¬ (c:Int)<0:=by omega
   have hneg:-(c:Int)<0:=by omega
   have hgc:¬ g*c=0:=Nat.mul_ne_zero hg0 hc0
   cases s<;>simp[hng,hgc,hcl]
 rw[e3,e4]
theorem mN (n:Int):sg (decide (n<0)) n.natAbs=n:=by
 unfold sg
 by_cases h:n<0
 ·simp[h]; omega
 ·simp[h]; omega
theorem Jf (n:Int):xJ (decide (n<0)) n.natAbs 1=xU (n:Rat):=by
 rw[qg (by decide),mN]
 congr 1
 rw[← Rat.mkRat_self (n:Rat)]; rfl
theorem NJ {n:Int} (h1:-9223372036854775808≤n) (h2:n<9223372036854775808):zd Tryz.prog zE [iv n] (xU n):=by
 rw[← Jf]; exact Q8 h1 h2
theorem p0 (x:AV):∃ y:AV,y=x:=⟨_,rfl⟩
noncomputable def f0 (q:Rat):AV:=Classical.choose (p0 (bv (decide (q.num<0))))
noncomputable def f1 (q:Rat):AV:=Classical.choose (p0 (nD q.num.natAbs))
noncomputable def f2 (q:Rat):AV:=Classical.choose (p0 (nD q.den))
theorem ki (q:Rat):f0 q=bv (decide (q.num<0)):=Classical.choose_spec (p0 _)
theorem kj (q:Rat):f1 q=nD q.num.natAbs:=Classical.choose_spec (p0 _)
theorem ko (q:Rat):f2 q=nD q.den:=Classical.choose_spec (p0 _)
noncomputable def fr (q:Rat):List AV:=[f0 q,f1 q,f2 q]
@[simp] theorem sY (q:Rat):[f0 q,f1 q,f2 q]=fr q:=rfl
theorem rD (q:Rat):fr q=[bv (decide (q.num<0)),nD q.num.natAbs,nD q.den]:=by unfold fr; rw[ki,kj,ko]
noncomputable abbrev fq (q:Rat):AV:=.agg (fr q)
theorem sZ (q:Rat):xU q=fq q:=by unfold fq; rw[rD]
abbrev zz:List AV:=[.val (.bool false),.list 0 .full [],.list 0 .full []]
@[simp] theorem akA (q:Rat):rf (f0 q)=true:=by rw[ki]; rfl
@[simp] theorem aiE (q:Rat):strip (f0 q)=f0 q:=by rw[ki]; rfl
@[simp] theorem akz (q:Rat) (l:Nat):dg l (f0 q)=f0 q:=by rw[ki]; simp
@[simp] theorem ajK (q:Rat) (l:Nat) (e:ze):frz l e (f0 q)=f0 q:=by rw[ki]; rfl
@[simp] theorem Gx (q:Rat) (a b:Nat):rn a b (f0 q)=f0 q:=by rw[ki]; rfl
@[simp] theorem ajL (q:Rat) (M:Nat):Am.low M (f0 q)=true:=by rw[ki]; rfl
@[simp] theorem ai8 (q:Rat) (k:Nat):zT k (f0 q)=false:=by rw[ki]; rfl
@[simp] theorem ajM (q:Rat) (k:Nat):nH k (f0 q)=false:=by rw[ki]; rfl
@[simp] theorem akC (q:Rat):rf (f1 q)=true:=by rw[kj]; rfl
@[simp] theorem aiF (q:Rat):strip (f1 q)=f1 q:=by rw[kj]; rfl
@[simp] theorem akB (q:Rat) (l:Nat):dg l (f1 q)=f1 q:=by rw[kj]; simp
@[simp] theorem ajN (q:Rat) (l:Nat) (e:ze):frz l e (f1 q)=f1 q:=by rw[kj]; rfl
@[simp] theorem Gy (q:Rat) (a b:Nat):rn a b (f1 q)=f1 q:=by rw[kj]; rfl
@[simp] theorem ajO (q:Rat) (M:Nat):Am.low M (f1 q)=true:=by rw[kj]; rfl
@[simp] theorem ai9 (q:Rat) (k:Nat):zT k (f1 q)=false:=by rw[kj]; rfl
@[simp] theorem ajP (q:Rat) (k:Nat):nH k (f1 q)=false:=by rw[kj]; rfl
@[simp] theorem akE (q:Rat):rf (f2 q)=true:=by rw[ko]; rfl
@[simp] theorem aiG (q:Rat):strip (f2 q)=f2 q:=by rw[ko]; rfl
@[simp] theorem akD (q:Rat) (l:Nat):dg l (f2 q)=f2 q:=by rw[ko]; simp
@[simp] theorem ajQ (q:Rat) (l:Nat) (e:ze):frz l e (f2 q)=f2 q:=by rw[ko]; rfl
@[simp] theorem Gz (q:Rat) (a b:Nat):rn a b (f2 q)=f2 q:=by rw[ko]; rfl
@[simp] theorem ajR (q:Rat) (M:Nat):Am.low M (f2 q)=true:=by rw[ko]; rfl
@[simp] theorem aja (q:Rat) (k:Nat):zT k (f2 q)=false:=by rw[ko]; rfl
@[simp] theorem ajS (q:Rat) (k:Nat):nH k (f2 q)=false:=by rw[ko]; rfl
@[simp] theorem aft {q:Rat}:(fr q).length=3:=by simp[rD]
@[simp] theorem GB {q:Rat}:(fr q).all rf=true:=by rw[rD]; simp
@[simp] theorem Ug {q:Rat}:(fr q).map strip=fr q:=by rw[rD]; simp
@[simp] theorem agY {q:Rat} {l:Nat}:(fr q).map (dg l)=fr q:=by rw[rD]; simp
@[simp] theorem afs {q:Rat} {l:Nat} {e:ze}:(fr q).map (frz l e)=fr q:=by rw[rD]; rfl
@[simp] theorem agZ {q:Rat} {a b:Nat}:(fr q).map (rn a b)=fr q:=by rw[rD]; rfl
@[simp] theorem afu {q:Rat} {M:Nat}:(fr q).all (Am.low M)=true:=by rw[rD]; rfl
@[simp] theorem afv {q:Rat} {k:Nat}:xo k (fr q)=false:=by rw[rD]; simp
@[simp] theorem ajY {q:Rat} {k:Nat}:(fr q).any (nH k)=false:=by rw[rD]; rfl
@[simp] theorem ah5 {q:Rat}:zB (fr q) 0 (some 3)=some (fq q):=by
 rw[vV aft GB,Ug]
@[simp] theorem aij {q:Rat} {a b c:AV}:splice [a,b,c] 0 (fr q)=fr q:=by rw[rD]; simp[splice]
@[simp] theorem ahI {p q:Rat}:splice (fr p) 0 (fr q)=fr q:=by simp[splice]
@[simp] theorem ahM {q:Rat} {a b c d e x y z g h:AV}:splice [a,b,c,d,e,x,y,z,g,h] 5 (fr q)=[a,b,c,d,e,f0 q,f1 q,f2 q,g,h]:=by unfold fr; simp[splice,-sY]
@[simp] theorem aje {q:Rat}:(fr q).drop 3=[]:=by rw[rD]; rfl
theorem yf {n:Int} (h1:-9223372036854775808≤n) (h2:n<9223372036854775808):zd Tryz.prog zE [iv n] (fq n):=by rw[← sZ]; exact NJ h1 h2
def SE (x y:Nat) (k:Nat):St :=
 {env:=[(0,nD x),(1,nD y),(6,.sl 20 1 0 (zg x).length),(7,ya (bor x y k)),(22,iv (zg x).length),(23,iv k)],sto:=[(20,.arr 1 (zH (wC (zg x).length k (x-y))))]}
theorem Q1 {m1 m2:Am.Mode} {a b:List Nat} (ha:ok a) (hb:ok b) (hna:a.length<1099511627776) (hnb:b.length<1099511627776) :
  zd Tryz.prog YF [nl m1 a,nl m2 b] (if val a<val b then .tuple [.list 0 .full [],bv false] else .tuple [nD (val a-val b),bv true]):=by
 refine vc aeC (by simp) ?_
 simp[KR]
 refine za (y8 (m:=stm m1) ha hna) (by simp[pd]) (by simp) ?_
 simp
 refine za (y8 (m:=stm m2) hb hnb) (by simp[pd]) (by simp) ?_
 simp
 have lx:=wo ha
 have ly:=wo hb
 have key:=jd (m1:=.plain) (m2:=.plain) (zD (val a)) (zD (val b)) (by omega) (by omega)
 rw[zO,zO] at key
 refine za key (by simp) (by simp) ?_
 generalize val a=x at *
 generalize val b=y at *
 by_cases hlt:x<y
 ·simp[yU,hlt,RG]
  exact AV.imp.refl
 ·have hle:y≤x:=by omega
  have hly:(zg y).length≤(zg x).length:=by
   apply Nat.le_of_not_lt
   intro h
   have:=eN h
   omega
  have hS:x-y<B^(zg x).length:=by
   have:=zI.1 (Nat.le_refl (zg x).length)
   omega
  have hc:¬ yU x y<0:=by
   simp only[yU,hlt,if_false]
   split<;>omega
  simp[hc,hlt,eMk]
  refine ⟨by omega,by omega,?_⟩
  refine zr (SE x y) (fun _=>True) (zg x).length (by simp[SE,cJ,jZ]) trivial (fun k hk _=>?_) (fun _=>?_)
  ·have e:(k:Int)<(zg x).length:=by omega
   have hak:=xO (zD x) hk
   have hb1:=Tg (x:=x) (y:=y) (k:=k)
   have hfl:=eI (n:=(zg x).length) (k:=k) (S:=x-y) (by omega)
   have hfk:k<(wC (zg x).length k (x-y)).length:=by omega
   have hset:=eJ (n:=(zg x).length) (k:=k) (S:=x-y) (by omega)
   have hsd:=da (k:=k) hle
   have hbs:=cI (x:=x) (y:=y) (k:=k)
   rw[← nw hk] at hsd hbs
   obtain ⟨d,hd⟩:∃ d,(x-y)/B^k%B=d:=⟨_,rfl⟩
   rw[hd] at hset hsd
   have hset':(zH (wC (zg x).length k (x-y))).set k [uv d]=zH (wC (zg x).length (k+1) (x-y)):=by rw[xg,hset]
   have e1:IntKind.u64.wrap (((zg x)[k]:Nat):Int)=((zg x)[k]:Nat):=w64 (by rw[z8] at hak; omega)
   rw[z8] at hak
   by_cases hkb:k<(zg y).length
   ·have e2:(k:Int)<(zg y).length:=by omega
    have hbk:=xO (zD y) hkb
    rw[z8] at hbk
    rw[← nw hkb] at hsd hbs
    have e3:IntKind.u64.wrap (((zg y)[k]:Nat):Int)=((zg y)[k]:Nat):=w64 (by omega)
    have e5:=abC (((zg x)[k]:Nat)-(bor x y k:Nat):Int) ((zg y)[k]:Nat)
    have e6:=PJ (((zg x)[k]:Nat)-(bor x y k:Nat)-((zg y)[k]:Nat):Int)
    have e7:=PF (u:=(((zg x)[k]:Nat)-(bor x y k:Nat)-((zg y)[k]:Nat):Int)) (by omega) (by omega)
    have e8:(((zg x)[k]:Nat)-(bor x y k:Nat)-((zg y)[k]:Nat):Int)%4294967296=(d:Int):=by omega
    rw[e8] at e6
    have e9:(if (((zg x)[k]:Nat)-(bor x y k:Nat)-((zg y)[k]:Nat):Int)<0 then (1:Int) else 0)=(bor x y (k+1):Int):=by
     rw[hbs]
     split<;>split<;>omega
    rw[e9] at e7
    simp[jU,SE,e,e2,hk,hkb,e1,e3,e5,e6,e7,wB,hfk,splice,hset',zn (show k<4611686018427387904 by omega)]
   ·have e2:¬ (k:Int)<(zg y).length:=by omega
    have hy0:y/B^k%B=0:=by rw[← E6,List.getElem?_eq_none (by omega)]; rfl
    rw[hy0] at hsd hbs
    have e6:=PJ (((zg x)[k]:Nat)-(bor x y k:Nat):Int)
    have e7:=PF (u:=(((zg x)[k]:Nat)-(bor x y k:Nat):Int)) (by omega) (by omega)
    have e8:(((zg x)[k]:Nat)-(bor x y k:Nat):Int)%4294967296=(d:Int):=by omega
    rw[e8] at e6
    have e9:(if (((zg x)[k]:Nat)-(bor x y k:Nat):Int)<0 then (1:Int) else 0)=(bor x y (k+1):Int):=by
     rw[hbs]
     split<;>split<;>omega
    rw[e9] at e7
    simp[jU,SE,e,e2,hk,e1,e6,e7,wB,hfk,splice,hset',zn (show k<4611686018427387904 by omega)]
  ·have htk:(zH (zu (zg x).length (x-y))).take (zg x).length=zH (zu (zg x).length (x-y)):=List.take_of_length_le (by rw[List.length_map,zy]; exact Nat.le_refl _)
   have hle2:(zg x).length≤(zu (zg x).length (x-y)).length:=by rw[zy]; exact Nat.le_refl _
   have key:=y8 (m:=.plain) (a:=zu (zg x).length (x-y)) yD (by rw[zy]; omega)
   rw[yk hS] at key
   simp[jU,SE,ZI,Ts,xf,vU,htk,hle2]
   refine za key (by simp) (by simp) ?_
   simp[RG]
   exact AV.imp.refl
def SB (m1 m2:Am.Mode) (a b:List Nat) (i k:Nat):St :=
 {env:=[(0,nl m1 a),(1,nl m2 b),(5,.sl 15 1 0 (a.length+b.length)),(17,iv a.length),(18,iv i),(6,iv i),(7,ya (we a b i k).2),(22,iv b.length),(23,iv k)],sto:=[(15,.arr 1 (zH (we a b i k).1))]}
def Yl (m1 m2:Am.Mode) (a b:List Nat) (i:Nat):St :=
 {env:=[(0,nl m1 a),(1,nl m2 b),(5,.sl 15 1 0 (a.length+b.length)),(17,iv a.length),(18,iv i)],sto:=[(15,.arr 1 (zH (rj a b i)))]}
theorem qn {m1 m2:Am.Mode} {a b:List Nat} (ha:ok a) (hb:ok b) (hna:a.length<1099511627776) (hnb:b.length<1099511627776) (hs:a.length+b.length<1099511627776) (f1:stm m1=m1) (f2:stm m2=m2) :
  zd Tryz.prog qE [nl m1 a,nl m2 b] (nD (val a*val b)):=by
 refine vc aeB (by simp) ?_
 have w:IntKind.i64.wrap ((a.length:Int)+b.length)=(a.length:Int)+b.length:=wrap64 (by omega) (by omega)
 have e1:((a.length:Int)+b.length).toNat=a.length+b.length:=by omega
 simp[KQ,w,eMk,e1]
 refine ⟨by omega,by omega,by omega,?_⟩
 refine zr (Yl m1 m2 a b) (fun _=>True) a.length (by simp[Yl,rj]) trivial (fun i hi _=>?_) (fun _=>?_)
 ·have hO:=ZX ha hb i (by omega)
  have ei:(i:Int)<a.length:=by omega
  simp[cS,Yl,ei]
  refine zr (SB m1 m2 a b i) (fun _=>True) b.length (by simp[SB,Dy]) trivial (fun k hk _=>?_) (fun _=>?_)
  ·have hI:=eP ha hb hi hO k (by omega)
   have ek:(k:Int)<b.length:=by omega
   have hst:=QG (a:=a) (b:=b) (i:=i) (k:=k)
   have hlen:=hI.len
   have hik:i+k<(we a b i k).1.length:=by omega
   have eik:((i:Int)+k)<(we a b i k).1.length:=by omega
   have wik:IntKind.i64.wrap ((i:Int)+k)=((i+k:Nat):Int):=by rw[wrap64]<;>omega
   have hbd:=ZV (v5 ha i) (v5 hb k) (v5 hI.ok (i+k)) hI.lt
   have g1:=xO ha hi
   have g2:=xO hb hk
   have g3:=xO hI.ok hik
   have g4:=hI.lt
   simp only[lJ] at hst
   have q1:a.getD i 0=a[i]:=by simp[hi]
   have q2:b.getD k 0=b[k]:=by simp[hk]
   have q3:(we a b i k).1.getD (i+k) 0=(we a b i k).1[i+k]:=by simp[hik]
   rw[q1,q2,q3] at hst hbd
   obtain ⟨t,ht⟩:∃ t,a[i]*b[k]+(we a b i k).1[i+k]+(we a b i k).2=t:=⟨_,rfl⟩
   obtain ⟨p,hp⟩:∃ p,a[i]*b[k]=p:=⟨_,rfl⟩
   rw[ht] at hst hbd
   rw[hp] at ht
   obtain ⟨d,hd⟩:∃ d,t%B=d:=⟨_,rfl⟩
   obtain ⟨q,hq⟩:∃ q,t/B=q:=⟨_,rfl⟩
   rw[hd,hq] at hst
   have f1:IntKind.u32.wrap (t:Int)=(d:Int):=by rw[w32,hd]
   have f2:(t:Int).fdiv (2^min 32 IntKind.u64.bits)=(q:Int):=by rw[aj,hq]
   have hBB:B*B=18446744073709551616:=by decide
   rw[hBB] at hbd
   rw[z8] at g1 g2 g3 g4
   have u1:IntKind.u64.wrap ((a[i]:Nat):Int)=(a[i]:Nat):=w64 (by omega)
   have u2:IntKind.u64.wrap ((b[k]:Nat):Int)=(b[k]:Nat):=w64 (by omega)
   have u3:IntKind.u64.wrap (((we a b i k).1[i+k]:Nat):Int)=((we a b i k).1[i+k]:Nat):=w64 (by omega)
   have u4:IntKind.u64.wrap ((a[i]:Int)*(b[k]:Int))=(p:Int):=by
    rw[show (a[i]:Int)*(b[k]:Int)=((a[i]*b[k]:Nat):Int) by simp,hp]; exact w64 (by omega)
   have u5:IntKind.u64.wrap ((p:Int)+((we a b i k).1[i+k]:Nat))=(p:Int)+((we a b i k).1[i+k]:Nat):=by rw[vW]<;>omega
   have u6:IntKind.u64.wrap ((p:Int)+((we a b i k).1[i+k]:Nat)+((we a b i k).2:Nat))=(t:Int):=by rw[vW]<;>omega
   have hset:(zH (we a b i k).1).set (i+k) [uv d]=zH (we a b i (k+1)).1:=by rw[xg,hst]
   have hq2:(we a b i (k+1)).2=q:=by rw[hst]
   have en:((i:Int)+k).toNat=i+k:=by omega
   have e0:(0:Int)≤(i:Int)+k:=by omega
   have elt:(i:Int)+k<(a.length:Int)+b.length:=by omega
   simp only[Int.natCast_add] at wik
   simp[cQ,SB,ek,hi,hk,ei,wik,en,e0,elt,hik,u1,u2,u3,u4,u5,u6,wB,splice,f1,f2,hset,hq2,zn (show k<4611686018427387904 by omega)]
  ·have hI:=eP ha hb hi hO b.length (Nat.le_refl _)
   have hlen:=hI.len
   have hik:i+b.length<(we a b i b.length).1.length:=by omega
   have wik:IntKind.i64.wrap ((i:Int)+b.length)=(i:Int)+b.length:=by rw[wrap64]<;>omega
   have en:((i:Int)+b.length).toNat=i+b.length:=by omega
   have e0:(0:Int)≤(i:Int)+b.length:=by omega
   have hset:(zH (we a b i b.length).1).set (i+b.length) [uv (we a b i b.length).2]=zH (rj a b (i+1)):=by rw[QH]; exact xg
   have g4:=hI.lt
   rw[z8] at g4
   have f1:IntKind.u32.wrap ((we a b i b.length).2:Int)=((we a b i b.length).2:Int):=IntWalk.u32_in _ (by omega)
   simp[cQ,SB,Yl,Tp,Tq,wik,en,e0,hik,f1,splice,hset,ei,zn (show i<4611686018427387904 by omega)]
 ·obtain ⟨h1,h2,h3⟩:=adh ha hb
  have htk:(zH (rj a b a.length)).take (a.length+b.length)=zH (rj a b a.length):=List.take_of_length_le (by rw[List.length_map,h2]; exact Nat.le_refl _)
  have hle2:a.length+b.length≤(rj a b a.length).length:=by rw[h2]; exact Nat.le_refl _
  have key:=y8 (m:=.plain) h1 (by rw[h2]; omega)
  rw[h3] at key
  simp[cS,Yl,Tr,xf,Uj f1,Uj f2,vU,htk,hle2]
  refine za key (by simp) (by simp) ?_
  simp[JE]
  exact AV.imp.refl
theorem uU {m:Am.Mode} {a:List Nat} {i:Nat} (ha:ok a) (_hn:a.length<1099511627776) (_hi:i<1099511627776):zd Tryz.prog wm [nl m a,iv i] (ya (a.getD i 0)):=by
 refine zx Be (by simp) ?_
 by_cases h:i<a.length
 ·have hg:a.getD i 0=a[i]:=by simp[h]
  have hB:=xO ha h
  rw[hg]
  generalize ha2:a[i]=x at *
  rw[z8] at hB
  have w:IntKind.u64.wrap (x:Int)=x:=w64 (by omega)
  have h':(i:Int)<a.length:=by omega
  simp[Zu,h,h',ha2,w,Z8]
 ·have hg:a.getD i 0=0:=by simp[List.getD,List.getElem?_eq_none (Nat.le_of_not_lt h)]
  have h':¬ (i:Int)<a.length:=by omega
  rw[hg]
  simp[Zu,h',Z8]
def Yo (m:Am.Mode) (a:List Nat) (k:Nat):St:={env:=[(0,nl (if k=0 then m else .plain) (a.take (a.length-k)))],sto:=[]}
theorem fK {m:Am.Mode} {a:List Nat} (ha:ok a) (hn:a.length<1099511627776):zd Tryz.prog ni [nl m a] (nD (val a)):=by
 obtain ⟨h1,h2,h3,h4⟩:=ZQ ha
 refine vc abz (by simp) ?_
 simp[P7]
 generalize hT:(zg (val a)).length=T at h1 h2 h3 h4
 refine zr (Yo m a) (fun _=>True) (a.length-T) (by simp[Yo]) trivial (fun k hk _=>?_) (fun _=>?_)
 ·obtain ⟨c,hc⟩:∃ c,a.take (a.length-k)=c:=⟨_,rfl⟩
  obtain ⟨L,hL⟩:∃ L,a.length-k=L+1:=⟨a.length-k-1,by omega⟩
  have hL2:a.length-(k+1)=L:=by omega
  have hcl:c.length=L+1:=by rw[← hc]; simp; omega
  have hLl:L<c.length:=by omega
  have hz:c[L]=0:=by
   have:=h2 L (by omega) (by omega)
   subst hc
   simpa using this
  have hc2:a.take L=c.take L:=by rw[← hc,List.take_take]; congr 1; omega
  have hcz:(c.length:Int)=(L:Int)+1:=by omega
  have w:IntKind.i64.wrap (L:Int)=(L:Int):=by rw[wrap64]<;>omega
  have hg:∃ r,zH (c.take L)=r:=⟨_,rfl⟩
  have hst:Yo m a (k+1)={env:=[(0,.list 1 .plain (List.take L (zH c)))],sto:=[]}:=by
   rw[Yo,hL2,hc2]; simp[List.map_take]
  obtain ⟨m',hst0⟩:∃ m',Yo m a k={env:=[(0,nl m' c)],sto:=[]}:=⟨_,by rw[Yo,hc]⟩
  have p3:(L:Int)<(L:Int)+1:=by omega
  have p1:(0:Int)<(L:Int)+1:=by omega
  have p2:(L:Int)≤(L:Int)+1:=by omega
  rw[hst0]
  simp[ke,hcl,w,hz,hst,p1,p2,p3]
 ·have e:a.length-(a.length-T)=T:=by omega
  obtain ⟨m',hst⟩:∃ m',Yo m a (a.length-T)={env:=[(0,nl m' (zg (val a)))],sto:=[]}:=⟨_,by rw[Yo,e,h4]⟩
  rw[hst]
  clear hst
  generalize hcE:zg (val a)=c at *
  rcases T with _ | L
  ·have hc0:c=[]:=List.length_eq_zero_iff.1 hT
   subst hc0
   simp[ke,dq,UD]
   rw[nD,hcE]
   exact AV.imp.refl
  ·have hLl:L<c.length:=by omega
   have hcz:(c.length:Int)=(L:Int)+1:=by omega
   have w:IntKind.i64.wrap (L:Int)=(L:Int):=by rw[wrap64]<;>omega
   have hz:¬ c[L]=0:=by
    have:=ZE (x:=val a) (by rw[hcE]; omega)
    simp only[hcE,hT,Nat.add_sub_cancel] at this
    exact this
   have p1:(0:Int)<(L:Int)+1:=by omega
   simp[ke,hT,w,hz,p1,dq,UD]
   rw[nD,hcE]
   exact ⟨by omega,by omega,by omega,AV.imp.refl⟩
theorem ff {x:Nat} (h:x<18446744073709551616):zd Tryz.prog tt [ya x] (nD x):=by
 have hq2:x/B<B:=by rw[z8]; omega
 have e1:=Nat.mod_add_div x B
 have hm2:x%B<B:=Nat.mod_lt _ zZ
 have t1:(x:Int).tmod 4294967296=((x%B:Nat):Int):=by
  rw[z8,show (4294967296:Int)=((4294967296:Nat):Int) from rfl,← Int.ofNat_tmod]
 have t2:IntKind.u64.wrap ((x:Int)/4294967296)=((x/B:Nat):Int):=by
  rw[show (x:Int)/4294967296=((x/B:Nat):Int) by rw[z8]; omega]
  exact w64 (Nat.lt_of_le_of_lt (Nat.div_le_self _ _) h)
 obtain ⟨d0,h0⟩:∃ d,x%B=d:=⟨_,rfl⟩
 obtain ⟨d1,h1⟩:∃ q,x/B=q:=⟨_,rfl⟩
 rw[h0] at t1 e1 hm2
 rw[h1] at t2 e1 hq2
 have hok:ok [d0,d1]:=by
  intro d hd
  simp at hd
  rcases hd with rfl | rfl
  ·exact hm2
  ·exact hq2
 have hv:val [d0,d1]=x:=by
  simp only[val,Nat.mul_zero,Nat.add_zero]
  exact e1
 have key:=fK (m:=.full) (a:=[d0,d1]) hok (by simp)
 rw[hv] at key
 rw[z8] at hm2 hq2
 have f1:IntKind.u32.wrap (d0:Int)=d0:=IntWalk.u32_in _ (by omega)
 have f2:IntKind.u32.wrap (d1:Int)=d1:=IntWalk.u32_in _ (by omega)
 refine zx Lr (by simp) ?_
 simp[Zt,sy,nv,t1,t2,f1,f2,uA]
 refine za key (by simp) (by simp) ?_
 simp[Z7]
theorem qh {a:List Nat} (ha:ok a) (i:Nat):a.getD i 0=val a/B^i%B:=by
 rcases Nat.lt_or_ge i a.length with h | h
 ·rw[← lC ha h]; simp[h]
 ·have h1:val a<B^i:=xh ha h
  rw[Nat.div_eq_of_lt h1,Nat.zero_mod]
  simp[List.getD,List.getElem?_eq_none h]
theorem eZ (x j:Nat):x/B^j=B*(x/B^(j+1))+x/B^j%B:=by
 rw[Nat.pow_succ,← Nat.div_div_eq_div_mul]
 exact (Nat.div_add_mod _ _).symm
theorem Nd {x y j:Nat} (h:x/B^(j+1)=y/B^(j+1)) (hlt:x/B^j%B<y/B^j%B):x<y:=by
 have h1:=eZ x j
 have h2:=eZ y j
 rw[h] at h1
 apply Nat.lt_of_not_le
 intro hle
 have h3:y/B^j≤x/B^j:=Nat.div_le_div_right hle
 generalize x/B^j%B=p at *
 generalize y/B^j%B=q at *
 omega
theorem cmp_eq {x y j:Nat} (h:x/B^(j+1)=y/B^(j+1)) (he:x/B^j%B=y/B^j%B):x/B^j=y/B^j:=by
 rw[eZ x j,eZ y j,h,he]
def RO (m1 m2:Am.Mode) (a b:List Nat) (M k:Nat):St:={env:=[(0,nl m1 a),(1,nl m2 b),(5,iv ((M:Int)-1-k))],sto:=[]}
theorem K0 {m1 m2:Am.Mode} {a b:List Nat} (ha:ok a) (hb:ok b) (hna:a.length<1099511627776) (hnb:b.length<1099511627776) (f1:stm m1=m1) (f2:stm m2=m2) :
  zd Tryz.prog YH [nl m1 a,nl m2 b] (iv (yU (val a) (val b))):=by
 refine zx aeG (by simp) ?_
 obtain ⟨M,hM⟩:∃ M,max a.length b.length=M:=⟨_,rfl⟩
 have hMz:max (a.length:Int) (b.length:Int)=(M:Int):=by omega
 have w0:IntKind.i64.wrap ((M:Int)-1)=(M:Int)-1:=by rw[wrap64]<;>omega
 simp[KW,hMz,w0]
 refine zr (RO m1 m2 a b M) (fun k=>val a/B^(M-k)=val b/B^(M-k)) M (by simp[RO]) ?_ (fun k hk hi=>?_) (fun hi=>?_)
 ·rw[Nat.sub_zero,Nat.div_eq_of_lt (xh ha (by omega)),Nat.div_eq_of_lt (xh hb (by omega))]
 ·obtain ⟨j,hj⟩:∃ j,M-1-k=j:=⟨_,rfl⟩
  have hj2:M-k=j+1:=by omega
  have hj3:M-(k+1)=j:=by omega
  have hjz:(M:Int)-1-k=(j:Int):=by omega
  have d1:=uU (m:=m1) (i:=j) ha hna (by omega)
  have d2:=uU (m:=m2) (i:=j) hb hnb (by omega)
  rw[hj2] at hi
  rw[qh ha] at d1
  rw[qh hb] at d2
  have c1:=fun h=>Nd (x:=val a) (y:=val b) (j:=j) hi h
  have c2:=fun h=>Nd (x:=val b) (y:=val a) (j:=j) hi.symm h
  have c3:=fun h=>cmp_eq (x:=val a) (y:=val b) (j:=j) hi h
  generalize val a/B^j%B=p at *
  generalize val b/B^j%B=q at *
  have e0:(0:Int)≤(j:Int):=by omega
  have w1:IntKind.i64.wrap ((j:Int)-1)=(j:Int)-1:=by rw[wrap64]<;>omega
  have hst:RO m1 m2 a b M (k+1)={env:=[(0,nl m1 a),(1,nl m2 b),(5,iv ((j:Int)-1))],sto:=[]}:=by
   rw[RO,show (M:Int)-1-((k+1:Nat):Int)=(j:Int)-1 by omega]
  rw[RO,hjz]
  simp[cV]
  refine za d1 (by simp[f1]) (by simp) ?_
  simp
  refine za d2 (by simp[f2]) (by simp) ?_
  by_cases h:p<q
  ·have hc:yU (val a) (val b)=-1:=by simp[yU,c1 h]
   simp[h,Y5,hc]
  ·simp[h]
   refine za d1 (by simp[f1]) (by simp) ?_
   simp
   refine za d2 (by simp[f2]) (by simp) ?_
   by_cases h2:q<p
   ·have hc:yU (val a) (val b)=1:=by
     have:¬ val a<val b:=by have:=c2 h2; omega
     simp[yU,c2 h2,this]
    simp[h2,Y5,hc]
   ·have he:=c3 (by omega)
    simp[h2,w1,hst,hj3,he]
 ·have hxy:val a=val b:=by simpa using hi
  have hc:yU (val a) (val b)=0:=by simp[yU,hxy]
  have e0:¬ (0:Int)≤(M:Int)-1-M:=by omega
  have e1:¬ (M:Int)≤(M:Int)-1:=by omega
  simp[cV,RO,e1,Tu,Y5,hc]
def cry (x y k:Nat):Nat:=(x%B^k+y%B^k)/B^k
theorem BS {x y:Nat}:cry x y 0=0:=by simp[cry,Nat.mod_one]
theorem aff {x y k:Nat}:cry x y k≤1:=by
 unfold cry
 have h1:=Nat.mod_lt x (ut k)
 have h2:=Nat.mod_lt y (ut k)
 have:(x%B^k+y%B^k)/B^k<2:=Nat.div_lt_of_lt_mul (by omega)
 omega
theorem Ea {x y k:Nat}:(x+y)/B^k%B=(x/B^k%B+y/B^k%B+cry x y k)%B∧cry x y (k+1)=(x/B^k%B+y/B^k%B+cry x y k)/B:=by
 have m1:x%B^(k+1)=x%B^k+B^k*(x/B^k%B):=by rw[Nat.pow_succ,Nat.mod_mul]
 have m2:y%B^(k+1)=y%B^k+B^k*(y/B^k%B):=by rw[Nat.pow_succ,Nat.mod_mul]
 have d1:=Nat.mod_add_div x (B^(k+1))
 have d2:=Nat.mod_add_div y (B^(k+1))
 have hs:x+y=(x%B^k+y%B^k)+B^k*(x/B^k%B+y/B^k%B)+B^(k+1)*(x/B^(k+1)+y/B^(k+1)):=by
  rw[Nat.mul_add,Nat.mul_add]
  omega
 constructor
 ·rw[hs,ZB]
  unfold cry
  congr 1
  omega
 ·unfold cry
  rw[m1,m2,show x%B^k+B^k*(x/B^k%B)+(y%B^k+B^k*(y/B^k%B))=(x%B^k+y%B^k)+B^k*(x/B^k%B+y/B^k%B) by rw[Nat.mul_add]; omega,ZA]
  congr 1
  omega
theorem ZC {m:Am.Mode} {l:Nat} {a:List Nat} (h:stm m=m):dg l (nl m a)=nl m a:=by
 cases m with
 | plain=>simp
 | full=>simp
 | own d=>simp at h
def RM (m1 m2:Am.Mode) (a b:List Nat) (k:Nat):St :=
 {env:=[(0,nl m1 a),(1,nl m2 b),(5,vR 1 32 (zH (zu k (val a+val b)))),(6,ya (cry (val a) (val b) k)),(7,iv k)],sto:=[]}
theorem YK {m1 m2:Am.Mode} {a b:List Nat} (ha:ok a) (hb:ok b) (hna:a.length<1099511627775) (hnb:b.length<1099511627775) (f1:stm m1=m1) (f2:stm m2=m2) :
  zd Tryz.prog m8 [nl m1 a,nl m2 b] (nD (val a+val b)):=by
 refine zx aeE (by simp) ?_
 obtain ⟨M,hM⟩:∃ M,max a.length b.length=M:=⟨_,rfl⟩
 have hMz:max (a.length:Int) (b.length:Int)=(M:Int):=by omega
 have hxM:val a<B^M:=xh ha (by omega)
 have hyM:val b<B^M:=xh hb (by omega)
 simp[KU]
 refine zr (RM m1 m2 a b) (fun _=>True) (M+1) (by simp[RM,BS,zu]) trivial (fun k hk _=>?_) (fun _=>?_)
 ·have d1:=uU (m:=m1) (i:=k) ha (by omega) (by omega)
  have d2:=uU (m:=m2) (i:=k) hb (by omega) (by omega)
  rw[qh ha] at d1
  rw[qh hb] at d2
  obtain ⟨g1,g2⟩:=Ea (x:=val a) (y:=val b) (k:=k)
  have hsucc:=qP (n:=k) (x:=val a+val b)
  have hpB:val a/B^k%B<B:=Nat.mod_lt _ zZ
  have hqB:val b/B^k%B<B:=Nat.mod_lt _ zZ
  have hc:=aff (x:=val a) (y:=val b) (k:=k)
  have hdl:=zy (n:=k) (x:=val a+val b)
  rw[g1] at hsucc
  have hst:RM m1 m2 a b (k+1)={env:=[(0,nl m1 a),(1,nl m2 b),(5,vR 1 32 (zH (zu (k+1) (val a+val b)))),(6,ya (cry (val a) (val b) (k+1))),(7,iv ((k:Int)+1))],sto:=[]}:=by
   rw[RM]; rfl
  rw[hsucc,g2] at hst
  rw[RM]
  clear g1 g2 hsucc
  generalize val a/B^k%B=p at *
  generalize val b/B^k%B=q at *
  generalize cry (val a) (val b) k=c at *
  generalize zu k (val a+val b)=D at *
  obtain ⟨t,ht⟩:∃ t,p+q+c=t:=⟨_,rfl⟩
  obtain ⟨d,hd⟩:∃ d,t%B=d:=⟨_,rfl⟩
  obtain ⟨e,he⟩:∃ e,t/B=e:=⟨_,rfl⟩
  rw[ht,hd,he] at hst
  have hdB:d<B:=by rw[← hd]; exact Nat.mod_lt _ zZ
  have heB:e≤t:=by rw[← he]; exact Nat.div_le_self _ _
  rw[z8] at hpB hqB hdB
  have t1:(t:Int).tmod 4294967296=(d:Int):=by
   rw[← hd,z8,show (4294967296:Int)=((4294967296:Nat):Int) from rfl,← Int.ofNat_tmod]
  have t2:IntKind.u64.wrap ((t:Int)/4294967296)=(e:Int):=by
   rw[show (t:Int)/4294967296=(e:Int) by rw[← he,z8]; omega]
   exact w64 (by omega)
  clear hd he
  have w1:IntKind.u64.wrap ((p:Int)+q)=(p:Int)+q:=vW (by omega) (by omega)
  have w2:IntKind.u64.wrap ((p:Int)+q+c)=(t:Int):=by rw[vW]<;>omega
  have w3:IntKind.u32.wrap (d:Int)=d:=IntWalk.u32_in _ (by omega)
  have w4:IntKind.i64.wrap ((k:Int)+1)=(k:Int)+1:=wrap64 (by omega) (by omega)
  have hkM:(k:Int)≤(M:Int):=by omega
  simp[cU,hMz,hkM]
  refine za d1 (by simp[f1]) (by simp) ?_
  simp
  refine za d2 (by simp[f2]) (by simp) ?_
  simp[w1,w2,sy,nv,t1,t2,w3,w4,hdl,hst,ZC f1,ZC f2]
  omega
 ·have hlt:val a+val b<B^(M+1):=by
   rw[Nat.pow_succ]
   have:B^M*2≤B^M*B:=Nat.mul_le_mul_left _ (by decide)
   omega
  have kt:=fK (m:=.plain) (a:=zu (M+1) (val a+val b)) yD (by rw[zy]; omega)
  rw[yk hlt] at kt
  have hne:¬ zu (M+1) (val a+val b)=[]:=fun h=>by
   have:=congrArg List.length h
   rw[zy] at this
   simp at this
  have hkM:¬ (M:Int)+1≤(M:Int):=by omega
  simp[cU,RM,hMz,hkM,Tt,JG]
  refine za kt (by simp[hne]) (.inl rfl) ?_
  simp
theorem NS {f:FuncId} {x x' r:AV} (h:zd Tryz.prog f [x'] r) (hy:AV.imp x x'):zd Tryz.prog f [x] r:=fun I vs w h1 h2 h3 =>
 h I vs w h1 h2 fun i a hi=>by
  match i,hi with
  | 0,hi=>simp at hi; subst hi; exact hy _ _ _ (h3 0 x rfl)
  | i+1,hi=>simp at hi
theorem Pf {x y k p q c:Nat} (h:y≤x) (hp:x/B^k%B=p) (hq:y/B^k%B=q) (hc:bor x y k=c) (_hpB:p<B) (_hqB:q<B) (hc1:c≤1) :
  ∃ s,4294967296+p-q-c=s∧s<8589934592∧q+c≤4294967296+p∧(x-y)/B^k%B=s%B∧bor x y (k+1)=1-s/B∧s/B≤1:=by
 have h1:=da (k:=k) h
 have h2:=cI (x:=x) (y:=y) (k:=k)
 rw[hp,hq,hc] at h1 h2
 have hdB:(x-y)/B^k%B<B:=Nat.mod_lt _ zZ
 generalize (x-y)/B^k%B=d at *
 rw[z8] at *
 refine ⟨_,rfl,by omega,by omega,by omega,?_,by omega⟩
 rw[h2]
 split<;>omega
def RW (m1 m2:Am.Mode) (a b:List Nat) (k:Nat):St :=
 {env:=[(0,nl m1 a),(1,nl m2 b),(6,vR 1 35 (zH (zu k (val a-val b)))),(7,ya (bor (val a) (val b) k)),(8,iv k)],sto:=[]}
theorem aen {m1 m2:Am.Mode} {a b:List Nat} (ha:ok a) (hb:ok b) (hna:a.length<1099511627775) (hnb:b.length<1099511627775) (f1:stm m1=m1) (f2:stm m2=m2) :
  zd Tryz.prog S6 [nl m1 a,nl m2 b] (.tuple [nD (val a-val b),bv (decide (val b≤val a))]):=by
 have kc:=K0 (m1:=m1) (m2:=m2) ha hb (by omega) (by omega) f1 f2
 refine vc aeI (by simp) ?_
 simp[KY]
 refine za kc (by simp[f1,f2]) (by simp) ?_
 by_cases hlt:val a<val b
 ·have hc1:yU (val a) (val b)=-1:=by simp[yU,hlt]
  have hd:decide (val b≤val a)=false:=by simp; omega
  have h0:val a-val b=0:=by omega
  simp[hc1,RH]
  rw[hd,h0]
  exact AV.imp_tuple2 mP
 ·have hc1:¬ yU (val a) (val b)<0:=by simp only[yU,if_neg hlt]; split<;>omega
  have hle:val b≤val a:=by omega
  have hd:decide (val b≤val a)=true:=by simp[hle]
  rw[hd]
  simp[hc1]
  refine zr (RW m1 m2 a b) (fun _=>True) a.length (by simp[RW,cJ,zu]) trivial (fun k hk _=>?_) (fun _=>?_)
  ·have d1:=uU (m:=m1) (i:=k) ha (by omega) (by omega)
   have d2:=uU (m:=m2) (i:=k) hb (by omega) (by omega)
   rw[qh ha] at d1
   rw[qh hb] at d2
   have hpB:val a/B^k%B<B:=Nat.mod_lt _ zZ
   have hqB:val b/B^k%B<B:=Nat.mod_lt _ zZ
   have hc:=Tg (x:=val a) (y:=val b) (k:=k)
   obtain ⟨s,g0,gs,gle,g1,g2,g3⟩:=Pf (k:=k) hle rfl rfl rfl hpB hqB hc
   have hsucc:=qP (n:=k) (x:=val a-val b)
   have hdl:=zy (n:=k) (x:=val a-val b)
   rw[g1] at hsucc
   have hst:RW m1 m2 a b (k+1)={env:=[(0,nl m1 a),(1,nl m2 b),(6,vR 1 35 (zH (zu (k+1) (val a-val b)))),(7,ya (bor (val a) (val b) (k+1))),(8,iv ((k:Int)+1))],sto:=[]}:=by
    rw[RW]; rfl
   rw[hsucc,g2] at hst
   rw[RW]
   clear g1 g2 hsucc
   generalize val a/B^k%B=p at *
   generalize val b/B^k%B=q at *
   generalize bor (val a) (val b) k=c at *
   generalize zu k (val a-val b)=D at *
   obtain ⟨d,hd⟩:∃ d,s%B=d:=⟨_,rfl⟩
   obtain ⟨e,he⟩:∃ e,s/B=e:=⟨_,rfl⟩
   rw[hd,he] at hst
   rw[he] at g3
   have hdB:d<B:=by rw[← hd]; exact Nat.mod_lt _ zZ
   rw[z8] at hpB hqB hdB
   have t1:(s:Int).tmod 4294967296=(d:Int):=by
    rw[← hd,z8,show (4294967296:Int)=((4294967296:Nat):Int) from rfl,← Int.ofNat_tmod]
   have t2:IntKind.u64.wrap ((s:Int)/4294967296)=(e:Int):=by
    rw[show (s:Int)/4294967296=(e:Int) by rw[← he,z8]; omega]
    exact w64 (by omega)
   clear hd he
   have w1:IntKind.u64.wrap ((4294967296:Int)+p)=(4294967296:Int)+p:=vW (by omega) (by omega)
   have w2:IntKind.u64.wrap ((4294967296:Int)+p-q)=(4294967296:Int)+p-q:=vW (by omega) (by omega)
   have w2':IntKind.u64.wrap ((4294967296:Int)+p-q-c)=(s:Int):=by rw[vW]<;>omega
   have w3:IntKind.u32.wrap (d:Int)=d:=IntWalk.u32_in _ (by omega)
   have w5:IntKind.u64.wrap (1-(e:Int))=((1-e:Nat):Int):=by rw[vW]<;>omega
   have w4:IntKind.i64.wrap ((k:Int)+1)=(k:Int)+1:=wrap64 (by omega) (by omega)
   have hkM:(k:Int)<(a.length:Int):=by omega
   simp[cX,hkM]
   refine za d1 (by simp[f1]) (by simp) ?_
   simp[w1]
   refine za d2 (by simp[f2]) (by simp) ?_
   simp[w2,w2',w5,sy,nv,t1,t2,w3,w4,hdl,hst,ZC f1,ZC f2]
   omega
  ·have hlt2:val a-val b<B^a.length:=Nat.lt_of_le_of_lt (Nat.sub_le _ _) (uy ha)
   have kt:=fK (m:=.plain) (a:=zu a.length (val a-val b)) yD (by rw[zy]; omega)
   rw[yk hlt2] at kt
   simp[cX,RW,Tx,RH]
   refine za (NS kt NT) (by simp) (.inl rfl) ?_
   simp
   exact AV.imp.refl
end Go.Proofs.YtjeoklgggppjiaaGreat
