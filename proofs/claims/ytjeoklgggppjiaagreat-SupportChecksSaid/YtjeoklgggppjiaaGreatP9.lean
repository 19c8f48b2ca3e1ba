/- What the proof rests on, part 9: N22 N23 N24 N25 N26 N27 N28 N29 N30 F2 F3 F4 F6 F7 F8 F9 F10 F12 LP LP2 LP3 LP4 F13 F14 F15 X0 X1 MR X2 X3 X4 X5 X6. -/
import Derived.Test.YtjeoklgggppjiaaGreatP8
set_option maxRecDepth 100000
set_option maxHeartbeats 4000000
namespace Go.Proofs.YtjeoklgggppjiaaGreat
open Go Go.Am Go.Dig
def cry (x y k:Nat):Nat:=(x%B^k+y%B^k)/B^k
theorem B5 {x y:Nat}:cry x y 0=0:=by simp[cry,Nat.mod_one]
theorem ae8 {x y k:Nat}:cry x y k≤1:=by
 unfold cry
 have h1:=Nat.mod_lt x (vr k)
 have h2:=Nat.mod_lt y (vr k)
 have:(x%B^k+y%B^k)/B^k<2:=Nat.div_lt_of_lt_mul (by omega)
 omega
theorem Ee {x y k:Nat}:(x+y)/B^k%B=(x/B^k%B+y/B^k%B+cry x y k)%B∧cry x y (k+1)=(x/B^k%B+y/B^k%B+cry x y k)/B:=by
 have m1:x%B^(k+1)=x%B^k+B^k*(x/B^k%B):=by rw[Nat.pow_succ,Nat.mod_mul]
 have m2:y%B^(k+1)=y%B^k+B^k*(y/B^k%B):=by rw[Nat.pow_succ,Nat.mod_mul]
 have d1:=Nat.mod_add_div x (B^(k+1))
 have d2:=Nat.mod_add_div y (B^(k+1))
 have hs:x+y=(x%B^k+y%B^k)+B^k*(x/B^k%B+y/B^k%B)+B^(k+1)*(x/B^(k+1)+y/B^(k+1)):=by
  rw[Nat.mul_add,Nat.mul_add]
  omega
 constructor
 ·rw[hs,eE]
  unfold cry
  congr 1
  omega
 ·unfold cry
  rw[m1,m2,show x%B^k+B^k*(x/B^k%B)+(y%B^k+B^k*(y/B^k%B))=(x%B^k+y%B^k)+B^k*(x/B^k%B+y/B^k%B) by rw[Nat.mul_add]; omega,eD]
  congr 1
  omega
theorem gW {m:Am.Mode} {l:Nat} {a:List Nat} (h:stm m=m):dg l (nl m a)=nl m a:=by
 cases m with
 | plain=>simp
 | full=>simp
 | own d=>simp at h
def RX (m1 m2:Am.Mode) (a b:List Nat) (k:Nat):St :=
 {env:=[(0,nl m1 a),(1,nl m2 b),(5,wx 1 32 (zG (zw k (val a+val b)))),(6,z9 (cry (val a) (val b) k)),(7,iv k)],sto:=[]}
theorem gd {m1 m2:Am.Mode} {a b:List Nat} (ha:ok a) (hb:ok b) (hna:a.length<1099511627775) (hnb:b.length<1099511627775) (f1:stm m1=m1) (f2:stm m2=m2) :
  zd Tryz.prog qL [nl m1 a,nl m2 b] (nD (val a+val b)):=by
 refine zt aeB (by simp) ?_
 obtain ⟨M,hM⟩:∃ M,max a.length b.length=M:=⟨_,rfl⟩
 have hMz:max (a.length:Int) (b.length:Int)=(M:Int):=by omega
 have hxM:val a<B^M:=yY ha (by omega)
 have hyM:val b<B^M:=yY hb (by omega)
 simp[KY]
 refine zq (RX m1 m2 a b) (fun _=>True) (M+1) (by simp[RX,B5,zw]) trivial (fun k hk _=>?_) (fun _=>?_)
 ·have d1:=v6 (m:=m1) (i:=k) ha (by omega) (by omega)
  have d2:=v6 (m:=m2) (i:=k) hb (by omega) (by omega)
  rw[sD ha] at d1
  rw[sD hb] at d2
  obtain ⟨g1,g2⟩:=Ee (x:=val a) (y:=val b) (k:=k)
  have hsucc:=sx (n:=k) (x:=val a+val b)
  have hpB:val a/B^k%B<B:=Nat.mod_lt _ zX
  have hqB:val b/B^k%B<B:=Nat.mod_lt _ zX
  have hc:=ae8 (x:=val a) (y:=val b) (k:=k)
  have hdl:=zB (n:=k) (x:=val a+val b)
  rw[g1] at hsucc
  have hst:RX m1 m2 a b (k+1)={env:=[(0,nl m1 a),(1,nl m2 b),(5,wx 1 32 (zG (zw (k+1) (val a+val b)))),(6,z9 (cry (val a) (val b) (k+1))),(7,iv ((k:Int)+1))],sto:=[]}:=by
   rw[RX]; rfl
  rw[hsucc,g2] at hst
  rw[RX]
  clear g1 g2 hsucc
  generalize val a/B^k%B=p at *
  generalize val b/B^k%B=q at *
  generalize cry (val a) (val b) k=c at *
  generalize zw k (val a+val b)=D at *
  obtain ⟨t,ht⟩:∃ t,p+q+c=t:=⟨_,rfl⟩
  obtain ⟨d,hd⟩:∃ d,t%B=d:=⟨_,rfl⟩
  obtain ⟨e,he⟩:∃ e,t/B=e:=⟨_,rfl⟩
  rw[ht,hd,he] at hst
  have hdB:d<B:=by rw[← hd]; exact Nat.mod_lt _ zX
  have heB:e≤t:=by rw[← he]; exact Nat.div_le_self _ _
  rw[z7] at hpB hqB hdB
  have t1:(t:Int).tmod 4294967296=(d:Int):=by
   rw[← hd,z7,show (4294967296:Int)=((4294967296:Nat):Int) from rfl,← Int.ofNat_tmod]
  have t2:IntKind.u64.wrap ((t:Int)/4294967296)=(e:Int):=by
   rw[show (t:Int)/4294967296=(e:Int) by rw[← he,z7]; omega]
   exact w64 (by omega)
  clear hd he
  have w1:IntKind.u64.wrap ((p:Int)+q)=(p:Int)+q:=vS (by omega) (by omega)
  have w2:IntKind.u64.wrap ((p:Int)+q+c)=(t:Int):=by rw[vS]<;>omega
  have w3:IntKind.u32.wrap (d:Int)=d:=IntWalk.u32_in _ (by omega)
  have w4:IntKind.i64.wrap ((k:Int)+1)=(k:Int)+1:=wrap64 (by omega) (by omega)
  have hkM:(k:Int)≤(M:Int):=by omega
  simp[bh,hMz,hkM]
  refine za d1 (by simp[f1]) (by simp) ?_
  simp
  refine za d2 (by simp[f2]) (by simp) ?_
  simp[w1,w2,tf,qo,t1,t2,w3,w4,hdl,hst,gW f1,gW f2]
  omega
 ·have hlt:val a+val b<B^(M+1):=by
   rw[Nat.pow_succ]
   have:B^M*2≤B^M*B:=Nat.mul_le_mul_left _ (by decide)
   omega
  have kt:=nF (m:=.plain) (a:=zw (M+1) (val a+val b)) yw (by rw[zB]; omega)
  rw[yh hlt] at kt
  have hne:¬ zw (M+1) (val a+val b)=[]:=fun h=>by
   have:=congrArg List.length h
   rw[zB] at this
   simp at this
  have hkM:¬ (M:Int)+1≤(M:Int):=by omega
  simp[bh,RX,hMz,hkM,TI,JS]
  refine za kt (by simp[hne]) (.inl rfl) ?_
  simp
theorem UD {f:FuncId} {x x' r:AV} (h:zd Tryz.prog f [x'] r) (hy:AV.imp x x'):zd Tryz.prog f [x] r:=fun I vs w h1 h2 h3 =>
 h I vs w h1 h2 fun i a hi=>by
  match i,hi with
  | 0,hi=>simp at hi; subst hi; exact hy _ _ _ (h3 0 x rfl)
  | i+1,hi=>simp at hi
theorem Ps {x y k p q c:Nat} (h:y≤x) (hp:x/B^k%B=p) (hq:y/B^k%B=q) (hc:bor x y k=c) (_hpB:p<B) (_hqB:q<B) (hc1:c≤1) :
  ∃ s,4294967296+p-q-c=s∧s<8589934592∧q+c≤4294967296+p∧(x-y)/B^k%B=s%B∧bor x y (k+1)=1-s/B∧s/B≤1:=by
 have h1:=dd (k:=k) h
 have h2:=cX (x:=x) (y:=y) (k:=k)
 rw[hp,hq,hc] at h1 h2
 have hdB:(x-y)/B^k%B<B:=Nat.mod_lt _ zX
 generalize (x-y)/B^k%B=d at *
 rw[z7] at *
 refine ⟨_,rfl,by omega,by omega,by omega,?_,by omega⟩
 rw[h2]
 split<;>omega
def R7 (m1 m2:Am.Mode) (a b:List Nat) (k:Nat):St :=
 {env:=[(0,nl m1 a),(1,nl m2 b),(6,wx 1 35 (zG (zw k (val a-val b)))),(7,z9 (bor (val a) (val b) k)),(8,iv k)],sto:=[]}
theorem Qb {m1 m2:Am.Mode} {a b:List Nat} (ha:ok a) (hb:ok b) (hna:a.length<1099511627775) (hnb:b.length<1099511627775) (f1:stm m1=m1) (f2:stm m2=m2) :
  zd Tryz.prog dR [nl m1 a,nl m2 b] (.tuple [nD (val a-val b),bv (decide (val b≤val a))]):=by
 have kc:=K6 (m1:=m1) (m2:=m2) ha hb (by omega) (by omega) f1 f2
 refine wN aeG (by simp) ?_
 simp[K4]
 refine za kc (by simp[f1,f2]) (by simp) ?_
 by_cases hlt:val a<val b
 ·have hc1:yV (val a) (val b)=-1:=by simp[yV,hlt]
  have hd:decide (val b≤val a)=false:=by simp; omega
  have h0:val a-val b=0:=by omega
  simp[hc1,RS]
  rw[hd,h0]
  exact AV.imp_tuple2 sK
 ·have hc1:¬ yV (val a) (val b)<0:=by simp only[yV,if_neg hlt]; split<;>omega
  have hle:val b≤val a:=by omega
  have hd:decide (val b≤val a)=true:=by simp[hle]
  rw[hd]
  simp[hc1]
  refine zq (R7 m1 m2 a b) (fun _=>True) a.length (by simp[R7,cY,zw]) trivial (fun k hk _=>?_) (fun _=>?_)
  ·have d1:=v6 (m:=m1) (i:=k) ha (by omega) (by omega)
   have d2:=v6 (m:=m2) (i:=k) hb (by omega) (by omega)
   rw[sD ha] at d1
   rw[sD hb] at d2
   have hpB:val a/B^k%B<B:=Nat.mod_lt _ zX
   have hqB:val b/B^k%B<B:=Nat.mod_lt _ zX
   have hc:=Tv (x:=val a) (y:=val b) (k:=k)
   obtain ⟨s,g0,gs,gle,g1,g2,g3⟩:=Ps (k:=k) hle rfl rfl rfl hpB hqB hc
   have hsucc:=sx (n:=k) (x:=val a-val b)
   have hdl:=zB (n:=k) (x:=val a-val b)
   rw[g1] at hsucc
   have hst:R7 m1 m2 a b (k+1)={env:=[(0,nl m1 a),(1,nl m2 b),(6,wx 1 35 (zG (zw (k+1) (val a-val b)))),(7,z9 (bor (val a) (val b) (k+1))),(8,iv ((k:Int)+1))],sto:=[]}:=by
    rw[R7]; rfl
   rw[hsucc,g2] at hst
   rw[R7]
   clear g1 g2 hsucc
   generalize val a/B^k%B=p at *
   generalize val b/B^k%B=q at *
   generalize bor (val a) (val b) k=c at *
   generalize zw k (val a-val b)=D at *
   obtain ⟨d,hd⟩:∃ d,s%B=d:=⟨_,rfl⟩
   obtain ⟨e,he⟩:∃ e,s/B=e:=⟨_,rfl⟩
   rw[hd,he] at hst
   rw[he] at g3
   have hdB:d<B:=by rw[← hd]; exact Nat.mod_lt _ zX
   rw[z7] at hpB hqB hdB
   have t1:(s:Int).tmod 4294967296=(d:Int):=by
    rw[← hd,z7,show (4294967296:Int)=((4294967296:Nat):Int) from rfl,← Int.ofNat_tmod]
   have t2:IntKind.u64.wrap ((s:Int)/4294967296)=(e:Int):=by
    rw[show (s:Int)/4294967296=(e:Int) by rw[← he,z7]; omega]
    exact w64 (by omega)
   clear hd he
   have w1:IntKind.u64.wrap ((4294967296:Int)+p)=(4294967296:Int)+p:=vS (by omega) (by omega)
   have w2:IntKind.u64.wrap ((4294967296:Int)+p-q)=(4294967296:Int)+p-q:=vS (by omega) (by omega)
   have w2':IntKind.u64.wrap ((4294967296:Int)+p-q-c)=(s:Int):=by rw[vS]<;>omega
   have w3:IntKind.u32.wrap (d:Int)=d:=IntWalk.u32_in _ (by omega)
   have w5:IntKind.u64.wrap (1-(e:Int))=((1-e:Nat):Int):=by rw[vS]<;>omega
   have w4:IntKind.i64.wrap ((k:Int)+1)=(k:Int)+1:=wrap64 (by omega) (by omega)
   have hkM:(k:Int)<(a.length:Int):=by omega
   simp[bq,hkM]
   refine za d1 (by simp[f1]) (by simp) ?_
   simp[w1]
   refine za d2 (by simp[f2]) (by simp) ?_
   simp[w2,w2',w5,tf,qo,t1,t2,w3,w4,hdl,hst,gW f1,gW f2]
   omega
  ·have hlt2:val a-val b<B^a.length:=Nat.lt_of_le_of_lt (Nat.sub_le _ _) (vw ha)
   have kt:=nF (m:=.plain) (a:=zw a.length (val a-val b)) yw (by rw[zB]; omega)
   rw[yh hlt2] at kt
   simp[bq,R7,TM,RS]
   refine za (UD kt UE) (by simp) (.inl rfl) ?_
   simp
   exact AV.imp.refl
def cs (x d k:Nat):Nat:=x%B^k*d/B^k
theorem acA {x d:Nat}:cs x d 0=0:=by simp[cs,Nat.mod_one]
theorem agG {x d k:Nat} (hd:d<B):cs x d k<B:=by
 unfold cs
 apply Nat.div_lt_of_lt_mul
 have h1:=Nat.mod_lt x (vr k)
 exact Nat.mul_lt_mul_of_lt_of_lt h1 hd
theorem Km {x d k:Nat}:x*d/B^k%B=(x/B^k%B*d+cs x d k)%B∧cs x d (k+1)=(x/B^k%B*d+cs x d k)/B:=by
 have m1:x%B^(k+1)=x%B^k+B^k*(x/B^k%B):=by rw[Nat.pow_succ,Nat.mod_mul]
 have d1:=Nat.mod_add_div x (B^(k+1))
 have hs:x*d=(x%B^k*d)+B^k*(x/B^k%B*d)+B^(k+1)*(x/B^(k+1)*d):=by
  have h:x*d=(x%B^k+B^k*(x/B^k%B)+B^(k+1)*(x/B^(k+1)))*d:=by rw[← m1,d1]
  rw[h,Nat.add_mul,Nat.add_mul,Nat.mul_assoc,Nat.mul_assoc]
 constructor
 ·rw[hs,eE]
  unfold cs
  congr 1
  omega
 ·unfold cs
  rw[m1,Nat.add_mul,Nat.mul_assoc,eD]
  congr 1
  omega
def R8 (m1:Am.Mode) (a:List Nat) (d k:Nat):St :=
 {env:=[(0,nl m1 a),(1,z9 d),(5,wx 1 27 (zG (zw k (val a*d)))),(6,z9 (cs (val a) d k)),(7,iv k)],sto:=[]}
theorem Cz {m1:Am.Mode} {a:List Nat} {d:Nat} (ha:ok a) (hna:a.length<1099511627775) (hd:d<B) (f1:stm m1=m1) :
  zd Tryz.prog Zu [nl m1 a,z9 d] (nD (val a*d)):=by
 refine zt Bn (by simp) ?_
 simp[Qt]
 refine zq (R8 m1 a d) (fun _=>True) (a.length+1) (by simp[R8,acA,zw]) trivial (fun k hk _=>?_) (fun _=>?_)
 ·have d1:=v6 (m:=m1) (i:=k) ha (by omega) (by omega)
  rw[sD ha] at d1
  obtain ⟨g1,g2⟩:=Km (x:=val a) (d:=d) (k:=k)
  have hsucc:=sx (n:=k) (x:=val a*d)
  have hpB:val a/B^k%B<B:=Nat.mod_lt _ zX
  have hc:=agG (x:=val a) (k:=k) hd
  have hdl:=zB (n:=k) (x:=val a*d)
  rw[g1] at hsucc
  have hst:R8 m1 a d (k+1)={env:=[(0,nl m1 a),(1,z9 d),(5,wx 1 27 (zG (zw (k+1) (val a*d)))),(6,z9 (cs (val a) d (k+1))),(7,iv ((k:Int)+1))],sto:=[]}:=by
   rw[R8]; rfl
  rw[hsucc,g2] at hst
  rw[R8]
  clear g1 g2 hsucc
  generalize val a/B^k%B=p at *
  generalize cs (val a) d k=c at *
  generalize zw k (val a*d)=D at *
  have hm:=eS hpB hd hc zX
  obtain ⟨pd,hpd⟩:∃ pd,p*d=pd:=⟨_,rfl⟩
  rw[hpd] at hst hm
  obtain ⟨t,ht⟩:∃ t,pd+c=t:=⟨_,rfl⟩
  obtain ⟨y,hy⟩:∃ y,t%B=y:=⟨_,rfl⟩
  obtain ⟨e,he⟩:∃ e,t/B=e:=⟨_,rfl⟩
  rw[ht,hy,he] at hst
  have hBB:B*B=18446744073709551616:=by decide
  rw[hBB] at hm
  have hyB:y<B:=by rw[← hy]; exact Nat.mod_lt _ zX
  have heB:e≤t:=by rw[← he]; exact Nat.div_le_self _ _
  rw[z7] at hpB hyB
  have t1:(t:Int).tmod 4294967296=(y:Int):=by
   rw[← hy,z7,show (4294967296:Int)=((4294967296:Nat):Int) from rfl,← Int.ofNat_tmod]
  have t2:IntKind.u64.wrap ((t:Int)/4294967296)=(e:Int):=by
   rw[show (t:Int)/4294967296=(e:Int) by rw[← he,z7]; omega]
   exact w64 (by omega)
  clear hy he
  have w1:IntKind.u64.wrap ((p:Int)*d)=(pd:Int):=by
   rw[show (p:Int)*(d:Int)=((p*d:Nat):Int) by simp,hpd]; exact w64 (by omega)
  have w2:IntKind.u64.wrap ((pd:Int)+c)=(t:Int):=by rw[vS]<;>omega
  have w3:IntKind.u32.wrap (y:Int)=y:=IntWalk.u32_in _ (by omega)
  have w4:IntKind.i64.wrap ((k:Int)+1)=(k:Int)+1:=wrap64 (by omega) (by omega)
  have hkM:(k:Int)≤(a.length:Int):=by omega
  have hkM2:k≤a.length:=by omega
  simp[gM,hkM]
  refine za d1 (by simp[f1]) (by simp) ?_
  simp[w1,w2,tf,qo,t1,t2,w3,w4,hdl,hst,gW f1]
  omega
 ·have hlt:val a*d<B^(a.length+1):=by
   rw[Nat.pow_succ]
   exact Nat.mul_lt_mul_of_lt_of_lt (vw ha) hd
  have kt:=nF (m:=.plain) (a:=zw (a.length+1) (val a*d)) yw (by rw[zB]; omega)
  rw[yh hlt] at kt
  have hkM:¬ (a.length:Int)+1≤(a.length:Int):=by omega
  simp[gM,R8,hkM,ZG,QY]
  refine za (UD kt UE) (by simp) (.inl rfl) ?_
  simp
def Xs (m1:Am.Mode) (a:List Nat) (n k:Nat):St :=
 {env:=[(0,nl m1 a),(1,iv n),(5,wx 1 14 (zG (List.replicate k 0))),(6,iv k)],sto:=[]}
theorem CD {m1:Am.Mode} {a:List Nat} {n:Nat} (ha:ok a) (hna:a.length<137438953472) (hn:n<137438953472) (f1:stm m1=m1) :
  zd Tryz.prog Zv [nl m1 a,iv n] (nD (val a*B^n)):=by
 refine zt Bo (by simp) ?_
 simp[Qu]
 refine zq (Xs m1 a n) (fun _=>True) n (by simp[Xs]) trivial (fun k hk _=>?_) (fun _=>?_)
 ·have hst:Xs m1 a n (k+1)={env:=[(0,nl m1 a),(1,iv n),(5,wx 1 14 (zG (List.replicate k 0++[0]))),(6,iv ((k:Int)+1))],sto:=[]}:=by
   rw[Xs,List.replicate_succ']; rfl
  have hl:(List.replicate k 0).length=k:=List.length_replicate
  rw[Xs]
  generalize List.replicate k 0=D at *
  have w4:IntKind.i64.wrap ((k:Int)+1)=(k:Int)+1:=wrap64 (by omega) (by omega)
  have hkn:(k:Int)<(n:Int):=by omega
  simp[gN,hkn,w4,hl,hst,gW f1]
  exact ⟨by omega,by omega,rfl⟩
 ·have hl:(List.replicate n 0).length=n:=List.length_replicate
  have hv:val (List.replicate n 0++a)=val a*B^n:=by rw[val_append,Xz,hl,Nat.zero_add,Nat.mul_comm]
  have kt:=nF (m:=.plain) (a:=List.replicate n 0++a) (Yb.2 ⟨Mo n,ha⟩) (by rw[List.length_append,hl]; omega)
  rw[hv] at kt
  rw[Xs]
  generalize List.replicate n 0=D at *
  simp[gN,ZH]
  refine Pk (by simp) (.inr rfl) (by simp) (by simp) (by simp; omega) (by simp; omega) fun t ht=>?_
  simp
  refine za kt (by simp) (.inl rfl) ?_
  simp[QZ]
theorem Z0 {f:FuncId} {x x' y r:AV} (h:zd Tryz.prog f [x',y] r) (hy:AV.imp x x'):zd Tryz.prog f [x,y] r:=fun I vs w h1 h2 h3 =>
 h I vs w h1 h2 fun i a hi=>by
  match i,hi with
  | 0,hi=>simp at hi; subst hi; exact hy _ _ _ (h3 0 x rfl)
  | 1,hi=>exact h3 1 a hi
  | i+2,hi=>simp at hi
def U8 (m1 m2:Am.Mode) (a b:List Nat) (k:Nat):St :=
 {env:=[(0,nl m1 a),(1,nl m2 b),(5,if k=0 then .list 0 .full [] else nD (val a*val (b.take k))),(6,iv k)],sto:=[]}
theorem DG {a b:List Nat} {k:Nat} (hk:k<b.length):val a*val (b.take (k+1))=val a*val (b.take k)+val a*b[k]*B^k:=by
 rw[xK hk,Nat.mul_add,Nat.mul_comm (B^k),Nat.mul_assoc]
theorem cw {m1 m2:Am.Mode} {a b:List Nat} (ha:ok a) (hb:ok b) (hs:a.length+b.length<68719476736) (f1:stm m1=m1) (_f2:stm m2=m2) :
  zd Tryz.prog m7 [nl m1 a,nl m2 b] (nD (val a*val b)):=by
 refine wN aeF (by simp) ?_
 simp[K3]
 refine zq (U8 m1 m2 a b) (fun _=>True) b.length (by simp[U8]) trivial (fun k hk _=>?_) (fun _=>?_)
 ·have hbk:=xH hb hk
  have hg:∃ x,b[k]=x:=⟨_,rfl⟩
  have hsucc:=DG (a:=a) hk
  have haB:=vw ha
  have hbB:val (b.take k)<B^k:=yY (uM hb k) (by simp; omega)
  generalize hx:b[k]=x at *
  have k1:=Cz (m1:=m1) (d:=x) ha (by omega) hbk f1
  have hl1:(zf (val a*x)).length≤a.length+1:=zE.2 (by rw[Nat.pow_succ]; exact Nat.mul_lt_mul_of_lt_of_lt haB hbk)
  have k2:=CD (m1:=.plain) (n:=k) (zx (val a*x)) (by omega) (by omega) rfl
  rw[zK] at k2
  have hl2:(zf (val a*x*B^k)).length≤a.length+1+k:=zE.2 (by
   rw[Nat.pow_add,Nat.pow_succ]
   exact Nat.mul_lt_mul_of_pos_right (Nat.mul_lt_mul_of_lt_of_lt haB hbk) (vr k))
  have hl3:(zf (val a*val (b.take k))).length≤a.length+k:=zE.2 (by
   rw[Nat.pow_add]; exact Nat.mul_lt_mul_of_lt_of_lt haB hbB)
  have k3:=gd (m1:=.plain) (m2:=.plain) (zx (val a*val (b.take k))) (zx (val a*x*B^k)) (by omega) (by omega) rfl rfl
  rw[zK,zK] at k3
  rw[← hsucc] at k3
  rw[z7] at hbk
  have w1:IntKind.u64.wrap (x:Int)=x:=w64 (by omega)
  have w4:IntKind.i64.wrap ((k:Int)+1)=(k:Int)+1:=wrap64 (by omega) (by omega)
  have hkb:(k:Int)<(b.length:Int):=by omega
  obtain ⟨o,ho⟩:∃ o,(if k=0 then AV.list 0 .full [] else nD (val a*val (b.take k)))=o:=⟨_,rfl⟩
  simp[jQ,hkb,hk,U8,hx,w1]
  refine za k1 (by simp[f1]) (by simp) ?_
  simp
  refine za k2 (by simp) (by simp) ?_
  rcases Nat.eq_zero_or_pos k with h0 | h0
  ·subst h0
   have e0:nl .plain (zf (val a*val (b.take 0)))=nD 0:=by simp[val]
   rw[e0] at k3
   simp
   refine za (Z0 k3 (sK (sz:=0))) (by simp) (by simp) ?_
   have w0:IntKind.i64.wrap 1=1:=by decide
   simp[w0,U8]
  ·have hk0:¬ k=0:=by omega
   simp[hk0]
   refine za k3 (by simp) (by simp) ?_
   simp[w4,U8]
 ·rcases Nat.eq_zero_or_pos b.length with h0 | h0
  ·have hb0:b=[]:=List.length_eq_zero_iff.1 h0
   subst hb0
   simp[jQ,U8,bp,RR,val]
   exact sK
  ·have hk0:¬ b.length=0:=by omega
   have hbn:¬ b=[]:=fun e=>by subst e; simp at h0
   simp[jQ,U8,bp,RR,hk0]
   exact AV.imp.refl
theorem kz (q:Nat):B^q=2^(32*q):=by rw[Nat.pow_mul]; rfl
theorem Er {x i:Nat}:x/B^(i/32)%B/2^(i%32)%2=x/2^i%2:=by
 have hi:2^i=B^(i/32)*2^(i%32):=by rw[kz,← Nat.pow_add]; congr 1; omega
 rw[hi,← Nat.div_div_eq_div_mul]
 generalize x/B^(i/32)=y
 have hr:i%32<32:=Nat.mod_lt _ (by omega)
 generalize i%32=r at *
 have hB:B=2^r*2^(32-r):=by
  rw[← Nat.pow_add,Nat.add_sub_cancel' (by omega)]; rfl
 rw[hB,Nat.mod_mul_right_div_self]
 exact Nat.mod_mod_of_dvd _ ⟨2^(31-r),by rw[show 32-r=(31-r)+1 by omega,Nat.pow_succ,Nat.mul_comm]⟩
theorem Rl {m:Am.Mode} {a:List Nat} {i:Nat} (ha:ok a) (hn:a.length<1099511627776) (hi:i<35184372088832) (f1:stm m=m):zd Tryz.prog YR [nl m a,iv i] (z9 (val a/2^i%2)):=by
 have d1:=v6 (m:=m) (i:=i/32) ha hn (by omega)
 rw[sD ha] at d1
 have hp:=Er (x:=val a) (i:=i)
 have hpB:val a/B^(i/32)%B<B:=Nat.mod_lt _ zX
 rw[← hp]
 clear hp
 generalize val a/B^(i/32)%B=p at *
 have q1:IntKind.i64.wrap ((i:Int)/32)=((i/32:Nat):Int):=by rw[wrap64]<;>omega
 have q2:(i:Int).tmod 32=((i%32:Nat):Int):=by
  rw[show (32:Int)=((32:Nat):Int) from rfl,← Int.ofNat_tmod]
 have hr:i%32<32:=Nat.mod_lt _ (by omega)
 obtain ⟨q,hq⟩:∃ q,i/32=q:=⟨_,rfl⟩
 obtain ⟨r,hr2⟩:∃ r,i%32=r:=⟨_,rfl⟩
 rw[hq] at q1 d1
 rw[hr2] at q2 hr
 rw[hr2]
 clear hq hr2
 have hP:0<2^r:=Nat.pow_pos (by omega)
 have hPB:=fo hr
 have hmin:min r IntKind.u64.bits=r:=by
  have:IntKind.u64.bits=64:=rfl
  omega
 obtain ⟨P,hPe⟩:∃ P,2^r=P:=⟨_,rfl⟩
 rw[hPe] at hP hPB
 rw[hPe]
 have u1:IntKind.u64.wrap ((2:Int)^r)=(P:Int):=by
  rw[show (2:Int)^r=((2^r:Nat):Int) by simp,hPe]; exact w64 (by rw[z7] at hPB; omega)
 have hne:¬ P=0:=by omega
 have u2:IntKind.u64.wrap ((p:Int)/(P:Int))=((p/P:Nat):Int):=by
  rw[← Int.natCast_ediv]; exact w64 (Nat.lt_of_le_of_lt (Nat.div_le_self _ _) (by rw[z7] at hpB; omega))
 obtain ⟨z,hz⟩:∃ z,p/P=z:=⟨_,rfl⟩
 rw[hz] at u2
 rw[hz]
 have u3:(z:Int).tmod 2=((z%2:Nat):Int):=by
  rw[show (2:Int)=((2:Nat):Int) from rfl,← Int.ofNat_tmod]
 clear hz hPe
 refine zt aeC (by simp) ?_
 simp[KZ,tf,q1]
 refine za d1 (by simp[f1]) (by simp) ?_
 simp[tf,qo,vP,q2,hmin,u1,hne,u2,u3,JT]
def bl (x:Nat):Nat:=if x=0 then 0 else Nat.log2 x+1
theorem abM (x:Nat):x<2^bl x:=by
 unfold bl
 split
 ·subst x; decide
 ·exact Nat.lt_log2_self
theorem ae0 {x:Nat} (h:0<bl x):x/2^(bl x-1)%2=1:=by
 unfold bl at *
 split at h
 ·exact absurd h (Nat.lt_irrefl _)
 ·rename_i h0
  rw[if_neg h0,Nat.add_sub_cancel]
  have h1:=Nat.log2_self_le h0
  have h2:x<2^(Nat.log2 x+1):=Nat.lt_log2_self
  have h3:x/2^Nat.log2 x=1:=by
   rw[Nat.div_eq_iff (Nat.pow_pos (by omega))]
   rw[Nat.pow_succ] at h2
   omega
  rw[h3]
theorem Gk {x n:Nat} (h:x<2^n):bl x≤n:=by
 unfold bl
 split
 ·omega
 ·rename_i h0
  exact (Nat.log2_lt h0).2 h
def stB (m:Am.Mode) (a:List Nat) (k:Nat):St:={env:=[(0,nl m a),(3,iv ((32*a.length-k:Nat):Int))],sto:=[]}
theorem P9 {m:Am.Mode} {a:List Nat} (ha:ok a) (hn:a.length<137438953472) (f1:stm m=m):zd Tryz.prog cT [nl m a] (iv (bl (val a))):=by
 refine zt abG (by simp) ?_
 have hlt:val a<2^(32*a.length):=by rw[← kz]; exact vw ha
 have hle:=Gk hlt
 have w0:IntKind.i64.wrap (32*(a.length:Int))=((32*a.length:Nat):Int):=by rw[wrap64]<;>omega
 simp[Nj,w0]
 refine zq (stB m a) (fun _=>True) (32*a.length-bl (val a)) (by simp[stB]) trivial (fun k hk _=>?_) (fun _=>?_)
 ·obtain ⟨j,hj⟩:∃ j,32*a.length-k=j+1:=⟨32*a.length-k-1,by omega⟩
  have hj2:32*a.length-(k+1)=j:=by omega
  have hb:=Rl (m:=m) (i:=j) ha (by omega) (by omega) f1
  have hz:val a/2^j%2=0:=by
   rw[Nat.div_eq_of_lt]
   exact Nat.lt_of_lt_of_le (abM _) (Nat.pow_le_pow_right (by omega) (by omega))
  rw[hz] at hb
  have hst:stB m a (k+1)={env:=[(0,nl m a),(3,iv j)],sto:=[]}:=by rw[stB,hj2]
  have hst0:stB m a k={env:=[(0,nl m a),(3,iv ((j:Int)+1))],sto:=[]}:=by rw[stB,hj]; rfl
  have w1:IntKind.i64.wrap (j:Int)=(j:Int):=by rw[wrap64]<;>omega
  have p1:(0:Int)<(j:Int)+1:=by omega
  rw[hst0]
  simp[lV,p1,w1]
  refine za hb (by simp[f1]) (by simp) ?_
  simp[w1,hst]
 ·have e:32*a.length-(32*a.length-bl (val a))=bl (val a):=by omega
  have ht:=fun h=>ae0 (x:=val a) h
  have hb:=fun i h=>Rl (m:=m) (i:=i) ha (by omega) h f1
  rw[stB,e]
  generalize bl (val a)=L at *
  rcases L with _ | j
  ·simp[lV,dv,UW]
  ·have hb:=hb j (by omega)
   have ht:=ht (by omega)
   rw[Nat.add_sub_cancel] at ht
   rw[ht] at hb
   have w1:IntKind.i64.wrap (j:Int)=(j:Int):=by rw[wrap64]<;>omega
   have p1:(0:Int)<(j:Int)+1:=by omega
   simp[lV,p1,w1]
   refine za hb (by simp[f1]) (by simp) ?_
   simp[dv,UW]
theorem GT {Y r:Nat} (hr:r<32):(Y%B+Y/B%B*B)/2^r%B=Y/2^r%B:=by
 have h1:Y%B+Y/B%B*B=Y%(2^r*2^(64-r)):=by
  have:2^r*2^(64-r)=B*B:=by
   rw[← Nat.pow_add,Nat.add_sub_cancel' (by omega)]; rfl
  rw[this,Nat.mod_mul,Nat.mul_comm]
 rw[h1,Nat.mod_mul_right_div_self]
 refine Nat.mod_mod_of_dvd _ ⟨2^(32-r),?_⟩
 rw[show 64-r=32+(32-r) by omega,Nat.pow_add]; rfl
theorem GS {x k t:Nat}:x/2^k/B^t%B=(x/B^(k/32+t)%B+x/B^(k/32+t+1)%B*B)/2^(k%32)%B:=by
 have h1:x/B^(k/32+t+1)=x/B^(k/32+t)/B:=by rw[Nat.pow_succ,Nat.div_div_eq_div_mul]
 rw[h1,GT (Nat.mod_lt _ (by omega)),Nat.div_div_eq_div_mul,Nat.div_div_eq_div_mul]
 have:2^k*B^t=B^(k/32+t)*2^(k%32):=by
  rw[kz,kz,← Nat.pow_add,← Nat.pow_add]; congr 1; omega
 rw[this]
def stH (m:Am.Mode) (a:List Nat) (k t:Nat):St :=
 {env:=[(0,nl m a),(1,iv k),(5,wx 1 34 (zG (zw t (val a/2^k)))),(6,iv ((k/32+t:Nat):Int))],sto:=[]}
theorem AC {m:Am.Mode} {a:List Nat} {k:Nat} (ha:ok a) (hn:a.length<137438953472) (hk:k<35184372088832) (f1:stm m=m):zd Tryz.prog Uj [nl m a,iv k] (nD (val a/2^k)):=by
 refine zt abH (by simp) ?_
 have q0:IntKind.i64.wrap ((k:Int)/32)=((k/32:Nat):Int):=by rw[wrap64]<;>omega
 have q2:(k:Int).tmod 32=((k%32:Nat):Int):=by
  rw[show (32:Int)=((32:Nat):Int) from rfl,← Int.ofNat_tmod]
 simp[Nk,tf,q0]
 refine zq (stH m a k) (fun _=>True) (a.length-k/32) (by simp[stH,zw]) trivial (fun t ht _=>?_) (fun _=>?_)
 ·have d1:=v6 (m:=m) (i:=k/32+t) ha (by omega) (by omega)
  have d2:=v6 (m:=m) (i:=k/32+t+1) ha (by omega) (by omega)
  rw[sD ha] at d1 d2
  have hd:=GS (x:=val a) (k:=k) (t:=t)
  have hsucc:=sx (n:=t) (x:=val a/2^k)
  have hdl:=zB (n:=t) (x:=val a/2^k)
  rw[hd] at hsucc
  have hst:stH m a k (t+1)={env:=[(0,nl m a),(1,iv k),(5,wx 1 34 (zG (zw (t+1) (val a/2^k)))),(6,iv ((k/32+t:Nat)+1:Int))],sto:=[]}:=by
   rw[stH]; rfl
  rw[hsucc] at hst
  rw[stH]
  clear hd hsucc
  have hpB:val a/B^(k/32+t)%B<B:=Nat.mod_lt _ zX
  have hqB:val a/B^(k/32+t+1)%B<B:=Nat.mod_lt _ zX
  generalize val a/B^(k/32+t)%B=p at *
  generalize val a/B^(k/32+t+1)%B=q at *
  generalize zw t (val a/2^k)=D at *
  have hr:k%32<32:=Nat.mod_lt _ (by omega)
  obtain ⟨i,hi⟩:∃ i,k/32+t=i:=⟨_,rfl⟩
  obtain ⟨r,hr2⟩:∃ r,k%32=r:=⟨_,rfl⟩
  have hil:i<a.length:=by omega
  rw[hi] at d1 d2 hst
  rw[hi]
  rw[hr2] at hst q2 hr
  have htb:t<a.length:=by omega
  clear hi hr2 ht q0
  have hP:0<2^r:=Nat.pow_pos (by omega)
  have hPB:=fo hr
  have hmin:min r IntKind.u64.bits=r:=by
   have:IntKind.u64.bits=64:=rfl
   omega
  obtain ⟨P,hPe⟩:∃ P,2^r=P:=⟨_,rfl⟩
  rw[hPe] at hP hPB hst
  have u1:IntKind.u64.wrap ((2:Int)^r)=(P:Int):=by
   rw[show (2:Int)^r=((2^r:Nat):Int) by simp,hPe]; exact w64 (by rw[z7] at hPB; omega)
  have hne:¬ P=0:=by omega
  clear hPe
  have hs:=Rb hqB hpB
  obtain ⟨s,hse⟩:∃ s,p+q*B=s:=⟨_,rfl⟩
  have hsB:s<18446744073709551616:=by rw[← hse,Nat.add_comm]; exact hs
  rw[hse] at hst
  obtain ⟨qb,hqb⟩:∃ qb,q*B=qb:=⟨_,rfl⟩
  rw[hqb] at hse
  have w1:IntKind.u64.wrap ((q:Int)*4294967296)=(qb:Int):=by
   rw[show (q:Int)*4294967296=((q*B:Nat):Int) by rw[z7]; simp,hqb]; exact w64 (by omega)
  have w2:IntKind.u64.wrap ((p:Int)+qb)=(s:Int):=by rw[vS]<;>omega
  have u2:IntKind.u64.wrap ((s:Int)/(P:Int))=((s/P:Nat):Int):=by
   rw[← Int.natCast_ediv]; exact w64 (Nat.lt_of_le_of_lt (Nat.div_le_self _ _) hsB)
  obtain ⟨z,hz⟩:∃ z,s/P=z:=⟨_,rfl⟩
  rw[hz] at u2 hst
  obtain ⟨d,hd⟩:∃ d,z%B=d:=⟨_,rfl⟩
  rw[hd] at hst
  have u3:(z:Int).tmod 4294967296=(d:Int):=by
   rw[← hd,z7,show (4294967296:Int)=((4294967296:Nat):Int) from rfl,← Int.ofNat_tmod]
  have hdB:d<B:=by rw[← hd]; exact Nat.mod_lt _ zX
  clear hz hd hqb hs
  rw[z7] at hdB
  have w3:IntKind.u32.wrap (d:Int)=d:=IntWalk.u32_in _ (by omega)
  have w4:IntKind.i64.wrap ((i:Int)+1)=(i:Int)+1:=wrap64 (by omega) (by omega)
  have hil':(i:Int)<(a.length:Int):=by omega
  simp[dw,hil']
  refine za d1 (by simp[f1]) (by simp) ?_
  simp[w4]
  refine za d2 (by simp[f1]) (by simp) ?_
  simp[tf,qo,vP,w1,w2,q2,hmin,u1,hne,u2,u3,w3,w4,hst,gW f1]
  omega
 ·have hlt:val a/2^k<B^(a.length-k/32):=by
   apply Nat.div_lt_of_lt_mul
   have h1:=vw ha
   have h2:B^a.length≤2^k*B^(a.length-k/32):=by
    rw[kz,kz,← Nat.pow_add]
    exact Nat.pow_le_pow_right (by omega) (by omega)
   exact Nat.lt_of_lt_of_le h1 h2
  have kt:=nF (m:=.plain) (a:=zw (a.length-k/32) (val a/2^k)) yw (by rw[zB]; omega)
  rw[yh hlt] at kt
  rw[stH]
  generalize val a/2^k=y at *
  have hge:¬ ((k/32+(a.length-k/32):Nat):Int)<(a.length:Int):=by omega
  generalize k/32+(a.length-k/32)=i at *
  generalize a.length-k/32=n at *
  have hge':¬ i<a.length:=by omega
  simp[dw,hge',XQ,My]
  refine za (UD kt UE) (by simp) (.inl rfl) ?_
  simp
theorem BQ {x y j:Nat} (hy:0<y) :
  let r:=2*(x/2^(j+1)%y)+x/2^j%2
  (r<y→x/2^j/y=2*(x/2^(j+1)/y)∧x/2^j%y=r)∧(y≤r→x/2^j/y=2*(x/2^(j+1)/y)+1∧x/2^j%y=r-y):=by
 intro r
 have hX:x/2^j=2*(x/2^(j+1))+x/2^j%2:=by
  have:x/2^(j+1)=x/2^j/2:=by rw[Nat.pow_succ,Nat.div_div_eq_div_mul]
  rw[this]; omega
 have hb:x/2^j%2<2:=Nat.mod_lt _ (by omega)
 have hd:=Nat.div_add_mod (x/2^(j+1)) y
 have hm:=Nat.mod_lt (x/2^(j+1)) hy
 have hr:r=2*(x/2^(j+1)%y)+x/2^j%2:=rfl
 generalize x/2^j%2=b at *
 generalize x/2^(j+1)/y=q at *
 generalize x/2^(j+1)%y=m at *
 generalize x/2^(j+1)=X at *
 generalize x/2^j=Z at *
 have hZ:Z=y*(2*q)+r:=by
  rw[show y*(2*q)=2*(y*q) by rw[Nat.mul_left_comm]]; omega
 clear hX hd
 constructor
 ·intro h
  rw[hZ]
  exact ⟨by rw[Nat.mul_add_div hy,Nat.div_eq_of_lt h,Nat.add_zero],by rw[Nat.mul_add_mod,Nat.mod_eq_of_lt h]⟩
 ·intro h
  have h2:Z=y*(2*q+1)+(r-y):=by rw[Nat.mul_add,Nat.mul_one]; omega
  have h3:r-y<y:=by omega
  rw[h2]
  exact ⟨by rw[Nat.mul_add_div hy,Nat.div_eq_of_lt h3,Nat.add_zero],by rw[Nat.mul_add_mod,Nat.mod_eq_of_lt h3]⟩
theorem Ep {x y:Nat} (hy:0<y):x/2^(bl x+1-bl y)<y∧0<bl y:=by
 have h1:=abM x
 have hne:y≠0:=by omega
 have hb:bl y=Nat.log2 y+1:=by unfold bl; rw[if_neg hne]
 have h2:=Nat.log2_self_le hne
 refine ⟨Nat.lt_of_lt_of_le ?_ h2,by omega⟩
 apply Nat.div_lt_of_lt_mul
 rw[← Nat.pow_add]
 exact Nat.lt_of_lt_of_le h1 (Nat.pow_le_pow_right (by omega) (by omega))
def qA (t Q:Nat):AV:=if t=0 then .list 0 .full [] else nD Q
def R2 (m1 m2:Am.Mode) (a c:List Nat) (k t:Nat):St :=
 {env:=[(0,nl m1 a),(1,nl m2 c),(8,qA t (val a/2^(k-t)/val c)),(9,nD (val a/2^(k-t)%val c)),(10,iv ((k:Int)-1-t))],sto:=[]}
theorem alu {m1 m2:Am.Mode} {a c:List Nat} (ha:ok a) (hc:ok c) (hna:a.length<68719476736) (hnc:c.length<68719476736) (f1:stm m1=m1) (f2:stm m2=m2) (hD:val c≠0) :
  zd Tryz.prog me [nl m1 a,nl m2 c] (bB (val a) (val c)):=by
 have hy:0<val c:=by omega
 obtain ⟨s1,s2⟩:=Ep (x:=val a) hy
 have b1:=P9 ha (by omega) f1
 have b2:=P9 hc (by omega) f2
 have hl1:bl (val a)≤32*a.length:=Gk (by rw[← kz]; exact vw ha)
 have hl2:bl (val c)≤32*c.length:=Gk (by rw[← kz]; exact vw hc)
 obtain ⟨k,hk⟩:∃ k,bl (val a)+1-bl (val c)=k:=⟨_,rfl⟩
 have hk2:k≤32*a.length:=by omega
 have hh:=AC (k:=k) ha (by omega) (by omega) f1
 have hcl:¬ c.length=0:=fun h=>by
  rw[List.length_eq_zero_iff] at h
  subst h
  exact hD rfl
 have hcn:¬ c=[]:=fun h=>hcl (by rw[h]; rfl)
 rw[hk] at s1
 have m0:max (1:Int) (bl (val c):Int)=(bl (val c):Int):=by omega
 have w0:IntKind.i64.wrap ((bl (val a):Int)-(bl (val c):Int))=(bl (val a):Int)-(bl (val c):Int):=by rw[wrap64]<;>omega
 have w1:IntKind.i64.wrap ((bl (val a):Int)-(bl (val c):Int)+1)=(bl (val a):Int)-(bl (val c):Int)+1:=by rw[wrap64]<;>omega
 have m1':max (0:Int) ((bl (val a):Int)-(bl (val c):Int)+1)=(k:Int):=by omega
 have w2:IntKind.i64.wrap ((k:Int)-1)=(k:Int)-1:=by rw[wrap64]<;>omega
 refine wN F6 (by simp) ?_
 simp[TK,hcl]
 refine za b1 (by simp[f1]) (by simp) ?_
 simp
 refine za b2 (by simp[f2]) (by simp) ?_
 simp[m0,w0,w1,m1']
 refine za hh (by simp[f1]) (by simp) ?_
 simp[w2]
 have r0:val a/2^k%val c=val a/2^k:=Nat.mod_eq_of_lt s1
 refine zq (R2 m1 m2 a c k) (fun _=>True) k (by simp[R2,qA,r0]) trivial (fun t ht _=>?_) (fun _=>?_)
 ·obtain ⟨j,hj⟩:∃ j,k-1-t=j:=⟨_,rfl⟩
  have hj1:k-t=j+1:=by omega
  have hj2:k-(t+1)=j:=by omega
  have hjz:(k:Int)-1-t=(j:Int):=by omega
  obtain ⟨p1,p2⟩:=BQ (x:=val a) (j:=j) hy
  have hb:=Rl (m:=m1) (i:=j) ha (by omega) (by omega) f1
  have hQ:val a/2^(j+1)/val c<B^a.length:=Nat.lt_of_le_of_lt (Nat.le_trans (Nat.div_le_self _ _) (Nat.div_le_self _ _)) (vw ha)
  have hR:val a/2^(j+1)%val c<B^c.length:=Nat.lt_trans (Nat.mod_lt _ hy) (vw hc)
  have hbt:val a/2^j%2<2:=Nat.mod_lt _ (by omega)
  have hst:R2 m1 m2 a c k (t+1)={env:=[(0,nl m1 a),(1,nl m2 c),(8,nD (val a/2^j/val c)),(9,nD (val a/2^j%val c)),(10,iv ((j:Int)-1))],sto:=[]}:=by
   rw[R2,hj2,qA,if_neg (by omega),show (k:Int)-1-((t+1:Nat):Int)=(j:Int)-1 by omega]
  rw[R2,hj1,hjz]
  have h2:∀ {z n:Nat},z<B^n→z+z<B^(n+1)∧z+z+1<B^(n+1):=fun {z n} h=>by
   rw[Nat.pow_succ]
   have:B^n*2≤B^n*B:=Nat.mul_le_mul_left _ (by decide)
   omega
  have q0:t=0→val a/2^(j+1)/val c=0:=fun h=>by
   have:j+1=k:=by omega
   rw[this]; exact Nat.div_eq_of_lt s1
  generalize val a/2^(j+1)/val c=Q at *
  generalize val a/2^(j+1)%val c=R at *
  generalize val a/2^j%2=d at *
  have lQ:=zE.2 hQ
  have lR:=zE.2 hR
  have lQQ:=zE.2 (h2 hQ).1
  have lRR:=zE.2 (h2 hR).1
  have lRR1:(zf (R+R+d)).length≤c.length+1:=zE.2 (by have:=h2 hR; omega)
  have ld:(zf d).length≤1:=zE.2 (by rw[Nat.pow_one,z7]; omega)
  have kq:=gd (m1:=.plain) (m2:=.plain) (zx Q) (zx Q) (by omega) (by omega) rfl rfl
  have kr:=gd (m1:=.plain) (m2:=.plain) (zx R) (zx R) (by omega) (by omega) rfl rfl
  have kf:=fa (x:=d) (by omega)
  have kr2:=gd (m1:=.plain) (m2:=.plain) (zx (R+R)) (zx d) (by omega) (by omega) rfl rfl
  have kc:=K6 (m1:=.plain) (m2:=m2) (zx (R+R+d)) hc (by omega) (by omega) rfl f2
  have ks:=Qb (m1:=.plain) (m2:=m2) (zx (R+R+d)) hc (by omega) (by omega) rfl f2
  have kf1:=fa (x:=1) (by omega)
  have l1:(zf 1).length≤1:=zE.2 (by decide)
  have kq1:=gd (m1:=.plain) (m2:=.plain) (zx (Q+Q)) (zx 1) (by omega) (by omega) rfl rfl
  simp only[zK] at kq kr kr2 kc ks kq1
  have w3:IntKind.i64.wrap ((j:Int)-1)=(j:Int)-1:=by rw[wrap64]<;>omega
  have kq':zd Tryz.prog qL [qA t Q,qA t Q] (nD (Q+Q))∧qA t Q=(if t=0 then .list 0 .full [] else nD Q):=by
   refine ⟨?_,rfl⟩
   unfold qA
   split
   ·rename_i h0
    have hq0:=q0 h0
    subst hq0
    exact Z0 (fb kq (sK (sz:=0))) (sK (sz:=0))
   ·exact kq
  have hsn:wP (fun _=>none) (qA t Q)=some (qA t Q):=by unfold qA; split<;>simp
  have hrf:([qA t Q,qA t Q]:List AV).any sW=false:=by unfold qA; split<;>simp
  simp[jr]
  refine za kq'.1 (by simp[hsn]) (.inl hrf) ?_
  simp
  refine za kr (by simp) (by simp) ?_
  simp
  refine za hb (by simp[f1]) (by simp) ?_
  simp
  refine za kf (by simp) (by simp) ?_
  simp
  refine za kr2 (by simp) (by simp) ?_
  simp
  refine za kc (by simp[f2]) (by simp) ?_
  have e2:R+R+d=2*R+d:=by omega
  have e3:Q+Q=2*Q:=by omega
  by_cases hlt:R+R+d<val c
  ·have hcm:¬ (0:Int)≤yV (R+R+d) (val c):=by simp[yV,hlt]
   obtain ⟨g1,g2⟩:=p1 (by omega)
   rw[g1,g2,← e2,← e3] at hst
   simp[hcm,w3,hst]
  ·have hcm:(0:Int)≤yV (R+R+d) (val c):=by simp only[yV,if_neg hlt]; split<;>omega
   obtain ⟨g1,g2⟩:=p2 (by omega)
   rw[g1,g2,← e2,← e3] at hst
   simp[hcm]
   refine za ks (by simp[f2]) (by simp) ?_
   simp
   refine za kf1 (by simp) (by simp) ?_
   simp
   refine za kq1 (by simp) (by simp) ?_
   simp[w3,hst]
 ·have hkk:¬ (k:Int)≤(k:Int)-1:=by omega
  have e0:¬ (0:Int)≤(k:Int)-1-k:=by omega
  simp[jr,R2,hkk,aX,Ss]
  rcases Nat.eq_zero_or_pos k with h0 | h0
  ·subst h0
   have hz:val a/val c=0:=by rw[Nat.pow_zero,Nat.div_one] at s1; exact Nat.div_eq_of_lt s1
   simp[qA]
   rw[bB,hz]
   exact NZ sK AV.imp.refl AV.imp.refl
  ·have hk0:¬ k=0:=by omega
   simp[qA,hk0]
   exact AV.imp.refl
theorem Ji {A D:Nat} (hna:(zf A).length<68719476736) (hnc:(zf D).length<68719476736) :
  zd Tryz.prog dQ [nD A,nD D] (nD (Nat.gcd A D)):=by
 obtain ⟨N,h1,h2⟩:=E3 D A
 obtain ⟨L,hL⟩:∃ L,L=68719476735:=⟨_,rfl⟩
 have hL1:A<B^L:=zE.1 (by omega)
 have hL2:D<B^L:=zE.1 (by omega)
 have hb:=fun k=>GC k A D hL1 hL2
 have hlen:∀ x,x<B^L→(zf x).length<68719476736:=fun x hx=>Nat.lt_of_le_of_lt (zE.2 hx) (by omega)
 have hg:=hlen _ (show Nat.gcd A D<B^L by have:=(hb N).1; rw[h2] at this; exact this)
 refine zt aeE (by simp) ?_
 simp[K1]
 refine zq (fun k=>stG (eu A D k)) (fun _=>True) N (by simp[stG,eu]) trivial (fun k hk _=>?_) (fun _=>?_)
 ·have hne:=h1 k hk
  obtain ⟨b1,b2⟩:=hb k
  have b1':=hlen _ b1
  have b2':=hlen _ b2
  have hs:=Rv k A D
  obtain ⟨x,hx⟩:∃ x,(eu A D k).1=x:=⟨_,rfl⟩
  obtain ⟨y,hy⟩:∃ y,(eu A D k).2=y:=⟨_,rfl⟩
  rw[hx,hy] at hs
  rw[hx] at b1'
  rw[hy] at b2' hne
  have kd:=alu (m1:=.plain) (m2:=.plain) (zx x) (zx y) b1' b2' rfl rfl (by rw[zK]; exact hne)
  rw[zK,zK] at kd
  have hl0:0<(zf y).length:=by
   rcases Nat.eq_zero_or_pos (zf y).length with h | h
   ·rw[List.length_eq_zero_iff,yD] at h; exact absurd h hne
   ·exact h
  simp[bn,stG,hl0,hx,hy]
  refine za kd (by simp) (by simp) ?_
  simp[hs]
 ·simp only[h2]
  have kt:=nF (m:=.plain) (zx (Nat.gcd A D)) (by omega)
  rw[zK] at kt
  simp[bn,TL,JU,stG,yl]
  refine za kt (by simp) (by simp) ?_
  simp
theorem fh {neg:Bool} {N D:Nat} (hN:(zf N).length<68719476736) (hD:(zf D).length<68719476736) (h0:D≠0) :
  zd Tryz.prog ng [bv neg,nD N,nD D] (.tuple [xC neg N D,iv 0]):=by
 obtain ⟨g0,g1,g2⟩:=NU (N:=N) h0
 have kg:=Ji hN hD
 have hgl:(zf (Nat.gcd N D)).length<68719476736:=by
  have h1:D<B^(zf D).length:=zE.1 (Nat.le_refl _)
  exact Nat.lt_of_le_of_lt (zE.2 (Nat.lt_of_le_of_lt g2 h1)) hD
 have hl0:¬ (zf D).length=0:=by rw[List.length_eq_zero_iff,yD]; exact h0
 have hl1:¬ zf D=[]:=by rw[yD]; exact h0
 unfold xC
 have hz:(zf (N/Nat.gcd N D)).length=0↔N=0:=by rw[List.length_eq_zero_iff,yD]; exact g1
 generalize Nat.gcd N D=g at *
 have kn:=alu (m1:=.plain) (m2:=.plain) (zx N) (zx g) (by omega) (by omega) rfl rfl (by rw[zK]; exact g0)
 have kd:=alu (m1:=.plain) (m2:=.plain) (zx D) (zx g) (by omega) (by omega) rfl rfl (by rw[zK]; exact g0)
 simp only[zK] at kn kd
 refine zt abC (by simp) ?_
 simp[Ni,hl0]
 refine za kg (by simp) (by simp) ?_
 simp
 refine za kn (by simp) (by simp) ?_
 simp
 refine za kd (by simp) (by simp) ?_
 cases neg
 ·simp[ah]
 ·by_cases hN0:N=0
  ·subst hN0
   simp[ah,yl]
  ·have:0<(zf N).length:=by
    rcases Nat.eq_zero_or_pos (zf N).length with h | h
    ·rw[List.length_eq_zero_iff,yD] at h; exact absurd h hN0
    ·exact h
   simp[ah,this,hN0]
theorem SE {n:Int} (h1:-9223372036854775808≤n) (h2:n<9223372036854775808):zd Tryz.prog cS [iv n] (nD n.natAbs):=by
 obtain ⟨x,hx⟩:∃ x,n.natAbs=x:=⟨_,rfl⟩
 have hxl:x<18446744073709551616:=by omega
 have k:=fa (x:=x) hxl
 rw[hx]
 refine zt abF (by simp) ?_
 by_cases h:n<0
 ·have w1:IntKind.i64.wrap (n+1)=n+1:=by rw[wrap64]<;>omega
  have w2:IntKind.i64.wrap (-(n+1))=(x:Int)-1:=by rw[wrap64]<;>omega
  have w2':IntKind.i64.wrap (-1+-n)=(x:Int)-1:=by rw[wrap64]<;>omega
  have w3:IntKind.u64.wrap ((x:Int)-1)=(x:Int)-1:=by rw[vS]<;>omega
  have w4:IntKind.u64.wrap (x:Int)=x:=w64 hxl
  simp[Uo,h,w1,Mg,w2,w3,w4]
  refine za k (by simp) (by simp) ?_
  simp[UV]
 ·have w4:IntKind.u64.wrap n=(x:Int):=by rw[vS]<;>omega
  simp[Uo,h,w4]
  refine za k (by simp) (by simp) ?_
  simp[UV]
theorem adl {n d:Int} (h1:-9223372036854775808≤n) (h2:n<9223372036854775808) (h3:-9223372036854775808≤d) (h4:d<9223372036854775808) (h0:d≠0) :
  zd Tryz.prog Rg [iv n,iv d] (.tuple [xC (decide (n<0) != decide (d<0)) n.natAbs d.natAbs,iv 0]):=by
 have k1:=SE h1 h2
 have k2:=SE h3 h4
 have l1:=jT (x:=n.natAbs) (by omega)
 have l2:=jT (x:=d.natAbs) (by omega)
 have k3:=fh (neg:=decide (n<0) != decide (d<0)) (N:=n.natAbs) (D:=d.natAbs) (by omega) (by omega) (by omega)
 unfold xC at *
 generalize n.natAbs/Nat.gcd n.natAbs d.natAbs=p at *
 generalize d.natAbs/Nat.gcd n.natAbs d.natAbs=q at *
 generalize hb:(decide (n<0) != decide (d<0))=b at *
 refine zt aez (by simp) ?_
 have hu:Tryz.prog.underlying rY=some .bool:=by first | exact un_T_bool | rfl | kernel_rfl
 have hb':(!(decide (n<0) == decide (d<0)))=b:=hb
 simp[KW,xJ hu]
 rw[hb']
 refine za k1 (by simp) (by simp) ?_
 simp
 refine za k2 (by simp) (by simp) ?_
 simp
 refine za k3 (by simp) (by simp) ?_
 simp[JQ]
theorem LX {n:Int} (h1:-9223372036854775808≤n) (h2:n<9223372036854775808):zd Tryz.prog yU [iv n] (xC (decide (n<0)) n.natAbs 1):=by
 have k:=adl (n:=n) (d:=1) h1 h2 (by decide) (by decide) (by decide)
 have e:(decide (n<0) != decide ((1:Int)<0))=decide (n<0):=by simp
 rw[e,show (1:Int).natAbs=1 from rfl] at k
 unfold xC at *
 generalize n.natAbs/Nat.gcd n.natAbs 1=p at *
 generalize 1/Nat.gcd n.natAbs 1=q at *
 refine zt Kz (by simp) ?_
 simp[XN]
 refine za k (by simp) (by simp) ?_
 simp[X9]
theorem DL {s:Bool} {N D:Nat} (hN:(zf N).length<68719476736) (hD:(zf D).length<68719476736) (h0:D≠0):zd Tryz.prog qH [frA s N D] (xC (!s) N D):=by
 have k:=q8 (neg:=!s) hN hD h0
 unfold xC at *
 generalize N/Nat.gcd N D=p at *
 generalize D/Nat.gcd N D=q at *
 refine zt aen (by simp) ?_
 simp[KM]
 refine za k (by simp) (by simp) ?_
 simp[JJ]
theorem vH {x y n m:Nat} (hx:(zf x).length≤n) (hy:(zf y).length≤m):(zf (x*y)).length≤n+m:=zE.2 (by
 rw[Nat.pow_add]; exact Nat.mul_lt_mul_of_lt_of_lt (zE.1 hx) (zE.1 hy))
theorem G1 {s t:Bool} {N D M E:Nat} (hN:(zf N).length<17179869184) (hD:(zf D).length<17179869184) (hM:(zf M).length<17179869184) (hE:(zf E).length<17179869184) (h0:D≠0) (h1:E≠0) :
  zd Tryz.prog wM [frA s N D,frA t M E] (xC (!(s == t)) (N*M) (D*E)):=by
 have l1:=vH (Nat.le_refl (zf N).length) (Nat.le_refl (zf M).length)
 have l2:=vH (Nat.le_refl (zf D).length) (Nat.le_refl (zf E).length)
 have h2:D*E≠0:=Nat.mul_ne_zero h0 h1
 have k1:=qv (m1:=.plain) (m2:=.plain) (zx N) (zx M) (by omega) (by omega) (by omega) rfl rfl
 have k2:=qv (m1:=.plain) (m2:=.plain) (zx D) (zx E) (by omega) (by omega) (by omega) rfl rfl
 simp only[zK] at k1 k2
 have k:=q8 (neg:=!(s == t)) (N:=N*M) (D:=D*E) (by omega) (by omega) h2
 unfold xC at *
 generalize N*M/Nat.gcd (N*M) (D*E)=p at *
 generalize D*E/Nat.gcd (N*M) (D*E)=q at *
 refine zt aem (by simp) ?_
 simp[KL,xJ ud]
 refine za k1 (by simp) (by simp) ?_
 simp
 refine za k2 (by simp) (by simp) ?_
 simp
 refine za k (by simp) (by simp) ?_
 simp[JI]
theorem XS {s t:Bool} {N D M E:Nat} (hN:(zf N).length<17179869184) (hD:(zf D).length<17179869184) (hM:(zf M).length<17179869184) (hE:(zf E).length<17179869184) :
  zd Tryz.prog fS [frA s N D,frA t M E] (.tuple [nD (N*E),nD (M*D)]):=by
 have k1:=qv (m1:=.plain) (m2:=.plain) (zx N) (zx E) (by omega) (by omega) (by omega) rfl rfl
 have k2:=qv (m1:=.plain) (m2:=.plain) (zx M) (zx D) (by omega) (by omega) (by omega) rfl rfl
 simp only[zK] at k1 k2
 refine zt Bg (by simp) ?_
 simp[Qo]
 refine za k1 (by simp) (by simp) ?_
 simp
 refine za k2 (by simp) (by simp) ?_
 simp[QU]
def Rj (s:Bool) (N D:Nat) (t:Bool) (M E:Nat):AV :=
 if s=t then xC s (N*E+M*D) (D*E) else if N*E<M*D then xC t (M*D-N*E) (D*E) else xC s (N*E-M*D) (D*E)
theorem KE {x y n:Nat} (hx:(zf x).length≤n) (hy:(zf y).length≤n):(zf (x+y)).length≤n+1:=zE.2 (by
 have h1:=zE.1 hx
 have h2:=zE.1 hy
 rw[Nat.pow_succ]
 have:B^n*2≤B^n*B:=Nat.mul_le_mul_left _ (by decide)
 omega)
theorem Xu {x y n:Nat} (hx:(zf x).length≤n):(zf (x-y)).length≤n:=zE.2 (Nat.lt_of_le_of_lt (Nat.sub_le _ _) (zE.1 hx))
theorem nv (s:Bool) (N D:Nat):∃ b p q,xC s N D=.agg [bv b,nD p,nD q]:=⟨_,_,_,rfl⟩
theorem Gg {s t:Bool} {N D M E:Nat} (hN:(zf N).length<17179869184) (hD:(zf D).length<17179869184) (hM:(zf M).length<17179869184) (hE:(zf E).length<17179869184) (h0:D≠0) (h1:E≠0) :
  zd Tryz.prog tp [frA s N D,frA t M E] (Rj s N D t M E):=by
 have l1:=vH (Nat.le_refl (zf N).length) (Nat.le_refl (zf E).length)
 have l2:=vH (Nat.le_refl (zf M).length) (Nat.le_refl (zf D).length)
 have l3:=vH (Nat.le_refl (zf D).length) (Nat.le_refl (zf E).length)
 have h2:D*E≠0:=Nat.mul_ne_zero h0 h1
 have kx:=XS (s:=s) (t:=t) hN hD hM hE
 have kd:=qv (m1:=.plain) (m2:=.plain) (zx D) (zx E) (by omega) (by omega) (by omega) rfl rfl
 simp only[zK] at kd
 have l4:=KE (n:=34359738368) (show (zf (N*E)).length≤34359738368 by omega) (show (zf (M*D)).length≤34359738368 by omega)
 have l5:=Xu (y:=M*D) l1
 have l6:=Xu (y:=N*E) l2
 have ka:=fY (m1:=.plain) (m2:=.plain) (zx (N*E)) (zx (M*D)) (by omega) (by omega)
 have ks:=Q8 (m1:=.plain) (m2:=.plain) (zx (N*E)) (zx (M*D)) (by omega) (by omega)
 have ks2:=Q8 (m1:=.plain) (m2:=.plain) (zx (M*D)) (zx (N*E)) (by omega) (by omega)
 simp only[zK] at ka ks ks2
 have m1:=q8 (neg:=s) (N:=N*E+M*D) (D:=D*E) (by omega) (by omega) h2
 have m2:=q8 (neg:=s) (N:=N*E-M*D) (D:=D*E) (by omega) (by omega) h2
 have m3:=q8 (neg:=t) (N:=M*D-N*E) (D:=D*E) (by omega) (by omega) h2
 unfold Rj
 refine zt aei (by simp) ?_
 generalize N*E=x at *
 generalize M*D=y at *
 generalize D*E=d at *
 by_cases hst:s=t
 ·have e:(s == t)=true:=by simp[hst]
  obtain ⟨b,p,q,hf⟩:=nv s (x+y) d
  rw[if_pos hst,hf]
  rw[hf] at m1
  simp[Rm]
  refine za kx (by simp) (by simp) ?_
  simp
  refine za kd (by simp) (by simp) ?_
  simp[p6 ud,e]
  refine za ka (by simp) (by simp) ?_
  simp
  refine za m1 (by simp) (by simp) ?_
  simp[Xe]
 ·have e:(s == t)=false:=by simp[hst]
  rw[if_neg hst]
  simp[Rm]
  refine za kx (by simp) (by simp) ?_
  simp
  refine za kd (by simp) (by simp) ?_
  simp[p6 ud,e]
  refine za ks (by simp) (by simp) ?_
  by_cases hlt:x<y
  ·obtain ⟨b,p,q,hf⟩:=nv t (y-x) d
   rw[if_pos hlt,hf]
   rw[hf] at m3
   have hge:¬ y<x:=by omega
   rw[if_neg hge] at ks2
   simp[hlt]
   refine za ks2 (by simp) (by simp) ?_
   simp
   refine za m3 (by simp) (by simp) ?_
   simp[Xe]
  ·obtain ⟨b,p,q,hf⟩:=nv s (x-y) d
   rw[if_neg hlt,hf]
   rw[hf] at m2
   simp[hlt]
   refine za m2 (by simp) (by simp) ?_
   simp[Xe]
theorem adj {s:Bool} {N D:Nat} (hN:(zf N).length<68719476736) (_hD:(zf D).length<68719476736):zd Tryz.prog ga [frA s N D] (frA (!s&&decide (N≠0)) N D):=by
 refine zt aey (by simp) ?_
 cases s
 ·by_cases h0:N=0
  ·subst h0
   simp[YW,Xh,yl]
  ·have:0<(zf N).length:=by
    rcases Nat.eq_zero_or_pos (zf N).length with h | h
    ·rw[List.length_eq_zero_iff,yD] at h; exact absurd h h0
    ·exact h
   simp[YW,Xh,this,h0]
 ·simp[YW,Xh]
theorem AT {s t:Bool} {N D M E:Nat} (hN:(zf N).length<17179869184) (hD:(zf D).length<17179869184) (hM:(zf M).length<17179869184) (hE:(zf E).length<17179869184) (h0:D≠0) (h1:E≠0) :
  zd Tryz.prog j9 [frA s N D,frA t M E] (xC (!(s == t)) (N*M) (D*E)):=by
 have l1:=vH (Nat.le_refl (zf N).length) (Nat.le_refl (zf M).length)
 have l2:=vH (Nat.le_refl (zf D).length) (Nat.le_refl (zf E).length)
 have h2:D*E≠0:=Nat.mul_ne_zero h0 h1
 have k1:=cw (m1:=.plain) (m2:=.plain) (zx N) (zx M) (by omega) rfl rfl
 have k2:=cw (m1:=.plain) (m2:=.plain) (zx D) (zx E) (by omega) rfl rfl
 simp only[zK] at k1 k2
 have k:=fh (neg:=!(s == t)) (N:=N*M) (D:=D*E) (by omega) (by omega) h2
 obtain ⟨b,p,q,hf⟩:=nv (!(s == t)) (N*M) (D*E)
 rw[hf] at k ⊢
 refine zt aex (by simp) ?_
 simp[KV,xJ ud]
 refine za k1 (by simp) (by simp) ?_
 simp
 refine za k2 (by simp) (by simp) ?_
 simp
 refine za k (by simp) (by simp) ?_
 simp[JP]
theorem BB {s t:Bool} {N D M E:Nat} (hN:(zf N).length<17179869184) (hD:(zf D).length<17179869184) (hM:(zf M).length<17179869184) (hE:(zf E).length<17179869184) (h0:D≠0) (h1:E≠0) :
  zd Tryz.prog nH [frA s N D,frA t M E] (Rj s N D t M E):=by
 have l1:=vH (Nat.le_refl (zf N).length) (Nat.le_refl (zf E).length)
 have l2:=vH (Nat.le_refl (zf M).length) (Nat.le_refl (zf D).length)
 have l3:=vH (Nat.le_refl (zf D).length) (Nat.le_refl (zf E).length)
 have h2:D*E≠0:=Nat.mul_ne_zero h0 h1
 have kx:=cw (m1:=.plain) (m2:=.plain) (zx N) (zx E) (by omega) rfl rfl
 have ky:=cw (m1:=.plain) (m2:=.plain) (zx M) (zx D) (by omega) rfl rfl
 have kd:=cw (m1:=.plain) (m2:=.plain) (zx D) (zx E) (by omega) rfl rfl
 simp only[zK] at kd kx ky
 have l4:=KE (n:=34359738368) (show (zf (N*E)).length≤34359738368 by omega) (show (zf (M*D)).length≤34359738368 by omega)
 have l5:=Xu (y:=M*D) l1
 have l6:=Xu (y:=N*E) l2
 have ka:=gd (m1:=.plain) (m2:=.plain) (zx (N*E)) (zx (M*D)) (by omega) (by omega) rfl rfl
 have ks:=Qb (m1:=.plain) (m2:=.plain) (zx (N*E)) (zx (M*D)) (by omega) (by omega) rfl rfl
 have ks2:=Qb (m1:=.plain) (m2:=.plain) (zx (M*D)) (zx (N*E)) (by omega) (by omega) rfl rfl
 simp only[zK] at ka ks ks2
 have m1:=fh (neg:=s) (N:=N*E+M*D) (D:=D*E) (by omega) (by omega) h2
 have m2:=fh (neg:=s) (N:=N*E-M*D) (D:=D*E) (by omega) (by omega) h2
 have m3:=fh (neg:=t) (N:=M*D-N*E) (D:=D*E) (by omega) (by omega) h2
 unfold Rj
 refine zt aev (by simp) ?_
 generalize N*E=x at *
 generalize M*D=y at *
 generalize D*E=d at *
 by_cases hst:s=t
 ·have e:(s == t)=true:=by simp[hst]
  obtain ⟨b,p,q,hf⟩:=nv s (x+y) d
  rw[if_pos hst,hf]
  rw[hf] at m1
  simp[Rp]
  refine za kx (by simp) (by simp) ?_
  simp
  refine za ky (by simp) (by simp) ?_
  simp
  refine za kd (by simp) (by simp) ?_
  simp[p6 ud,e]
  refine za ka (by simp) (by simp) ?_
  simp
  refine za m1 (by simp) (by simp) ?_
  simp[Xg]
 ·have e:(s == t)=false:=by simp[hst]
  rw[if_neg hst]
  simp[Rp]
  refine za kx (by simp) (by simp) ?_
  simp
  refine za ky (by simp) (by simp) ?_
  simp
  refine za kd (by simp) (by simp) ?_
  simp[p6 ud,e]
  refine za ks (by simp) (by simp) ?_
  by_cases hlt:x<y
  ·obtain ⟨b,p,q,hf⟩:=nv t (y-x) d
   rw[if_pos hlt,hf]
   rw[hf] at m3
   have hge:¬ y≤x:=by omega
   simp[hge]
   refine za ks2 (by simp) (by simp) ?_
   simp
   refine za m3 (by simp) (by simp) ?_
   simp[Xg]
  ·obtain ⟨b,p,q,hf⟩:=nv s (x-y) d
   rw[if_neg hlt,hf]
   rw[hf] at m2
   have hle:y≤x:=by omega
   simp[hle]
   refine za m2 (by simp) (by simp) ?_
   simp[Xg]
theorem JB (p q:Rat):xC (!(decide (p.num<0) == decide (q.num<0))) (p.num.natAbs*q.num.natAbs) (p.den*q.den)=yr (p*q):=by
 have h:p.den*q.den≠0:=Nat.mul_ne_zero p.den_nz q.den_nz
 rw[qp h,Rat.mul_def']
 congr 2
 have e1:=mO p.num
 have e2:=mO q.num
 generalize p.num.natAbs=x at *
 generalize q.num.natAbs=y at *
 generalize decide (p.num<0)=s at *
 generalize decide (q.num<0)=t at *
 rw[← e1,← e2]
 cases s<;>cases t<;>simp[sg,Int.neg_mul,Int.mul_neg]
theorem KF (p q:Rat):Rj (decide (p.num<0)) p.num.natAbs p.den (decide (q.num<0)) q.num.natAbs q.den=yr (p+q):=by
 have h:p.den*q.den≠0:=Nat.mul_ne_zero p.den_nz q.den_nz
 have e1:=mO p.num
 have e2:=mO q.num
 unfold Rj
 rw[qp h,qp h,qp h,Rat.add_def']
 generalize p.num.natAbs=x at *
 generalize q.num.natAbs=y at *
 generalize decide (p.num<0)=s at *
 generalize decide (q.num<0)=t at *
 rw[← e1,← e2]
 have a1:((x*q.den:Nat):Int)=(x:Int)*q.den:=Int.natCast_mul _ _
 have a2:((y*p.den:Nat):Int)=(y:Int)*p.den:=Int.natCast_mul _ _
 generalize hX:x*q.den=X at *
 generalize hY:y*p.den=Y at *
 cases s<;>cases t
 ·simp only[if_true]; congr 2; simp[sg]; omega
 ·simp only[Bool.false_eq_true,if_false]
  split<;>(congr 2; simp only[sg,if_true,Bool.false_eq_true,if_false,Int.neg_mul]; omega)
 ·simp only[Bool.true_eq_false,if_false]
  split<;>(congr 2; simp only[sg,if_true,Bool.false_eq_true,if_false,Int.neg_mul]; omega)
 ·simp only[if_true]; congr 2; simp only[sg,if_true,Int.neg_mul]; omega
end Go.Proofs.YtjeoklgggppjiaaGreat

namespace Go.LP
def zh:Nat→(Nat→Rat)→Rat
 | 0,_=>0
 | n+1,f=>zh n f+f n
theorem zy {n:Nat} {f g:Nat→Rat} (h:∀ i,i<n→f i=g i):zh n f=zh n g:=by
 induction n with
 | zero=>rfl
 | succ n ih=>simp only[zh]; rw[ih fun i hi=>h i (by omega),h n (by omega)]
theorem zS {n:Nat} {f:Nat→Rat} (h:∀ i,i<n→f i=0):zh n f=0:=by
 induction n with
 | zero=>rfl
 | succ n ih=>simp only[zh]; rw[ih fun i hi=>h i (by omega),h n (by omega)]; grind
theorem Tc {n:Nat} {f g:Nat→Rat}:zh n (fun i=>f i+g i)=zh n f+zh n g:=by
 induction n with
 | zero=>simp only[zh]; grind
 | succ n ih=>simp only[zh]; rw[ih]; grind
theorem fI {n:Nat} {f:Nat→Rat} {k:Rat}:zh n (fun i=>k*f i)=k*zh n f:=by
 induction n with
 | zero=>simp only[zh]; grind
 | succ n ih=>simp only[zh]; rw[ih]; grind
theorem de {n:Nat} {f:Nat→Rat} {k:Rat}:zh n (fun i=>f i*k)=zh n f*k:=by
 induction n with
 | zero=>simp only[zh]; grind
 | succ n ih=>simp only[zh]; rw[ih]; grind
theorem qC {n:Nat} {f g:Nat→Rat}:zh n (fun i=>f i-g i)=zh n f-zh n g:=by
 induction n with
 | zero=>simp only[zh]; grind
 | succ n ih=>simp only[zh]; rw[ih]; grind
theorem lN {n:Nat} {f:Nat→Rat}:zh n (fun i=>- f i)=- zh n f:=by
 induction n with
 | zero=>simp only[zh]; grind
 | succ n ih=>simp only[zh]; rw[ih]; grind
theorem YD {n m:Nat} {f:Nat→Nat→Rat}:zh n (fun i=>zh m (f i))=zh m (fun j=>zh n fun i=>f i j):=by
 induction n with
 | zero=>simp only[zh]; exact (zS fun _ _=>rfl).symm
 | succ n ih=>simp only[zh]; rw[ih,← Tc]
theorem ti {n:Nat} {f:Nat→Rat} (h:∀ i,i<n→0≤f i):0≤zh n f:=by
 induction n with
 | zero=>simp only[zh]; grind
 | succ n ih=>simp only[zh]; have:=ih fun i hi=>h i (by omega); have:=h n (by omega); grind
theorem go {n:Nat} {f g:Nat→Rat} (h:∀ i,i<n→f i≤g i):zh n f≤zh n g:=by
 induction n with
 | zero=>simp only[zh]; grind
 | succ n ih=>simp only[zh]; have:=ih fun i hi=>h i (by omega); have:=h n (by omega); grind
theorem yJ {n q:Nat} {f:Nat→Rat} (hq:q<n):zh n f=f q+zh n (fun j=>if j=q then 0 else f j):=by
 induction n with
 | zero=>omega
 | succ n ih =>
  simp only[zh]
  by_cases h:q=n
  ·subst h
   rw[if_pos rfl,zy (f:=fun j=>if j=q then 0 else f j) (g:=f) fun i hi=>if_neg (by omega)]
   grind
  ·rw[ih (by omega),if_neg (fun e=>h e.symm)]
   grind
theorem wK {n q:Nat} {f:Nat→Rat} (hq:q<n) (h:∀ i,i<n→i≠q→f i=0):zh n f=f q:=by
 rw[yJ hq,zS (f:=fun j=>if j=q then 0 else f j) fun i hi=>by
  by_cases e:i=q
  ·exact if_pos e
  ·rw[if_neg e]; exact h i hi e]
 grind
theorem SZ {n:Nat} {f:Nat→Rat} (h:zh n f<0):∃ i,i<n∧f i<0:=by
 induction n with
 | zero=>simp only[zh] at h; grind
 | succ n ih =>
  simp only[zh] at h
  by_cases h1:zh n f<0
  ·obtain ⟨i,hi,hf⟩:=ih h1; exact ⟨i,by omega,hf⟩
  ·exact ⟨n,by omega,by grind⟩
structure zo where
 r:Nat
 c:Nat
 a:Nat→Nat→Rat
 b:Nat→Rat
 cst:Nat→Rat
 v:Rat
 bas:Nat→Nat
 fre:Nat→Nat
def sol (d:zo) (x:Nat→Rat):Prop:=∀ i,i<d.r→x (d.bas i)=d.b i-zh d.c fun j=>d.a i j*x (d.fre j)
def obj (d:zo) (x:Nat→Rat):Rat:=d.v+zh d.c fun j=>d.cst j*x (d.fre j)
def Bij (d:zo) (N:Nat):Prop:=∀ g:Nat→Rat,zh N g=zh d.c (fun j=>g (d.fre j))+zh d.r (fun i=>g (d.bas i))
def upd {α:Type} (f:Nat→α) (p:Nat) (x:α):Nat→α:=fun i=>if i=p then x else f i
def pivot (d:zo) (p q:Nat):zo where
 r:=d.r
 c:=d.c
 a:=fun i j=>if i=p then (if j=q then 1/d.a p q else d.a p j*(1/d.a p q)) else (if j=q then -(d.a i q*(1/d.a p q)) else d.a i j-d.a i q*(d.a p j*(1/d.a p q)))
 b:=fun i=>if i=p then d.b p*(1/d.a p q) else d.b i-d.a i q*(d.b p*(1/d.a p q))
 cst:=fun j=>if j=q then -(d.cst q*(1/d.a p q)) else d.cst j-d.cst q*(d.a p j*(1/d.a p q))
 v:=d.v+d.cst q*(d.b p*(1/d.a p q))
 bas:=upd d.bas p (d.fre q)
 fre:=upd d.fre q (d.bas p)
theorem X4 {d:zo} {p q:Nat} (h:d.a p q≠0):pivot (pivot d p q) p q=d:=by
 cases d with
 | mk r c a b cst v bas fre =>
  simp only at h
  simp only[pivot,zo.mk.injEq,upd,if_true,true_and]
  refine ⟨?_,?_,?_,?_,?_,?_⟩
  ·funext i j
   by_cases hi:i=p<;>by_cases hj:j=q<;>simp only[hi,hj,if_true,if_false]<;>grind
  ·funext i
   by_cases hi:i=p<;>simp only[hi,if_true,if_false]<;>grind
  ·funext j
   by_cases hj:j=q<;>simp only[hj,if_true,if_false]<;>grind
  ·grind
  ·funext i; by_cases hi:i=p<;>simp[upd,hi]
  ·funext i; by_cases hi:i=q<;>simp[upd,hi]
theorem QS {d:zo} {p q N:Nat} (hp:p<d.r) (hq:q<d.c) (h:Bij d N):Bij (pivot d p q) N:=by
 intro g
 rw[h g]
 simp only[pivot]
 rw[yJ (f:=fun j=>g (d.fre j)) hq,yJ (f:=fun j=>g (d.bas j)) hp,yJ (f:=fun j=>g (upd d.fre q (d.bas p) j)) hq,
  yJ (f:=fun j=>g (upd d.bas p (d.fre q) j)) hp]
 have e1:zh d.c (fun j=>if j=q then 0 else g (upd d.fre q (d.bas p) j))=zh d.c (fun j=>if j=q then 0 else g (d.fre j)):=zy fun i _=>by
  by_cases e:i=q<;>simp[e,upd]
 have e2:zh d.r (fun j=>if j=p then 0 else g (upd d.bas p (d.fre q) j))=zh d.r (fun j=>if j=p then 0 else g (d.bas j)):=zy fun i _=>by
  by_cases e:i=p<;>simp[e,upd]
 rw[e1,e2]
 simp only[upd,if_true]
 grind
theorem Q5 {d:zo} {p q:Nat} (hp:p<d.r) (hq:q<d.c) (h:d.a p q≠0) {x:Nat→Rat} (hs:sol d x):sol (pivot d p q) x:=by
 have e0:=hs p hp
 rw[yJ hq] at e0
 have k1:∀ (k:Rat),zh d.c (fun j=>if j=q then 0 else k*d.a p j*x (d.fre j))=k*zh d.c (fun j=>if j=q then 0 else d.a p j*x (d.fre j)):=fun k=>by
  rw[← fI]
  exact zy fun j _=>by by_cases e:j=q<;>simp[e]; grind
 intro i hi
 simp only[pivot] at hi ⊢
 rw[yJ hq]
 by_cases hip:i=p
 ·subst hip
  have e1:zh d.c (fun j=>if j=q then 0 else (if i=i then (if j=q then 1/d.a i q else d.a i j*(1/d.a i q)) else (if j=q then -(d.a i q*(1/d.a i q)) else d.a i j-d.a i q*(d.a i j*(1/d.a i q))))*x (upd d.fre q (d.bas i) j))
    = (1/d.a i q)*zh d.c (fun j=>if j=q then 0 else d.a i j*x (d.fre j)):=by
   rw[← k1]
   exact zy fun j _=>by by_cases e:j=q<;>simp[e,upd]; grind
  rw[e1]
  simp only[upd,if_true]
  grind
 ·have e2:=hs i hi
  rw[yJ hq] at e2
  have e1:zh d.c (fun j=>if j=q then 0 else (if i=p then (if j=q then 1/d.a p q else d.a p j*(1/d.a p q)) else (if j=q then -(d.a i q*(1/d.a p q)) else d.a i j-d.a i q*(d.a p j*(1/d.a p q))))*x (upd d.fre q (d.bas p) j))
    = zh d.c (fun j=>if j=q then 0 else d.a i j*x (d.fre j))-(d.a i q*(1/d.a p q))*zh d.c (fun j=>if j=q then 0 else d.a p j*x (d.fre j)):=by
   rw[← k1,← qC]
   exact zy fun j _=>by by_cases e:j=q<;>simp[e,upd,hip]<;>grind
  rw[e1]
  simp only[upd,if_true,if_neg hip]
  grind
theorem jA {d:zo} {p q:Nat} (hp:p<d.r) (hq:q<d.c) (h:d.a p q≠0) {x:Nat→Rat}:sol (pivot d p q) x↔sol d x:=by
 constructor
 ·intro hs
  have h2:(pivot d p q).a p q≠0:=by simp only[pivot,if_true]; grind
  have:=Q5 (d:=pivot d p q) hp hq h2 hs
  rwa [X4 h] at this
 ·exact Q5 hp hq h
theorem QO {d:zo} {p q:Nat} (hp:p<d.r) (hq:q<d.c) (h:d.a p q≠0) {x:Nat→Rat} (hs:sol d x):obj (pivot d p q) x=obj d x:=by
 have e0:=hs p hp
 rw[yJ hq] at e0
 have k1:∀ (k:Rat),zh d.c (fun j=>if j=q then 0 else k*d.a p j*x (d.fre j))=k*zh d.c (fun j=>if j=q then 0 else d.a p j*x (d.fre j)):=fun k=>by
  rw[← fI]
  exact zy fun j _=>by by_cases e:j=q<;>simp[e]; grind
 simp only[obj,pivot]
 rw[yJ hq,yJ (f:=fun j=>d.cst j*x (d.fre j)) hq]
 have e1:zh d.c (fun j=>if j=q then 0 else (if j=q then -(d.cst q*(1/d.a p q)) else d.cst j-d.cst q*(d.a p j*(1/d.a p q)))*x (upd d.fre q (d.bas p) j))
    = zh d.c (fun j=>if j=q then 0 else d.cst j*x (d.fre j))-(d.cst q*(1/d.a p q))*zh d.c (fun j=>if j=q then 0 else d.a p j*x (d.fre j)):=by
  rw[← k1,← qC]
  exact zy fun j _=>by by_cases e:j=q<;>simp[e,upd]<;>grind
 rw[e1]
 simp only[upd,if_true]
 grind
section
variable {d:zo} {N:Nat} (hb:Bij d N)
include hb
theorem f7 {k:Nat} (hk:k<N):zh d.c (fun j=>if d.fre j=k then 1 else 0)+zh d.r (fun i=>if d.bas i=k then 1 else 0)=1:=by
 have:=hb fun x=>if x=k then 1 else 0
 rw[wK hk (fun i _ hne=>if_neg hne),if_pos rfl] at this
 exact this.symm
theorem Ts {k:Nat} (hk:N≤k):zh d.c (fun j=>if d.fre j=k then 1 else 0)+zh d.r (fun i=>if d.bas i=k then 1 else 0)=0:=by
 have:=hb fun x=>if x=k then 1 else 0
 rw[zS (fun i hi=>if_neg (by omega))] at this
 exact this.symm
omit hb in
theorem jX {n:Nat} {f:Nat→Nat} {k:Nat}:0≤zh n (fun j=>if f j=k then 1 else 0):=ti fun i _=>by split<;>grind
omit hb in
theorem Y7 {n j:Nat} {f:Nat→Nat} (hj:j<n):1≤zh n (fun i=>if f i=f j then 1 else 0):=by
 rw[yJ hj]
 simp only[if_true]
 have:0≤zh n (fun i=>if i=j then 0 else if f i=f j then (1:Rat) else 0):=ti fun i _=>by split<;>(try split)<;>grind
 grind
omit hb in
theorem Jl {n i j:Nat} {f:Nat→Nat} (hi:i<n) (hj:j<n) (hne:i≠j) (he:f i=f j):2≤zh n (fun l=>if f l=f j then 1 else 0):=by
 rw[yJ hj,yJ (f:=fun l=>if l=j then 0 else if f l=f j then (1:Rat) else 0) hi]
 simp only[if_true,if_neg hne,he]
 have:0≤zh n (fun l=>if l=i then 0 else if l=j then 0 else if f l=f j then (1:Rat) else 0):=ti fun i _=>by split<;>(try split)<;>(try split)<;>grind
 grind
theorem kS {j:Nat} (hj:j<d.c):d.fre j<N:=by
 rcases Nat.lt_or_ge (d.fre j) N with h | h
 ·exact h
 ·have h1:=Ts hb h
  have h2:=Y7 (f:=d.fre) hj
  have h3:=jX (n:=d.r) (f:=d.bas) (k:=d.fre j)
  grind
theorem gx {i:Nat} (hi:i<d.r):d.bas i<N:=by
 rcases Nat.lt_or_ge (d.bas i) N with h | h
 ·exact h
 ·have h1:=Ts hb h
  have h2:=Y7 (f:=d.bas) hi
  have h3:=jX (n:=d.c) (f:=d.fre) (k:=d.bas i)
  grind
theorem lm {i j:Nat} (hi:i<d.c) (hj:j<d.c) (h:d.fre i=d.fre j):i=j:=by
 by_cases e:i=j
 ·exact e
 ·have h1:=f7 hb (kS hb hj)
  have h2:=Jl (f:=d.fre) hi hj e h
  have h3:=jX (n:=d.r) (f:=d.bas) (k:=d.fre j)
  grind
theorem ge {i j:Nat} (hi:i<d.r) (hj:j<d.r) (h:d.bas i=d.bas j):i=j:=by
 by_cases e:i=j
 ·exact e
 ·have h1:=f7 hb (gx hb hj)
  have h2:=Jl (f:=d.bas) hi hj e h
  have h3:=jX (n:=d.c) (f:=d.fre) (k:=d.bas j)
  grind
theorem uP {i j:Nat} (hi:i<d.r) (hj:j<d.c):d.fre j≠d.bas i:=fun e=>by
 have h1:=f7 hb (gx hb hi)
 have h2:=Y7 (f:=d.bas) hi
 have h3:=Y7 (f:=d.fre) hj
 rw[e] at h3
 grind
omit hb in
theorem N0 {n k:Nat} {f:Nat→Nat} (h:∀ j,j<n→f j≠k):zh n (fun j=>if f j=k then (1:Rat) else 0)=0:=zS fun i hi=>if_neg (h i hi)
theorem Zd {k:Nat} (hk:k<N):(∃ j,j<d.c∧d.fre j=k)∨∃ i,i<d.r∧d.bas i=k:=by
 apply Classical.byContradiction
 intro h
 have h1:=f7 hb hk
 rw[N0 fun j hj e=>h (.inl ⟨j,hj,e⟩),N0 fun j hj e=>h (.inr ⟨j,hj,e⟩)] at h1
 grind
end
def inB (d:zo) (k:Nat):Prop:=∃ i,i<d.r∧d.bas i=k
def vl (d:zo) (k:Nat):Rat:=zh d.r fun i=>if d.bas i=k then d.b i else 0
def cv (d:zo) (k:Nat):Rat:=zh d.c fun j=>if d.fre j=k then d.cst j else 0
section
variable {d:zo} {N:Nat} (hb:Bij d N)
include hb
theorem YL {i:Nat} (hi:i<d.r):vl d (d.bas i)=d.b i:=by
 unfold vl
 rw[wK hi fun k hk hne=>if_neg fun e=>hne (ge hb hk hi e),if_pos rfl]
omit hb in
theorem fM {k:Nat} (h:¬ inB d k):vl d k=0:=zS fun i hi=>if_neg fun e=>h ⟨i,hi,e⟩
theorem TR {j:Nat} (hj:j<d.c):cv d (d.fre j)=d.cst j:=by
 unfold cv
 rw[wK hj fun k hk hne=>if_neg fun e=>hne (lm hb hk hj e),if_pos rfl]
theorem Ns {k:Nat} (h:inB d k):cv d k=0:=by
 obtain ⟨i,hi,rfl⟩:=h
 exact zS fun j hj=>if_neg fun e=>uP hb hi hj e
theorem xZ {j:Nat} (hj:j<d.c):¬ inB d (d.fre j):=fun ⟨_,hi,e⟩=>uP hb hi hj e.symm
theorem gk {k:Nat} (hk:k<N) (h:¬ inB d k):∃ j,j<d.c∧d.fre j=k:=(Zd hb hk).resolve_right h
def ptq (d:zo) (q:Nat) (y:Rat) (k:Nat):Rat:=zh d.r (fun i=>if d.bas i=k then d.b i-d.a i q*y else 0)+(if d.fre q=k then y else 0)
theorem cy {q i:Nat} {y:Rat} (hq:q<d.c) (hi:i<d.r):ptq d q y (d.bas i)=d.b i-d.a i q*y:=by
 unfold ptq
 rw[wK hi fun k hk hne=>if_neg fun e=>hne (ge hb hk hi e),if_pos rfl,if_neg (uP hb hi hq)]
 grind
theorem vK {q j:Nat} {y:Rat} (hq:q<d.c) (hj:j<d.c):ptq d q y (d.fre j)=if j=q then y else 0:=by
 unfold ptq
 rw[zS fun i hi=>if_neg fun e=>uP hb hi hj e.symm]
 by_cases e:j=q
 ·subst e; simp; grind
 ·rw[if_neg e,if_neg fun h=>e (lm hb hj hq h.symm)]; grind
theorem pg {q:Nat} {y:Rat} (hq:q<d.c):sol d (ptq d q y):=by
 intro i hi
 rw[cy hb hq hi,wK hq (fun j hj hne=>by rw[vK hb hq hj,if_neg hne]; grind),vK hb hq hq,if_pos rfl]
theorem Xd {q:Nat} {y:Rat} (hq:q<d.c):obj d (ptq d q y)=d.v+d.cst q*y:=by
 unfold obj
 rw[wK hq (fun j hj hne=>by rw[vK hb hq hj,if_neg hne]; grind),vK hb hq hq,if_pos rfl]
theorem fN:sol d (vl d):=by
 intro i hi
 rw[YL hb hi,zS fun j hj=>by rw[fM (xZ hb hj)]; grind]
 grind
theorem YM:obj d (vl d)=d.v:=by
 unfold obj
 rw[zS fun j hj=>by rw[fM (xZ hb hj)]; grind]
 grind
theorem Mm {x:Nat→Rat}:obj d x=d.v+zh N fun k=>cv d k*x k:=by
 have:=hb fun k=>cv d k*x k
 rw[this,zS (n:=d.r) fun i hi=>by rw[Ns hb ⟨i,hi,rfl⟩]; grind]
 unfold obj
 rw[zy (g:=fun j=>cv d (d.fre j)*x (d.fre j)) fun j hj=>by rw[TR hb hj]]
 grind
end
theorem lt_or_le (a b:Rat):a<b∨b≤a:=by
 by_cases h:a<b
 ·exact .inl h
 ·exact .inr (by grind)
theorem bR {a:Rat} (h:0<a):0<1/a:=by
 have h1:a*(1/a)=1:=by grind
 rcases lt_or_le 0 (1/a) with h2 | h2
 ·exact h2
 ·exfalso
  have:0≤a*(-(1/a)):=Rat.mul_nonneg (by grind) (by grind)
  grind
def jN (d:zo) (p q:Nat):Prop:=p<d.r∧q<d.c∧0<d.cst q∧(∀ j,j<d.c→0<d.cst j→d.fre q≤d.fre j)∧0<d.a p q ∧
 ∀ i,i<d.r→0<d.a i q→d.b p*d.a i q≤d.b i*d.a p q∧(d.b p*d.a i q=d.b i*d.a p q→d.bas p≤d.bas i)
def feas (d:zo):Prop:=∀ i,i<d.r→0≤d.b i
theorem Fi {d:zo} {p q:Nat} (hp:p<d.r) (hf:feas d) (ha:0<d.a p q) (hr:∀ i,i<d.r→0<d.a i q→d.b p*d.a i q≤d.b i*d.a p q):feas (pivot d p q):=by
 have hi:=bR ha
 intro i hir
 simp only[pivot] at hir ⊢
 by_cases e:i=p
 ·rw[if_pos e]; exact Rat.mul_nonneg (hf p hp) (by grind)
 ·rw[if_neg e]
  have h0:0≤d.b p*(1/d.a p q):=Rat.mul_nonneg (hf p hp) (by grind)
  by_cases h:0<d.a i q
  ·have h1:=hr i hir h
   have h2:0≤(d.b i*d.a p q-d.b p*d.a i q)*(1/d.a p q):=Rat.mul_nonneg (by grind) (by grind)
   have h3:(d.b i*d.a p q-d.b p*d.a i q)*(1/d.a p q)=d.b i-d.a i q*(d.b p*(1/d.a p q)):=by grind
   rwa [h3] at h2
  ·have h1:0≤(- d.a i q)*(d.b p*(1/d.a p q)):=Rat.mul_nonneg (by grind) h0
   have:=hf i hir
   grind
theorem jN.feas {d:zo} {p q:Nat} (h:jN d p q) (hf:feas d):feas (pivot d p q) :=
 Fi h.1 hf h.2.2.2.2.1 fun i hi ha=>(h.2.2.2.2.2 i hi ha).1
theorem jN.v_le {d:zo} {p q:Nat} (h:jN d p q) (hf:LP.feas d):d.v≤(pivot d p q).v:=by
 have hi:=bR h.2.2.2.2.1
 have h0:0≤d.cst q*(d.b p*(1/d.a p q)):=Rat.mul_nonneg (by have:=h.2.2.1; grind) (Rat.mul_nonneg (hf p h.1) (by grind))
 simp only[pivot]
 grind
theorem jN.v_eq {d:zo} {p q:Nat} (h:jN d p q) (hv:(pivot d p q).v=d.v):d.b p=0:=by
 have hi:=bR h.2.2.2.2.1
 have hc:=h.2.2.1
 simp only[pivot] at hv
 have e:d.cst q*(d.b p*(1/d.a p q))=0:=by grind
 have h1:d.b p*(1/d.a p q)=0:=by grind
 grind
theorem ags {d:zo} {p q:Nat} (h:d.b p=0) (k:Nat):vl (pivot d p q) k=vl d k:=by
 unfold vl
 simp only[pivot]
 refine zy fun i _=>?_
 by_cases e:i=p
 ·subst e
  simp only[h,upd,if_true]
  have:(0:Rat)*(1/d.a i q)=0:=by grind
  rw[this]
  split<;>split<;>rfl
 ·simp only[h,upd,if_neg e]
  have:d.b i-d.a i q*(0*(1/d.a p q))=d.b i:=by grind
  rw[this]
theorem core {d d':zo} {N p q q':Nat} (hb:Bij d N) (hb':Bij d' N) (ho:∀ x,sol d x→obj d x=obj d' x) (hv:d.v=d'.v) (hB:jN d p q)
  (hq':q'<d'.c) (ht:d'.fre q'=d.bas p) (hc':0<d'.cst q') (hm':∀ j,j<d'.c→0<d'.cst j→d'.fre q'≤d'.fre j)
  (hs:d.fre q<d.bas p) (hr:∀ k,inB d k→¬ inB d' k→k≤d.bas p∧vl d k=0) (hp0:d.b p=0) (_hf:feas d):False:=by
 obtain ⟨hp,hq,hc,hmin,ha,hrat⟩:=hB
 have key:∀ y:Rat,d.cst q*y=cv d' (d.fre q)*y+(zh d.r (fun i=>cv d' (d.bas i)*d.b i)-zh d.r (fun i=>cv d' (d.bas i)*d.a i q)*y):=fun y=>by
  have h1:=ho _ (pg hb hq (y:=y))
  rw[Xd hb hq,Mm hb',hb (fun k=>cv d' k*ptq d q y k)] at h1
  rw[wK hq (fun j hj hne=>by rw[vK hb hq hj,if_neg hne]; grind),vK hb hq hq,if_pos rfl] at h1
  rw[zy (g:=fun i=>cv d' (d.bas i)*d.b i-cv d' (d.bas i)*d.a i q*y) fun i hi=>by rw[cy hb hq hi]; grind] at h1
  rw[qC,de] at h1
  grind
 have k0:=key 0
 have k1:=key 1
 have neg_of:∀ {k:Nat},k<d.bas p→k<N→cv d' k≤0:=fun {k} hk hkN=>by
  rcases lt_or_le 0 (cv d' k) with h | h
  ·exfalso
   by_cases hin:inB d' k
   ·rw[Ns hb' hin] at h; grind
   ·obtain ⟨j,hj,rfl⟩:=gk hb' hkN hin
    rw[TR hb' hj] at h
    have:=hm' j hj h
    omega
  ·exact h
 have c1:=neg_of hs (kS hb hq)
 have c2:zh d.r (fun i=>cv d' (d.bas i)*d.a i q)<0:=by grind
 obtain ⟨i,hi,hneg⟩:=SZ c2
 have hnin:¬ inB d' (d.bas i):=fun h=>by rw[Ns hb' h] at hneg; grind
 obtain ⟨h1,h2⟩:=hr _ ⟨i,hi,rfl⟩ hnin
 rw[YL hb hi] at h2
 have hne:d.bas i≠d.bas p:=fun e=>by
  have e2:=ge hb hi hp e
  subst e2
  rw[← ht,TR hb' hq'] at hneg
  have:0<d'.cst q'*d.a i q:=Rat.mul_pos hc' ha
  grind
 have hlt:d.bas i<d.bas p:=by omega
 have c3:=neg_of hlt (gx hb hi)
 have c4:0<d.a i q:=by
  rcases lt_or_le 0 (d.a i q) with h | h
  ·exact h
  ·exfalso
   have:0≤(- cv d' (d.bas i))*(- d.a i q):=Rat.mul_nonneg (by grind) (by grind)
   grind
 have:=(hrat i hi c4).2 (by rw[h2,hp0]; grind)
 omega
structure Run (D:Nat→zo) (pp qq:Nat→Nat) (K N:Nat):Prop where
 bij:Bij (D 0) N
 feas:feas (D 0)
 step:∀ k,k<K→jN (D k) (pp k) (qq k)∧D (k+1)=pivot (D k) (pp k) (qq k)
section
variable {D:Nat→zo} {pp qq:Nat→Nat} {K N:Nat} (h:Run D pp qq K N)
include h
theorem Run.bijs:∀ k,k≤K→Bij (D k) N
 | 0,_=>h.bij
 | k+1,hk=>by
  obtain ⟨h1,h2⟩:=h.step k (by omega)
  rw[h2]
  exact QS h1.1 h1.2.1 (Run.bijs k (by omega))
theorem Run.feass:∀ k,k≤K→LP.feas (D k)
 | 0,_=>h.feas
 | k+1,hk=>by
  obtain ⟨h1,h2⟩:=h.step k (by omega)
  rw[h2]
  exact h1.feas (Run.feass k (by omega))
theorem Run.same {i:Nat} {x:Nat→Rat}:∀ j,i≤j→j≤K→((sol (D i) x↔sol (D j) x)∧(sol (D i) x→obj (D i) x=obj (D j) x)):=by
 intro j hij
 induction j with
 | zero =>
   intro _; have:i=0:=by omega
   subst this; exact ⟨Iff.rfl,fun _=>rfl⟩
 | succ j ih =>
  intro hj
  by_cases e:i=j+1
  ·subst e; exact ⟨Iff.rfl,fun _=>rfl⟩
  ·obtain ⟨g1,g2⟩:=ih (by omega) (by omega)
   obtain ⟨h1,h2⟩:=h.step j (by omega)
   have ha:(D j).a (pp j) (qq j)≠0:=by have:=h1.2.2.2.2.1; grind
   rw[h2]
   exact ⟨g1.trans (jA h1.1 h1.2.1 ha).symm,fun hx=>(g2 hx).trans (QO h1.1 h1.2.1 ha (g1.1 hx)).symm⟩
theorem Run.v_le {i:Nat}:∀ j,i≤j→j≤K→(D i).v≤(D j).v:=by
 intro j hij
 induction j with
 | zero =>
   intro _; have:i=0:=by omega
   subst this; grind
 | succ j ih =>
  intro hj
  by_cases e:i=j+1
  ·subst e; grind
  ·have g:=ih (by omega) (by omega)
   obtain ⟨h1,h2⟩:=h.step j (by omega)
   have:=h1.v_le (h.feass j (by omega))
   rw[← h2] at this
   grind
abbrev en (D:Nat→zo) (qq:Nat→Nat) (m:Nat):Nat:=(D m).fre (qq m)
abbrev lv (D:Nat→zo) (pp:Nat→Nat) (m:Nat):Nat:=(D m).bas (pp m)
theorem Run.next {m k:Nat} (hm:m<K):inB (D (m+1)) k↔(k=en D qq m∨(inB (D m) k∧k≠lv D pp m)):=by
 obtain ⟨h1,h2⟩:=h.step m hm
 have hb:=h.bijs m (by omega)
 rw[h2]
 constructor
 ·rintro ⟨i,hi,e⟩
  simp only[pivot,upd] at hi e
  by_cases hip:i=pp m
  ·rw[if_pos hip] at e; exact .inl e.symm
  ·rw[if_neg hip] at e
   refine .inr ⟨⟨i,hi,e⟩,fun e2=>hip (ge hb hi h1.1 (e.trans e2))⟩
 ·rintro (rfl | ⟨⟨i,hi,rfl⟩,hne⟩)
  ·exact ⟨pp m,h1.1,by simp[pivot,upd]⟩
  ·refine ⟨i,hi,?_⟩
   have:i≠pp m:=fun e=>hne (by rw[e])
   simp[pivot,upd,this]
theorem Run.en_free {m:Nat} (hm:m<K):¬ inB (D m) (en D qq m):=xZ (h.bijs m (by omega)) (h.step m hm).1.2.1
omit h in
theorem Run.lv_basic {m:Nat} (h:Run D pp qq K N) (hm:m<K):inB (D m) (lv D pp m):=⟨pp m,(h.step m hm).1.1,rfl⟩
theorem Run.stay_free {k i j:Nat} (hj:j≤K) (hne:∀ m,i≤m→m<j→en D qq m≠k):∀ x y,i≤x→x≤y→y≤j→¬ inB (D x) k→¬ inB (D y) k:=by
 intro x y hx hxy
 induction y with
 | zero =>
   intro _ hf; have:x=0:=by omega
   subst this; exact hf
 | succ y ih =>
  intro hy hf
  by_cases e:x=y+1
  ·subst e; exact hf
  ·have g:=ih (by omega) (by omega) hf
   rw[h.next (by omega)]
   rintro (e2 | ⟨e2,_⟩)
   ·exact hne y (by omega) (by omega) e2.symm
   ·exact g e2
theorem Run.stay_basic {k i j:Nat} (hj:j≤K) (hne:∀ m,i≤m→m<j→lv D pp m≠k):∀ x y,i≤x→x≤y→y≤j→inB (D x) k→inB (D y) k:=by
 intro x y hx hxy
 induction y with
 | zero =>
   intro _ hf; have:x=0:=by omega
   subst this; exact hf
 | succ y ih =>
  intro hy hf
  by_cases e:x=y+1
  ·subst e; exact hf
  ·have g:=ih (by omega) (by omega) hf
   rw[h.next (by omega)]
   exact .inr ⟨g,fun e2=>hne y (by omega) (by omega) e2.symm⟩
theorem Run.enters {k i j x y:Nat} (hj:j≤K) (hij:inB (D i) k↔inB (D j) k) (hx:i≤x∧x≤j) (hy:i≤y∧y≤j) (h1:inB (D x) k) (h2:¬ inB (D y) k):∃ m,i≤m∧m<j∧en D qq m=k:=by
 apply Classical.byContradiction
 intro hno
 have hne:∀ m,i≤m→m<j→en D qq m≠k:=fun m a b e=>hno ⟨m,a,b,e⟩
 have f1:=h.stay_free hj hne y j hy.1 hy.2 (Nat.le_refl _) h2
 have f2:¬ inB (D i) k:=fun e=>f1 (hij.1 e)
 exact h.stay_free hj hne i x (Nat.le_refl _) hx.1 hx.2 f2 h1
theorem Run.leaves {k i j x y:Nat} (hj:j≤K) (hij:inB (D i) k↔inB (D j) k) (hx:i≤x∧x≤j) (hy:i≤y∧y≤j) (h1:inB (D x) k) (h2:¬ inB (D y) k):∃ m,i≤m∧m<j∧lv D pp m=k:=by
 apply Classical.byContradiction
 intro hno
 have hne:∀ m,i≤m→m<j→lv D pp m≠k:=fun m a b e=>hno ⟨m,a,b,e⟩
 have f1:=h.stay_basic hj hne x j hx.1 hx.2 (Nat.le_refl _) h1
 have f2:inB (D i) k:=hij.2 f1
 exact h2 (h.stay_basic hj hne i y (Nat.le_refl _) hy.1 hy.2 f2)
omit h in
theorem GD (f:Nat→Nat) (i:Nat):∀ j,i<j→∃ m,i≤m∧m<j∧∀ m',i≤m'→m'<j→f m'≤f m:=by
 intro j
 induction j with
 | zero=>intro hj; omega
 | succ j ih =>
  intro hj
  by_cases e:i=j
  ·subst e; exact ⟨i,Nat.le_refl _,by omega,fun m' a b=>by
    have:m'=i:=by omega
    rw[this]
    exact Nat.le_refl _⟩
  ·obtain ⟨m,a,b,g⟩:=ih (by omega)
   by_cases hlt:f m≤f j
   ·refine ⟨j,by omega,by omega,fun m' a' b'=>?_⟩
    by_cases e2:m'=j
    ·rw[e2]; exact Nat.le_refl _
    ·exact Nat.le_trans (g m' a' (by omega)) hlt
   ·refine ⟨m,a,by omega,fun m' a' b'=>?_⟩
    by_cases e2:m'=j
    ·rw[e2]; omega
    ·exact g m' a' (by omega)
theorem Run.no_repeat {i j:Nat} (hij:i<j) (hj:j≤K) (hB:∀ k,inB (D i) k↔inB (D j) k):False:=by
 have bi:=h.bijs i (by omega)
 have bj:=h.bijs j hj
 have hvij:(D i).v=(D j).v:=by
  have s1:=fN bi
  have s2:=(h.same j (by omega) hj (i:=i)).2 s1
  rw[YM bi] at s2
  rw[s2]
  unfold obj
  rw[zS fun l hl=>by rw[fM fun e=>xZ bj hl ((hB _).1 e)]; grind]
  grind
 have hv:∀ m,i≤m→m≤j→(D m).v=(D i).v:=fun m a b=>by
  have g1:=h.v_le m a (by omega)
  have g2:=h.v_le j b hj
  grind
 have hdeg:∀ m,i≤m→m<j→(D m).b (pp m)=0:=fun m a b=>by
  obtain ⟨h1,h2⟩:=h.step m (by omega)
  apply h1.v_eq
  rw[← h2,hv (m+1) (by omega) (by omega),hv m a (by omega)]
 have hvl:∀ k m,i≤m→m≤j→vl (D m) k=vl (D i) k:=fun k m a=>by
  induction m with
  | zero =>
    intro _; have:i=0:=by omega
    rw[this]
  | succ m ih =>
   intro b
   by_cases e:i=m+1
   ·rw[e]
   ·rw[(h.step m (by omega)).2,ags (hdeg m (by omega) (by omega)),ih (by omega) (by omega)]
 obtain ⟨e,e1,e2,emax⟩:=GD (en D qq) i j hij
 have hfr:=h.en_free (m:=e) (by omega)
 have hin:inB (D (e+1)) (en D qq e):=(h.next (by omega)).2 (.inl rfl)
 obtain ⟨l,l1,l2,hl⟩:=h.leaves hj (hB (en D qq e)) (x:=e+1) (y:=e) ⟨by omega,by omega⟩ ⟨by omega,by omega⟩ hin hfr
 have hBl:=(h.step l (by omega)).1
 have hBe:=(h.step e (by omega)).1
 have hobj:∀ x,sol (D l) x→obj (D l) x=obj (D e) x:=fun x hx=>by
  rcases Nat.le_total l e with hle | hle
  ·exact (h.same e hle (by omega) (i:=l)).2 hx
  ·exact ((h.same l hle (by omega) (i:=e)).2 ((h.same l hle (by omega) (i:=e)).1.2 hx)).symm
 refine core (h.bijs l (by omega)) (h.bijs e (by omega)) hobj (by rw[hv l l1 (by omega),hv e e1 (by omega)]) hBl hBe.2.1 hl.symm hBe.2.2.1 hBe.2.2.2.1 ?_ ?_ (hdeg l l1 l2) (h.feass l (by omega))
 ·have g:=emax l l1 l2
  have hne:en D qq l≠en D qq e:=fun e3=>by
   have:=h.en_free (m:=l) (by omega)
   rw[e3,← hl] at this
   exact this (h.lv_basic (by omega))
  rw[show (D l).bas (pp l)=en D qq e from hl]
  simp only[en] at g hne ⊢
  omega
 ·intro k hk1 hk2
  obtain ⟨m,m1,m2,rfl⟩:=h.enters hj (hB k) (x:=l) (y:=e) ⟨l1,by omega⟩ ⟨e1,by omega⟩ hk1 hk2
  rw[show (D l).bas (pp l)=en D qq e from hl]
  refine ⟨emax m m1 m2,?_⟩
  rw[hvl _ l l1 (by omega),← hvl _ e e1 (by omega)]
  exact fM hk2
end
def code (d:zo):Nat→Nat
 | 0=>0
 | n+1=>2*code d n+(if (List.range d.r).any (fun i=>d.bas i == n)=true then 1 else 0)
theorem nI {d:zo} {n:Nat}:(List.range d.r).any (fun i=>d.bas i == n)=true↔inB d n:=by
 simp[inB]
theorem K7 {d:zo}:∀ n,code d n<2^n
 | 0=>by simp[code]
 | n+1=>by have:=K7 (d:=d) n; simp only[code,Nat.pow_succ]; split<;>omega
theorem code_inj {d d':zo}:∀ n,code d n=code d' n→∀ k,k<n→(inB d k↔inB d' k)
 | 0,_,k,hk=>by omega
 | n+1,he,k,hk=>by
  simp only[code] at he
  have h1:code d n=code d' n:=by split at he<;>split at he<;>omega
  by_cases e:k=n
  ·subst e
   rw[← nI,← nI]
   rw[h1] at he
   cases h2:(List.range d.r).any (fun i=>d.bas i == k)<;>cases h3:(List.range d'.r).any (fun i=>d'.bas i == k)<;>simp only[h2,h3,Bool.false_eq_true,if_true,if_false] at he ⊢<;>omega
  ·exact code_inj n h1 k (by omega)
theorem afU:∀ (M K:Nat) (f:Nat→Nat),(∀ k,k<K→f k<M)→(∀ i j,i<j→j<K→f i≠f j)→K≤M:=by
 intro M
 induction M with
 | zero=>intro K f h _; rcases K with _ | K; exact Nat.le_refl _; exact absurd (h 0 (by omega)) (by omega)
 | succ M ih =>
  intro K f h hne
  rcases K with _ | K
  ·omega
  ·-- the last one is moved out of the way
   have:K≤M:=by
    refine ih K (fun k=>if f k=M then f K else f k) (fun k hk=>?_) (fun i j hij hj=>?_)
    ·have h1:=h k (by omega)
     have h2:=h K (by omega)
     have h3:=hne k K hk (by omega)
     by_cases e:f k=M
     ·simp only[e,if_true]; omega
     ·simp only[e,if_false]; omega
    ·have g1:=hne i j hij (by omega)
     have g2:=hne i K (by omega) (by omega)
     have g3:=hne j K hj (by omega)
     by_cases e1:f i=M<;>by_cases e2:f j=M<;>simp only[e1,e2,if_true,if_false]<;>omega
   omega
theorem Run.le {D:Nat→zo} {pp qq:Nat→Nat} {K N:Nat} (h:Run D pp qq K N):K<2^N:=by
 have:=afU (2^N) (K+1) (fun k=>code (D k) N) (fun k _=>K7 N) (fun i j hij hj e=>by
  refine h.no_repeat hij (by omega) fun k=>?_
  by_cases hk:k<N
  ·exact code_inj N e k hk
  ·constructor
   ·rintro ⟨i',hi',rfl⟩; exact absurd (gx (h.bijs i (by omega)) hi') hk
   ·rintro ⟨i',hi',rfl⟩; exact absurd (gx (h.bijs j (by omega)) hi') hk)
 omega
def sz (K:Nat) (q:Rat):Prop:=q.num.natAbs≤2^K∧q.den≤2^K
theorem zJ {K L:Nat} {q:Rat} (h:sz K q) (hl:K≤L):sz L q :=
 ⟨Nat.le_trans h.1 (Nat.pow_le_pow_right (by omega) hl),Nat.le_trans h.2 (Nat.pow_le_pow_right (by omega) hl)⟩
theorem Gc {K:Nat} {n:Int} {d:Nat} (hd:d≠0) (h1:n.natAbs≤2^K) (h2:d≤2^K):sz K (Rat.normalize n d hd):=by
 rw[Rat.normalize_eq]
 exact ⟨Nat.le_trans (Int.natAbs_ediv_le_natAbs _ _) h1,Nat.le_trans (Nat.div_le_self _ _) h2⟩
theorem ws {K:Nat}:sz K 0:=⟨Nat.zero_le _,Nat.pow_pos (by omega)⟩
theorem Bd {K:Nat}:sz K 1:=⟨Nat.pow_pos (by omega),Nat.pow_pos (by omega)⟩
theorem yg {K L:Nat} {a b:Rat} (ha:sz K a) (hb:sz L b):sz (K+L) (a*b):=by
 rw[Rat.mul_def]
 refine Gc _ ?_ ?_
 ·rw[Int.natAbs_mul,Nat.pow_add]; exact Nat.mul_le_mul ha.1 hb.1
 ·rw[Nat.pow_add]; exact Nat.mul_le_mul ha.2 hb.2
theorem cD {K L:Nat} {a b:Rat} (ha:sz K a) (hb:sz L b):sz (K+L+1) (a+b):=by
 rw[Rat.add_def]
 refine Gc _ ?_ ?_
 ·refine Nat.le_trans (Int.natAbs_add_le _ _) ?_
  rw[Int.natAbs_mul,Int.natAbs_mul,Nat.pow_succ,Nat.pow_add]
  have h1:=Nat.mul_le_mul ha.1 hb.2
  have h2:=Nat.mul_le_mul hb.1 ha.2
  rw[Nat.mul_comm (2^L)] at h2
  simp only[Int.natAbs_natCast]
  omega
 ·rw[Nat.pow_succ,Nat.pow_add]
  have:=Nat.mul_le_mul ha.2 hb.2
  omega
theorem mV {K:Nat} {a:Rat} (ha:sz K a):sz K (-a):=by
 unfold sz
 rw[Rat.neg_num,Rat.neg_den,Int.natAbs_neg]
 exact ha
theorem S1 {K L:Nat} {a b:Rat} (ha:sz K a) (hb:sz L b):sz (K+L+1) (a-b):=by
 rw[Rat.sub_eq_add_neg]; exact cD ha (mV hb)
theorem Ll {K:Nat} {a:Rat} (ha:sz K a):sz K (1/a):=by
 have:1/a=a⁻¹:=by grind
 rw[this]
 unfold sz
 rw[Rat.num_inv,Rat.den_inv]
 constructor
 ·rw[Int.natAbs_mul,Int.natAbs_natCast,Int.natAbs_sign]
  have:=ha.2
  split<;>omega
 ·split
  ·exact Nat.pow_pos (by omega)
  ·exact ha.1
structure szD (K:Nat) (d:zo):Prop where
 a:∀ i j,i<d.r→j<d.c→sz K (d.a i j)
 b:∀ i,i<d.r→sz K (d.b i)
 cst:∀ j,j<d.c→sz K (d.cst j)
 v:sz K d.v
theorem Td {K L:Nat} {d:zo} (h:szD K d) (hl:K≤L):szD L d :=
 ⟨fun i j hi hj=>zJ (h.a i j hi hj) hl,fun i hi=>zJ (h.b i hi) hl,fun j hj=>zJ (h.cst j hj) hl,zJ h.v hl⟩
theorem Bb {K:Nat} {d:zo} {p q:Nat} (hp:p<d.r) (hq:q<d.c) (h:szD K d):szD (4*K+1) (pivot d p q):=by
 have hi:=Ll (h.a p q hp hq)
 constructor
 ·intro i j hir hjc
  simp only[pivot] at hir hjc ⊢
  split<;>split
  ·exact zJ hi (by omega)
  ·exact zJ (yg (h.a p j hp hjc) hi) (by omega)
  ·exact zJ (mV (yg (h.a i q hir hq) hi)) (by omega)
  ·exact zJ (S1 (h.a i j hir hjc) (yg (h.a i q hir hq) (yg (h.a p j hp hjc) hi))) (by omega)
 ·intro i hir
  simp only[pivot] at hir ⊢
  split
  ·exact zJ (yg (h.b p hp) hi) (by omega)
  ·exact zJ (S1 (h.b i hir) (yg (h.a i q hir hq) (yg (h.b p hp) hi))) (by omega)
 ·intro j hjc
  simp only[pivot] at hjc ⊢
  split
  ·exact zJ (mV (yg (h.cst q hq) hi)) (by omega)
  ·exact zJ (S1 (h.cst j hjc) (yg (h.cst q hq) (yg (h.a p j hp hjc) hi))) (by omega)
 ·simp only[pivot]
  exact zJ (cD h.v (yg (h.cst q hq) (yg (h.b p hp) hi))) (by omega)
structure Same (d e:zo) (N:Nat):Prop where
 bd:Bij d N
 be:Bij e N
 sol:∀ x,sol d x↔sol e x
 obj:∀ x,LP.sol d x→obj d x=obj e x
theorem Same.refl {d:zo} {N:Nat} (h:Bij d N):Same d d N:=⟨h,h,fun _=>Iff.rfl,fun _ _=>rfl⟩
theorem Same.symm {d e:zo} {N:Nat} (h:Same d e N):Same e d N:=⟨h.be,h.bd,fun x=>(h.sol x).symm,fun x hx=>(h.obj x ((h.sol x).2 hx)).symm⟩
theorem Same.trans {d e f:zo} {N:Nat} (h:Same d e N) (k:Same e f N):Same d f N :=
 ⟨h.bd,k.be,fun x=>(h.sol x).trans (k.sol x),fun x hx=>(h.obj x hx).trans (k.obj x ((h.sol x).1 hx))⟩
theorem Same.pivot {d:zo} {N p q:Nat} (h:Bij d N) (hp:p<d.r) (hq:q<d.c) (ha:d.a p q≠0):Same (pivot d p q) d N :=
 ⟨QS hp hq h,h,fun _=>jA hp hq ha,fun _ hx=>QO hp hq ha ((jA hp hq ha).1 hx)⟩
def far (d:zo) (f:Nat→Nat):Nat→Nat
 | 0=>0
 | n+1=>far d f n+(if (List.range d.r).any (fun i=>d.bas i == f n)=true then 0 else 1)
theorem E5 {d:zo} {f:Nat→Nat}:∀ n,far d f n≤n
 | 0=>Nat.le_refl _
 | n+1=>by have:=E5 (d:=d) (f:=f) n; simp only[far]; split<;>omega
theorem NN {d:zo} {f:Nat→Nat}:∀ n,far d f n=0→∀ i,i<n→inB d (f i)
 | 0,_,i,hi=>by omega
 | n+1,h,i,hi=>by
  simp only[far] at h
  by_cases e:i=n
  ·subst e
   apply nI.1
   cases h2:(List.range d.r).any (fun j=>d.bas j == f i)
   ·rw[h2] at h; simp at h
   ·rfl
  ·exact NN n (by omega) i (by omega)
theorem Jf {d:zo} {f:Nat→Nat}:∀ n,far d f n≠0→∃ i,i<n∧¬ inB d (f i)
 | 0,h=>absurd rfl h
 | n+1,h=>by
  by_cases e:inB d (f n)
  ·have h2:=nI.2 e
   simp only[far,h2,if_true] at h
   obtain ⟨i,hi,hf⟩:=Jf n (by omega)
   exact ⟨i,by omega,hf⟩
  ·exact ⟨n,by omega,e⟩
theorem Jh {d:zo} {f:Nat→Nat} {p k:Nat} (hk:inB d k) (hp:¬ inB d (f p)):∀ n,far d (upd f p k) n+(if p<n then 1 else 0)=far d f n
 | 0=>by simp[far]
 | n+1=>by
  have ih:=Jh (d:=d) (f:=f) (p:=p) (k:=k) hk hp n
  by_cases e:p=n
  ·subst e
   have h1:=nI.2 hk
   have h2:(List.range d.r).any (fun i=>d.bas i == f p)=false:=by
    cases h:(List.range d.r).any (fun i=>d.bas i == f p)
    ·rfl
    ·exact absurd (nI.1 h) hp
   simp only[far,upd,if_true,h1,h2,Bool.false_eq_true,if_false] at ih ⊢
   have:(upd f p k)=fun i=>if i=p then k else f i:=rfl
   simp only[Nat.lt_irrefl,if_false] at ih
   have e2:¬ p<p:=by omega
   simp only[show p<p+1 by omega,if_true]
   omega
  ·have e3:upd f p k n=f n:=by simp[upd,Ne.symm e]
   simp only[far,e3]
   have:(p<n+1)↔(p<n):=by omega
   simp only[this]
   omega
section
variable {d e:zo} {N:Nat} (h:Same d e N)
include h
theorem Same.entries {K:Nat} (hB:∀ k,inB e k→inB d k) (hB2:∀ k,inB d k→inB e k) (hs:szD K d):szD K e:=by
 have hF:∀ j,j<e.c→∃ j',j'<d.c∧d.fre j'=e.fre j:=fun j hj=>gk h.bd (kS h.be hj) fun hin=>xZ h.be hj (hB2 _ hin)
 have hR:∀ i,i<e.r→∃ i',i'<d.r∧d.bas i'=e.bas i:=fun i hi=>hB _ ⟨i,hi,rfl⟩
 have hpt:∀ j j' y,j<e.c→j'<d.c→d.fre j'=e.fre j→∀ k,k<N→¬ inB d k→ptq e j y k=ptq d j' y k:=fun j j' y hj hj' ejj k hk hnk=>by
  obtain ⟨l,hl,rfl⟩:=gk h.bd hk hnk
  obtain ⟨l',hl',el⟩:=gk h.be hk fun hin=>hnk (hB _ hin)
  rw[vK h.bd hj' hl,← el,vK h.be hj hl']
  by_cases e1:l'=j
  ·subst e1
   rw[if_pos rfl,if_pos (lm h.bd hl hj' (by rw[ejj,el]))]
  ·rw[if_neg e1,if_neg fun e2=>e1 (by subst e2; exact lm h.be hl' hj (by rw[el,ejj]))]
 -- the point of 'e' is the point of 'd'
 have key:∀ j j' y i i',j<e.c→j'<d.c→d.fre j'=e.fre j→i<e.r→i'<d.r→d.bas i'=e.bas i→e.b i-e.a i j*y=d.b i'-d.a i' j'*y:=fun j j' y i i' hj hj' ejj hi hi' eii=>by
  have s1:=(h.sol _).2 (pg h.be hj (y:=y))
  have s2:=s1 i' hi'
  rw[eii,cy h.be hj hi] at s2
  rw[s2]
  rw[zy (g:=fun l=>d.a i' l*ptq d j' y (d.fre l)) fun l hl=>by rw[hpt j j' y hj hj' ejj _ (kS h.bd hl) (xZ h.bd hl)]]
  rw[wK hj' (fun l hl hne=>by rw[vK h.bd hj' hl,if_neg hne]; grind),vK h.bd hj' hj',if_pos rfl]
 have keyo:∀ j j' y,j<e.c→j'<d.c→d.fre j'=e.fre j→e.v+e.cst j*y=d.v+d.cst j'*y:=fun j j' y hj hj' ejj=>by
  have s1:=(h.sol _).2 (pg h.be hj (y:=y))
  have s2:=h.obj _ s1
  rw[Xd h.be hj] at s2
  rw[← s2]
  unfold LP.obj
  rw[zy (g:=fun l=>d.cst l*ptq d j' y (d.fre l)) fun l hl=>by rw[hpt j j' y hj hj' ejj _ (kS h.bd hl) (xZ h.bd hl)]]
  rw[wK hj' (fun l hl hne=>by rw[vK h.bd hj' hl,if_neg hne]; grind),vK h.bd hj' hj',if_pos rfl]
 have hvl:∀ k,k<N→vl e k=0∨inB d k:=fun k hk=>by
  by_cases hin:inB e k
  ·exact .inr (hB _ hin)
  ·exact .inl (fM hin)
 have svl:=(h.sol _).2 (fN h.be)
 have z:∀ l,l<d.c→vl e (d.fre l)=0:=fun l hl=>fM fun hin=>xZ h.bd hl (hB _ hin)
 constructor
 ·intro i j hi hj
  obtain ⟨i',hi',ei⟩:=hR i hi
  obtain ⟨j',hj',ej⟩:=hF j hj
  have k0:=key j j' 0 i i' hj hj' ej hi hi' ei
  have k1:=key j j' 1 i i' hj hj' ej hi hi' ei
  have:e.a i j=d.a i' j':=by grind
  rw[this]; exact hs.a i' j' hi' hj'
 ·intro i hi
  obtain ⟨i',hi',ei⟩:=hR i hi
  have s2:=svl i' hi'
  rw[ei,YL h.be hi,zS fun l hl=>by rw[z l hl]; grind] at s2
  have:e.b i=d.b i':=by grind
  rw[this]; exact hs.b i' hi'
 ·intro j hj
  obtain ⟨j',hj',ej⟩:=hF j hj
  have k0:=keyo j j' 0 hj hj' ej
  have k1:=keyo j j' 1 hj hj' ej
  have:e.cst j=d.cst j':=by grind
  rw[this]; exact hs.cst j' hj'
 ·have s2:=h.obj _ svl
  rw[YM h.be] at s2
  unfold LP.obj at s2
  rw[zS fun l hl=>by rw[z l hl]; grind] at s2
  have:e.v=d.v:=by grind
  rw[this]; exact hs.v
theorem Same.exchange {i:Nat} (hi:i<e.r) (hn:¬ inB d (e.bas i)):∃ j,j<e.c∧e.a i j≠0∧inB d (e.fre j):=by
 apply Classical.byContradiction
 intro hno
 obtain ⟨q,hq,eq⟩:=gk h.bd (gx h.be hi) hn
 have key:∀ y:Rat,y=e.b i:=fun y=>by
  have s1:=(h.sol _).1 (pg h.bd hq (y:=y)) i hi
  rw[← eq,vK h.bd hq hq,if_pos rfl] at s1
  rw[zS fun j hj=>?_] at s1
  ·grind
  ·by_cases ha:e.a i j=0
   ·rw[ha]; grind
   ·have hnf:¬ inB d (e.fre j):=fun hin=>hno ⟨j,hj,ha,hin⟩
    obtain ⟨l,hl,el⟩:=gk h.bd (kS h.be hj) hnf
    rw[← el,vK h.bd hq hl,if_neg fun e2=>uP h.be hi hj (by rw[← el,e2,eq])]
    grind
 have k0:=key 0
 have k1:=key 1
 grind
end
def grow (K:Nat):Nat→Nat
 | 0=>K
 | n+1=>4*grow K n+1
theorem ZX {K:Nat} {m n:Nat} (h:m≤n):grow K m≤grow K n:=by
 induction n with
 | zero =>
   have:m=0:=by omega
   rw[this]; exact Nat.le_refl _
 | succ n ih =>
  by_cases e:m=n+1
  ·rw[e]; exact Nat.le_refl _
  ·have:=ih (by omega)
   simp only[grow]; omega
theorem Same.size {d:zo} {N K:Nat} (hs:szD K d):∀ n (e:zo),Same d e N→e.r=d.r→e.c=d.c→far d e.bas e.r≤n→szD (grow K n) e:=by
 intro n
 induction n with
 | zero =>
  intro e h hr hc hn
  have hB:∀ k,inB e k→inB d k:=fun k ⟨i,hi,ek⟩=>by
   have:=NN _ (Nat.le_zero.1 hn) i hi
   rwa [ek] at this
  refine h.entries hB (fun k hk=>?_) hs
  -- as many basic variables in both
  classical
  apply Classical.byContradiction
  intro hnk
  have hkN:k<N:=by obtain ⟨i,hi,rfl⟩:=hk; exact gx h.bd hi
  have c1:zh N (fun x=>if inB d x then (1:Rat) else 0)=zh d.r (fun _=>1):=by
   rw[h.bd fun x=>if inB d x then (1:Rat) else 0,zS fun j hj=>if_neg (xZ h.bd hj),zy (n:=d.r) (g:=fun _=>1) fun i hi=>if_pos ⟨i,hi,rfl⟩]
   grind
  have c2:zh N (fun x=>if inB e x then (1:Rat) else 0)=zh e.r (fun _=>1):=by
   rw[h.be fun x=>if inB e x then (1:Rat) else 0,zS fun j hj=>if_neg (xZ h.be hj),zy (n:=e.r) (g:=fun _=>1) fun i hi=>if_pos ⟨i,hi,rfl⟩]
   grind
  rw[hr,← c1] at c2
  rw[yJ hkN,yJ (f:=fun x=>if inB d x then (1:Rat) else 0) hkN,if_neg hnk,if_pos hk] at c2
  have:zh N (fun j=>if j=k then 0 else if inB e j then (1:Rat) else 0)≤zh N (fun j=>if j=k then 0 else if inB d j then (1:Rat) else 0):=go fun j _=>by
   by_cases e1:j=k
   ·rw[if_pos e1,if_pos e1]; grind
   ·rw[if_neg e1,if_neg e1]
    by_cases e2:inB e j
    ·rw[if_pos e2,if_pos (hB _ e2)]; grind
    ·rw[if_neg e2]; split<;>grind
  grind
 | succ n ih =>
  intro e h hr hc hn
  by_cases h0:far d e.bas e.r≤n
  ·exact Td (ih e h hr hc h0) (ZX (by omega))
  ·obtain ⟨i,hi,hni⟩:=Jf e.r (by omega:far d e.bas e.r≠0)
   obtain ⟨j,hj,ha,hin⟩:=h.exchange hi hni
   have hS:=h.trans (Same.pivot h.be hi hj ha).symm
   have hfar:=Jh (f:=e.bas) hin hni e.r
   rw[if_pos hi] at hfar
   have:=ih (LP.pivot e i j) hS hr hc (by simp only[LP.pivot]; omega)
   have h2:=Bb (p:=i) (q:=j) (d:=LP.pivot e i j) hi hj this
   rwa [X4 ha] at h2
open Classical in
theorem Jg {d:zo} {f:Nat→Nat}:∀ n,((far d f n:Nat):Rat)=zh n fun i=>if inB d (f i) then 0 else 1
 | 0=>rfl
 | n+1=>by
  have ih:=Jg (d:=d) (f:=f) n
  simp only[far,zh]
  rw[← ih]
  by_cases e:inB d (f n)
  ·rw[if_pos (nI.2 e),if_pos e]; simp; grind
  ·rw[if_neg (fun h=>e (nI.1 h)),if_neg e]; simp
theorem Q9:∀ n,zh n (fun _=>1)=((n:Nat):Rat)
 | 0=>rfl
 | n+1=>by simp only[zh]; rw[Q9 n]; simp
open Classical in
theorem Same.far_c {d e:zo} {N:Nat} (h:Same d e N):far d e.bas e.r≤d.c:=by
 have h1:=Jg (d:=d) (f:=e.bas) e.r
 have h2:zh N (fun k=>if inB d k then (0:Rat) else 1)=zh e.c (fun j=>if inB d (e.fre j) then 0 else 1)+zh e.r (fun i=>if inB d (e.bas i) then 0 else 1):=h.be fun k=>if inB d k then (0:Rat) else 1
 have h3:zh N (fun k=>if inB d k then (0:Rat) else 1)=zh d.c (fun j=>if inB d (d.fre j) then 0 else 1)+zh d.r (fun i=>if inB d (d.bas i) then 0 else 1):=h.bd fun k=>if inB d k then (0:Rat) else 1
 rw[zS (n:=d.r) fun i hi=>if_pos ⟨i,hi,rfl⟩,zy (n:=d.c) (g:=fun _=>1) fun j hj=>if_neg (xZ h.bd hj),Q9] at h3
 have h4:0≤zh e.c (fun j=>if inB d (e.fre j) then (0:Rat) else 1):=by
  have:=go (n:=e.c) (f:=fun _=>(0:Rat)) (g:=fun j=>if inB d (e.fre j) then (0:Rat) else 1) fun j _=>by split<;>grind
  rwa [zS fun _ _=>rfl] at this
 have h5:((far d e.bas e.r:Nat):Rat)≤((d.c:Nat):Rat):=by grind
 exact Rat.natCast_le_natCast.1 h5
theorem Same.size_t {d e:zo} {N K t:Nat} (hs:szD K d) (h:Same d e N) (hr:e.r=d.r) (hc:e.c=d.c) (ht:d.r≤t∨d.c≤t):szD (grow K t) e :=
 Same.size hs t e h hr hc (by
  rcases ht with ht | ht
  ·exact Nat.le_trans (E5 _) (by rw[hr]; exact ht)
  ·exact Nat.le_trans h.far_c ht)
theorem fH (n m:Nat) (g:Nat→Rat):zh (n+m) g=zh n g+zh m (fun i=>g (n+i)):=by
 induction m with
 | zero=>simp only[Nat.add_zero,zh]; grind
 | succ m ih=>rw[← Nat.add_assoc]; simp only[zh]; rw[ih]; grind
section
variable (n m:Nat) (A:Nat→Nat→Rat) (bb gg:Nat→Rat)
def dG:zo:=⟨m,n,A,bb,gg,0,fun i=>n+i,fun j=>j⟩
def dA:zo:=⟨m,n+1,fun i j=>if j<n then A i j else -1,bb,fun j=>if j<n then 0 else -1,0,fun i=>n+i,fun j=>if j<n then j else n+m⟩
def xu (u:Nat→Rat) (k:Nat):Rat:=if k<n then u k else bb (k-n)-zh n fun j=>A (k-n) j*u j
end
section
variable {n m:Nat} {A:Nat→Nat→Rat} {bb gg:Nat→Rat}
theorem EP:Bij (dG n m A bb gg) (n+m):=fun g=>fH n m g
theorem ae9:Bij (dA n m A bb) (n+m+1):=fun g=>by
 simp only[dA,zh]
 rw[fH,if_neg (Nat.lt_irrefl n),zy (n:=n) (f:=fun j=>g (if j<n then j else n+m)) (g:=g) fun i hi=>by rw[if_pos hi]]
 grind
theorem Rd {u:Nat→Rat} {k:Nat} (h:k<n):xu n A bb u k=u k:=if_pos h
theorem PU {u:Nat→Rat} {i:Nat}:xu n A bb u (n+i)=bb i-zh n fun j=>A i j*u j:=by
 unfold xu
 rw[if_neg (by omega),Nat.add_sub_cancel_left]
theorem agu {u:Nat→Rat}:sol (dG n m A bb gg) (xu n A bb u):=by
 intro i hi
 simp only[dG] at hi ⊢
 rw[PU]
 congr 1
 exact zy fun j hj=>by rw[Rd hj]
theorem SJ {x:Nat→Rat} (h:sol (dG n m A bb gg) x) {i:Nat} (hi:i<m):x (n+i)=bb i-zh n fun j=>A i j*x j:=h i hi
theorem Sk {x:Nat→Rat}:obj (dG n m A bb gg) x=zh n fun j=>gg j*x j:=by
 simp only[obj,dG]; grind
theorem Ja {d:zo} (h:Same d (dG n m A bb gg) (n+m)) (u:Nat→Rat):zh n (fun j=>gg j*u j)=d.v+zh n (fun k=>cv d k*u k)+zh m (fun i=>cv d (n+i)*(bb i-zh n fun j=>A i j*u j)):=by
 have h1:=h.obj _ ((h.sol _).2 (agu (u:=u)))
 rw[Sk,Mm h.bd,fH] at h1
 rw[zy (n:=n) (f:=fun j=>gg j*xu n A bb u j) (g:=fun j=>gg j*u j) fun j hj=>by rw[Rd hj],
  zy (n:=n) (f:=fun k=>cv d k*xu n A bb u k) (g:=fun k=>cv d k*u k) fun j hj=>by rw[Rd hj],
  zy (n:=m) (g:=fun i=>cv d (n+i)*(bb i-zh n fun j=>A i j*u j)) fun i hi=>by rw[PU]] at h1
 grind
theorem EU {d:zo} (h:Same d (dG n m A bb gg) (n+m)):zh m (fun i=>-cv d (n+i)*bb i)=d.v:=by
 have h1:=Ja h fun _=>0
 rw[zS fun j _=>by grind,zS (n:=n) (f:=fun k=>cv d k*0) fun j _=>by grind,
  zy (n:=m) (g:=fun i=>cv d (n+i)*bb i) fun i _=>by rw[zS fun j _=>by grind]; grind] at h1
 rw[zy (g:=fun i=>-(cv d (n+i)*bb i)) fun i _=>by grind,lN]
 grind
theorem Ah {d:zo} (h:Same d (dG n m A bb gg) (n+m)) {j:Nat} (hj:j<n):zh m (fun i=>-cv d (n+i)*A i j)=gg j-cv d j:=by
 have h1:=Ja h fun k=>if k=j then 1 else 0
 have h2:=EU h
 rw[wK hj fun i _ hne=>by rw[if_neg hne]; grind,wK (f:=fun k=>cv d k*if k=j then 1 else 0) hj fun i _ hne=>by rw[if_neg hne]; grind,
  zy (n:=m) (g:=fun i=>-(-cv d (n+i)*bb i)+-cv d (n+i)*A i j) fun i _=>by
   rw[wK hj fun l _ hne=>by rw[if_neg hne]; grind]
   rw[if_pos rfl]; grind,Tc,lN] at h1
 simp only[if_true] at h1
 grind
theorem jg {d:zo} {N:Nat} (_hb:Bij d N) (hf:feas d) (k:Nat):0≤vl d k:=by
 refine ti fun i hi=>?_
 split
 ·exact hf i hi
 ·grind
theorem eF {d:zo} (hc:∀ j,j<d.c→d.cst j≤0) (k:Nat):cv d k≤0:=by
 have:0≤zh d.c fun j=>-(if d.fre j=k then d.cst j else 0):=ti fun j hj=>by
  split
  ·have:=hc j hj; grind
  ·grind
 rw[lN] at this
 unfold cv
 grind
theorem Yr {x:Nat→Rat} (h:sol (dG n m A bb gg) x) (hx:∀ k,0≤x k) {i:Nat} (hi:i<m):zh n (fun j=>A i j*x j)≤bb i:=by
 have:=SJ h hi
 have:=hx (n+i)
 grind
structure Opt (n m:Nat) (A:Nat→Nat→Rat) (bb gg:Nat→Rat) (x y:Nat→Rat) (v:Rat):Prop where
 x0:∀ k,0≤x k
 row:∀ i,i<m→zh n (fun j=>A i j*x j)≤bb i
 y0:∀ i,0≤y i
 col:∀ j,j<n→gg j≤zh m (fun i=>y i*A i j)
 vx:zh n (fun j=>gg j*x j)=v
 vy:zh m (fun i=>y i*bb i)=v
theorem afO {d:zo} (h:Same d (dG n m A bb gg) (n+m)) (hf:feas d) (hc:∀ j,j<d.c→d.cst j≤0):Opt n m A bb gg (vl d) (fun i=>-cv d (n+i)) d.v:=by
 have s1:=(h.sol _).1 (fN h.bd)
 refine ⟨jg h.bd hf,fun i hi=>Yr s1 (jg h.bd hf) hi,fun i=>by have:=eF hc (n+i); grind,fun j hj=>?_,?_,EU h⟩
 ·rw[Ah h hj]; have:=eF hc j; grind
 ·have:=h.obj _ (fN h.bd)
  rw[YM h.bd,Sk] at this
  exact this.symm
def dH (d:zo) (q k:Nat):Rat:=zh d.r (fun i=>if d.bas i=k then-d.a i q else 0)+(if d.fre q=k then 1 else 0)
theorem Xj {d:zo} {q k:Nat}:dH d q k=ptq d q 1 k-ptq d q 0 k:=by
 unfold dH ptq
 rw[zy (g:=fun i=>(if d.bas i=k then d.b i-d.a i q*1 else 0)-(if d.bas i=k then d.b i-d.a i q*0 else 0)) fun i _=>by split<;>grind,qC]
 split<;>grind
structure Unb (n m:Nat) (A:Nat→Nat→Rat) (bb gg:Nat→Rat) (x ray:Nat→Rat):Prop where
 x0:∀ k,0≤x k
 row:∀ i,i<m→zh n (fun j=>A i j*x j)≤bb i
 r0:∀ k,0≤ray k
 rr:∀ i,i<m→zh n (fun j=>A i j*ray j)≤0
 up:0<zh n (fun j=>gg j*ray j)
theorem agr {d:zo} (h:Same d (dG n m A bb gg) (n+m)) (hf:feas d) {q:Nat} (hq:q<d.c) (hc:0<d.cst q) (ha:∀ i,i<d.r→d.a i q≤0):Unb n m A bb gg (vl d) (dH d q):=by
 have s0:=(h.sol _).1 (fN h.bd)
 have s1:=(h.sol _).1 (pg h.bd hq (y:=1))
 have s2:=(h.sol _).1 (pg h.bd hq (y:=0))
 have r0:∀ k,0≤dH d q k:=fun k=>by
  unfold dH
  have:0≤zh d.r (fun i=>if d.bas i=k then-d.a i q else 0):=ti fun i hi=>by
   split
   ·have:=ha i hi; grind
   ·grind
  split<;>grind
 refine ⟨jg h.bd hf,fun i hi=>Yr s0 (jg h.bd hf) hi,r0,fun i hi=>?_,?_⟩
 ·have e1:=SJ s1 hi
  have e2:=SJ s2 hi
  have e3:=r0 (n+i)
  rw[Xj,e1,e2] at e3
  rw[zy (g:=fun j=>A i j*ptq d q 1 j-A i j*ptq d q 0 j) fun j _=>by rw[Xj]; grind,qC]
  grind
 ·have e1:=h.obj _ (pg h.bd hq (y:=1))
  have e2:=h.obj _ (pg h.bd hq (y:=0))
  rw[Xd h.bd hq,Sk] at e1 e2
  rw[zy (g:=fun j=>gg j*ptq d q 1 j-gg j*ptq d q 0 j) fun j _=>by rw[Xj]; grind,qC]
  grind
theorem agd {x:Nat→Rat} (h:sol (dA n m A bb) x) {i:Nat} (hi:i<m):x (n+i)=bb i-zh n (fun j=>A i j*x j)+x (n+m):=by
 have:=h i hi
 simp only[dA,zh] at this
 rw[if_neg (Nat.lt_irrefl n),if_neg (Nat.lt_irrefl n),zy (n:=n) (g:=fun j=>A i j*x j) fun j hj=>by rw[if_pos hj,if_pos hj]] at this
 grind
theorem RW {x:Nat→Rat} (h:∀ i,i<m→x (n+i)=bb i-zh n (fun j=>A i j*x j)+x (n+m)):sol (dA n m A bb) x:=by
 intro i hi
 have:=h i hi
 simp only[dA,zh]
 rw[if_neg (Nat.lt_irrefl n),if_neg (Nat.lt_irrefl n),zy (n:=n) (g:=fun j=>A i j*x j) fun j hj=>by rw[if_pos hj,if_pos hj]]
 grind
theorem DN {x:Nat→Rat}:obj (dA n m A bb) x=- x (n+m):=by
 simp only[obj,dA,zh]
 rw[if_neg (Nat.lt_irrefl n),if_neg (Nat.lt_irrefl n),zS fun j hj=>by rw[if_pos hj]; grind]
 grind
structure Inf (n m:Nat) (A:Nat→Nat→Rat) (bb:Nat→Rat) (y:Nat→Rat):Prop where
 y0:∀ i,0≤y i
 col:∀ j,j<n→0≤zh m (fun i=>y i*A i j)
 vy:zh m (fun i=>y i*bb i)<0
theorem afv {d:zo} (h:Same d (dA n m A bb) (n+m+1)) (hc:∀ j,j<d.c→d.cst j≤0) (hv:d.v<0):Inf n m A bb (fun i=>-cv d (n+i)):=by
 have key:∀ u:Nat→Rat,0=d.v+zh n (fun k=>cv d k*u k)+zh m (fun i=>cv d (n+i)*(bb i-zh n fun j=>A i j*u j)):=fun u=>by
  have hx:∀ i,i<m→(fun k=>if k=n+m then 0 else xu n A bb u k) (n+i)=bb i-zh n (fun j=>A i j*(fun k=>if k=n+m then 0 else xu n A bb u k) j)+(fun k=>if k=n+m then 0 else xu n A bb u k) (n+m):=fun i hi=>by
   simp only[if_true]
   rw[if_neg (by omega),PU,zy (n:=n) (f:=fun j=>A i j*if j=n+m then 0 else xu n A bb u j) (g:=fun j=>A i j*u j) fun j hj=>by rw[if_neg (by omega),Rd hj]]
   grind
  have h1:=h.obj _ ((h.sol _).2 (RW (x:=fun k=>if k=n+m then 0 else xu n A bb u k) hx))
  rw[DN,Mm h.bd] at h1
  simp only[zh,if_true] at h1
  rw[fH,zy (n:=n) (f:=fun k=>cv d k*if k=n+m then 0 else xu n A bb u k) (g:=fun k=>cv d k*u k) fun j hj=>by rw[if_neg (by omega),Rd hj],
   zy (n:=m) (g:=fun i=>cv d (n+i)*(bb i-zh n fun j=>A i j*u j)) fun i hi=>by rw[if_neg (by omega),PU]] at h1
  grind
 have hvy:zh m (fun i=>-cv d (n+i)*bb i)=d.v:=by
  have h1:=key fun _=>0
  rw[zS (n:=n) (f:=fun k=>cv d k*0) fun j _=>by grind,
   zy (n:=m) (g:=fun i=>cv d (n+i)*bb i) fun i _=>by rw[zS fun j _=>by grind]; grind] at h1
  rw[zy (g:=fun i=>-(cv d (n+i)*bb i)) fun i _=>by grind,lN]
  grind
 refine ⟨fun i=>by have:=eF hc (n+i); grind,fun j hj=>?_,by rw[hvy]; exact hv⟩
 have h1:=key fun k=>if k=j then 1 else 0
 rw[wK (f:=fun k=>cv d k*if k=j then 1 else 0) hj fun i _ hne=>by rw[if_neg hne]; grind,
  zy (n:=m) (g:=fun i=>-(-cv d (n+i)*bb i)+-cv d (n+i)*A i j) fun i _=>by
   rw[wK hj fun l _ hne=>by rw[if_neg hne]; grind]
   rw[if_pos rfl]; grind,Tc,lN] at h1
 simp only[if_true] at h1
 have:=eF hc j
 grind
theorem wQ {x y:Nat→Rat} (hx:∀ j,j<n→0≤x j) (hr:∀ i,i<m→zh n (fun j=>A i j*x j)≤bb i) (hy:∀ i,i<m→0≤y i) (hc:∀ j,j<n→gg j≤zh m (fun i=>y i*A i j)) :
  zh n (fun j=>gg j*x j)≤zh m (fun i=>y i*bb i):=by
 have h1:zh n (fun j=>gg j*x j)≤zh n (fun j=>zh m (fun i=>y i*A i j)*x j):=go fun j hj=>by
  have:=Rat.mul_nonneg (show 0≤zh m (fun i=>y i*A i j)-gg j by have:=hc j hj; grind) (hx j hj)
  grind
 have h2:zh m (fun i=>y i*zh n (fun j=>A i j*x j))≤zh m (fun i=>y i*bb i):=go fun i hi=>by
  have:=Rat.mul_nonneg (hy i hi) (show 0≤bb i-zh n (fun j=>A i j*x j) by have:=hr i hi; grind)
  grind
 have h3:zh n (fun j=>zh m (fun i=>y i*A i j)*x j)=zh m (fun i=>y i*zh n (fun j=>A i j*x j)):=by
  rw[zy (n:=n) (g:=fun j=>zh m (fun i=>y i*A i j*x j)) fun j _=>by rw[de],YD]
  exact zy fun i _=>by rw[← fI]; exact zy fun j _=>by grind
 grind
end
end Go.LP

namespace Go.Proofs.YtjeoklgggppjiaaGreat
open Go Go.Am Go.Dig Go.LP
theorem Ds {K x:Nat} (h:x≤2^K):(zf x).length≤K/32+1:=zE.2 (by
 have:B^(K/32+1)=2^(32*(K/32+1)):=by rw[show B=2^32 from rfl,← Nat.pow_mul]
 rw[this]
 exact Nat.lt_of_le_of_lt h (Nat.pow_lt_pow_right (by omega) (by omega)))
theorem vX {K:Nat} {q:Rat} (h:sz K q):(zf q.num.natAbs).length≤K/32+1∧(zf q.den).length≤K/32+1:=⟨Ds h.1,Ds h.2⟩
theorem af8 (s:Bool) (N:Nat):sg (!s) N=-sg s N:=by cases s<;>simp[sg]
theorem Ux (q:Rat):mkRat (sg (decide (q.num<0)) q.num.natAbs) q.den=q:=by rw[mO,Rat.mkRat_self]
theorem adi (q:Rat):xC (!decide (q.num<0)) q.num.natAbs q.den=yr (-q):=by
 rw[qp q.den_nz,af8,← Rat.neg_mkRat,Ux]
theorem acK (p q:Rat) (h:q≠0):xC (!(decide (p.num<0) == decide (q.num<0))) (p.num.natAbs*q.den) (p.den*q.num.natAbs)=yr (p/q):=by
 have hq:q.num.natAbs≠0:=fun e=>h (Rat.num_eq_zero.1 (by omega))
 have hd:p.den*q.num.natAbs≠0:=Nat.mul_ne_zero p.den_nz hq
 rw[qp hd]
 congr 1
 have e1:=mO p.num
 have e2:=mO q.num
 have e3:=Ux p
 have e4:=Ux q
 have hx:p/q=mkRat (sg (decide (p.num<0)) p.num.natAbs) p.den*(Rat.divInt (q.den:Int) (sg (decide (q.num<0)) q.num.natAbs)):=by
  rw[e3,e2,Rat.div_def,Rat.inv_def]
 rw[hx]
 generalize p.num.natAbs=x at *
 generalize q.num.natAbs=y at *
 generalize decide (p.num<0)=s at *
 generalize decide (q.num<0)=t at *
 have hy:(y:Int)≠0:=by omega
 cases t
 ·have:Rat.divInt (q.den:Int) (sg false y)=mkRat q.den y:=rfl
  rw[this,Rat.mkRat_mul_mkRat]
  congr 1
  cases s<;>simp[sg,Int.neg_mul]
 ·have:Rat.divInt (q.den:Int) (sg true y)=mkRat (-q.den) y:=by
   rw[show sg true y=-(y:Int) from rfl,Rat.divInt_neg']; rfl
  rw[this,Rat.mkRat_mul_mkRat]
  congr 1
  cases s<;>simp[sg,Int.neg_mul,Int.mul_neg]
section
variable {K:Nat} {p q:Rat} (hK:K≤137438953472) (hp:sz K p) (hq:sz K q)
include hK hp
theorem Mf:zd Tryz.prog qH [yr p] (yr (-p)):=by
 have h1:=vX hp
 rw[← adi]
 exact DL (by omega) (by omega) p.den_nz
include hq
theorem AU:zd Tryz.prog wM [yr p,yr q] (yr (p*q)):=by
 have h1:=vX hp
 have h2:=vX hq
 rw[← JB]
 exact G1 (by omega) (by omega) (by omega) (by omega) p.den_nz q.den_nz
theorem P0:zd Tryz.prog tp [yr p,yr q] (yr (p+q)):=by
 have h1:=vX hp
 have h2:=vX hq
 rw[← KF]
 exact Gg (by omega) (by omega) (by omega) (by omega) p.den_nz q.den_nz
theorem abt:zd Tryz.prog j7 [yr p,yr q] (yr (p-q)):=by
 have k1:=Mf hK hq
 have k2:=P0 hK hp (mV hq)
 rw[Rat.sub_eq_add_neg]
 obtain ⟨a,ha⟩:∃ a,a=p+-q:=⟨_,rfl⟩
 obtain ⟨b,hb⟩:∃ b,b=-q:=⟨_,rfl⟩
 rw[← ha] at k2 ⊢
 rw[← hb] at k1 k2
 refine zt aeo (by simp) ?_
 simp[KN]
 refine za k1 (by simp) (by simp) ?_
 simp
 refine za k2 (by simp) (by simp) ?_
 simp[JK]
theorem Ac (h:q≠0):zd Tryz.prog j6 [yr p,yr q] (.tuple [yr (p/q),iv 0]):=by
 have h1:=vX hp
 have h2:=vX hq
 have hq0:q.num.natAbs≠0:=fun e=>h (Rat.num_eq_zero.1 (by omega))
 rw[← acK p q h]
 have l1:=vH h1.1 h2.2
 have l2:=vH h1.2 h2.1
 have k1:=qv (m1:=.plain) (m2:=.plain) (zx p.num.natAbs) (zx q.den) (by omega) (by omega) (by omega) rfl rfl
 have k2:=qv (m1:=.plain) (m2:=.plain) (zx p.den) (zx q.num.natAbs) (by omega) (by omega) (by omega) rfl rfl
 simp only[zK] at k1 k2
 have k:=Sf (neg:=!(decide (p.num<0) == decide (q.num<0))) (N:=p.num.natAbs*q.den) (D:=p.den*q.num.natAbs) (by omega) (by omega) (Nat.mul_ne_zero p.den_nz hq0)
 unfold yr
 generalize p.num.natAbs=a at *
 generalize q.num.natAbs=b at *
 generalize decide (p.num<0)=s at *
 generalize decide (q.num<0)=t at *
 unfold xC at *
 generalize a*q.den/Nat.gcd (a*q.den) (p.den*b)=x at *
 generalize p.den*b/Nat.gcd (a*q.den) (p.den*b)=y at *
 refine zt aek (by simp) ?_
 simp[KJ,xJ ud]
 refine za k1 (by simp) (by simp) ?_
 simp
 refine za k2 (by simp) (by simp) ?_
 simp
 refine za k (by simp) (by simp) ?_
 simp[JG]
end
def xY (p q:Rat):Int:=if p<q then -1 else if q<p then 1 else 0
def xN (q:Rat):Int:=if q=0 then 0 else if q<0 then -1 else 1
theorem ke {q:Rat}:q.num<0↔q<0:=by
 have:=Rat.lt_iff q 0
 simpa using this.symm
theorem acx (p q:Rat):xY p q=if p.num*q.den<q.num*p.den then -1 else if q.num*p.den<p.num*q.den then 1 else 0:=by
 unfold xY
 simp only[Rat.lt_iff]
theorem acy (p q:Rat):(if decide (p.num<0)=decide (q.num<0) then (if decide (p.num<0)=true then yV (q.num.natAbs*p.den) (p.num.natAbs*q.den) else yV (p.num.natAbs*q.den) (q.num.natAbs*p.den))
  else if decide (p.num<0)=true then -1 else 1)=xY p q:=by
 have d1:(0:Int)<p.den:=by have:=p.den_pos; omega
 have d2:(0:Int)<q.den:=by have:=q.den_pos; omega
 rw[acx]
 unfold yV
 have a1:((p.num.natAbs*q.den:Nat):Int)=(p.num.natAbs:Int)*q.den:=Int.natCast_mul _ _
 have a2:((q.num.natAbs*p.den:Nat):Int)=(q.num.natAbs:Int)*p.den:=Int.natCast_mul _ _
 by_cases h1:p.num<0<;>by_cases h2:q.num<0
 ·have e1:(p.num.natAbs:Int)=-p.num:=by omega
  have e2:(q.num.natAbs:Int)=-q.num:=by omega
  rw[e1,Int.neg_mul] at a1
  rw[e2,Int.neg_mul] at a2
  simp only[h1,h2,if_true,decide_true]
  generalize p.num*q.den=x at *
  generalize q.num*p.den=y at *
  repeat' split
  all_goals first | rfl | omega
 ·have m1:p.num*q.den<0:=Int.mul_neg_of_neg_of_pos h1 d2
  have m2:0≤q.num*p.den:=Int.mul_nonneg (by omega) (by omega)
  simp only[h1,h2,decide_true,decide_false,Bool.true_eq_false,if_false,if_true]
  rw[if_pos (by omega)]
 ·have m1:0≤p.num*q.den:=Int.mul_nonneg (by omega) (by omega)
  have m2:q.num*p.den<0:=Int.mul_neg_of_neg_of_pos h2 d1
  simp only[h1,h2,decide_true,decide_false,Bool.false_eq_true,if_false]
  rw[if_neg (by omega),if_pos (by omega)]
 ·have e1:(p.num.natAbs:Int)=p.num:=by omega
  have e2:(q.num.natAbs:Int)=q.num:=by omega
  rw[e1] at a1
  rw[e2] at a2
  simp only[h1,h2,decide_false,if_true,Bool.false_eq_true,if_false]
  generalize p.num*q.den=x at *
  generalize q.num*p.den=y at *
  repeat' split
  all_goals first | rfl | omega
theorem CF {q:Rat}:zd Tryz.prog wV [yr q] (iv (xN q)):=by
 unfold xN yr
 refine zt aby (by simp) ?_
 by_cases h0:q=0
 ·subst h0
  simp[c6,af,yl]
 ·have hn:q.num.natAbs≠0:=fun e=>h0 (Rat.num_eq_zero.1 (by omega))
  have hl0:¬ zf q.num.natAbs=[]:=by rw[yD]; exact hn
  have hl:¬ (zf q.num.natAbs).length=0:=by rw[List.length_eq_zero_iff]; exact hl0
  have hli:¬ ((zf q.num.natAbs).length:Int)=0:=by omega
  by_cases h1:q<0
  ·have h2:=ke.2 h1
   simp[c6,af,h0,h1,hl,h2]
  ·have h2:¬ q.num<0:=fun h=>h1 (ke.1 h)
   simp[c6,af,h0,h1,hl,h2]
theorem B2 {K:Nat} {p q:Rat} (hK:K≤137438953472) (hp:sz K p) (hq:sz K q):zd Tryz.prog s8 [yr p,yr q] (iv (xY p q)):=by
 have h1:=vX hp
 have h2:=vX hq
 rw[← acy]
 have l1:=vH h1.1 h2.2
 have l2:=vH h2.1 h1.2
 have kx:=XS (s:=decide (p.num<0)) (t:=decide (q.num<0)) (N:=p.num.natAbs) (D:=p.den) (M:=q.num.natAbs) (E:=q.den) (by omega) (by omega) (by omega) (by omega)
 have k1:=kQ (m1:=.plain) (m2:=.plain) (zx (p.num.natAbs*q.den)) (zx (q.num.natAbs*p.den)) (by omega) (by omega)
 have k2:=kQ (m1:=.plain) (m2:=.plain) (zx (q.num.natAbs*p.den)) (zx (p.num.natAbs*q.den)) (by omega) (by omega)
 simp only[zK] at k1 k2
 unfold yr
 generalize p.num.natAbs*q.den=x at *
 generalize q.num.natAbs*p.den=y at *
 generalize decide (p.num<0)=s at *
 generalize decide (q.num<0)=t at *
 refine zt aej (by simp) ?_
 by_cases hst:s=t
 ·have e:(s == t)=true:=by simp[hst]
  rw[if_pos hst]
  simp[Rn,xJ ud,e]
  refine za kx (by simp) (by simp) ?_
  cases s
  ·simp
   refine za k1 (by simp) (by simp) ?_
   simp[Xf]
  ·simp
   refine za k2 (by simp) (by simp) ?_
   simp[Xf]
 ·have e:(s == t)=false:=by simp[hst]
  rw[if_neg hst]
  cases s<;>simp[Rn,xJ ud,e,Xf]
def vfr (s:Bool) (a c:List Nat):Bool :=
 decide (a=zf (val a))&&decide (c=zf (val c))&&!decide (c=[])&&!(s&&decide (a=[]))&&(Nat.gcd (val a) (val c) == 1)
theorem Lz (q:Rat):vfr (decide (q.num<0)) (zf q.num.natAbs) (zf q.den)=true:=by
 have h1:¬ q.den=0:=q.den_nz
 have h2:Nat.gcd q.num.natAbs q.den=1:=q.reduced
 have h3:¬ (q.num<0∧q.num.natAbs=0):=by omega
 simp only[vfr,zK,yD,h1,h2,beq_self_eq_true,decide_true,Bool.true_and,Bool.and_true,decide_false,Bool.not_false,Bool.not_eq_true',Bool.and_eq_false_iff,decide_eq_false_iff_not]
 by_cases hn:q.num<0
 ·right; omega
 ·left; exact hn
theorem aeP {s:Bool} {a c:List Nat} (h:vfr s a c=true):∃ q:Rat,s=decide (q.num<0)∧a=zf q.num.natAbs∧c=zf q.den:=by
 simp only[vfr,Bool.and_eq_true,beq_iff_eq,decide_eq_true_eq,Bool.not_eq_true',decide_eq_false_iff_not,Bool.and_eq_false_iff] at h
 obtain ⟨⟨⟨⟨h1,h2⟩,h3⟩,h4⟩,h5⟩:=h
 have hc:val c≠0:=fun e=>h3 (by rw[h2,e,yl])
 have hs:(sg s (val a)).natAbs=val a:=by unfold sg; split<;>omega
 refine ⟨⟨sg s (val a),val c,hc,by rw[hs]; exact h5⟩,?_,?_,h2⟩
 ·show s=decide (sg s (val a)<0)
  cases s
  ·simp[sg]
  ·have:val a≠0:=fun e=>by
    rcases h4 with h4 | h4
    ·cases h4
    ·exact h4 (by rw[h1,e,yl])
   simp[sg]; omega
 ·show a=zf (sg s (val a)).natAbs
  rw[hs]; exact h1
theorem aff {ox oy:Operand} {s b:Bool} {K:AV→Option ze→Prop} :
  yd Tryz.prog .eql uN ox oy [.agg [bv s,bv b],.agg [bv true,bv true]] K=K (bv (s&&b)) none:=by
 rw[NB UF UA Ul (xs:=[.bool s,.bool b]) (ys:=[.bool true,.bool true]) rfl rfl rfl rfl]
 cases s<;>cases b<;>rfl
theorem Eb {s:Bool} {a c:List Nat} {m1 m2:Am.Mode} (ha:ok a) (hc:ok c) (hna:a.length<17179869184) (hnc:c.length<17179869184) (f1:stm m1=m1) (f2:stm m2=m2) :
  zd Tryz.prog v5 [.agg [bv s,nl m1 a,nl m2 c]] (bv (vfr s a c)):=by
 have k1:=Uh (m:=m1) ha (by omega)
 have k2:=Uh (m:=m2) hc (by omega)
 have kg:=QD (m1:=m1) (m2:=m2) ha hc (by omega) (by omega) f1 f2
 have kf:=qV (x:=1) (by decide)
 have hvc:c≠[]→c=zf (val c)→val c≠0:=fun h e h0=>h (by rw[e,h0,yl])
 have hgl:c≠[]→c=zf (val c)→(zf (Nat.gcd (val a) (val c))).length<17179869184:=fun h e=>by
  have h1:val c<B^c.length:=by
   have:=zE (x:=val c) (n:=c.length)
   rw[← this,← e]; exact Nat.le_refl _
  exact Nat.lt_of_le_of_lt (zE.2 (Nat.lt_of_le_of_lt (Nat.gcd_le_right _ (Nat.pos_of_ne_zero (hvc h e))) h1)) hnc
 have kc:(zf (Nat.gcd (val a) (val c))).length<17179869184→zd Tryz.prog nG [nD (Nat.gcd (val a) (val c)),nD 1] (iv (yV (Nat.gcd (val a) (val c)) 1)):=fun h=>by
  have:=kQ (m1:=.plain) (m2:=.plain) (zx (Nat.gcd (val a) (val c))) (zx 1) (by omega) (by rw[show zf 1=[1] by decide +kernel]; decide)
  simp only[zK] at this
  exact this
 unfold vfr
 generalize Nat.gcd (val a) (val c)=g at *
 generalize val a=x at *
 generalize hy:val c=y at *
 have hkk:zd Tryz.prog cQ [.agg [bv s,nl m1 a,nl m2 c]] (.agg [bv s,bv (decide (a=[]))]):=by
  refine zt F4 (by simp) ?_
  simp[TA,Sr]
 have hcl:c=[]→c.length=0:=fun h=>by rw[h]; rfl
 have hcl':c≠[]→¬ c.length=0:=fun h h'=>h (List.length_eq_zero_iff.1 h')
 generalize d1:decide (a=zf x)=b1 at *
 generalize d2:decide (c=zf y)=b2 at *
 refine zt Bf (by simp) ?_
 simp[Qn]
 refine za k1 (by simp[f1]) (by simp) ?_
 cases b1
 ·simp[k8]
 simp
 refine za k2 (by simp[f2]) (by simp) ?_
 cases b2
 ·simp[k8]
 by_cases e3:c=[]
 ·simp[e3,k8]
 simp[e3]
 refine za hkk (by simp[f1,f2]) (by simp) ?_
 have hg:=hgl e3 (of_decide_eq_true d2)
 have hfin:decide (yV g 1=0)=(g == 1):=by
  have h2:yV g 1=0↔g=1:=by unfold yV; split<;>(try split)<;>omega
  simp only[h2]
  by_cases h1:g=1<;>simp[h1]
 generalize decide (a=[])=z at *
 cases s<;>cases z
 all_goals simp[aff,k8]
 all_goals
  refine za kg (by simp[f1,f2]) (by simp) ?_
  simp
  refine za kf (by simp) (by simp) ?_
  simp
  refine za (kc hg) (by simp) (by simp) ?_
  simp[← hfin]
theorem AY (q:Rat):frA (!decide (q.num<0)&&decide (q.num.natAbs≠0)) q.num.natAbs q.den=yr (-q):=by
 unfold yr
 rw[Rat.neg_num,Rat.neg_den,Int.natAbs_neg]
 have:(!decide (q.num<0)&&decide (q.num.natAbs≠0))=decide (-q.num<0):=by
  by_cases h:q.num<0
  ·have h2:¬ -q.num<0:=by omega
   simp[h]; omega
  ·by_cases h0:q.num.natAbs=0
   ·have h2:¬ -q.num<0:=by omega
    simp[h0]; omega
   ·have h2:-q.num<0:=by omega
    simp[h,h0]; omega
 rw[this]
theorem NS {n:Int} (h1:-9223372036854775808≤n) (h2:n<9223372036854775808):zd Tryz.prog yU [iv n] (yr n):=by
 rw[← Jm]; exact LX h1 h2
theorem B1 (p q:Rat):xN (p-q)=xY p q:=by
 unfold xN xY
 by_cases h1:p<q
 ·have:¬ p-q=0:=by grind
  have h2:p-q<0:=by grind
  simp[h1,this,h2]
 ·by_cases h3:q<p
  ·have:¬ p-q=0:=by grind
   have h2:¬ p-q<0:=by grind
   simp[h1,h3,this,h2]
  ·have:p-q=0:=by grind
   simp[h1,h3,this]
theorem Q3 {q:Rat}:zd Tryz.prog nh [yr q] (iv (xN q)):=by
 unfold xN yr
 refine zt abE (by simp) ?_
 by_cases h0:q=0
 ·subst h0
  simp[bg,ai,yl]
 ·have hn:q.num.natAbs≠0:=fun e=>h0 (Rat.num_eq_zero.1 (by omega))
  have hl0:¬ zf q.num.natAbs=[]:=by rw[yD]; exact hn
  have hl:¬ (zf q.num.natAbs).length=0:=by rw[List.length_eq_zero_iff]; exact hl0
  have hli:¬ ((zf q.num.natAbs).length:Int)=0:=by omega
  by_cases h1:q<0
  ·have h2:=ke.2 h1
   simp[bg,ai,h0,h1,h2]
  ·have h2:¬ q.num<0:=fun h=>h1 (ke.1 h)
   simp[bg,ai,h0,h1,hl,h2]
section
variable {K:Nat} {p q:Rat} (hK:K≤137438953472) (hp:sz K p) (hq:sz K q)
include hK hp
theorem Mh:zd Tryz.prog ga [yr p] (yr (-p)):=by
 have h1:=vX hp
 rw[← AY]
 exact adj (by omega) (by omega)
include hq
theorem AW:zd Tryz.prog j9 [yr p,yr q] (yr (p*q)):=by
 have h1:=vX hp
 have h2:=vX hq
 rw[← JB]
 exact AT (by omega) (by omega) (by omega) (by omega) p.den_nz q.den_nz
theorem P2:zd Tryz.prog nH [yr p,yr q] (yr (p+q)):=by
 have h1:=vX hp
 have h2:=vX hq
 rw[← KF]
 exact BB (by omega) (by omega) (by omega) (by omega) p.den_nz q.den_nz
theorem abu:zd Tryz.prog Rh [yr p,yr q] (yr (p-q)):=by
 have k1:=Mh hK hq
 have k2:=P2 hK hp (mV hq)
 rw[Rat.sub_eq_add_neg]
 obtain ⟨a,ha⟩:∃ a,a=p+-q:=⟨_,rfl⟩
 obtain ⟨b,hb⟩:∃ b,b=-q:=⟨_,rfl⟩
 rw[← ha] at k2 ⊢
 rw[← hb] at k1 k2
 refine zt aeA (by simp) ?_
 simp[KX]
 refine za k1 (by simp) (by simp) ?_
 simp
 refine za k2 (by simp) (by simp) ?_
 simp[JR]
theorem B3:zd Tryz.prog dP [yr p,yr q] (iv (xY p q)):=by
 have k1:=abu hK hp hq
 have k2:=Q3 (q:=p-q)
 rw[B1] at k2
 generalize xY p q=c at *
 obtain ⟨a,ha⟩:∃ a,a=p-q:=⟨_,rfl⟩
 rw[← ha] at k1 k2
 refine zt aew (by simp) ?_
 simp[KU]
 refine za k1 (by simp) (by simp) ?_
 simp
 refine za k2 (by simp) (by simp) ?_
 simp[JO]
end
theorem Us:zf 1=[1]:=by decide +kernel
theorem Ec {s:Bool} {a c:List Nat} {m1 m2:Am.Mode} (ha:ok a) (hc:ok c) (hna:a.length<17179869184) (hnc:c.length<17179869184) (f1:stm m1=m1) (f2:stm m2=m2) :
  zd Tryz.prog fU [.agg [bv s,nl m1 a,nl m2 c]] (bv (vfr s a c)):=by
 have k1:=Pg (m:=m1) ha (by omega)
 have k2:=Pg (m:=m2) hc (by omega)
 have kg:a=zf (val a)→c=zf (val c)→zd Tryz.prog dQ [nl m1 a,nl m2 c] (nD (Nat.gcd (val a) (val c))):=fun h1 h2=>by
  have:=Ji (A:=val a) (D:=val c) (by rw[← h1]; omega) (by rw[← h2]; omega)
  unfold nD at this
  rw[← h1,← h2] at this
  exact fb (Z0 this (Z1 f1)) (Z1 f2)
 have ha0:a=[]→val a=0:=fun h=>by rw[h]; rfl
 have hc1:c=zf (val c)→((val c == 1)=decide (c=[1])):=fun h=>by
  by_cases h1:val c=1
  ·rw[h1,Us] at h; rw[h1,decide_eq_true h]; rfl
  ·have:¬ c=[1]:=fun e=>h1 (by rw[e]; rfl)
   simp[h1,this]
 have hgd:∀ g,(g == 1)=decide (zf g=[1]):=fun g=>by
  by_cases h1:g=1
  ·subst h1; simp[Us]
  ·have:¬ zf g=[1]:=fun e=>h1 (bz (by rw[e,Us]))
   simp[h1,this]
 have hone:∀ l:List Nat,(decide (l=[1]))=(decide (l.length=1)&&decide (l[0]?=some 1)):=fun l=>by
  match l with
  | []=>rfl
  | [z]=>simp
  | _::_::_=>simp
 unfold vfr
 generalize hx:val a=x at *
 generalize hy:val c=y at *
 generalize hg:Nat.gcd x y=g at *
 have hcl':c≠[]→¬ c.length=0:=fun h h'=>h (List.length_eq_zero_iff.1 h')
 generalize d1:decide (a=zf x)=b1 at *
 generalize d2:decide (c=zf y)=b2 at *
 refine zt Bk (by simp) ?_
 simp[Qs]
 refine za k1 (by simp[f1]) (by simp) ?_
 cases b1
 ·simp[wO]
 simp
 refine za k2 (by simp[f2]) (by simp) ?_
 cases b2
 ·simp[wO]
 by_cases e3:c=[]
 ·simp[e3,wO]
 by_cases e4:a=[]
 ·have hx0:=ha0 e4
  rw[hx0,Nat.gcd_zero_left] at hg
  have hg1:=hc1 (of_decide_eq_true d2)
  rw[hg] at hg1
  rw[hg1]
  match c,e3 with
  | [z],_ =>
   cases s
   ·by_cases hz:z=1
    ·subst hz; simp[e4,wO]
    ·have hz':¬ (z:Int)=1:=by omega
     simp[e4,hz,hz',wO]
   ·simp[e4,wO]
  | z::z2::l,_ =>
   have hl:¬ ((l.length:Int)+1+1=1):=by omega
   have hl2:¬ ((l.length:Int)+1+1=0):=by omega
   cases s<;>simp[e4,hl,hl2,wO]
 ·have kg':=kg (of_decide_eq_true d1) (of_decide_eq_true d2)
  rw[hgd g]
  have hl0:¬ (a.length:Int)=0:=by
   have:a.length≠0:=fun h=>e4 (List.length_eq_zero_iff.1 h)
   omega
  simp[e3,e4]
  refine za kg' (by simp[f1,f2]) (by simp) ?_
  match hl:zf g with
  | []=>simp[hl,wO]
  | [z] =>
   by_cases hz:z=1
   ·subst hz; simp[hl,wO]
   ·have hz':¬ (z:Int)=1:=by omega
    simp[hl,hz,hz',wO]
  | z::z2::l =>
   have hl2:¬ ((l.length:Int)+1+1=1):=by omega
   simp[hl,hl2,wO]
section
variable {K:Nat} {p q:Rat}
theorem qy:zd Tryz.prog wV [fq q] (iv (xN q)):=by rw[← vG]; exact CF
theorem eL {n:Int} (h1:-9223372036854775808≤n) (h2:n<9223372036854775808):zd Tryz.prog yU [iv n] (fq n):=by rw[← vG]; exact NS h1 h2
theorem af9:zd Tryz.prog nh [fq q] (iv (xN q)):=by rw[← vG]; exact Q3
variable (hK:K≤137438953472) (hp:sz K p) (hq:sz K q)
include hK hp
theorem Sh:zd Tryz.prog qH [fq p] (fq (-p)):=by simp only[← vG]; exact Mf hK hp
theorem akO:zd Tryz.prog ga [fq p] (fq (-p)):=by simp only[← vG]; exact Mh hK hp
include hq
theorem mG:zd Tryz.prog wM [fq p,fq q] (fq (p*q)):=by simp only[← vG]; exact AU hK hp hq
theorem YU:zd Tryz.prog tp [fq p,fq q] (fq (p+q)):=by simp only[← vG]; exact P0 hK hp hq
theorem F1:zd Tryz.prog j7 [fq p,fq q] (fq (p-q)):=by simp only[← vG]; exact abt hK hp hq
theorem ag6:zd Tryz.prog j9 [fq p,fq q] (fq (p*q)):=by simp only[← vG]; exact AW hK hp hq
theorem agC:zd Tryz.prog nH [fq p,fq q] (fq (p+q)):=by simp only[← vG]; exact P2 hK hp hq
theorem abO (h:q≠0):zd Tryz.prog j6 [fq p,fq q] (.tuple [fq (p/q),iv 0]):=by simp only[← vG]; exact Ac hK hp hq h
theorem bt:zd Tryz.prog s8 [fq p,fq q] (iv (xY p q)):=by simp only[← vG]; exact B2 hK hp hq
theorem aki:zd Tryz.prog dP [fq p,fq q] (iv (xY p q)):=by simp only[← vG]; exact B3 hK hp hq
end
noncomputable def fZ (f:Nat→Rat) (k n:Nat):List (List AV):=(List.range n).map fun j=>if j<k then fr (f j) else zz
noncomputable def fR (f:Nat→Rat) (n:Nat):List (List AV):=(List.range n).map fun j=>fr (f j)
noncomputable abbrev fL (f:Nat→Rat) (n:Nat):AV:=.list 3 .plain (fR f n)
@[simp] theorem TX {f:Nat→Rat} {n:Nat}:(fR f n).length=n:=by simp[fR]
@[simp] theorem afg {f:Nat→Rat} {k n:Nat}:(fZ f k n).length=n:=by simp[fZ]
theorem cd {f:Nat→Rat} {n i:Nat} (h:i<n):(fR f n)[i]?=some (fr (f i)):=by simp[fR,h]
theorem NL {f:Nat→Rat} {k n i:Nat} (h:i<n) (hk:i<k):(fZ f k n)[i]?=some (fr (f i)):=by simp[fZ,h,hk]
theorem Rx {f:Nat→Rat} {k n i:Nat} (h:i<n) (hk:¬ i<k):(fZ f k n)[i]?=some zz:=by simp[fZ,h,hk]
@[simp] theorem aiW {f:Nat→Rat} {n i:Nat} {h:i<(fR f n).length}:(fR f n)[i]=fr (f i):=by simp[fR]
@[simp] theorem aiY {f:Nat→Rat} {n k:Nat} {h:k<(fZ f k n).length}:(fZ f k n)[k]=zz:=by simp[fZ]
theorem wh {f g:Nat→Rat} {n:Nat} (h:∀ i,i<n→f i=g i):fR f n=fR g n:=by
 unfold fR
 exact List.map_congr_left fun i hi=>by rw[h i (by simpa using hi)]
theorem mD {f:Nat→Rat} {n i:Nat} {x:Rat}:(fR f n).set i (fr x)=fR (upd f i x) n:=by
 apply List.ext_getElem?
 intro j
 rw[List.getElem?_set]
 by_cases hij:i=j
 ·subst hij
  rw[if_pos rfl,TX]
  by_cases hi:i<n
  ·rw[if_pos hi,cd hi]; simp[upd]
  ·rw[if_neg hi]; simp[fR,hi]
 ·rw[if_neg hij]
  by_cases hj:j<n
  ·rw[cd hj,cd hj]; simp[upd,Ne.symm hij]
  ·simp[fR,hj]
theorem ZR {f:Nat→Rat} {k n:Nat} (hk:k<n):(fZ f k n).set k (fr (f k))=fZ f (k+1) n:=by
 apply List.ext_getElem?
 intro j
 rw[List.getElem?_set]
 by_cases hij:k=j
 ·subst hij
  rw[if_pos rfl,afg,if_pos hk,NL hk (by omega)]
 ·rw[if_neg hij]
  by_cases hj:j<n
  ·by_cases hjk:j<k
   ·rw[NL hj hjk,NL hj (by omega)]
   ·rw[Rx hj hjk,Rx hj (by omega)]
  ·simp[fZ,hj]
theorem cf {f:Nat→Rat} {n:Nat}:List.replicate n zz=fZ f 0 n:=by
 apply List.ext_getElem?
 intro j
 by_cases h:j<n
 ·rw[Rx h (by omega)]; simp[h]
 ·simp[fZ,h]
theorem ce {f:Nat→Rat} {n:Nat}:fZ f n n=fR f n:=by
 unfold fZ fR
 exact List.map_congr_left fun i hi=>by rw[if_pos (by simpa using hi)]
theorem vF {f:Nat→Rat} {n:Nat}:fR f (n+1)=fR f n++[fr (f n)]:=by simp[fR,List.range_succ]
theorem Rw {f:Nat→Rat}:fR f 0=[]:=rfl
theorem E4 {f:Nat→Rat} {n:Nat} {g:List AV→Bool} (h:∀ q,g (fr q)=true):(fR f n).all g=true :=
 List.all_eq_true.2 fun r hr=>by
  obtain ⟨j,_,rfl⟩:=List.mem_map.1 hr
  exact h _
theorem TY {f:Nat→Rat} {n:Nat} {g:List AV→List AV} (h:∀ q,g (fr q)=fr q):(fR f n).map g=fR f n :=
 yP fun r hr=>by
  obtain ⟨j,_,rfl⟩:=List.mem_map.1 hr
  exact h _
@[simp] theorem akr {f:Nat→Rat} {n:Nat}:yn (fR f n)=true:=E4 fun _=>GI
@[simp] theorem aks {f:Nat→Rat} {n:Nat}:zN (fR f n)=fR f n:=TY fun _=>Uw
@[simp] theorem akq {f:Nat→Rat} {n l:Nat}:zR l (fR f n)=fR f n:=TY fun _=>agO
@[simp] theorem ajF {f:Nat→Rat} {n l:Nat} {e:ze}:((fR f n).map fun r=>r.map (frz l e))=fR f n:=TY fun _=>afk
@[simp] theorem abQ {f:Nat→Rat} {n a b:Nat}:((fR f n).map fun r=>r.map (rn a b))=fR f n:=TY fun _=>agP
@[simp] theorem ajG {f:Nat→Rat} {n M:Nat}:((fR f n).all fun r=>r.all (Am.low M))=true:=E4 fun _=>afm
theorem dq {k:Nat}:∀ {rows:List (List AV)},(∀ r∈rows,xn k r=false)→yK k rows=false
 | [],_=>rfl
 | r::rows,h=>by simp[yK,h r (by simp),dq (rows:=rows) fun r hr=>h r (by simp[hr])]
@[simp] theorem ajI {f:Nat→Rat} {n k:Nat}:yK k (fR f n)=false:=dq fun r hr=>by
 obtain ⟨j,_,rfl⟩:=List.mem_map.1 hr
 exact afn
@[simp] theorem ajH {f:Nat→Rat} {n:Nat}:(fR f n=[])=(n=0):=by
 rw[← List.length_eq_zero_iff,TX]
@[simp] theorem aiX {f:Nat→Rat} {n:Nat}:(fR f n).take n=fR f n:=List.take_of_length_le (by simp)
@[simp] theorem ajE {f:Nat→Rat} {n k:Nat}:((fR f n).any fun r=>r.any (nE k))=false :=
 List.any_eq_false.2 fun r hr=>by
  obtain ⟨j,_,rfl⟩:=List.mem_map.1 hr
  simp
theorem v8 {q:Rat}:xN q=0↔q=0:=by
 unfold xN; split
 ·simp[*]
 ·rename_i h; split<;>simp[h]
theorem fE {q:Rat}:xN q<0↔q<0:=by
 unfold xN; split
 ·rename_i h; subst h; simp
 ·split<;>simp[*]
theorem fF {q:Rat}:0<xN q↔0<q:=by
 unfold xN; split
 ·rename_i h; subst h; simp
 ·rename_i h
  split
  ·rename_i h2; simp; grind
  ·rename_i h2; simp; grind
theorem cb {p q:Rat}:xY p q<0↔p<q:=by
 unfold xY; split
 ·simp[*]
 ·split<;>simp[*]
theorem K5 {p q:Rat}:0<xY p q↔q<p:=by
 unfold xY; split
 ·simp; grind
 ·split<;>simp[*]
theorem lf {p q:Rat}:xY p q=0↔p=q:=by
 unfold xY; split
 ·simp; grind
 ·split
  ·simp; grind
  ·simp; grind
def elm (l:Nat→Rat) (f:Rat) (c:Nat) (pr:Nat→Rat) (j:Nat):Rat:=(if j=c then 0 else l j)-f*pr j
noncomputable def Yv (l pr:Nat→Rat) (n c:Nat) (b pb f:Rat) (k:Nat):St :=
 {env:=[(2,iv c),(3,fL pr n),(6,.ptr 6 0),(9,.ptr 9 0),(11,.ptr 11 0),(12,.ptr 12 0),(13,.sl 27 3 0 n),(28,fL l n),(29,iv n),(30,iv k)],
  sto:=[(6,.var (fr b)),(9,.var (fr pb)),(11,.var zz),(12,.var (fr f)),(27,.arr 3 (fZ (elm l f c pr) k n))]}
theorem eI {n c K:Nat} {l pr:Nat→Rat} {b pb:Rat} (hn:n<1000000) (hc:c<n) (hK:K≤30000000000) (hl:∀ j,j<n→sz K (l j)) (hp:∀ j,j<n→sz K (pr j)) (hb:sz K b) (hpb:sz K pb) :
  zd Tryz.prog pX [fL l n,fq b,iv c,fL pr n,fq pb] (.tuple [fL (elm l (l c) c pr) n,fq (b-l c*pb)]):=by
 obtain ⟨f,hf⟩:∃ f,l c=f:=⟨_,rfl⟩
 have szf:sz K f:=by rw[← hf]; exact hl c hc
 rw[hf]
 have e0:(c:Int)<n:=by omega
 have ks:=qy (q:=f)
 have k1:=mG (by omega) szf hpb
 have k2:=F1 (K:=K+K) (by omega) (zJ hb (by omega)) (yg szf hpb)
 refine zt PC (by simp) ?_
 simp[Zc,e0,hc,hf]
 refine za ks (by simp) (by simp) ?_
 by_cases h0:f=0
 ·have h1:xN f=0:=v8.2 h0
  have h2:fR (elm l f c pr) n=fR l n:=wh fun j hj=>by
   unfold elm
   rw[h0]
   split
   ·rename_i e; subst e; rw[hf,h0]; grind
   ·grind
  have h3:b-f*pb=b:=by rw[h0]; grind
  simp[h1,jz,h2,h3]
 ·have h1:¬ xN f=0:=fun h=>h0 (v8.1 h)
  simp[h1,eMk]
  refine ⟨by omega,by omega,?_⟩
  rw[cf (f:=elm l f c pr)]
  refine zq (Yv l pr n c b pb f) (fun _=>True) n (by simp[Yv]) trivial (fun k hk _=>?_) (fun _=>?_)
  ·have e:(k:Int)<n:=by omega
   have w:=zm (k:=k) (by omega)
   have hs:=ZR (f:=elm l f c pr) hk
   have g1:=mG (by omega) szf (hp k hk)
   have g2:=Sh (K:=K+K) (by omega) (yg szf (hp k hk))
   have g3:=qy (q:=pr k)
   have g4:=F1 (K:=K+K) (by omega) (zJ (hl k hk) (by omega)) (yg szf (hp k hk))
   by_cases hkc:k=c
   ·subst hkc
    have ev:elm l f k pr k=-(f*pr k):=by unfold elm; rw[if_pos rfl]; grind
    rw[ev] at hs
    simp[su,Yv,e,hk]
    refine za g1 (by simp) (by simp) ?_
    simp
    refine za g2 (by simp) (by simp) ?_
    simp[hk,w,hs,Yv]
   ·have ec:¬ (k:Int)=c:=by omega
    have ev:elm l f c pr k=l k-f*pr k:=by unfold elm; rw[if_neg hkc]
    rw[ev] at hs
    simp[su,Yv,e,hk,ec]
    refine za g3 (by simp) (by simp) ?_
    by_cases hz:pr k=0
    ·have z1:xN (pr k)=0:=v8.2 hz
     have z2:l k-f*pr k=l k:=by rw[hz]; grind
     rw[z2] at hs
     simp[z1,hk,w,hs,Yv]
    ·have z1:¬ xN (pr k)=0:=fun h=>hz (v8.1 h)
     simp[z1,hk]
     refine za g1 (by simp) (by simp) ?_
     simp
     refine za g4 (by simp) (by simp) ?_
     simp[hk,w,hs,Yv]
  ·simp[su,gS,jz,Yv,ce]
   refine za k1 (by simp) (by simp) ?_
   simp
   refine za k2 (by simp) (by simp) ?_
   simp
def mR (g:Nat→List AV) (n:Nat):List (List AV):=(List.range n).map g
section
variable {g h:Nat→List AV} {n i:Nat}
@[simp] theorem sZ:(mR g n).length=n:=by simp[mR]
theorem sY (hi:i<n):(mR g n)[i]?=some (g i):=by simp[mR,hi]
@[simp] theorem nW {hi:i<(mR g n).length}:(mR g n)[i]=g i:=by simp[mR]
theorem wZ (e:∀ i,i<n→g i=h i):mR g n=mR h n:=List.map_congr_left fun i hi=>e i (by simpa using hi)
theorem cu {x:List AV}:(mR g n).set i x=mR (upd g i x) n:=by
 apply List.ext_getElem?
 intro j
 rw[List.getElem?_set]
 by_cases hij:i=j
 ·subst hij
  rw[if_pos rfl,sZ]
  by_cases hi:i<n
  ·rw[if_pos hi,sY hi]; simp[upd]
  ·rw[if_neg hi]; simp[mR,hi]
 ·rw[if_neg hij]
  by_cases hj:j<n
  ·rw[sY hj,sY hj]; simp[upd,Ne.symm hij]
  ·simp[mR,hj]
theorem lB:mR g (n+1)=mR g n++[g n]:=by simp[mR,List.range_succ]
theorem JA:mR g 0=[]:=rfl
theorem cr {f:List AV→Bool} (h:∀ i,f (g i)=true):(mR g n).all f=true :=
 List.all_eq_true.2 fun r hr=>by
  obtain ⟨j,_,rfl⟩:=List.mem_map.1 hr
  exact h _
theorem tP {f:List AV→List AV} (h:∀ i,f (g i)=g i):(mR g n).map f=mR g n :=
 yP fun r hr=>by
  obtain ⟨j,_,rfl⟩:=List.mem_map.1 hr
  exact h _
theorem ct {k:Nat} (h:∀ i,xn k (g i)=false):yK k (mR g n)=false:=dq fun r hr=>by
 obtain ⟨j,_,rfl⟩:=List.mem_map.1 hr
 exact h _
end
def nR (f:Nat→Nat) (n:Nat):List (List AV):=mR (fun i=>[iv (f i)]) n
noncomputable def cR (a:Nat→Nat→Rat) (cl:Nat→Nat) (n:Nat):List (List AV):=mR (fun i=>[fL (a i) (cl i)]) n
section
variable {f:Nat→Nat} {a:Nat→Nat→Rat} {cl:Nat→Nat} {n i k:Nat} {e:ze}
@[simp] theorem ajX:(nR f n).length=n:=sZ
@[simp] theorem ajr:(cR a cl n).length=n:=sZ
@[simp] theorem ai7 {hi:i<(nR f n).length}:(nR f n)[i]=[iv (f i)]:=nW
@[simp] theorem aiQ {hi:i<(cR a cl n).length}:(cR a cl n)[i]=[fL (a i) (cl i)]:=nW
theorem DI {x:Nat}:(nR f n).set i [iv x]=nR (upd f i x) n:=by
 unfold nR
 rw[cu]
 exact wZ fun j _=>by unfold upd; split<;>rfl
theorem Et {x:Nat→Rat} {l:Nat}:(cR a cl n).set i [fL x l]=cR (upd a i x) (upd cl i l) n:=by
 unfold cR
 rw[cu]
 exact wZ fun j _=>by unfold upd; split<;>rfl
theorem Nd {a':Nat→Nat→Rat} {cl':Nat→Nat} (h:∀ i,i<n→cl i=cl' i∧∀ j,j<cl i→a i j=a' i j):cR a cl n=cR a' cl' n :=
 wZ fun i hi=>by
  obtain ⟨h1,h2⟩:=h i hi
  rw[← h1,show fL (a i) (cl i)=fL (a' i) (cl i) from congrArg _ (wh h2)]
@[simp] theorem ajW:((nR f n).map fun r=>r.map (frz k e))=nR f n:=tP fun _=>rfl
@[simp] theorem ajq:((cR a cl n).map fun r=>r.map (frz k e))=cR a cl n:=tP fun _=>by simp
@[simp] theorem akL:zR k (nR f n)=nR f n:=tP fun _=>by simp
@[simp] theorem akf:zR k (cR a cl n)=cR a cl n:=tP fun _=>by simp
@[simp] theorem ajY:yK k (nR f n)=false:=ct fun _=>by simp
@[simp] theorem ajs:yK k (cR a cl n)=false:=ct fun _=>by simp
@[simp] theorem akM:yn (nR f n)=true:=cr fun _=>by simp
@[simp] theorem akg:yn (cR a cl n)=true:=cr fun _=>by simp
@[simp] theorem akN:zN (nR f n)=nR f n:=tP fun _=>by simp
@[simp] theorem akh:zN (cR a cl n)=cR a cl n:=tP fun _=>by simp
end
def rest (ρ:List (Nat × ze)):Prop:=∀ p∈ρ,(p.1<1000∨(3000≤p.1∧p.1<4000))∧Z6 1000 p.2=true
def far (k:Nat):Bool:=decide ((1000≤k∧k<3000)∨4000≤k)
section
variable {ρ:List (Nat × ze)} {l:List (Nat × ze)} {k:Nat} {e:ze}
theorem RT (h:rest ρ) (hk:far k=true):lk ρ k=none:=by
 have hk:(1000≤k∧k<3000)∨4000≤k:=of_decide_eq_true hk
 cases hl:lk ρ k with
 | none=>rfl
 | some e=>have:=(h _ (T9 hl)).1; simp at this; omega
theorem afz {_l':List (Nat × ze)} (h:lk ρ k=none):lk (ρ++l) k=lk l k:=by
 induction ρ with
 | nil=>rfl
 | cons p ρ ih =>
  obtain ⟨m,x⟩:=p
  simp only[lk,List.cons_append] at h ⊢
  split at h
  ·cases h
  ·rename_i hne; rw[if_neg hne]; exact ih h
theorem rlk (h:rest ρ) (hk:far k=true):lk (ρ++l) k=lk l k:=afz (_l':=[]) (RT h hk)
theorem rpt (h:rest ρ) (hk:far k=true):pt (ρ++l) k e=ρ++pt l k e:=by
 have:=RT h hk
 clear h
 induction ρ with
 | nil=>rfl
 | cons p ρ ih =>
  obtain ⟨m,x⟩:=p
  simp only[lk] at this
  split at this
  ·cases this
  ·rename_i hne; simp only[List.cons_append,pt]; rw[if_neg hne,ih this]
theorem acC {D:List Nat}:del D (ρ++l)=del D ρ++del D l:=by
 induction ρ with
 | nil=>rfl
 | cons p ρ ih =>
  obtain ⟨m,x⟩:=p
  simp only[List.cons_append,del]
  split
  ·exact ih
  ·rw[ih]; rfl
theorem ahi {D:List Nat} (h:rest ρ) (hD:D.all far=true):del D ρ=ρ:=by
 induction ρ with
 | nil=>rfl
 | cons p ρ ih =>
  obtain ⟨m,x⟩:=p
  simp only[del]
  have h1:=(h (m,x) (by simp)).1
  have:D.elem m=false:=by
   cases hc:D.elem m with
   | false=>rfl
   | true=>have:=List.all_eq_true.1 hD m (by simpa using hc); simp[far] at this h1; omega
  rw[this,ih fun p hp=>h p (by simp[hp])]; rfl
theorem wI {D:List Nat} (h:rest ρ) (hD:D.all far=true):del D (ρ++l)=ρ++del D l:=by rw[acC,ahi h hD]
theorem aav (h:rest ρ) (hk:1000≤k):tQ k ρ=true:=by
 induction ρ with
 | nil=>rfl
 | cons p ρ ih =>
  obtain ⟨m,x⟩:=p
  have h1:=(h (m,x) (by simp)).2
  simp only[tQ,Dv hk h1,ih fun p hp=>h p (by simp[hp])]; rfl
theorem G3:tQ k (ρ++l)=(tQ k ρ&&tQ k l):=by
 induction ρ with
 | nil=>rfl
 | cons p ρ ih =>
  obtain ⟨m,x⟩:=p
  simp only[List.cons_append,tQ,ih,Bool.and_assoc]
theorem xd (h:rest ρ) (hk:1000≤k):tQ k (ρ++l)=tQ k l:=by rw[G3,aav h hk]; rfl
theorem aaF {e0:ze} (h:rest ρ) (hk:1000≤k):((ρ++l).map fun p=>(p.1,v4 k e0 p.2))=ρ++l.map fun p=>(p.1,v4 k e0 p.2):=by
 rw[List.map_append]
 congr 1
 exact yP fun p hp=>by rw[AL hk (h p hp).2]
theorem sC {c:List AV}:v4 k e (.var c)=.var (c.map (frz k e)):=rfl
theorem nT {n:Nat} {r:List (List AV)}:v4 k e (.uarr n r)=.uarr n (r.map fun r=>r.map (frz k e)):=rfl
theorem mM (h:rest ρ) (hk:1000≤k):(ρ.map fun p=>(p.1,dgE k p.2))=ρ:=yP fun p hp=>by rw[ac2 hk (h p hp).2]
end
theorem eno {k:Nat} {f:List (Nat × AV)} (h:yH 2000 f) (hk:2000≤k):q9 k f=true:=jZ hk h
theorem ono {k:Nat} {f:List (List (Nat × AV))} (h:yk 2000 f) (hk:2000≤k):mH k f=true:=Sd hk h
theorem ail {k:Nat} {e:ze} {f:List (Nat × AV)} (h:yH 2000 f) (hk:2000≤k):(f.map fun p=>(p.1,frz k e p.2))=f:=UM hk h
theorem A5 {k:Nat} {e:ze} {f:List (List (Nat × AV))} (h:yk 2000 f) (hk:2000≤k):(f.map fun f=>f.map fun p=>(p.1,frz k e p.2))=f:=AN hk h
theorem edg {k:Nat} {f:List (Nat × AV)} (h:yH 2000 f) (hk:2000≤k):(f.map fun p=>(p.1,dg k p.2))=f:=RD hk h
theorem odg {k:Nat} {f:List (List (Nat × AV))} (h:yk 2000 f) (hk:2000≤k):(f.map fun f=>f.map fun p=>(p.1,dg k p.2))=f:=Ju hk h
noncomputable abbrev tC (n m:Nat) (d:zo):List AV:=[iv n,iv m,.us 1961 1 0 m,.us 1972 3 0 m,fL d.cst d.c,f0 d.v,f1 d.v,f2 d.v,.us 1987 1 0 m,.us 2029 1 0 d.c]
noncomputable def tL (n m:Nat) (d:zo):List (Nat × ze) :=
 [(1015,.var (tC n m d)),(1961,.uarr 1 (cR d.a (fun _=>d.c) m)),(1972,.uarr 3 (fR d.b m)),(1987,.uarr 1 (nR d.bas m)),(2029,.uarr 1 (nR d.fre d.c))]
@[simp] theorem ag0 {q:Rat} {a b c d e g h:AV}:zD [a,b,c,d,e,f0 q,f1 q,f2 q,g,h] 5 (some 3)=some (fq q):=by
 simp[zD]
def yN (d:zo):Nat→Int
 | 0=>-1
 | k+1=>if 0<d.cst k∧(yN d k<0∨d.fre k<d.fre (yN d k).toNat) then k else yN d k
theorem lj (d:zo):∀ k,-1≤yN d k∧yN d k<k
 | 0=>by simp[yN]
 | k+1=>by have:=lj d k; simp only[yN]; split<;>omega
noncomputable def Yw (n m:Nat) (d:zo) (ρ:List (Nat × ze)) (out:List (List (Nat × AV))) (k:Nat):St :=
 {env:=[(0,.ptr 1015 0),(3,iv (yN d k)),(9,.us 2029 1 0 d.c),(10,iv d.c),(11,iv k)],sto:=ρ++tL n m d,out:=out,base:=5000}
theorem QC {n m:Nat} {d:zo} {ρ:List (Nat × ze)} {s:St} {K:AV→St→Prop} (hs:s.sto=ρ++tL n m d) (hρ:rest ρ) (hc:d.c<1000000) (h:K (iv (yN d d.c)) s) :
  z5 Tryz.prog qF [.ptr 1015 0] s K:=by
 obtain ⟨env,σ,out,base⟩:=s
 simp only at hs
 subst hs
 refine va 5000 Qc (by simp) ?_
 simp[dU,tL,rlk hρ,far]
 refine zq (Yw n m d ρ (env::out)) (fun _=>True) d.c (by simp[Yw,tL,yN]) trivial (fun k hk _=>?_) (fun _=>?_)
 ·have e:(k:Int)<d.c:=by omega
  have w:=zm (k:=k) (by omega)
  have g3:=qy (q:=d.cst k)
  obtain ⟨b1,b2⟩:=lj d k
  simp[pC,Yw,tL,e,hk,rlk hρ,far]
  refine za g3 (by simp) (by simp) ?_
  by_cases h0:0<d.cst k
  ·have h0':0<xN (d.cst k):=fF.2 h0
   by_cases h1:yN d k<0
   ·have ev:yN d (k+1)=k:=by simp only[yN]; rw[if_pos ⟨h0,.inl h1⟩]
    simp[h0',h1,w,Yw,ev,tL]
   ·have b3:(yN d k).toNat<d.c:=by omega
    have b4:(0:Int)≤yN d k:=by omega
    have b5:yN d k<d.c:=by omega
    by_cases h2:d.fre k<d.fre (yN d k).toNat
    ·have ev:yN d (k+1)=k:=by simp only[yN]; rw[if_pos ⟨h0,.inr h2⟩]
     simp[h0',h1,h2,b3,b4,b5,w,Yw,ev,tL,rlk hρ,far]
    ·have ev:yN d (k+1)=yN d k:=by simp only[yN]; rw[if_neg fun h=>h.2.elim h1 h2]
     simp[h0',h1,h2,b3,b4,b5,w,Yw,ev,tL,rlk hρ,far]
  ·have h0':¬ 0<xN (d.cst k):=fun h=>h0 (fF.1 h)
   have ev:yN d (k+1)=yN d k:=by simp only[yN]; rw[if_neg fun h=>h0 h.1]
   simp[h0',w,Yw,ev,tL]
 ·simp[pC,jE,cz,Yw]
  exact h
def rat (d:zo) (q i:Nat):Rat:=d.b i/d.a i q
def yc (d:zo) (q:Nat):Nat→Int
 | 0=>-1
 | k+1=>if 0<d.a k q∧(yc d q k<0∨rat d q k<rat d q (yc d q k).toNat∨(rat d q k=rat d q (yc d q k).toNat∧d.bas k≤d.bas (yc d q k).toNat)) then k else yc d q k
theorem lw (d:zo) (q:Nat):∀ k,-1≤yc d q k∧yc d q k<k
 | 0=>by simp[yc]
 | k+1=>by have:=lw d q k; simp only[yc]; split<;>omega
noncomputable def lst (d:zo) (q k:Nat):List AV:=if yc d q k<0 then zz else fr (rat d q (yc d q k).toNat)
@[simp] theorem ai6 {d:zo} {q k j:Nat}:xn j (lst d q k)=false:=by unfold lst; split<;>simp
noncomputable def dK (n m:Nat) (d:zo) (q:Nat) (ρ:List (Nat × ze)) (out:List (List (Nat × AV))) (k:Nat):St :=
 {env:=[(0,.ptr 1015 0),(1,iv q),(5,iv (yc d q k)),(6,.ptr 5006 0),(15,.us 1961 1 0 m),(16,iv m),(17,iv k)],sto:=ρ++(tL n m d++[(5006,.var (lst d q k))]),out:=out,base:=5000}
theorem Bc {K L:Nat} {a b:Rat} (ha:sz K a) (hb:sz L b):sz (K+L) (a/b):=by
 rw[show a/b=a*(1/b) by grind]
 exact yg ha (Ll hb)
theorem N4 {n m q L:Nat} {d:zo} {ρ:List (Nat × ze)} {s:St} {K:AV→St→Prop} (hs:s.sto=ρ++tL n m d) (hρ:rest ρ) (hE:yH 2000 s.env) (hO:yk 2000 s.out) (hm:m<1000000) (hq:q<d.c)
  (hL:L≤30000000000) (ha:∀ i,i<m→sz L (d.a i q)) (hb:∀ i,i<m→sz L (d.b i)) (h:K (iv (yc d q m)) s) :
  z5 Tryz.prog pS [.ptr 1015 0,iv q] s K:=by
 obtain ⟨env,σ,out,base⟩:=s
 simp only at hs hE hO
 subst hs
 refine va 5000 Pt (by simp) ?_
 simp[aS,tL,rlk hρ,rpt hρ,far]
 refine zq (dK n m d q ρ (env::out)) (fun _=>True) m (by simp[dK,tL,yc,lst]) trivial (fun k hk _=>?_) (fun _=>?_)
 ·have e:(k:Int)<m:=by omega
  have eq:(q:Int)<d.c:=by omega
  have w:=zm (k:=k) (by omega)
  obtain ⟨r1,hr1⟩:∃ r,r=rat d q k:=⟨_,rfl⟩
  obtain ⟨r2,hr2⟩:∃ r,r=rat d q (yc d q k).toNat:=⟨_,rfl⟩
  have g1:=qy (q:=d.a k q)
  have g2:d.a k q≠0→zd Tryz.prog j6 [fq (d.b k),fq (d.a k q)] (.tuple [fq r1,iv 0]):=fun h=>by rw[hr1]; exact abO (by omega) (hb k hk) (ha k hk) h
  obtain ⟨b1,b2⟩:=lw d q k
  have z1:sz (L+L) r1:=by rw[hr1]; exact Bc (hb k hk) (ha k hk)
  have z2:0≤yc d q k→sz (L+L) r2:=fun h=>by rw[hr2]; exact Bc (hb _ (by omega)) (ha _ (by omega))
  simp[nj,dK,tL,e,hk,rlk hρ,far,eq,hq]
  refine za g1 (by simp) (by simp) ?_
  by_cases h0:0<d.a k q
  ·have h0':¬ xN (d.a k q)≤0:=by have:=fF.2 h0; omega
   have h00:d.a k q≠0:=by grind
   simp[h0',rlk hρ,far,e,eq,hk,hq]
   refine za (g2 h00) (by simp) (by simp) ?_
   by_cases h1:yc d q k<0
   ·have ev:yc d q (k+1)=k:=by simp only[yc]; rw[if_pos ⟨h0,.inl h1⟩]
    have ev1:lst d q k=zz:=by unfold lst; rw[if_pos h1]
    have ev2:lst d q (k+1)=fr r1:=by unfold lst; rw[ev,if_neg (by omega),hr1]; rfl
    have h1':¬ 0≤yc d q k:=by omega
    simp[h1',rlk hρ,rpt hρ,wI hρ,xd hρ,eno hE,ono hO,far,dK,tL,ev,ev1,ev2,w]
   ·have h1':0≤yc d q k:=by omega
    have b3:(yc d q k).toNat<m:=by omega
    have b5:yc d q k<m:=by omega
    have ev1:lst d q k=fr r2:=by unfold lst; rw[if_neg h1,hr2]
    have g3:=bt (by omega) z1 (z2 h1')
    simp[h1',rlk hρ,rpt hρ,far,ev1]
    refine za g3 (by simp) (by simp) ?_
    by_cases c1:r1<r2
    ·have ev:yc d q (k+1)=k:=by simp only[yc]; rw[if_pos ⟨h0,.inr (.inl (by rw[← hr1,← hr2]; exact c1))⟩]
     have ev2:lst d q (k+1)=fr r1:=by unfold lst; rw[ev,if_neg (by omega),hr1]; rfl
     have k1:¬ 0<xY r1 r2:=by have:=cb.2 c1; omega
     have k2:¬ xY r1 r2=0:=by have:=cb.2 c1; omega
     simp[k1,k2,rlk hρ,rpt hρ,wI hρ,xd hρ,eno hE,ono hO,far,dK,tL,ev,ev2,w]
    ·by_cases c2:r1=r2
     ·have k2:xY r1 r2=0:=lf.2 c2
      have k1:¬ 0<xY r1 r2:=by omega
      by_cases c3:d.bas k≤d.bas (yc d q k).toNat
      ·have ev:yc d q (k+1)=k:=by simp only[yc]; rw[if_pos ⟨h0,.inr (.inr ⟨by rw[← hr1,← hr2]; exact c2,c3⟩)⟩]
       have ev2:lst d q (k+1)=fr r1:=by unfold lst; rw[ev,if_neg (by omega),hr1]; rfl
       have c3':¬ d.bas (yc d q k).toNat<d.bas k:=by omega
       simp[k2,c3',hk,e,b3,b5,h1',rlk hρ,rpt hρ,wI hρ,xd hρ,eno hE,ono hO,far,dK,tL,ev,ev2,w]
      ·have ev:yc d q (k+1)=yc d q k:=by simp only[yc]; rw[if_neg]; rw[← hr1,← hr2]; simp[h1,c1,c3]
       have ev2:lst d q (k+1)=fr r2:=by unfold lst; rw[ev,if_neg (by omega),hr2]
       have c3':d.bas (yc d q k).toNat<d.bas k:=by omega
       simp[k2,c3',hk,e,b3,b5,h1',rlk hρ,wI hρ,xd hρ,eno hE,ono hO,far,dK,tL,ev,ev2,w]
     ·have ev:yc d q (k+1)=yc d q k:=by simp only[yc]; rw[if_neg]; rw[← hr1,← hr2]; simp[h1,c1,c2]
      have ev2:lst d q (k+1)=fr r2:=by unfold lst; rw[ev,if_neg (by omega),hr2]
      have k1:0<xY r1 r2:=K5.2 (by grind)
      simp[k1,rlk hρ,wI hρ,xd hρ,eno hE,ono hO,far,dK,tL,ev,ev2,w]
  ·have h0':xN (d.a k q)≤0:=Int.not_lt.1 fun h=>h0 (fF.1 h)
   have ev:yc d q (k+1)=yc d q k:=by simp only[yc]; rw[if_neg fun h=>h0 h.1]
   have ev2:lst d q (k+1)=lst d q k:=by unfold lst; rw[ev]
   simp[h0',w,dK,ev,ev2,tL,rlk hρ,wI hρ,xd hρ,eno hE,ono hO,far]
 ·simp[nj,gy,Zf,dK,tL,wI hρ,far,xd hρ,eno hE,ono hO]
  exact h
def ft (d:zo) (p q:Nat):Nat→Rat:=upd (fun j=>d.a p j*(1/d.a p q)) q (1/d.a p q)
def pkD (d:zo) (p q k:Nat):zo :=
 {d with a:=fun i=>if i<k∧i≠p then elm (d.a i) (d.a i q) q (ft d p q) else d.a i,b:=fun i=>if i<k∧i≠p then d.b i-d.a i q*(d.b p*(1/d.a p q)) else d.b i}
theorem aas {d:zo} {p q:Nat}:pkD d p q 0=d:=by simp[pkD]
theorem aar {d:zo} {p q:Nat}:pkD d p q (p+1)=pkD d p q p:=by
 simp only[pkD,zo.mk.injEq,true_and,and_true]
 constructor
 ·funext i; by_cases h:i<p
  ·rw[if_pos ⟨by omega,by omega⟩,if_pos ⟨h,by omega⟩]
  ·rw[if_neg (by omega),if_neg (by omega)]
 ·funext i; by_cases h:i<p
  ·rw[if_pos ⟨by omega,by omega⟩,if_pos ⟨h,by omega⟩]
  ·rw[if_neg (by omega),if_neg (by omega)]
theorem adA {d:zo} {p q i:Nat} (hi:i<d.r):(pivot d p q).a i=(upd (pkD d p q d.r).a p (ft d p q)) i:=by
 funext j
 simp only[pivot,upd,pkD]
 by_cases h:i=p
 ·subst h; simp only[if_true,ft,upd]
 ·simp only[h,hi,if_false,if_true,ne_eq,not_false_eq_true,and_self,elm,ft,upd]
  split<;>grind
theorem adB {d:zo} {p q i:Nat} (hi:i<d.r):(pivot d p q).b i=(upd (pkD d p q d.r).b p (d.b p*(1/d.a p q))) i:=by
 simp only[pivot,upd,pkD]
 by_cases h:i=p
 ·subst h; simp only[if_true]
 ·simp only[h,hi,if_false,if_true,ne_eq,not_false_eq_true,and_self]
section
variable {d:zo} {p q k:Nat}
@[simp] theorem akV:(pkD d p q k).c=d.c:=rfl
@[simp] theorem akW:(pkD d p q k).r=d.r:=rfl
@[simp] theorem ajg:(pkD d p q k).cst=d.cst:=rfl
@[simp] theorem akX:(pkD d p q k).v=d.v:=rfl
@[simp] theorem ajf:(pkD d p q k).bas=d.bas:=rfl
@[simp] theorem ajh:(pkD d p q k).fre=d.fre:=rfl
theorem Cd:(pivot d p q).cst=elm d.cst (d.cst q) q (ft d p q):=by
 funext j
 simp only[pivot,elm,ft,upd]
 split<;>grind
end
noncomputable def M8 (n m:Nat) (d:zo) (p q:Nat) (v:Rat) (f:Nat→Rat) (ρ:List (Nat × ze)) (out:List (List (Nat × AV))) (k:Nat):St :=
 {env:=[(0,.ptr 1015 0),(1,iv p),(2,iv q),(6,.ptr 5006 0),(8,.sl 5034 3 0 d.c),(41,fL (d.a p) d.c),(42,iv d.c),(43,iv k)],
  sto:=ρ++(tL n m d++[(5006,.var (fr v)),(5034,.arr 3 (fZ f k d.c))]),out:=out,base:=5000}
noncomputable def R4 (n m:Nat) (d:zo) (p q:Nat) (v:Rat) (f:Nat→Rat) (ρ:List (Nat × ze)) (out:List (List (Nat × AV))) (k:Nat):St :=
 {env:=[(0,.ptr 1015 0),(1,iv p),(2,iv q),(8,fL f d.c),(11,.ptr 5011 0),(72,iv m),(73,iv k)],
  sto:=ρ++(tL n m (pkD d p q k)++[(5011,.var (fr v))]),out:=out,base:=5000}
theorem Mv {n m p q L:Nat} {d:zo} {ρ:List (Nat × ze)} {s:St} {K:AV→St→Prop} (hs:s.sto=ρ++tL n m d) (hρ:rest ρ) (hE:yH 2000 s.env) (hO:yk 2000 s.out) (hm:m<1000000) (hc:d.c<1000000) (hr:d.r=m) (hp:p<m) (hq:q<d.c)
  (hL:L≤10000000000) (hsz:szD L d) (ha0:d.a p q≠0) (h:K (.tuple []) ⟨s.env,ρ++tL n m (pivot d p q),s.out,s.base⟩) :
  z5 Tryz.prog uZ [.ptr 1015 0,iv p,iv q] s K:=by
 obtain ⟨env,σ,out,base⟩:=s
 simp only at hs hE hO h
 subst hs
 have ep:(p:Int)<m:=by omega
 have eq:(q:Int)<d.c:=by omega
 have sa:∀ i j,i<m→j<d.c→sz L (d.a i j):=fun i j h1 h2=>hsz.a i j (by omega) h2
 have sb:∀ i,i<m→sz L (d.b i):=fun i h1=>hsz.b i (by omega)
 obtain ⟨inv,hinv⟩:∃ x,1/d.a p q=x:=⟨_,rfl⟩
 have sinv:sz L inv:=by rw[← hinv]; exact Ll (sa p q hp hq)
 have one:sz L 1:=by
  have:1≤2^L:=Nat.one_le_two_pow
  exact ⟨this,this⟩
 have g1:zd Tryz.prog zM [iv 1] (fq 1):=xi (n:=1) (by decide) (by decide)
 have g2:=abO (by omega) one (sa p q hp hq) ha0
 rw[hinv] at g2
 have g3:=mG (by omega) (sb p hp) sinv
 obtain ⟨bnd,hbnd⟩:∃ x,d.b p*inv=x:=⟨_,rfl⟩
 have sbnd:sz (L+L) bnd:=by rw[← hbnd]; exact yg (sb p hp) sinv
 rw[hbnd] at g3
 refine va 5000 Kw (by simp) ?_
 simp[XK,tL,rlk hρ,far]
 refine za g1 (by simp) (by simp) ?_
 simp[rlk hρ,far,ep,eq,hp,hq]
 refine za g2 (by simp) (by simp) ?_
 simp[rlk hρ,rpt hρ,far,ep,hp,eMk]
 refine ⟨by omega,by omega,?_⟩
 rw[cf (f:=fun j=>d.a p j*inv)]
 refine zq (M8 n m d p q inv (fun j=>d.a p j*inv) ρ (env::out)) (fun _=>True) d.c (by simp[M8,tL]) trivial (fun k hk _=>?_) (fun _=>?_)
 ·have e:(k:Int)<d.c:=by omega
  have w:=zm (k:=k) (by omega)
  have f1:=mG (by omega) (sa p k hp hk) sinv
  have hset:=ZR (f:=fun j=>d.a p j*inv) hk
  simp[m8,M8,tL,e,hk,tL,rlk hρ,rpt hρ,far]
  refine za f1 (by simp) (by simp) ?_
  simp[hk,w,hset,M8,tL,rlk hρ,rpt hρ,wI hρ,xd hρ,eno hE,ono hO,far]
 ·have hprow:upd (fun j=>d.a p j*inv) q inv=ft d p q:=by unfold ft; rw[hinv]
  have hset:(fR (fun j=>d.a p j*inv) d.c).set q (fr inv)=fR (ft d p q) d.c:=by rw[mD,hprow]
  have spr:∀ j,j<d.c→sz (L+L) (ft d p q j):=fun j hj=>by
   rw[← hprow]; unfold upd; split
   ·exact zJ sinv (by omega)
   ·exact yg (sa p j hp hj) sinv
  generalize hpr:ft d p q=pr at *
  simp[m8,M8,tL,rlk hρ,rpt hρ,wI hρ,xd hρ,eno hE,ono hO,aaF hρ,ail hE,A5 hO,far,ce,dX,hq,eq,ep,hp,hset,xA,sC,nT,t5,kT]
  refine za g3 (by simp) (by simp) ?_
  simp[rlk hρ,rpt hρ,wI hρ,xd hρ,eno hE,ono hO,far]
  refine zq (R4 n m d p q bnd pr ρ (env::out)) (fun _=>True) m (by simp[R4,tL,aas]) trivial (fun k hk _=>?_) (fun _=>?_)
  ·have e:(k:Int)<m:=by omega
   have w:=zm (k:=k) (by omega)
   have pa:(pkD d p q k).a k=d.a k:=by simp[pkD]
   have pb:(pkD d p q k).b k=d.b k:=by simp[pkD]
   have pc:(pkD d p q k).c=d.c:=rfl
   by_cases hkp:k=p
   ·subst hkp
    simp[qM,R4,tL,e,w,aar]
   ·have ek:¬ (k:Int)=p:=by omega
    have f1:=eI (K:=L+L) (pb:=bnd) hc hq (by omega) (fun j hj=>zJ (sa k j hk hj) (by omega)) spr (zJ (sb k hk) (by omega)) sbnd
    simp[qM,R4,tL,rlk hρ,far,e,hk,ek,pa,pb]
    refine za f1 (by simp) (by simp) ?_
    have hs1:(cR (pkD d p q k).a (fun _=>d.c) m).set k [fL (elm (d.a k) (d.a k q) q pr) d.c]=cR (pkD d p q (k+1)).a (fun _=>d.c) m:=by
     rw[Et]
     refine Nd fun i hi=>⟨by unfold upd; split<;>rfl,fun j hj=>?_⟩
     by_cases hik:i=k
     ·subst hik
      simp only[upd,if_true,pkD]
      rw[if_pos ⟨by omega,hkp⟩,hpr]
     ·have:(i<k+1)=(i<k):=by simp only[eq_iff_iff]; omega
      simp only[upd,if_neg hik,pkD,this]
    have hs2:(fR (pkD d p q k).b m).set k (fr (d.b k-d.a k q*bnd))=fR (pkD d p q (k+1)).b m:=by
     rw[mD]
     refine wh fun i hi=>?_
     by_cases hik:i=k
     ·subst hik
      simp only[upd,if_true,pkD]
      rw[if_pos ⟨by omega,hkp⟩,hinv,hbnd]
     ·have:(i<k+1)=(i<k):=by simp only[eq_iff_iff]; omega
      simp only[upd,if_neg hik,pkD,this]
    simp[tL,rlk hρ,rpt hρ,far,hs1,hs2,hk,e,w,R4]
  ·have f1:=eI (K:=L+L) (pb:=bnd) hc hq (by omega) (fun j hj=>zJ (hsz.cst j hj) (by omega)) spr (zJ hsz.v (by omega)) sbnd
   have f2:=mG (K:=L+L) (by omega) (zJ (hsz.cst q hq) (by omega)) sbnd
   have f3:=YU (K:=L+(L+L)) (by omega) (zJ hsz.v (by omega)) (yg (hsz.cst q hq) sbnd)
   have e1:(cR (pkD d p q m).a (fun _=>d.c) m).set p [fL pr d.c]=cR (pivot d p q).a (fun _=>d.c) m:=by
    rw[Et]
    refine Nd fun i hi=>⟨by unfold upd; split<;>rfl,fun j hj=>?_⟩
    rw[adA (by omega),hpr,hr]
   have e2:(fR (pkD d p q m).b m).set p (fr bnd)=fR (pivot d p q).b m:=by
    rw[mD]
    refine wh fun i hi=>?_
    rw[adB (by omega),hinv,hbnd,hr]
   have e3:(nR d.bas m).set p [iv (d.fre q)]=nR (pivot d p q).bas m:=DI
   have e4:(nR d.fre d.c).set q [iv (d.bas p)]=nR (pivot d p q).fre d.c:=DI
   have e5:elm d.cst (d.cst q) q pr=(pivot d p q).cst:=by rw[Cd,hpr]
   have e6:d.v+d.cst q*bnd=(pivot d p q).v:=by simp only[pivot]; rw[hinv,hbnd]
   have e7:(pivot d p q).c=d.c:=rfl
   rw[e5] at f1
   rw[e6] at f3
   generalize pivot d p q=d' at *
   simp[qM,R4,tL,rlk hρ,rpt hρ,far,dW,hq,eq]
   refine za f1 (by simp) (by simp) ?_
   simp[rlk hρ,rpt hρ,far]
   refine za f2 (by simp) (by simp) ?_
   simp
   refine za f3 (by simp) (by simp) ?_
   simp[rlk hρ,rpt hρ,wI hρ,xd hρ,eno hE,ono hO,far,X6,hp,hq,ep,eq,e1,e2,e3,e4]
   simp only[tL,tC,e7] at h
   exact h
theorem Ut {d:zo}:∀ k,yN d k<0→∀ j,j<k→d.cst j≤0
 | 0,_,j,hj=>by omega
 | k+1,h,j,hj=>by
  simp only[yN] at h
  split at h
  ·omega
  ·rename_i hn
   by_cases e:j=k
   ·subst e
    have:¬ 0<d.cst j:=fun h0=>hn ⟨h0,.inl h⟩
    grind
   ·exact Ut k h j (by omega)
theorem bF {d:zo}:∀ k,0≤yN d k→0<d.cst (yN d k).toNat∧∀ j,j<k→0<d.cst j→d.fre (yN d k).toNat≤d.fre j
 | 0,h=>by simp[yN] at h
 | k+1,h=>by
  have b:=lj d k
  simp only[yN] at h ⊢
  split
  ·rename_i hc
   refine ⟨by simpa using hc.1,fun j hj h0=>?_⟩
   by_cases e:j=k
   ·subst e; simp
   ·by_cases h1:yN d k<0
    ·have:=Ut k h1 j (by omega); grind
    ·have h2:=hc.2.resolve_left h1
     have:=(bF k (by omega)).2 j (by omega) h0
     simp; omega
  ·rename_i hc
   rw[if_neg hc] at h
   obtain ⟨h1,h2⟩:=bF k h
   refine ⟨h1,fun j hj h0=>?_⟩
   by_cases e:j=k
   ·subst e
    have:¬ d.fre j<d.fre (yN d j).toNat:=fun h=>hc ⟨h0,.inr h⟩
    omega
   ·exact h2 j (by omega) h0
theorem UI {d:zo} {q:Nat}:∀ k,yc d q k<0→∀ i,i<k→d.a i q≤0
 | 0,_,j,hj=>by omega
 | k+1,h,j,hj=>by
  simp only[yc] at h
  split at h
  ·omega
  ·rename_i hn
   by_cases e:j=k
   ·subst e
    have:¬ 0<d.a j q:=fun h0=>hn ⟨h0,.inl h⟩
    grind
   ·exact UI k h j (by omega)
theorem UJ {d:zo} {q:Nat}:∀ k,0≤yc d q k→0<d.a (yc d q k).toNat q∧∀ i,i<k→0<d.a i q→rat d q (yc d q k).toNat≤rat d q i∧(rat d q (yc d q k).toNat=rat d q i→d.bas (yc d q k).toNat≤d.bas i)
 | 0,h=>by simp[yc] at h
 | k+1,h=>by
  have b:=lw d q k
  simp only[yc] at h ⊢
  split
  ·rename_i hc
   simp only[Int.toNat_natCast]
   refine ⟨hc.1,fun i hi h0=>?_⟩
   by_cases e:i=k
   ·subst e; exact ⟨by grind,fun _=>Nat.le_refl _⟩
   ·by_cases h1:yc d q k<0
    ·have:=UI k h1 i (by omega); grind
    ·obtain ⟨g1,g2⟩:=(UJ k (by omega)).2 i (by omega) h0
     rcases hc.2 with h2 | h2 | h2
     ·omega
     ·exact ⟨by grind,fun h=>by grind⟩
     ·refine ⟨by grind,fun h=>Nat.le_trans h2.2 (g2 (by grind))⟩
  ·rename_i hc
   rw[if_neg hc] at h
   obtain ⟨h1,h2⟩:=UJ k h
   refine ⟨h1,fun i hi h0=>?_⟩
   by_cases e:i=k
   ·subst e
    have h3:¬ rat d q i<rat d q (yc d q i).toNat:=fun h=>hc ⟨h0,.inr (.inl h)⟩
    refine ⟨by grind,fun h=>?_⟩
    have h4:¬ d.bas i≤d.bas (yc d q i).toNat:=fun h5=>hc ⟨h0,.inr (.inr ⟨h.symm,h5⟩)⟩
    omega
   ·exact h2 i (by omega) h0
theorem Ci {b1 a1 b2 a2:Rat} (h1:0<a1) (h2:0<a2):(b1/a1≤b2/a2↔b1*a2≤b2*a1)∧(b1/a1=b2/a2↔b1*a2=b2*a1):=by
 have e1:b1=b1/a1*a1:=by grind
 have e2:b2=b2/a2*a2:=by grind
 generalize b1/a1=x at *
 generalize b2/a2=y at *
 have hp:0<a1*a2:=Rat.mul_pos h1 h2
 have k1:b2*a1-b1*a2=(y-x)*(a1*a2):=by rw[e1,e2]; grind
 clear e1 e2
 constructor
 ·constructor
  ·intro h
   have:=Rat.mul_nonneg (show 0≤y-x by grind) (show 0≤a1*a2 by grind)
   rw[← k1] at this; grind
  ·intro h
   rcases lt_or_le y x with h3 | h3
   ·have:=Rat.mul_pos (show 0<x-y by grind) hp
    have e:(x-y)*(a1*a2)=-((y-x)*(a1*a2)):=by grind
    rw[e,← k1] at this; grind
   ·exact h3
 ·constructor
  ·intro h
   have:(y-x)*(a1*a2)=0:=by rw[h]; grind
   rw[← k1] at this; grind
  ·intro h
   have h5:(y-x)*(a1*a2)=0:=by rw[← k1]; grind
   rcases Rat.mul_eq_zero.1 h5 with h | h
   ·grind
   ·rw[h] at hp; exact absurd hp (by grind)
def qq' (d:zo):Nat:=(yN d d.c).toNat
def pp' (d:zo):Nat:=(yc d (qq' d) d.r).toNat
def Rz (d:zo):Prop:=0≤yN d d.c∧0≤yc d (qq' d) d.r
theorem bP {d:zo} (h:Rz d):jN d (pp' d) (qq' d):=by
 have b1:=lj d d.c
 have b2:=lw d (qq' d) d.r
 obtain ⟨h1,h2⟩:=h
 obtain ⟨g1,g2⟩:=bF d.c h1
 obtain ⟨g3,g4⟩:=UJ d.r h2
 refine ⟨by unfold pp'; omega,by unfold qq'; omega,g1,g2,g3,fun i hi h0=>?_⟩
 obtain ⟨g5,g6⟩:=g4 i hi h0
 obtain ⟨c1,c2⟩:=Ci (b1:=d.b (pp' d)) (b2:=d.b i) g3 h0
 exact ⟨c1.1 g5,fun h=>g6 (c2.2 h)⟩
def ag7 (d:zo):zo:=pivot d (pp' d) (qq' d)
def yA (d:zo):Nat→zo
 | 0=>d
 | k+1=>ag7 (yA d k)
theorem aaL {d:zo} {N:Nat} (hb:Bij d N) (hf:feas d):∃ K,(∀ k,k<K→Rz (yA d k))∧¬ Rz (yA d K):=by
 apply Classical.byContradiction
 intro hno
 have all:∀ k,∀ j,j<k→Rz (yA d j):=by
  intro k
  induction k with
  | zero=>intro j hj; omega
  | succ k ih =>
   intro j hj
   by_cases e:j=k
   ·subst e
    exact Classical.byContradiction fun h=>hno ⟨j,ih,h⟩
   ·exact ih j (by omega)
 have r:Run (yA d) (fun k=>pp' (yA d k)) (fun k=>qq' (yA d k)) (2^N) N:=⟨hb,hf,fun k hk=>⟨bP (all _ k hk),rfl⟩⟩
 have:=r.le
 omega
theorem aaM {d:zo} {N K:Nat} (hb:Bij d N) (hf:feas d) (h:∀ k,k<K→Rz (yA d k)):∀ k,k≤K→Same (yA d k) d N∧feas (yA d k)∧(yA d k).r=d.r∧(yA d k).c=d.c:=by
 intro k
 induction k with
 | zero=>intro _; exact ⟨Same.refl hb,hf,rfl,rfl⟩
 | succ k ih =>
  intro hk
  obtain ⟨h1,h2,h3,h4⟩:=ih (by omega)
  have hB:=bP (h k (by omega))
  have ha:(yA d k).a (pp' (yA d k)) (qq' (yA d k))≠0:=by have:=hB.2.2.2.2.1; grind
  exact ⟨(Same.pivot h1.bd hB.1 hB.2.1 ha).trans h1,hB.feas h2,h3,h4⟩
structure Fin (d e:zo) (N:Nat) (x:AV):Prop where
 same:Same e d N
 feas:feas e
 r:e.r=d.r
 c:e.c=d.c
 out:(x=.tuple [iv 0,bv true]∧∀ j,j<e.c→e.cst j≤0)∨∃ q:Nat,x=.tuple [iv q,bv false]∧q<e.c∧0<e.cst q∧∀ i,i<e.r→e.a i q≤0
noncomputable def stOp (n m:Nat) (d:zo) (ρ:List (Nat × ze)) (out:List (List (Nat × AV))) (k:Nat):St :=
 {env:=[(0,.ptr 1015 0)],sto:=ρ++tL n m (yA d k),out:=out,base:=4500}
theorem X3:yR Tryz.prog qF=true:=by kernel_rfl
theorem Sn:yR Tryz.prog pS=true:=by kernel_rfl
theorem b8:yR Tryz.prog uZ=true:=by kernel_rfl
def dC (e:zo):AV:=if yN e e.c<0 then .tuple [iv 0,bv true] else .tuple [iv (qq' e),bv false]
theorem afh {d e:zo} {N:Nat} (h1:Same e d N) (h2:LP.feas e) (h3:e.r=d.r) (h4:e.c=d.c) (hJe:¬ Rz e):Fin d e N (dC e):=by
 have b1:=lj e e.c
 have b2:=lw e (qq' e) e.r
 refine ⟨h1,h2,h3,h4,?_⟩
 unfold dC
 by_cases g1:yN e e.c<0
 ·rw[if_pos g1]; exact .inl ⟨rfl,Ut _ g1⟩
 ·rw[if_neg g1]
  have g2:yc e (qq' e) e.r<0:=by
   rcases Int.lt_or_le (yc e (qq' e) e.r) 0 with h | h
   ·exact h
   ·exact absurd ⟨by omega,h⟩ hJe
  exact .inr ⟨qq' e,rfl,by unfold qq'; omega,(bF (d:=e) e.c (by omega)).1,UI _ g2⟩
theorem QR {N:Nat} {d:zo} (hb:Bij d N) (hf:feas d):∃ e,Fin d e N (dC e)∧∀ {n m L:Nat} {ρ:List (Nat × ze)} {s:St} {K:AV→St→Prop},s.sto=ρ++tL n m d→rest ρ→yH 2000 s.env→yk 2000 s.out→m<1000000→d.c<1000000→d.r=m →
  L≤10000000000→(∀ e,Same e d N→e.r=d.r→e.c=d.c→szD L e)→K (dC e) ⟨s.env,ρ++tL n m e,s.out,s.base⟩ →
  z5 Tryz.prog wm [.ptr 1015 0] s K:=by
 obtain ⟨J,hJ,hJe⟩:=aaL hb hf
 have hrun:=aaM hb hf hJ
 obtain ⟨hf1,hf2,hf3,hf4⟩:=hrun J (by omega)
 refine ⟨yA d J,afh hf1 hf2 hf3 hf4 hJe,?_⟩
 intro n m L ρ s K hs hρ hE hO hm hc hr hL hsz h
 obtain ⟨env,σ,out,base⟩:=s
 simp only at hs hE hO h
 subst hs
 have hO2:yk 2000 (env::out):=kX.2 ⟨hE,hO⟩
 refine va 4500 Qd (by simp) ?_
 simp[dV]
 refine Gi (stOp n m d ρ (env::out)) (fun _=>True) J (by simp[stOp,yA]) trivial (fun k hk _=>?_) (fun _=>?_)
 ·obtain ⟨h1,h2,h3,h4⟩:=hrun k (by omega)
  have hg:=hJ k hk
  have hB:=bP hg
  have b1:=lj (yA d k) (yA d k).c
  have b2:=lw (yA d k) (qq' (yA d k)) (yA d k).r
  have hz:=hsz _ h1 h3 h4
  have ea:yN (yA d k) (yA d k).c=(qq' (yA d k):Nat):=by unfold qq'; have:=hg.1; omega
  have eb:yc (yA d k) (qq' (yA d k)) (yA d k).r=(pp' (yA d k):Nat):=by unfold pp'; have:=hg.2; omega
  have e3:yA d (k+1)=pivot (yA d k) (pp' (yA d k)) (qq' (yA d k)):=rfl
  have hrm:(yA d k).r=m:=by omega
  rw[hrm] at eb
  generalize hd2:yA d (k+1)=d2 at *
  generalize hd1:yA d k=d1 at *
  generalize qq' d1=q at *
  generalize pp' d1=p at *
  have hst1:stOp n m d ρ (env::out) k={env:=[(0,.ptr 1015 0)],sto:=ρ++tL n m d1,out:=env::out,base:=4500}:=by unfold stOp; rw[hd1]
  rw[hst1]
  have nq:¬ ((q:Int)<0):=by omega
  have np:¬ ((p:Int)<0):=by omega
  simp[pD,X3]
  refine yb (QC (s:=⟨_,ρ++tL n m d1,env::out,4500⟩) (d:=d1) (ρ:=ρ) (n:=n) (m:=m) rfl hρ (by omega) ?_)
  rw[ea]
  simp[Sn,nq]
  refine yb (N4 (s:=⟨_,ρ++tL n m d1,env::out,4500⟩) (d:=d1) (ρ:=ρ) (n:=n) (m:=m) (L:=L) rfl hρ ?_ hO2 hm hB.2.1 (by omega) (fun i hi=>hz.a i q (by omega) hB.2.1) (fun i hi=>hz.b i (by omega)) ?_)
  ·simp[yu,yO,mF,sX,xB]
  rw[eb]
  simp[b8,np]
  refine yb (Mv (s:=⟨_,ρ++tL n m d1,env::out,4500⟩) (d:=d1) (ρ:=ρ) (n:=n) (m:=m) (L:=L) rfl hρ ?_ hO2 hm (by omega) hrm (by have:=hB.1; omega) hB.2.1 hL hz (by have:=hB.2.2.2.2.1; grind) ?_)
  ·simp[yu,yO,mF,sX,xB]
  rw[← e3]
  simp[stOp]
  exact .inl (by rw[hd2])
 ·obtain ⟨h1,h2,h3,h4⟩:=hrun J (by omega)
  have b1:=lj (yA d J) (yA d J).c
  have b2:=lw (yA d J) (qq' (yA d J)) (yA d J).r
  have hz:=hsz _ h1 h3 h4
  have hrm:(yA d J).r=m:=by omega
  generalize hd1:yA d J=d1 at *
  have hst1:stOp n m d ρ (env::out) J={env:=[(0,.ptr 1015 0)],sto:=ρ++tL n m d1,out:=env::out,base:=4500}:=by unfold stOp; rw[hd1]
  rw[hst1]
  simp[pD,X3]
  refine yb (QC (s:=⟨_,ρ++tL n m d1,env::out,4500⟩) (d:=d1) (ρ:=ρ) (n:=n) (m:=m) rfl hρ (by omega) ?_)
  by_cases g1:yN d1 d1.c<0
  ·have hfr:dC d1=.tuple [iv 0,bv true]:=if_pos g1
   rw[hfr] at h
   simp[g1,lG]
   exact h
  ·have hfr:dC d1=.tuple [iv (qq' d1),bv false]:=if_neg g1
   rw[hfr] at h
   have ea:yN d1 d1.c=(qq' d1:Nat):=by unfold qq'; omega
   have g2:yc d1 (qq' d1) d1.r<0:=by
    rcases Int.lt_or_le (yc d1 (qq' d1) d1.r) 0 with h | h
    ·exact h
    ·exact absurd ⟨by omega,h⟩ hJe
   have hq:qq' d1<d1.c:=by unfold qq'; omega
   rw[hrm] at g2
   rw[ea]
   generalize qq' d1=q at *
   have nq:¬ ((q:Int)<0):=by omega
   simp[Sn,nq]
   refine yb (N4 (s:=⟨_,ρ++tL n m d1,env::out,4500⟩) (d:=d1) (ρ:=ρ) (n:=n) (m:=m) (L:=L) rfl hρ ?_ hO2 hm hq (by omega) (fun i hi=>hz.a i q (by omega) hq) (fun i hi=>hz.b i (by omega)) ?_)
   ·simp[yu,yO,mF,sX,xB]
   simp[g2,lG]
   exact h
end Go.Proofs.YtjeoklgggppjiaaGreat
