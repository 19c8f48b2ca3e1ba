/- What the proof rests on, part 9: N24 N25 N26 N27 N28 N29 N30 F2 F3 F4 F6 F7 F8 F12 LP LP2 LP3 LP4 F13 F14 F15 X0 X0d X1 MR X2 X3 X4 X5 X6 X7 X8 X8b LP5. -/
import Derived.Test.YtjeoklgggppjiaaGreatP8
set_option maxRecDepth 100000
set_option maxHeartbeats 4000000
namespace Go.Proofs.YtjeoklgggppjiaaGreat
open Go Go.Am Go.Dig
def cs (x d k:Nat):Nat:=x%B^k*d/B^k
theorem E9 {f:FuncId} {x x' y r:AV} (h:zd Tryz.prog f [x',y] r) (hy:AV.imp x x'):zd Tryz.prog f [x,y] r:=fun I vs w h1 h2 h3 =>
 h I vs w h1 h2 fun i a hi=>by
  match i,hi with
  | 0,hi=>simp at hi; subst hi; exact hy _ _ _ (h3 0 x rfl)
  | 1,hi=>exact h3 1 a hi
  | i+2,hi=>simp at hi
theorem kL (q:Nat):B^q=2^(32*q):=by rw[Nat.pow_mul]; rfl
theorem Ek {x i:Nat}:x/B^(i/32)%B/2^(i%32)%2=x/2^i%2:=by
 have hi:2^i=B^(i/32)*2^(i%32):=by rw[kL,← Nat.pow_add]; congr 1; omega
 rw[hi,← Nat.div_div_eq_div_mul]
 generalize x/B^(i/32)=y
 have hr:i%32<32:=Nat.mod_lt _ (by omega)
 generalize i%32=r at *
 have hB:B=2^r*2^(32-r):=by
  rw[← Nat.pow_add,Nat.add_sub_cancel' (by omega)]; rfl
 rw[hB,Nat.mod_mul_right_div_self]
 exact Nat.mod_mod_of_dvd _ ⟨2^(31-r),by rw[show 32-r=(31-r)+1 by omega,Nat.pow_succ,Nat.mul_comm]⟩
theorem S9 {m:Am.Mode} {a:List Nat} {i:Nat} (ha:ok a) (hn:a.length<1099511627776) (hi:i<35184372088832) (f1:stm m=m):zd Tryz.prog YG [nl m a,iv i] (ya (val a/2^i%2)):=by
 have d1:=uU (m:=m) (i:=i/32) ha hn (by omega)
 rw[qh ha] at d1
 have hp:=Ek (x:=val a) (i:=i)
 have hpB:val a/B^(i/32)%B<B:=Nat.mod_lt _ zZ
 rw[← hp]
 clear hp
 generalize val a/B^(i/32)%B=p at *
 have q1:IntKind.i64.wrap ((i:Int)/32)=((i/32:Nat):Int):=by rw[wrap64]<;>omega
 have q2:(i:Int).tmod 32=((i%32:Nat):Int):=by
  rw[show (32:Int)=((32:Nat):Int) from rfl,← Int.ofNat_tmod]
 have hr:i%32<32:=Nat.mod_lt _ (by omega)
 obtain ⟨q,hq⟩:∃ q,i/32=q:=⟨_,rfl⟩
 obtain ⟨r,hr2⟩:∃ r,i%32=r:=⟨_,rfl⟩
 rw[hq] at q1 d1
 rw[hr2] at q2 hr
 rw[hr2]
 clear hq hr2
 have hP:0<2^r:=Nat.pow_pos (by omega)
 have hPB:=ft hr
 have hmin:min r IntKind.u64.bits=r:=by
  have:IntKind.u64.bits=64:=rfl
  omega
 obtain ⟨P,hPe⟩:∃ P,2^r=P:=⟨_,rfl⟩
 rw[hPe] at hP hPB
 rw[hPe]
 have u1:IntKind.u64.wrap ((2:Int)^r)=(P:Int):=by
  rw[show (2:Int)^r=((2^r:Nat):Int) by simp,hPe]; exact w64 (by rw[z8] at hPB; omega)
 have hne:¬ P=0:=by omega
 have u2:IntKind.u64.wrap ((p:Int)/(P:Int))=((p/P:Nat):Int):=by
  rw[← Int.natCast_ediv]; exact w64 (Nat.lt_of_le_of_lt (Nat.div_le_self _ _) (by rw[z8] at hpB; omega))
 obtain ⟨z,hz⟩:∃ z,p/P=z:=⟨_,rfl⟩
 rw[hz] at u2
 rw[hz]
 have u3:(z:Int).tmod 2=((z%2:Nat):Int):=by
  rw[show (2:Int)=((2:Nat):Int) from rfl,← Int.ofNat_tmod]
 clear hz hPe
 refine zx aeF (by simp) ?_
 simp[KV,sy,q1]
 refine za d1 (by simp[f1]) (by simp) ?_
 simp[sy,nv,vH,q2,hmin,u1,hne,u2,u3,JH]
def bl (x:Nat):Nat:=if x=0 then 0 else Nat.log2 x+1
theorem abD (x:Nat):x<2^bl x:=by
 unfold bl
 split
 ·subst x; decide
 ·exact Nat.lt_log2_self
theorem ae6 {x:Nat} (h:0<bl x):x/2^(bl x-1)%2=1:=by
 unfold bl at *
 split at h
 ·exact absurd h (Nat.lt_irrefl _)
 ·rename_i h0
  rw[if_neg h0,Nat.add_sub_cancel]
  have h1:=Nat.log2_self_le h0
  have h2:x<2^(Nat.log2 x+1):=Nat.lt_log2_self
  have h3:x/2^Nat.log2 x=1:=by
   rw[Nat.div_eq_iff (Nat.pow_pos (by omega))]
   rw[Nat.pow_succ] at h2
   omega
  rw[h3]
theorem Ge {x n:Nat} (h:x<2^n):bl x≤n:=by
 unfold bl
 split
 ·omega
 ·rename_i h0
  exact (Nat.log2_lt h0).2 h
def stB (m:Am.Mode) (a:List Nat) (k:Nat):St:={env:=[(0,nl m a),(3,iv ((32*a.length-k:Nat):Int))],sto:=[]}
theorem PX {m:Am.Mode} {a:List Nat} (ha:ok a) (hn:a.length<137438953472) (f1:stm m=m):zd Tryz.prog cD [nl m a] (iv (bl (val a))):=by
 refine zx abx (by simp) ?_
 have hlt:val a<2^(32*a.length):=by rw[← kL]; exact uy ha
 have hle:=Ge hlt
 have w0:IntKind.i64.wrap (32*(a.length:Int))=((32*a.length:Nat):Int):=by rw[wrap64]<;>omega
 simp[P5,w0]
 refine zr (stB m a) (fun _=>True) (32*a.length-bl (val a)) (by simp[stB]) trivial (fun k hk _=>?_) (fun _=>?_)
 ·obtain ⟨j,hj⟩:∃ j,32*a.length-k=j+1:=⟨32*a.length-k-1,by omega⟩
  have hj2:32*a.length-(k+1)=j:=by omega
  have hb:=S9 (m:=m) (i:=j) ha (by omega) (by omega) f1
  have hz:val a/2^j%2=0:=by
   rw[Nat.div_eq_of_lt]
   exact Nat.lt_of_lt_of_le (abD _) (Nat.pow_le_pow_right (by omega) (by omega))
  rw[hz] at hb
  have hst:stB m a (k+1)={env:=[(0,nl m a),(3,iv j)],sto:=[]}:=by rw[stB,hj2]
  have hst0:stB m a k={env:=[(0,nl m a),(3,iv ((j:Int)+1))],sto:=[]}:=by rw[stB,hj]; rfl
  have w1:IntKind.i64.wrap (j:Int)=(j:Int):=by rw[wrap64]<;>omega
  have p1:(0:Int)<(j:Int)+1:=by omega
  rw[hst0]
  simp[l9,p1,w1]
  refine za hb (by simp[f1]) (by simp) ?_
  simp[w1,hst]
 ·have e:32*a.length-(32*a.length-bl (val a))=bl (val a):=by omega
  have ht:=fun h=>ae6 (x:=val a) h
  have hb:=fun i h=>S9 (m:=m) (i:=i) ha (by omega) h f1
  rw[stB,e]
  generalize bl (val a)=L at *
  rcases L with _ | j
  ·simp[l9,dm,UC]
  ·have hb:=hb j (by omega)
   have ht:=ht (by omega)
   rw[Nat.add_sub_cancel] at ht
   rw[ht] at hb
   have w1:IntKind.i64.wrap (j:Int)=(j:Int):=by rw[wrap64]<;>omega
   have p1:(0:Int)<(j:Int)+1:=by omega
   simp[l9,p1,w1]
   refine za hb (by simp[f1]) (by simp) ?_
   simp[dm,UC]
theorem GM {Y r:Nat} (hr:r<32):(Y%B+Y/B%B*B)/2^r%B=Y/2^r%B:=by
 have h1:Y%B+Y/B%B*B=Y%(2^r*2^(64-r)):=by
  have:2^r*2^(64-r)=B*B:=by
   rw[← Nat.pow_add,Nat.add_sub_cancel' (by omega)]; rfl
  rw[this,Nat.mod_mul,Nat.mul_comm]
 rw[h1,Nat.mod_mul_right_div_self]
 refine Nat.mod_mod_of_dvd _ ⟨2^(32-r),?_⟩
 rw[show 64-r=32+(32-r) by omega,Nat.pow_add]; rfl
theorem GL {x k t:Nat}:x/2^k/B^t%B=(x/B^(k/32+t)%B+x/B^(k/32+t+1)%B*B)/2^(k%32)%B:=by
 have h1:x/B^(k/32+t+1)=x/B^(k/32+t)/B:=by rw[Nat.pow_succ,Nat.div_div_eq_div_mul]
 rw[h1,GM (Nat.mod_lt _ (by omega)),Nat.div_div_eq_div_mul,Nat.div_div_eq_div_mul]
 have:2^k*B^t=B^(k/32+t)*2^(k%32):=by
  rw[kL,kL,← Nat.pow_add,← Nat.pow_add]; congr 1; omega
 rw[this]
def stH (m:Am.Mode) (a:List Nat) (k t:Nat):St :=
 {env:=[(0,nl m a),(1,iv k),(5,vR 1 34 (zH (zu t (val a/2^k)))),(6,iv ((k/32+t:Nat):Int))],sto:=[]}
theorem Ap {m:Am.Mode} {a:List Nat} {k:Nat} (ha:ok a) (hn:a.length<137438953472) (hk:k<35184372088832) (f1:stm m=m):zd Tryz.prog X4 [nl m a,iv k] (nD (val a/2^k)):=by
 refine zx aby (by simp) ?_
 have q0:IntKind.i64.wrap ((k:Int)/32)=((k/32:Nat):Int):=by rw[wrap64]<;>omega
 have q2:(k:Int).tmod 32=((k%32:Nat):Int):=by
  rw[show (32:Int)=((32:Nat):Int) from rfl,← Int.ofNat_tmod]
 simp[P6,sy,q0]
 refine zr (stH m a k) (fun _=>True) (a.length-k/32) (by simp[stH,zu]) trivial (fun t ht _=>?_) (fun _=>?_)
 ·have d1:=uU (m:=m) (i:=k/32+t) ha (by omega) (by omega)
  have d2:=uU (m:=m) (i:=k/32+t+1) ha (by omega) (by omega)
  rw[qh ha] at d1 d2
  have hd:=GL (x:=val a) (k:=k) (t:=t)
  have hsucc:=qP (n:=t) (x:=val a/2^k)
  have hdl:=zy (n:=t) (x:=val a/2^k)
  rw[hd] at hsucc
  have hst:stH m a k (t+1)={env:=[(0,nl m a),(1,iv k),(5,vR 1 34 (zH (zu (t+1) (val a/2^k)))),(6,iv ((k/32+t:Nat)+1:Int))],sto:=[]}:=by
   rw[stH]; rfl
  rw[hsucc] at hst
  rw[stH]
  clear hd hsucc
  have hpB:val a/B^(k/32+t)%B<B:=Nat.mod_lt _ zZ
  have hqB:val a/B^(k/32+t+1)%B<B:=Nat.mod_lt _ zZ
  generalize val a/B^(k/32+t)%B=p at *
  generalize val a/B^(k/32+t+1)%B=q at *
  generalize zu t (val a/2^k)=D at *
  have hr:k%32<32:=Nat.mod_lt _ (by omega)
  obtain ⟨i,hi⟩:∃ i,k/32+t=i:=⟨_,rfl⟩
  obtain ⟨r,hr2⟩:∃ r,k%32=r:=⟨_,rfl⟩
  have hil:i<a.length:=by omega
  rw[hi] at d1 d2 hst
  rw[hi]
  rw[hr2] at hst q2 hr
  have htb:t<a.length:=by omega
  clear hi hr2 ht q0
  have hP:0<2^r:=Nat.pow_pos (by omega)
  have hPB:=ft hr
  have hmin:min r IntKind.u64.bits=r:=by
   have:IntKind.u64.bits=64:=rfl
   omega
  obtain ⟨P,hPe⟩:∃ P,2^r=P:=⟨_,rfl⟩
  rw[hPe] at hP hPB hst
  have u1:IntKind.u64.wrap ((2:Int)^r)=(P:Int):=by
   rw[show (2:Int)^r=((2^r:Nat):Int) by simp,hPe]; exact w64 (by rw[z8] at hPB; omega)
  have hne:¬ P=0:=by omega
  clear hPe
  have hs:=SY hqB hpB
  obtain ⟨s,hse⟩:∃ s,p+q*B=s:=⟨_,rfl⟩
  have hsB:s<18446744073709551616:=by rw[← hse,Nat.add_comm]; exact hs
  rw[hse] at hst
  obtain ⟨qb,hqb⟩:∃ qb,q*B=qb:=⟨_,rfl⟩
  rw[hqb] at hse
  have w1:IntKind.u64.wrap ((q:Int)*4294967296)=(qb:Int):=by
   rw[show (q:Int)*4294967296=((q*B:Nat):Int) by rw[z8]; simp,hqb]; exact w64 (by omega)
  have w2:IntKind.u64.wrap ((p:Int)+qb)=(s:Int):=by rw[vW]<;>omega
  have u2:IntKind.u64.wrap ((s:Int)/(P:Int))=((s/P:Nat):Int):=by
   rw[← Int.natCast_ediv]; exact w64 (Nat.lt_of_le_of_lt (Nat.div_le_self _ _) hsB)
  obtain ⟨z,hz⟩:∃ z,s/P=z:=⟨_,rfl⟩
  rw[hz] at u2 hst
  obtain ⟨d,hd⟩:∃ d,z%B=d:=⟨_,rfl⟩
  rw[hd] at hst
  have u3:(z:Int).tmod 4294967296=(d:Int):=by
   rw[← hd,z8,show (4294967296:Int)=((4294967296:Nat):Int) from rfl,← Int.ofNat_tmod]
  have hdB:d<B:=by rw[← hd]; exact Nat.mod_lt _ zZ
  clear hz hd hqb hs
  rw[z8] at hdB
  have w3:IntKind.u32.wrap (d:Int)=d:=IntWalk.u32_in _ (by omega)
  have w4:IntKind.i64.wrap ((i:Int)+1)=(i:Int)+1:=wrap64 (by omega) (by omega)
  have hil':(i:Int)<(a.length:Int):=by omega
  simp[dn,hil']
  refine za d1 (by simp[f1]) (by simp) ?_
  simp[w4]
  refine za d2 (by simp[f1]) (by simp) ?_
  simp[sy,nv,vH,w1,w2,q2,hmin,u1,hne,u2,u3,w3,w4,hst,ZC f1]
  omega
 ·have hlt:val a/2^k<B^(a.length-k/32):=by
   apply Nat.div_lt_of_lt_mul
   have h1:=uy ha
   have h2:B^a.length≤2^k*B^(a.length-k/32):=by
    rw[kL,kL,← Nat.pow_add]
    exact Nat.pow_le_pow_right (by omega) (by omega)
   exact Nat.lt_of_lt_of_le h1 h2
  have kt:=fK (m:=.plain) (a:=zu (a.length-k/32) (val a/2^k)) yD (by rw[zy]; omega)
  rw[yk hlt] at kt
  rw[stH]
  generalize val a/2^k=y at *
  have hge:¬ ((k/32+(a.length-k/32):Nat):Int)<(a.length:Int):=by omega
  generalize k/32+(a.length-k/32)=i at *
  generalize a.length-k/32=n at *
  have hge':¬ i<a.length:=by omega
  simp[dn,hge',Xx,Mz]
  refine za (NS kt NT) (by simp) (.inl rfl) ?_
  simp
theorem BF {x y j:Nat} (hy:0<y) :
  let r:=2*(x/2^(j+1)%y)+x/2^j%2
  (r<y→x/2^j/y=2*(x/2^(j+1)/y)∧x/2^j%y=r)∧(y≤r→x/2^j/y=2*(x/2^(j+1)/y)+1∧x/2^j%y=r-y):=by
 intro r
 have hX:x/2^j=2*(x/2^(j+1))+x/2^j%2:=by
  have:x/2^(j+1)=x/2^j/2:=by rw[Nat.pow_succ,Nat.div_div_eq_div_mul]
  rw[this]; omega
 have hb:x/2^j%2<2:=Nat.mod_lt _ (by omega)
 have hd:=Nat.div_add_mod (x/2^(j+1)) y
 have hm:=Nat.mod_lt (x/2^(j+1)) hy
 have hr:r=2*(x/2^(j+1)%y)+x/2^j%2:=rfl
 generalize x/2^j%2=b at *
 generalize x/2^(j+1)/y=q at *
 generalize x/2^(j+1)%y=m at *
 generalize x/2^(j+1)=X at *
 generalize x/2^j=Z at *
 have hZ:Z=y*(2*q)+r:=by
  rw[show y*(2*q)=2*(y*q) by rw[Nat.mul_left_comm]]; omega
 clear hX hd
 constructor
 ·intro h
  rw[hZ]
  exact ⟨by rw[Nat.mul_add_div hy,Nat.div_eq_of_lt h,Nat.add_zero],by rw[Nat.mul_add_mod,Nat.mod_eq_of_lt h]⟩
 ·intro h
  have h2:Z=y*(2*q+1)+(r-y):=by rw[Nat.mul_add,Nat.mul_one]; omega
  have h3:r-y<y:=by omega
  rw[h2]
  exact ⟨by rw[Nat.mul_add_div hy,Nat.div_eq_of_lt h3,Nat.add_zero],by rw[Nat.mul_add_mod,Nat.mod_eq_of_lt h3]⟩
theorem Ej {x y:Nat} (hy:0<y):x/2^(bl x+1-bl y)<y∧0<bl y:=by
 have h1:=abD x
 have hne:y≠0:=by omega
 have hb:bl y=Nat.log2 y+1:=by unfold bl; rw[if_neg hne]
 have h2:=Nat.log2_self_le hne
 refine ⟨Nat.lt_of_lt_of_le ?_ h2,by omega⟩
 apply Nat.div_lt_of_lt_mul
 rw[← Nat.pow_add]
 exact Nat.lt_of_lt_of_le h1 (Nat.pow_le_pow_right (by omega) (by omega))
def qA (t Q:Nat):AV:=if t=0 then .list 0 .full [] else nD Q
def RQ (m1 m2:Am.Mode) (a c:List Nat) (k t:Nat):St :=
 {env:=[(0,nl m1 a),(1,nl m2 c),(8,qA t (val a/2^(k-t)/val c)),(9,nD (val a/2^(k-t)%val c)),(10,iv ((k:Int)-1-t))],sto:=[]}
theorem c8 {m1 m2:Am.Mode} {a c:List Nat} (ha:ok a) (hc:ok c) (hna:a.length<68719476736) (hnc:c.length<68719476736) (f1:stm m1=m1) (f2:stm m2=m2) (hD:val c≠0) :
  zd Tryz.prog mf [nl m1 a,nl m2 c] (c9 (val a) (val c)):=by
 have hy:0<val c:=by omega
 obtain ⟨s1,s2⟩:=Ej (x:=val a) hy
 have b1:=PX ha (by omega) f1
 have b2:=PX hc (by omega) f2
 have hl1:bl (val a)≤32*a.length:=Ge (by rw[← kL]; exact uy ha)
 have hl2:bl (val c)≤32*c.length:=Ge (by rw[← kL]; exact uy hc)
 obtain ⟨k,hk⟩:∃ k,bl (val a)+1-bl (val c)=k:=⟨_,rfl⟩
 have hk2:k≤32*a.length:=by omega
 have hh:=Ap (k:=k) ha (by omega) (by omega) f1
 have hcl:¬ c.length=0:=fun h=>by
  rw[List.length_eq_zero_iff] at h
  subst h
  exact hD rfl
 have hcn:¬ c=[]:=fun h=>hcl (by rw[h]; rfl)
 rw[hk] at s1
 have m0:max (1:Int) (bl (val c):Int)=(bl (val c):Int):=by omega
 have w0:IntKind.i64.wrap ((bl (val a):Int)-(bl (val c):Int))=(bl (val a):Int)-(bl (val c):Int):=by rw[wrap64]<;>omega
 have w1:IntKind.i64.wrap ((bl (val a):Int)-(bl (val c):Int)+1)=(bl (val a):Int)-(bl (val c):Int)+1:=by rw[wrap64]<;>omega
 have m1':max (0:Int) ((bl (val a):Int)-(bl (val c):Int)+1)=(k:Int):=by omega
 have w2:IntKind.i64.wrap ((k:Int)-1)=(k:Int)-1:=by rw[wrap64]<;>omega
 refine vc F4 (by simp) ?_
 simp[Tv,hcl]
 refine za b1 (by simp[f1]) (by simp) ?_
 simp
 refine za b2 (by simp[f2]) (by simp) ?_
 simp[m0,w0,w1,m1']
 refine za hh (by simp[f1]) (by simp) ?_
 simp[w2]
 have r0:val a/2^k%val c=val a/2^k:=Nat.mod_eq_of_lt s1
 refine zr (RQ m1 m2 a c k) (fun _=>True) k (by simp[RQ,qA,r0]) trivial (fun t ht _=>?_) (fun _=>?_)
 ·obtain ⟨j,hj⟩:∃ j,k-1-t=j:=⟨_,rfl⟩
  have hj1:k-t=j+1:=by omega
  have hj2:k-(t+1)=j:=by omega
  have hjz:(k:Int)-1-t=(j:Int):=by omega
  obtain ⟨p1,p2⟩:=BF (x:=val a) (j:=j) hy
  have hb:=S9 (m:=m1) (i:=j) ha (by omega) (by omega) f1
  have hQ:val a/2^(j+1)/val c<B^a.length:=Nat.lt_of_le_of_lt (Nat.le_trans (Nat.div_le_self _ _) (Nat.div_le_self _ _)) (uy ha)
  have hR:val a/2^(j+1)%val c<B^c.length:=Nat.lt_trans (Nat.mod_lt _ hy) (uy hc)
  have hbt:val a/2^j%2<2:=Nat.mod_lt _ (by omega)
  have hst:RQ m1 m2 a c k (t+1)={env:=[(0,nl m1 a),(1,nl m2 c),(8,nD (val a/2^j/val c)),(9,nD (val a/2^j%val c)),(10,iv ((j:Int)-1))],sto:=[]}:=by
   rw[RQ,hj2,qA,if_neg (by omega),show (k:Int)-1-((t+1:Nat):Int)=(j:Int)-1 by omega]
  rw[RQ,hj1,hjz]
  have h2:∀ {z n:Nat},z<B^n→z+z<B^(n+1)∧z+z+1<B^(n+1):=fun {z n} h=>by
   rw[Nat.pow_succ]
   have:B^n*2≤B^n*B:=Nat.mul_le_mul_left _ (by decide)
   omega
  have q0:t=0→val a/2^(j+1)/val c=0:=fun h=>by
   have:j+1=k:=by omega
   rw[this]; exact Nat.div_eq_of_lt s1
  generalize val a/2^(j+1)/val c=Q at *
  generalize val a/2^(j+1)%val c=R at *
  generalize val a/2^j%2=d at *
  have lQ:=zI.2 hQ
  have lR:=zI.2 hR
  have lQQ:=zI.2 (h2 hQ).1
  have lRR:=zI.2 (h2 hR).1
  have lRR1:(zg (R+R+d)).length≤c.length+1:=zI.2 (by have:=h2 hR; omega)
  have ld:(zg d).length≤1:=zI.2 (by rw[Nat.pow_one,z8]; omega)
  have kq:=YK (m1:=.plain) (m2:=.plain) (zD Q) (zD Q) (by omega) (by omega) rfl rfl
  have kr:=YK (m1:=.plain) (m2:=.plain) (zD R) (zD R) (by omega) (by omega) rfl rfl
  have kf:=ff (x:=d) (by omega)
  have kr2:=YK (m1:=.plain) (m2:=.plain) (zD (R+R)) (zD d) (by omega) (by omega) rfl rfl
  have kc:=K0 (m1:=.plain) (m2:=m2) (zD (R+R+d)) hc (by omega) (by omega) rfl f2
  have ks:=aen (m1:=.plain) (m2:=m2) (zD (R+R+d)) hc (by omega) (by omega) rfl f2
  have kf1:=ff (x:=1) (by omega)
  have l1:(zg 1).length≤1:=zI.2 (by decide)
  have kq1:=YK (m1:=.plain) (m2:=.plain) (zD (Q+Q)) (zD 1) (by omega) (by omega) rfl rfl
  simp only[zO] at kq kr kr2 kc ks kq1
  have w3:IntKind.i64.wrap ((j:Int)-1)=(j:Int)-1:=by rw[wrap64]<;>omega
  have kq':zd Tryz.prog m8 [qA t Q,qA t Q] (nD (Q+Q))∧qA t Q=(if t=0 then .list 0 .full [] else nD Q):=by
   refine ⟨?_,rfl⟩
   unfold qA
   split
   ·rename_i h0
    have hq0:=q0 h0
    subst hq0
    exact E9 (bD kq (mP (sz:=0))) (mP (sz:=0))
   ·exact kq
  have hsn:wM (fun _=>none) (qA t Q)=some (qA t Q):=by unfold qA; split<;>simp
  have hrf:([qA t Q,qA t Q]:List AV).any sS=false:=by unfold qA; split<;>simp
  simp[jB]
  refine za kq'.1 (by simp[hsn]) (.inl hrf) ?_
  simp
  refine za kr (by simp) (by simp) ?_
  simp
  refine za hb (by simp[f1]) (by simp) ?_
  simp
  refine za kf (by simp) (by simp) ?_
  simp
  refine za kr2 (by simp) (by simp) ?_
  simp
  refine za kc (by simp[f2]) (by simp) ?_
  have e2:R+R+d=2*R+d:=by omega
  have e3:Q+Q=2*Q:=by omega
  by_cases hlt:R+R+d<val c
  ·have hcm:¬ (0:Int)≤yU (R+R+d) (val c):=by simp[yU,hlt]
   obtain ⟨g1,g2⟩:=p1 (by omega)
   rw[g1,g2,← e2,← e3] at hst
   simp[hcm,w3,hst]
  ·have hcm:(0:Int)≤yU (R+R+d) (val c):=by simp only[yU,if_neg hlt]; split<;>omega
   obtain ⟨g1,g2⟩:=p2 (by omega)
   rw[g1,g2,← e2,← e3] at hst
   simp[hcm]
   refine za ks (by simp[f2]) (by simp) ?_
   simp
   refine za kf1 (by simp) (by simp) ?_
   simp
   refine za kq1 (by simp) (by simp) ?_
   simp[w3,hst]
 ·have hkk:¬ (k:Int)≤(k:Int)-1:=by omega
  have e0:¬ (0:Int)≤(k:Int)-1-k:=by omega
  simp[jB,RQ,hkk,aQ,Sd]
  rcases Nat.eq_zero_or_pos k with h0 | h0
  ·subst h0
   have hz:val a/val c=0:=by rw[Nat.pow_zero,Nat.div_one] at s1; exact Nat.div_eq_of_lt s1
   simp[qA]
   rw[c9,hz]
   exact NV mP AV.imp.refl AV.imp.refl
  ·have hk0:¬ k=0:=by omega
   simp[qA,hk0]
   exact AV.imp.refl
theorem acU {A D:Nat} (hna:(zg A).length<68719476736) (hnc:(zg D).length<68719476736) :
  zd Tryz.prog S5 [nD A,nD D] (nD (Nat.gcd A D)):=by
 obtain ⟨N,h1,h2⟩:=ET D A
 obtain ⟨L,hL⟩:∃ L,L=68719476735:=⟨_,rfl⟩
 have hL1:A<B^L:=zI.1 (by omega)
 have hL2:D<B^L:=zI.1 (by omega)
 have hb:=fun k=>Gv k A D hL1 hL2
 have hlen:∀ x,x<B^L→(zg x).length<68719476736:=fun x hx=>Nat.lt_of_le_of_lt (zI.2 hx) (by omega)
 have hg:=hlen _ (show Nat.gcd A D<B^L by have:=(hb N).1; rw[h2] at this; exact this)
 refine zx aeH (by simp) ?_
 simp[KX]
 refine zr (fun k=>stG (eu A D k)) (fun _=>True) N (by simp[stG,eu]) trivial (fun k hk _=>?_) (fun _=>?_)
 ·have hne:=h1 k hk
  obtain ⟨b1,b2⟩:=hb k
  have b1':=hlen _ b1
  have b2':=hlen _ b2
  have hs:=Rj k A D
  obtain ⟨x,hx⟩:∃ x,(eu A D k).1=x:=⟨_,rfl⟩
  obtain ⟨y,hy⟩:∃ y,(eu A D k).2=y:=⟨_,rfl⟩
  rw[hx,hy] at hs
  rw[hx] at b1'
  rw[hy] at b2' hne
  have kd:=c8 (m1:=.plain) (m2:=.plain) (zD x) (zD y) b1' b2' rfl rfl (by rw[zO]; exact hne)
  rw[zO,zO] at kd
  have hl0:0<(zg y).length:=by
   rcases Nat.eq_zero_or_pos (zg y).length with h | h
   ·rw[List.length_eq_zero_iff,yT] at h; exact absurd h hne
   ·exact h
  simp[cW,stG,hl0,hx,hy]
  refine za kd (by simp) (by simp) ?_
  simp[hs]
 ·simp only[h2]
  have kt:=fK (m:=.plain) (zD (Nat.gcd A D)) (by omega)
  rw[zO] at kt
  simp[cW,Tw,JI,stG,yz]
  refine za kt (by simp) (by simp) ?_
  simp
theorem AF {neg:Bool} {N D:Nat} (hN:(zg N).length<68719476736) (hD:(zg D).length<68719476736) (h0:D≠0) :
  zd Tryz.prog X3 [bv neg,nD N,nD D] (.tuple [xJ neg N D,iv 0]):=by
 obtain ⟨g0,g1,g2⟩:=NN (N:=N) h0
 have kg:=acU hN hD
 have hgl:(zg (Nat.gcd N D)).length<68719476736:=by
  have h1:D<B^(zg D).length:=zI.1 (Nat.le_refl _)
  exact Nat.lt_of_le_of_lt (zI.2 (Nat.lt_of_le_of_lt g2 h1)) hD
 have hl0:¬ (zg D).length=0:=by rw[List.length_eq_zero_iff,yT]; exact h0
 have hl1:¬ zg D=[]:=by rw[yT]; exact h0
 unfold xJ
 have hz:(zg (N/Nat.gcd N D)).length=0↔N=0:=by rw[List.length_eq_zero_iff,yT]; exact g1
 generalize Nat.gcd N D=g at *
 have kn:=c8 (m1:=.plain) (m2:=.plain) (zD N) (zD g) (by omega) (by omega) rfl rfl (by rw[zO]; exact g0)
 have kd:=c8 (m1:=.plain) (m2:=.plain) (zD D) (zD g) (by omega) (by omega) rfl rfl (by rw[zO]; exact g0)
 simp only[zO] at kn kd
 refine zx abt (by simp) ?_
 simp[P4,hl0]
 refine za kg (by simp) (by simp) ?_
 simp
 refine za kn (by simp) (by simp) ?_
 simp
 refine za kd (by simp) (by simp) ?_
 cases neg
 ·simp[bY]
 ·by_cases hN0:N=0
  ·subst hN0
   simp[bY,yz]
  ·have:0<(zg N).length:=by
    rcases Nat.eq_zero_or_pos (zg N).length with h | h
    ·rw[List.length_eq_zero_iff,yT] at h; exact absurd h hN0
    ·exact h
   simp[bY,this,hN0]
theorem Sn {n:Int} (h1:-9223372036854775808≤n) (h2:n<9223372036854775808):zd Tryz.prog cC [iv n] (nD n.natAbs):=by
 obtain ⟨x,hx⟩:∃ x,n.natAbs=x:=⟨_,rfl⟩
 have hxl:x<18446744073709551616:=by omega
 have k:=ff (x:=x) hxl
 rw[hx]
 refine zx abw (by simp) ?_
 by_cases h:n<0
 ·have w1:IntKind.i64.wrap (n+1)=n+1:=by rw[wrap64]<;>omega
  have w2:IntKind.i64.wrap (-(n+1))=(x:Int)-1:=by rw[wrap64]<;>omega
  have w2':IntKind.i64.wrap (-1+-n)=(x:Int)-1:=by rw[wrap64]<;>omega
  have w3:IntKind.u64.wrap ((x:Int)-1)=(x:Int)-1:=by rw[vW]<;>omega
  have w4:IntKind.u64.wrap (x:Int)=x:=w64 hxl
  simp[X9,h,w1,Mf,w2,w3,w4]
  refine za k (by simp) (by simp) ?_
  simp[UB]
 ·have w4:IntKind.u64.wrap n=(x:Int):=by rw[vW]<;>omega
  simp[X9,h,w4]
  refine za k (by simp) (by simp) ?_
  simp[UB]
theorem ado {n d:Int} (h1:-9223372036854775808≤n) (h2:n<9223372036854775808) (h3:-9223372036854775808≤d) (h4:d<9223372036854775808) (h0:d≠0) :
  zd Tryz.prog S4 [iv n,iv d] (.tuple [xJ (decide (n<0) != decide (d<0)) n.natAbs d.natAbs,iv 0]):=by
 have k1:=Sn h1 h2
 have k2:=Sn h3 h4
 have l1:=jX (x:=n.natAbs) (by omega)
 have l2:=jX (x:=d.natAbs) (by omega)
 have k3:=AF (neg:=decide (n<0) != decide (d<0)) (N:=n.natAbs) (D:=d.natAbs) (by omega) (by omega) (by omega)
 unfold xJ at *
 generalize n.natAbs/Nat.gcd n.natAbs d.natAbs=p at *
 generalize d.natAbs/Nat.gcd n.natAbs d.natAbs=q at *
 generalize hb:(decide (n<0) != decide (d<0))=b at *
 refine zx aeD (by simp) ?_
 have hu:Tryz.prog.underlying rQ=some .bool:=by first | exact un_T_bool | rfl | kernel_rfl
 have hb':(!(decide (n<0) == decide (d<0)))=b:=hb
 simp[KT,y9 hu]
 rw[hb']
 refine za k1 (by simp) (by simp) ?_
 simp
 refine za k2 (by simp) (by simp) ?_
 simp
 refine za k3 (by simp) (by simp) ?_
 simp[JF]
theorem LY {n:Int} (h1:-9223372036854775808≤n) (h2:n<9223372036854775808):zd Tryz.prog ve [iv n] (xJ (decide (n<0)) n.natAbs 1):=by
 have k:=ado (n:=n) (d:=1) h1 h2 (by decide) (by decide) (by decide)
 have e:(decide (n<0) != decide ((1:Int)<0))=decide (n<0):=by simp
 rw[e,show (1:Int).natAbs=1 from rfl] at k
 unfold xJ at *
 generalize n.natAbs/Nat.gcd n.natAbs 1=p at *
 generalize 1/Nat.gcd n.natAbs 1=q at *
 refine zx KA (by simp) ?_
 simp[Xu]
 refine za k (by simp) (by simp) ?_
 simp[XS]
theorem DB {s:Bool} {N D:Nat} (hN:(zg N).length<68719476736) (hD:(zg D).length<68719476736) (h0:D≠0):zd Tryz.prog qC [frA s N D] (xJ (!s) N D):=by
 have k:=qV (neg:=!s) hN hD h0
 unfold xJ at *
 generalize N/Nat.gcd N D=p at *
 generalize D/Nat.gcd N D=q at *
 refine zx aev (by simp) ?_
 simp[KL]
 refine za k (by simp) (by simp) ?_
 simp[JA]
theorem qW {x y n m:Nat} (hx:(zg x).length≤n) (hy:(zg y).length≤m):(zg (x*y)).length≤n+m:=zI.2 (by
 rw[Nat.pow_add]; exact Nat.mul_lt_mul_of_lt_of_lt (zI.1 hx) (zI.1 hy))
theorem GW {s t:Bool} {N D M E:Nat} (hN:(zg N).length<17179869184) (hD:(zg D).length<17179869184) (hM:(zg M).length<17179869184) (hE:(zg E).length<17179869184) (h0:D≠0) (h1:E≠0) :
  zd Tryz.prog wK [frA s N D,frA t M E] (xJ (!(s == t)) (N*M) (D*E)):=by
 have l1:=qW (Nat.le_refl (zg N).length) (Nat.le_refl (zg M).length)
 have l2:=qW (Nat.le_refl (zg D).length) (Nat.le_refl (zg E).length)
 have h2:D*E≠0:=Nat.mul_ne_zero h0 h1
 have k1:=qn (m1:=.plain) (m2:=.plain) (zD N) (zD M) (by omega) (by omega) (by omega) rfl rfl
 have k2:=qn (m1:=.plain) (m2:=.plain) (zD D) (zD E) (by omega) (by omega) (by omega) rfl rfl
 simp only[zO] at k1 k2
 have k:=qV (neg:=!(s == t)) (N:=N*M) (D:=D*E) (by omega) (by omega) h2
 unfold xJ at *
 generalize N*M/Nat.gcd (N*M) (D*E)=p at *
 generalize D*E/Nat.gcd (N*M) (D*E)=q at *
 refine zx aeu (by simp) ?_
 simp[KK,y9 s9]
 refine za k1 (by simp) (by simp) ?_
 simp
 refine za k2 (by simp) (by simp) ?_
 simp
 refine za k (by simp) (by simp) ?_
 simp[Jz]
theorem XA {s t:Bool} {N D M E:Nat} (hN:(zg N).length<17179869184) (hD:(zg D).length<17179869184) (hM:(zg M).length<17179869184) (hE:(zg E).length<17179869184) :
  zd Tryz.prog fP [frA s N D,frA t M E] (.tuple [nD (N*E),nD (M*D)]):=by
 have k1:=qn (m1:=.plain) (m2:=.plain) (zD N) (zD E) (by omega) (by omega) (by omega) rfl rfl
 have k2:=qn (m1:=.plain) (m2:=.plain) (zD M) (zD D) (by omega) (by omega) (by omega) rfl rfl
 simp only[zO] at k1 k2
 refine zx Ba (by simp) ?_
 simp[Qj]
 refine za k1 (by simp) (by simp) ?_
 simp
 refine za k2 (by simp) (by simp) ?_
 simp[QR]
def J9 (s:Bool) (N D:Nat) (t:Bool) (M E:Nat):AV :=
 if s=t then xJ s (N*E+M*D) (D*E) else if N*E<M*D then xJ t (M*D-N*E) (D*E) else xJ s (N*E-M*D) (D*E)
theorem ab3 {x y n:Nat} (hx:(zg x).length≤n) (hy:(zg y).length≤n):(zg (x+y)).length≤n+1:=zI.2 (by
 have h1:=zI.1 hx
 have h2:=zI.1 hy
 rw[Nat.pow_succ]
 have:B^n*2≤B^n*B:=Nat.mul_le_mul_left _ (by decide)
 omega)
theorem JZ {x y n:Nat} (hx:(zg x).length≤n):(zg (x-y)).length≤n:=zI.2 (Nat.lt_of_le_of_lt (Nat.sub_le _ _) (zI.1 hx))
theorem Uh (s:Bool) (N D:Nat):∃ b p q,xJ s N D=.agg [bv b,nD p,nD q]:=⟨_,_,_,rfl⟩
theorem J8 {s t:Bool} {N D M E:Nat} (hN:(zg N).length<17179869184) (hD:(zg D).length<17179869184) (hM:(zg M).length<17179869184) (hE:(zg E).length<17179869184) (h0:D≠0) (h1:E≠0) :
  zd Tryz.prog uE [frA s N D,frA t M E] (J9 s N D t M E):=by
 have l1:=qW (Nat.le_refl (zg N).length) (Nat.le_refl (zg E).length)
 have l2:=qW (Nat.le_refl (zg M).length) (Nat.le_refl (zg D).length)
 have l3:=qW (Nat.le_refl (zg D).length) (Nat.le_refl (zg E).length)
 have h2:D*E≠0:=Nat.mul_ne_zero h0 h1
 have kx:=XA (s:=s) (t:=t) hN hD hM hE
 have kd:=qn (m1:=.plain) (m2:=.plain) (zD D) (zD E) (by omega) (by omega) (by omega) rfl rfl
 simp only[zO] at kd
 have l4:=ab3 (n:=34359738368) (show (zg (N*E)).length≤34359738368 by omega) (show (zg (M*D)).length≤34359738368 by omega)
 have l5:=JZ (y:=M*D) l1
 have l6:=JZ (y:=N*E) l2
 have ka:=fU (m1:=.plain) (m2:=.plain) (zD (N*E)) (zD (M*D)) (by omega) (by omega)
 have ks:=Q1 (m1:=.plain) (m2:=.plain) (zD (N*E)) (zD (M*D)) (by omega) (by omega)
 have ks2:=Q1 (m1:=.plain) (m2:=.plain) (zD (M*D)) (zD (N*E)) (by omega) (by omega)
 simp only[zO] at ka ks ks2
 have m1:=qV (neg:=s) (N:=N*E+M*D) (D:=D*E) (by omega) (by omega) h2
 have m2:=qV (neg:=s) (N:=N*E-M*D) (D:=D*E) (by omega) (by omega) h2
 have m3:=qV (neg:=t) (N:=M*D-N*E) (D:=D*E) (by omega) (by omega) h2
 unfold J9
 refine zx aeq (by simp) ?_
 generalize N*E=x at *
 generalize M*D=y at *
 generalize D*E=d at *
 by_cases hst:s=t
 ·have e:(s == t)=true:=by simp[hst]
  obtain ⟨b,p,q,hf⟩:=Uh s (x+y) d
  rw[if_pos hst,hf]
  rw[hf] at m1
  simp[Rb]
  refine za kx (by simp) (by simp) ?_
  simp
  refine za kd (by simp) (by simp) ?_
  simp[aV s9,e]
  refine za ka (by simp) (by simp) ?_
  simp
  refine za m1 (by simp) (by simp) ?_
  simp[Y3]
 ·have e:(s == t)=false:=by simp[hst]
  rw[if_neg hst]
  simp[Rb]
  refine za kx (by simp) (by simp) ?_
  simp
  refine za kd (by simp) (by simp) ?_
  simp[aV s9,e]
  refine za ks (by simp) (by simp) ?_
  by_cases hlt:x<y
  ·obtain ⟨b,p,q,hf⟩:=Uh t (y-x) d
   rw[if_pos hlt,hf]
   rw[hf] at m3
   have hge:¬ y<x:=by omega
   rw[if_neg hge] at ks2
   simp[hlt]
   refine za ks2 (by simp) (by simp) ?_
   simp
   refine za m3 (by simp) (by simp) ?_
   simp[Y3]
  ·obtain ⟨b,p,q,hf⟩:=Uh s (x-y) d
   rw[if_neg hlt,hf]
   rw[hf] at m2
   simp[hlt]
   refine za m2 (by simp) (by simp) ?_
   simp[Y3]
theorem adg (p q:Rat):xJ (!(decide (p.num<0) == decide (q.num<0))) (p.num.natAbs*q.num.natAbs) (p.den*q.den)=xU (p*q):=by
 have h:p.den*q.den≠0:=Nat.mul_ne_zero p.den_nz q.den_nz
 rw[qg h,Rat.mul_def']
 congr 2
 have e1:=mN p.num
 have e2:=mN q.num
 generalize p.num.natAbs=x at *
 generalize q.num.natAbs=y at *
 generalize decide (p.num<0)=s at *
 generalize decide (q.num<0)=t at *
 rw[← e1,← e2]
 cases s<;>cases t<;>simp[sg,Int.neg_mul,Int.mul_neg]
theorem ab4 (p q:Rat):J9 (decide (p.num<0)) p.num.natAbs p.den (decide (q.num<0)) q.num.natAbs q.den=xU (p+q):=by
 have h:p.den*q.den≠0:=Nat.mul_ne_zero p.den_nz q.den_nz
 have e1:=mN p.num
 have e2:=mN q.num
 unfold J9
 rw[qg h,qg h,qg h,Rat.add_def']
 generalize p.num.natAbs=x at *
 generalize q.num.natAbs=y at *
 generalize decide (p.num<0)=s at *
 generalize decide (q.num<0)=t at *
 rw[← e1,← e2]
 have a1:((x*q.den:Nat):Int)=(x:Int)*q.den:=Int.natCast_mul _ _
 have a2:((y*p.den:Nat):Int)=(y:Int)*p.den:=Int.natCast_mul _ _
 generalize hX:x*q.den=X at *
 generalize hY:y*p.den=Y at *
 cases s<;>cases t
 ·simp only[if_true]; congr 2; simp[sg]; omega
 ·simp only[Bool.false_eq_true,if_false]
  split<;>(congr 2; simp only[sg,if_true,Bool.false_eq_true,if_false,Int.neg_mul]; omega)
 ·simp only[Bool.true_eq_false,if_false]
  split<;>(congr 2; simp only[sg,if_true,Bool.false_eq_true,if_false,Int.neg_mul]; omega)
 ·simp only[if_true]; congr 2; simp only[sg,if_true,Int.neg_mul]; omega
end Go.Proofs.YtjeoklgggppjiaaGreat

namespace Go.LP
def zf:Nat→(Nat→Rat)→Rat
 | 0,_=>0
 | n+1,f=>zf n f+f n
theorem zm {n:Nat} {f g:Nat→Rat} (h:∀ i,i<n→f i=g i):zf n f=zf n g:=by
 induction n with
 | zero=>rfl
 | succ n ih=>simp only[zf]; rw[ih fun i hi=>h i (by omega),h n (by omega)]
theorem zM {n:Nat} {f:Nat→Rat} (h:∀ i,i<n→f i=0):zf n f=0:=by
 induction n with
 | zero=>rfl
 | succ n ih=>simp only[zf]; rw[ih fun i hi=>h i (by omega),h n (by omega)]; grind
theorem lW {n:Nat} {f g:Nat→Rat}:zf n (fun i=>f i+g i)=zf n f+zf n g:=by
 induction n with
 | zero=>simp only[zf]; grind
 | succ n ih=>simp only[zf]; rw[ih]; grind
theorem nF {n:Nat} {f:Nat→Rat} {k:Rat}:zf n (fun i=>k*f i)=k*zf n f:=by
 induction n with
 | zero=>simp only[zf]; grind
 | succ n ih=>simp only[zf]; rw[ih]; grind
theorem js {n:Nat} {f:Nat→Rat} {k:Rat}:zf n (fun i=>f i*k)=zf n f*k:=by
 induction n with
 | zero=>simp only[zf]; grind
 | succ n ih=>simp only[zf]; rw[ih]; grind
theorem ux {n:Nat} {f g:Nat→Rat}:zf n (fun i=>f i-g i)=zf n f-zf n g:=by
 induction n with
 | zero=>simp only[zf]; grind
 | succ n ih=>simp only[zf]; rw[ih]; grind
theorem lX {n:Nat} {f:Nat→Rat}:zf n (fun i=>- f i)=- zf n f:=by
 induction n with
 | zero=>simp only[zf]; grind
 | succ n ih=>simp only[zf]; rw[ih]; grind
theorem jr {n m:Nat} {f:Nat→Nat→Rat}:zf n (fun i=>zf m (f i))=zf m (fun j=>zf n fun i=>f i j):=by
 induction n with
 | zero=>simp only[zf]; exact (zM fun _ _=>rfl).symm
 | succ n ih=>simp only[zf]; rw[ih,← lW]
theorem xY {n:Nat} {f:Nat→Rat} (h:∀ i,i<n→0≤f i):0≤zf n f:=by
 induction n with
 | zero=>simp only[zf]; grind
 | succ n ih=>simp only[zf]; have:=ih fun i hi=>h i (by omega); have:=h n (by omega); grind
theorem n5 {n:Nat} {f g:Nat→Rat} (h:∀ i,i<n→f i≤g i):zf n f≤zf n g:=by
 induction n with
 | zero=>simp only[zf]; grind
 | succ n ih=>simp only[zf]; have:=ih fun i hi=>h i (by omega); have:=h n (by omega); grind
theorem yh {n q:Nat} {f:Nat→Rat} (hq:q<n):zf n f=f q+zf n (fun j=>if j=q then 0 else f j):=by
 induction n with
 | zero=>omega
 | succ n ih =>
  simp only[zf]
  by_cases h:q=n
  ·subst h
   rw[if_pos rfl,zm (f:=fun j=>if j=q then 0 else f j) (g:=f) fun i hi=>if_neg (by omega)]
   grind
  ·rw[ih (by omega),if_neg (fun e=>h e.symm)]
   grind
theorem wI {n q:Nat} {f:Nat→Rat} (hq:q<n) (h:∀ i,i<n→i≠q→f i=0):zf n f=f q:=by
 rw[yh hq,zM (f:=fun j=>if j=q then 0 else f j) fun i hi=>by
  by_cases e:i=q
  ·exact if_pos e
  ·rw[if_neg e]; exact h i hi e]
 grind
theorem SI {n:Nat} {f:Nat→Rat} (h:zf n f<0):∃ i,i<n∧f i<0:=by
 induction n with
 | zero=>simp only[zf] at h; grind
 | succ n ih =>
  simp only[zf] at h
  by_cases h1:zf n f<0
  ·obtain ⟨i,hi,hf⟩:=ih h1; exact ⟨i,by omega,hf⟩
  ·exact ⟨n,by omega,by grind⟩
structure zq where
 r:Nat
 c:Nat
 a:Nat→Nat→Rat
 b:Nat→Rat
 cst:Nat→Rat
 v:Rat
 bas:Nat→Nat
 fre:Nat→Nat
def sol (d:zq) (x:Nat→Rat):Prop:=∀ i,i<d.r→x (d.bas i)=d.b i-zf d.c fun j=>d.a i j*x (d.fre j)
def obj (d:zq) (x:Nat→Rat):Rat:=d.v+zf d.c fun j=>d.cst j*x (d.fre j)
def Bij (d:zq) (N:Nat):Prop:=∀ g:Nat→Rat,zf N g=zf d.c (fun j=>g (d.fre j))+zf d.r (fun i=>g (d.bas i))
def upd {α:Type} (f:Nat→α) (p:Nat) (x:α):Nat→α:=fun i=>if i=p then x else f i
def pivot (d:zq) (p q:Nat):zq where
 r:=d.r
 c:=d.c
 a:=fun i j=>if i=p then (if j=q then 1/d.a p q else d.a p j*(1/d.a p q)) else (if j=q then -(d.a i q*(1/d.a p q)) else d.a i j-d.a i q*(d.a p j*(1/d.a p q)))
 b:=fun i=>if i=p then d.b p*(1/d.a p q) else d.b i-d.a i q*(d.b p*(1/d.a p q))
 cst:=fun j=>if j=q then -(d.cst q*(1/d.a p q)) else d.cst j-d.cst q*(d.a p j*(1/d.a p q))
 v:=d.v+d.cst q*(d.b p*(1/d.a p q))
 bas:=upd d.bas p (d.fre q)
 fre:=upd d.fre q (d.bas p)
theorem XN {d:zq} {p q:Nat} (h:d.a p q≠0):pivot (pivot d p q) p q=d:=by
 cases d with
 | mk r c a b cst v bas fre =>
  simp only at h
  simp only[pivot,zq.mk.injEq,upd,if_true,true_and]
  refine ⟨?_,?_,?_,?_,?_,?_⟩
  ·funext i j
   by_cases hi:i=p<;>by_cases hj:j=q<;>simp only[hi,hj,if_true,if_false]<;>grind
  ·funext i
   by_cases hi:i=p<;>simp only[hi,if_true,if_false]<;>grind
  ·funext j
   by_cases hj:j=q<;>simp only[hj,if_true,if_false]<;>grind
  ·grind
  ·funext i; by_cases hi:i=p<;>simp[upd,hi]
  ·funext i; by_cases hi:i=q<;>simp[upd,hi]
theorem QP {d:zq} {p q N:Nat} (hp:p<d.r) (hq:q<d.c) (h:Bij d N):Bij (pivot d p q) N:=by
 intro g
 rw[h g]
 simp only[pivot]
 rw[yh (f:=fun j=>g (d.fre j)) hq,yh (f:=fun j=>g (d.bas j)) hp,yh (f:=fun j=>g (upd d.fre q (d.bas p) j)) hq,
  yh (f:=fun j=>g (upd d.bas p (d.fre q) j)) hp]
 have e1:zf d.c (fun j=>if j=q then 0 else g (upd d.fre q (d.bas p) j))=zf d.c (fun j=>if j=q then 0 else g (d.fre j)):=zm fun i _=>by
  by_cases e:i=q<;>simp[e,upd]
 have e2:zf d.r (fun j=>if j=p then 0 else g (upd d.bas p (d.fre q) j))=zf d.r (fun j=>if j=p then 0 else g (d.bas j)):=zm fun i _=>by
  by_cases e:i=p<;>simp[e,upd]
 rw[e1,e2]
 simp only[upd,if_true]
 grind
theorem QY {d:zq} {p q:Nat} (hp:p<d.r) (hq:q<d.c) (h:d.a p q≠0) {x:Nat→Rat} (hs:sol d x):sol (pivot d p q) x:=by
 have e0:=hs p hp
 rw[yh hq] at e0
 have k1:∀ (k:Rat),zf d.c (fun j=>if j=q then 0 else k*d.a p j*x (d.fre j))=k*zf d.c (fun j=>if j=q then 0 else d.a p j*x (d.fre j)):=fun k=>by
  rw[← nF]
  exact zm fun j _=>by by_cases e:j=q<;>simp[e]; grind
 intro i hi
 simp only[pivot] at hi ⊢
 rw[yh hq]
 by_cases hip:i=p
 ·subst hip
  have e1:zf d.c (fun j=>if j=q then 0 else (if i=i then (if j=q then 1/d.a i q else d.a i j*(1/d.a i q)) else (if j=q then -(d.a i q*(1/d.a i q)) else d.a i j-d.a i q*(d.a i j*(1/d.a i q))))*x (upd d.fre q (d.bas i) j))
    = (1/d.a i q)*zf d.c (fun j=>if j=q then 0 else d.a i j*x (d.fre j)):=by
   rw[← k1]
   exact zm fun j _=>by by_cases e:j=q<;>simp[e,upd]; grind
  rw[e1]
  simp only[upd,if_true]
  grind
 ·have e2:=hs i hi
  rw[yh hq] at e2
  have e1:zf d.c (fun j=>if j=q then 0 else (if i=p then (if j=q then 1/d.a p q else d.a p j*(1/d.a p q)) else (if j=q then -(d.a i q*(1/d.a p q)) else d.a i j-d.a i q*(d.a p j*(1/d.a p q))))*x (upd d.fre q (d.bas p) j))
    = zf d.c (fun j=>if j=q then 0 else d.a i j*x (d.fre j))-(d.a i q*(1/d.a p q))*zf d.c (fun j=>if j=q then 0 else d.a p j*x (d.fre j)):=by
   rw[← k1,← ux]
   exact zm fun j _=>by by_cases e:j=q<;>simp[e,upd,hip]<;>grind
  rw[e1]
  simp only[upd,if_true,if_neg hip]
  grind
theorem jG {d:zq} {p q:Nat} (hp:p<d.r) (hq:q<d.c) (h:d.a p q≠0) {x:Nat→Rat}:sol (pivot d p q) x↔sol d x:=by
 constructor
 ·intro hs
  have h2:(pivot d p q).a p q≠0:=by simp only[pivot,if_true]; grind
  have:=QY (d:=pivot d p q) hp hq h2 hs
  rwa [XN h] at this
 ·exact QY hp hq h
theorem QJ {d:zq} {p q:Nat} (hp:p<d.r) (hq:q<d.c) (h:d.a p q≠0) {x:Nat→Rat} (hs:sol d x):obj (pivot d p q) x=obj d x:=by
 have e0:=hs p hp
 rw[yh hq] at e0
 have k1:∀ (k:Rat),zf d.c (fun j=>if j=q then 0 else k*d.a p j*x (d.fre j))=k*zf d.c (fun j=>if j=q then 0 else d.a p j*x (d.fre j)):=fun k=>by
  rw[← nF]
  exact zm fun j _=>by by_cases e:j=q<;>simp[e]; grind
 simp only[obj,pivot]
 rw[yh hq,yh (f:=fun j=>d.cst j*x (d.fre j)) hq]
 have e1:zf d.c (fun j=>if j=q then 0 else (if j=q then -(d.cst q*(1/d.a p q)) else d.cst j-d.cst q*(d.a p j*(1/d.a p q)))*x (upd d.fre q (d.bas p) j))
    = zf d.c (fun j=>if j=q then 0 else d.cst j*x (d.fre j))-(d.cst q*(1/d.a p q))*zf d.c (fun j=>if j=q then 0 else d.a p j*x (d.fre j)):=by
  rw[← k1,← ux]
  exact zm fun j _=>by by_cases e:j=q<;>simp[e,upd]<;>grind
 rw[e1]
 simp only[upd,if_true]
 grind
section
variable {d:zq} {N:Nat} (hb:Bij d N)
include hb
theorem fX {k:Nat} (hk:k<N):zf d.c (fun j=>if d.fre j=k then 1 else 0)+zf d.r (fun i=>if d.bas i=k then 1 else 0)=1:=by
 have:=hb fun x=>if x=k then 1 else 0
 rw[wI hk (fun i _ hne=>if_neg hne),if_pos rfl] at this
 exact this.symm
theorem Td {k:Nat} (hk:N≤k):zf d.c (fun j=>if d.fre j=k then 1 else 0)+zf d.r (fun i=>if d.bas i=k then 1 else 0)=0:=by
 have:=hb fun x=>if x=k then 1 else 0
 rw[zM (fun i hi=>if_neg (by omega))] at this
 exact this.symm
omit hb in
theorem j2 {n:Nat} {f:Nat→Nat} {k:Nat}:0≤zf n (fun j=>if f j=k then 1 else 0):=xY fun i _=>by split<;>grind
omit hb in
theorem YU {n j:Nat} {f:Nat→Nat} (hj:j<n):1≤zf n (fun i=>if f i=f j then 1 else 0):=by
 rw[yh hj]
 simp only[if_true]
 have:0≤zf n (fun i=>if i=j then 0 else if f i=f j then (1:Rat) else 0):=xY fun i _=>by split<;>(try split)<;>grind
 grind
omit hb in
theorem Je {n i j:Nat} {f:Nat→Nat} (hi:i<n) (hj:j<n) (hne:i≠j) (he:f i=f j):2≤zf n (fun l=>if f l=f j then 1 else 0):=by
 rw[yh hj,yh (f:=fun l=>if l=j then 0 else if f l=f j then (1:Rat) else 0) hi]
 simp only[if_true,if_neg hne,he]
 have:0≤zf n (fun l=>if l=i then 0 else if l=j then 0 else if f l=f j then (1:Rat) else 0):=xY fun i _=>by split<;>(try split)<;>(try split)<;>grind
 grind
theorem je {j:Nat} (hj:j<d.c):d.fre j<N:=by
 rcases Nat.lt_or_ge (d.fre j) N with h | h
 ·exact h
 ·have h1:=Td hb h
  have h2:=YU (f:=d.fre) hj
  have h3:=j2 (n:=d.r) (f:=d.bas) (k:=d.fre j)
  grind
theorem gC {i:Nat} (hi:i<d.r):d.bas i<N:=by
 rcases Nat.lt_or_ge (d.bas i) N with h | h
 ·exact h
 ·have h1:=Td hb h
  have h2:=YU (f:=d.bas) hi
  have h3:=j2 (n:=d.c) (f:=d.fre) (k:=d.bas i)
  grind
theorem lq {i j:Nat} (hi:i<d.c) (hj:j<d.c) (h:d.fre i=d.fre j):i=j:=by
 by_cases e:i=j
 ·exact e
 ·have h1:=fX hb (je hb hj)
  have h2:=Je (f:=d.fre) hi hj e h
  have h3:=j2 (n:=d.r) (f:=d.bas) (k:=d.fre j)
  grind
theorem gf {i j:Nat} (hi:i<d.r) (hj:j<d.r) (h:d.bas i=d.bas j):i=j:=by
 by_cases e:i=j
 ·exact e
 ·have h1:=fX hb (gC hb hj)
  have h2:=Je (f:=d.bas) hi hj e h
  have h3:=j2 (n:=d.c) (f:=d.fre) (k:=d.bas j)
  grind
theorem uV {i j:Nat} (hi:i<d.r) (hj:j<d.c):d.fre j≠d.bas i:=fun e=>by
 have h1:=fX hb (gC hb hi)
 have h2:=YU (f:=d.bas) hi
 have h3:=YU (f:=d.fre) hj
 rw[e] at h3
 grind
omit hb in
theorem NX {n k:Nat} {f:Nat→Nat} (h:∀ j,j<n→f j≠k):zf n (fun j=>if f j=k then (1:Rat) else 0)=0:=zM fun i hi=>if_neg (h i hi)
theorem aW {k:Nat} (hk:k<N):(∃ j,j<d.c∧d.fre j=k)∨∃ i,i<d.r∧d.bas i=k:=by
 apply Classical.byContradiction
 intro h
 have h1:=fX hb hk
 rw[NX fun j hj e=>h (.inl ⟨j,hj,e⟩),NX fun j hj e=>h (.inr ⟨j,hj,e⟩)] at h1
 grind
end
def inB (d:zq) (k:Nat):Prop:=∃ i,i<d.r∧d.bas i=k
def vl (d:zq) (k:Nat):Rat:=zf d.r fun i=>if d.bas i=k then d.b i else 0
def cv (d:zq) (k:Nat):Rat:=zf d.c fun j=>if d.fre j=k then d.cst j else 0
section
variable {d:zq} {N:Nat} (hb:Bij d N)
include hb
theorem YA {i:Nat} (hi:i<d.r):vl d (d.bas i)=d.b i:=by
 unfold vl
 rw[wI hi fun k hk hne=>if_neg fun e=>hne (gf hb hk hi e),if_pos rfl]
omit hb in
theorem fN {k:Nat} (h:¬ inB d k):vl d k=0:=zM fun i hi=>if_neg fun e=>h ⟨i,hi,e⟩
theorem TD {j:Nat} (hj:j<d.c):cv d (d.fre j)=d.cst j:=by
 unfold cv
 rw[wI hj fun k hk hne=>if_neg fun e=>hne (lq hb hk hj e),if_pos rfl]
theorem Nj {k:Nat} (h:inB d k):cv d k=0:=by
 obtain ⟨i,hi,rfl⟩:=h
 exact zM fun j hj=>if_neg fun e=>uV hb hi hj e
theorem xV {j:Nat} (hj:j<d.c):¬ inB d (d.fre j):=fun ⟨_,hi,e⟩=>uV hb hi hj e.symm
theorem go {k:Nat} (hk:k<N) (h:¬ inB d k):∃ j,j<d.c∧d.fre j=k:=(aW hb hk).resolve_right h
def ptq (d:zq) (q:Nat) (y:Rat) (k:Nat):Rat:=zf d.r (fun i=>if d.bas i=k then d.b i-d.a i q*y else 0)+(if d.fre q=k then y else 0)
theorem cc {q i:Nat} {y:Rat} (hq:q<d.c) (hi:i<d.r):ptq d q y (d.bas i)=d.b i-d.a i q*y:=by
 unfold ptq
 rw[wI hi fun k hk hne=>if_neg fun e=>hne (gf hb hk hi e),if_pos rfl,if_neg (uV hb hi hq)]
 grind
theorem vD {q j:Nat} {y:Rat} (hq:q<d.c) (hj:j<d.c):ptq d q y (d.fre j)=if j=q then y else 0:=by
 unfold ptq
 rw[zM fun i hi=>if_neg fun e=>uV hb hi hj e.symm]
 by_cases e:j=q
 ·subst e; simp; grind
 ·rw[if_neg e,if_neg fun h=>e (lq hb hj hq h.symm)]; grind
theorem qZ {q:Nat} {y:Rat} (hq:q<d.c):sol d (ptq d q y):=by
 intro i hi
 rw[cc hb hq hi,wI hq (fun j hj hne=>by rw[vD hb hq hj,if_neg hne]; grind),vD hb hq hq,if_pos rfl]
theorem Y1 {q:Nat} {y:Rat} (hq:q<d.c):obj d (ptq d q y)=d.v+d.cst q*y:=by
 unfold obj
 rw[wI hq (fun j hj hne=>by rw[vD hb hq hj,if_neg hne]; grind),vD hb hq hq,if_pos rfl]
theorem fO:sol d (vl d):=by
 intro i hi
 rw[YA hb hi,zM fun j hj=>by rw[fN (xV hb hj)]; grind]
 grind
theorem YB:obj d (vl d)=d.v:=by
 unfold obj
 rw[zM fun j hj=>by rw[fN (xV hb hj)]; grind]
 grind
theorem Mm {x:Nat→Rat}:obj d x=d.v+zf N fun k=>cv d k*x k:=by
 have:=hb fun k=>cv d k*x k
 rw[this,zM (n:=d.r) fun i hi=>by rw[Nj hb ⟨i,hi,rfl⟩]; grind]
 unfold obj
 rw[zm (g:=fun j=>cv d (d.fre j)*x (d.fre j)) fun j hj=>by rw[TD hb hj]]
 grind
end
theorem lt_or_le (a b:Rat):a<b∨b≤a:=by
 by_cases h:a<b
 ·exact .inl h
 ·exact .inr (by grind)
theorem bE {a:Rat} (h:0<a):0<1/a:=by
 have h1:a*(1/a)=1:=by grind
 rcases lt_or_le 0 (1/a) with h2 | h2
 ·exact h2
 ·exfalso
  have:0≤a*(-(1/a)):=Rat.mul_nonneg (by grind) (by grind)
  grind
def jT (d:zq) (p q:Nat):Prop:=p<d.r∧q<d.c∧0<d.cst q∧(∀ j,j<d.c→0<d.cst j→d.fre q≤d.fre j)∧0<d.a p q ∧
 ∀ i,i<d.r→0<d.a i q→d.b p*d.a i q≤d.b i*d.a p q∧(d.b p*d.a i q=d.b i*d.a p q→d.bas p≤d.bas i)
def feas (d:zq):Prop:=∀ i,i<d.r→0≤d.b i
theorem Fe {d:zq} {p q:Nat} (hp:p<d.r) (hf:feas d) (ha:0<d.a p q) (hr:∀ i,i<d.r→0<d.a i q→d.b p*d.a i q≤d.b i*d.a p q):feas (pivot d p q):=by
 have hi:=bE ha
 intro i hir
 simp only[pivot] at hir ⊢
 by_cases e:i=p
 ·rw[if_pos e]; exact Rat.mul_nonneg (hf p hp) (by grind)
 ·rw[if_neg e]
  have h0:0≤d.b p*(1/d.a p q):=Rat.mul_nonneg (hf p hp) (by grind)
  by_cases h:0<d.a i q
  ·have h1:=hr i hir h
   have h2:0≤(d.b i*d.a p q-d.b p*d.a i q)*(1/d.a p q):=Rat.mul_nonneg (by grind) (by grind)
   have h3:(d.b i*d.a p q-d.b p*d.a i q)*(1/d.a p q)=d.b i-d.a i q*(d.b p*(1/d.a p q)):=by grind
   rwa [h3] at h2
  ·have h1:0≤(- d.a i q)*(d.b p*(1/d.a p q)):=Rat.mul_nonneg (by grind) h0
   have:=hf i hir
   grind
theorem jT.feas {d:zq} {p q:Nat} (h:jT d p q) (hf:feas d):feas (pivot d p q) :=
 Fe h.1 hf h.2.2.2.2.1 fun i hi ha=>(h.2.2.2.2.2 i hi ha).1
theorem jT.v_le {d:zq} {p q:Nat} (h:jT d p q) (hf:LP.feas d):d.v≤(pivot d p q).v:=by
 have hi:=bE h.2.2.2.2.1
 have h0:0≤d.cst q*(d.b p*(1/d.a p q)):=Rat.mul_nonneg (by have:=h.2.2.1; grind) (Rat.mul_nonneg (hf p h.1) (by grind))
 simp only[pivot]
 grind
theorem jT.v_eq {d:zq} {p q:Nat} (h:jT d p q) (hv:(pivot d p q).v=d.v):d.b p=0:=by
 have hi:=bE h.2.2.2.2.1
 have hc:=h.2.2.1
 simp only[pivot] at hv
 have e:d.cst q*(d.b p*(1/d.a p q))=0:=by grind
 have h1:d.b p*(1/d.a p q)=0:=by grind
 grind
theorem agA {d:zq} {p q:Nat} (h:d.b p=0) (k:Nat):vl (pivot d p q) k=vl d k:=by
 unfold vl
 simp only[pivot]
 refine zm fun i _=>?_
 by_cases e:i=p
 ·subst e
  simp only[h,upd,if_true]
  have:(0:Rat)*(1/d.a i q)=0:=by grind
  rw[this]
  split<;>split<;>rfl
 ·simp only[h,upd,if_neg e]
  have:d.b i-d.a i q*(0*(1/d.a p q))=d.b i:=by grind
  rw[this]
theorem core {d d':zq} {N p q q':Nat} (hb:Bij d N) (hb':Bij d' N) (ho:∀ x,sol d x→obj d x=obj d' x) (hv:d.v=d'.v) (hB:jT d p q)
  (hq':q'<d'.c) (ht:d'.fre q'=d.bas p) (hc':0<d'.cst q') (hm':∀ j,j<d'.c→0<d'.cst j→d'.fre q'≤d'.fre j)
  (hs:d.fre q<d.bas p) (hr:∀ k,inB d k→¬ inB d' k→k≤d.bas p∧vl d k=0) (hp0:d.b p=0) (_hf:feas d):False:=by
 obtain ⟨hp,hq,hc,hmin,ha,hrat⟩:=hB
 have key:∀ y:Rat,d.cst q*y=cv d' (d.fre q)*y+(zf d.r (fun i=>cv d' (d.bas i)*d.b i)-zf d.r (fun i=>cv d' (d.bas i)*d.a i q)*y):=fun y=>by
  have h1:=ho _ (qZ hb hq (y:=y))
  rw[Y1 hb hq,Mm hb',hb (fun k=>cv d' k*ptq d q y k)] at h1
  rw[wI hq (fun j hj hne=>by rw[vD hb hq hj,if_neg hne]; grind),vD hb hq hq,if_pos rfl] at h1
  rw[zm (g:=fun i=>cv d' (d.bas i)*d.b i-cv d' (d.bas i)*d.a i q*y) fun i hi=>by rw[cc hb hq hi]; grind] at h1
  rw[ux,js] at h1
  grind
 have k0:=key 0
 have k1:=key 1
 have neg_of:∀ {k:Nat},k<d.bas p→k<N→cv d' k≤0:=fun {k} hk hkN=>by
  rcases lt_or_le 0 (cv d' k) with h | h
  ·exfalso
   by_cases hin:inB d' k
   ·rw[Nj hb' hin] at h; grind
   ·obtain ⟨j,hj,rfl⟩:=go hb' hkN hin
    rw[TD hb' hj] at h
    have:=hm' j hj h
    omega
  ·exact h
 have c1:=neg_of hs (je hb hq)
 have c2:zf d.r (fun i=>cv d' (d.bas i)*d.a i q)<0:=by grind
 obtain ⟨i,hi,hneg⟩:=SI c2
 have hnin:¬ inB d' (d.bas i):=fun h=>by rw[Nj hb' h] at hneg; grind
 obtain ⟨h1,h2⟩:=hr _ ⟨i,hi,rfl⟩ hnin
 rw[YA hb hi] at h2
 have hne:d.bas i≠d.bas p:=fun e=>by
  have e2:=gf hb hi hp e
  subst e2
  rw[← ht,TD hb' hq'] at hneg
  have:0<d'.cst q'*d.a i q:=Rat.mul_pos hc' ha
  grind
 have hlt:d.bas i<d.bas p:=by omega
 have c3:=neg_of hlt (gC hb hi)
 have c4:0<d.a i q:=by
  rcases lt_or_le 0 (d.a i q) with h | h
  ·exact h
  ·exfalso
   have:0≤(- cv d' (d.bas i))*(- d.a i q):=Rat.mul_nonneg (by grind) (by grind)
   grind
 have:=(hrat i hi c4).2 (by rw[h2,hp0]; grind)
 omega
structure Run (D:Nat→zq) (pp qq:Nat→Nat) (K N:Nat):Prop where
 bij:Bij (D 0) N
 feas:feas (D 0)
 step:∀ k,k<K→jT (D k) (pp k) (qq k)∧D (k+1)=pivot (D k) (pp k) (qq k)
section
variable {D:Nat→zq} {pp qq:Nat→Nat} {K N:Nat} (h:Run D pp qq K N)
include h
theorem Run.bijs:∀ k,k≤K→Bij (D k) N
 | 0,_=>h.bij
 | k+1,hk=>by
  obtain ⟨h1,h2⟩:=h.step k (by omega)
  rw[h2]
  exact QP h1.1 h1.2.1 (Run.bijs k (by omega))
theorem Run.feass:∀ k,k≤K→LP.feas (D k)
 | 0,_=>h.feas
 | k+1,hk=>by
  obtain ⟨h1,h2⟩:=h.step k (by omega)
  rw[h2]
  exact h1.feas (Run.feass k (by omega))
theorem Run.same {i:Nat} {x:Nat→Rat}:∀ j,i≤j→j≤K→((sol (D i) x↔sol (D j) x)∧(sol (D i) x→obj (D i) x=obj (D j) x)):=by
 intro j hij
 induction j with
 | zero =>
   intro _; have:i=0:=by omega
   subst this; exact ⟨Iff.rfl,fun _=>rfl⟩
 | succ j ih =>
  intro hj
  by_cases e:i=j+1
  ·subst e; exact ⟨Iff.rfl,fun _=>rfl⟩
  ·obtain ⟨g1,g2⟩:=ih (by omega) (by omega)
   obtain ⟨h1,h2⟩:=h.step j (by omega)
   have ha:(D j).a (pp j) (qq j)≠0:=by have:=h1.2.2.2.2.1; grind
   rw[h2]
   exact ⟨g1.trans (jG h1.1 h1.2.1 ha).symm,fun hx=>(g2 hx).trans (QJ h1.1 h1.2.1 ha (g1.1 hx)).symm⟩
theorem Run.v_le {i:Nat}:∀ j,i≤j→j≤K→(D i).v≤(D j).v:=by
 intro j hij
 induction j with
 | zero =>
   intro _; have:i=0:=by omega
   subst this; grind
 | succ j ih =>
  intro hj
  by_cases e:i=j+1
  ·subst e; grind
  ·have g:=ih (by omega) (by omega)
   obtain ⟨h1,h2⟩:=h.step j (by omega)
   have:=h1.v_le (h.feass j (by omega))
   rw[← h2] at this
   grind
abbrev en (D:Nat→zq) (qq:Nat→Nat) (m:Nat):Nat:=(D m).fre (qq m)
abbrev lv (D:Nat→zq) (pp:Nat→Nat) (m:Nat):Nat:=(D m).bas (pp m)
theorem Run.next {m k:Nat} (hm:m<K):inB (D (m+1)) k↔(k=en D qq m∨(inB (D m) k∧k≠lv D pp m)):=by
 obtain ⟨h1,h2⟩:=h.step m hm
 have hb:=h.bijs m (by omega)
 rw[h2]
 constructor
 ·rintro ⟨i,hi,e⟩
  simp only[pivot,upd] at hi e
  by_cases hip:i=pp m
  ·rw[if_pos hip] at e; exact .inl e.symm
  ·rw[if_neg hip] at e
   refine .inr ⟨⟨i,hi,e⟩,fun e2=>hip (gf hb hi h1.1 (e.trans e2))⟩
 ·rintro (rfl | ⟨⟨i,hi,rfl⟩,hne⟩)
  ·exact ⟨pp m,h1.1,by simp[pivot,upd]⟩
  ·refine ⟨i,hi,?_⟩
   have:i≠pp m:=fun e=>hne (by rw[e])
   simp[pivot,upd,this]
theorem Run.en_free {m:Nat} (hm:m<K):¬ inB (D m) (en D qq m):=xV (h.bijs m (by omega)) (h.step m hm).1.2.1
omit h in
theorem Run.lv_basic {m:Nat} (h:Run D pp qq K N) (hm:m<K):inB (D m) (lv D pp m):=⟨pp m,(h.step m hm).1.1,rfl⟩
theorem Run.stay_free {k i j:Nat} (hj:j≤K) (hne:∀ m,i≤m→m<j→en D qq m≠k):∀ x y,i≤x→x≤y→y≤j→¬ inB (D x) k→¬ inB (D y) k:=by
 intro x y hx hxy
 induction y with
 | zero =>
   intro _ hf; have:x=0:=by omega
   subst this; exact hf
 | succ y ih =>
  intro hy hf
  by_cases e:x=y+1
  ·subst e; exact hf
  ·have g:=ih (by omega) (by omega) hf
   rw[h.next (by omega)]
   rintro (e2 | ⟨e2,_⟩)
   ·exact hne y (by omega) (by omega) e2.symm
   ·exact g e2
theorem Run.stay_basic {k i j:Nat} (hj:j≤K) (hne:∀ m,i≤m→m<j→lv D pp m≠k):∀ x y,i≤x→x≤y→y≤j→inB (D x) k→inB (D y) k:=by
 intro x y hx hxy
 induction y with
 | zero =>
   intro _ hf; have:x=0:=by omega
   subst this; exact hf
 | succ y ih =>
  intro hy hf
  by_cases e:x=y+1
  ·subst e; exact hf
  ·have g:=ih (by omega) (by omega) hf
   rw[h.next (by omega)]
   exact .inr ⟨g,fun e2=>hne y (by omega) (by omega) e2.symm⟩
theorem Run.enters {k i j x y:Nat} (hj:j≤K) (hij:inB (D i) k↔inB (D j) k) (hx:i≤x∧x≤j) (hy:i≤y∧y≤j) (h1:inB (D x) k) (h2:¬ inB (D y) k):∃ m,i≤m∧m<j∧en D qq m=k:=by
 apply Classical.byContradiction
 intro hno
 have hne:∀ m,i≤m→m<j→en D qq m≠k:=fun m a b e=>hno ⟨m,a,b,e⟩
 have f1:=h.stay_free hj hne y j hy.1 hy.2 (Nat.le_refl _) h2
 have f2:¬ inB (D i) k:=fun e=>f1 (hij.1 e)
 exact h.stay_free hj hne i x (Nat.le_refl _) hx.1 hx.2 f2 h1
theorem Run.leaves {k i j x y:Nat} (hj:j≤K) (hij:inB (D i) k↔inB (D j) k) (hx:i≤x∧x≤j) (hy:i≤y∧y≤j) (h1:inB (D x) k) (h2:¬ inB (D y) k):∃ m,i≤m∧m<j∧lv D pp m=k:=by
 apply Classical.byContradiction
 intro hno
 have hne:∀ m,i≤m→m<j→lv D pp m≠k:=fun m a b e=>hno ⟨m,a,b,e⟩
 have f1:=h.stay_basic hj hne x j hx.1 hx.2 (Nat.le_refl _) h1
 have f2:inB (D i) k:=hij.2 f1
 exact h2 (h.stay_basic hj hne i y (Nat.le_refl _) hy.1 hy.2 f2)
omit h in
theorem Gw (f:Nat→Nat) (i:Nat):∀ j,i<j→∃ m,i≤m∧m<j∧∀ m',i≤m'→m'<j→f m'≤f m:=by
 intro j
 induction j with
 | zero=>intro hj; omega
 | succ j ih =>
  intro hj
  by_cases e:i=j
  ·subst e; exact ⟨i,Nat.le_refl _,by omega,fun m' a b=>by
    have:m'=i:=by omega
    rw[this]
    exact Nat.le_refl _⟩
  ·obtain ⟨m,a,b,g⟩:=ih (by omega)
   by_cases hlt:f m≤f j
   ·refine ⟨j,by omega,by omega,fun m' a' b'=>?_⟩
    by_cases e2:m'=j
    ·rw[e2]; exact Nat.le_refl _
    ·exact Nat.le_trans (g m' a' (by omega)) hlt
   ·refine ⟨m,a,by omega,fun m' a' b'=>?_⟩
    by_cases e2:m'=j
    ·rw[e2]; omega
    ·exact g m' a' (by omega)
theorem Run.no_repeat {i j:Nat} (hij:i<j) (hj:j≤K) (hB:∀ k,inB (D i) k↔inB (D j) k):False:=by
 have bi:=h.bijs i (by omega)
 have bj:=h.bijs j hj
 have hvij:(D i).v=(D j).v:=by
  have s1:=fO bi
  have s2:=(h.same j (by omega) hj (i:=i)).2 s1
  rw[YB bi] at s2
  rw[s2]
  unfold obj
  rw[zM fun l hl=>by rw[fN fun e=>xV bj hl ((hB _).1 e)]; grind]
  grind
 have hv:∀ m,i≤m→m≤j→(D m).v=(D i).v:=fun m a b=>by
  have g1:=h.v_le m a (by omega)
  have g2:=h.v_le j b hj
  grind
 have hdeg:∀ m,i≤m→m<j→(D m).b (pp m)=0:=fun m a b=>by
  obtain ⟨h1,h2⟩:=h.step m (by omega)
  apply h1.v_eq
  rw[← h2,hv (m+1) (by omega) (by omega),hv m a (by omega)]
 have hvl:∀ k m,i≤m→m≤j→vl (D m) k=vl (D i) k:=fun k m a=>by
  induction m with
  | zero =>
    intro _; have:i=0:=by omega
    rw[this]
  | succ m ih =>
   intro b
   by_cases e:i=m+1
   ·rw[e]
   ·rw[(h.step m (by omega)).2,agA (hdeg m (by omega) (by omega)),ih (by omega) (by omega)]
 obtain ⟨e,e1,e2,emax⟩:=Gw (en D qq) i j hij
 have hfr:=h.en_free (m:=e) (by omega)
 have hin:inB (D (e+1)) (en D qq e):=(h.next (by omega)).2 (.inl rfl)
 obtain ⟨l,l1,l2,hl⟩:=h.leaves hj (hB (en D qq e)) (x:=e+1) (y:=e) ⟨by omega,by omega⟩ ⟨by omega,by omega⟩ hin hfr
 have hBl:=(h.step l (by omega)).1
 have hBe:=(h.step e (by omega)).1
 have hobj:∀ x,sol (D l) x→obj (D l) x=obj (D e) x:=fun x hx=>by
  rcases Nat.le_total l e with hle | hle
  ·exact (h.same e hle (by omega) (i:=l)).2 hx
  ·exact ((h.same l hle (by omega) (i:=e)).2 ((h.same l hle (by omega) (i:=e)).1.2 hx)).symm
 refine core (h.bijs l (by omega)) (h.bijs e (by omega)) hobj (by rw[hv l l1 (by omega),hv e e1 (by omega)]) hBl hBe.2.1 hl.symm hBe.2.2.1 hBe.2.2.2.1 ?_ ?_ (hdeg l l1 l2) (h.feass l (by omega))
 ·have g:=emax l l1 l2
  have hne:en D qq l≠en D qq e:=fun e3=>by
   have:=h.en_free (m:=l) (by omega)
   rw[e3,← hl] at this
   exact this (h.lv_basic (by omega))
  rw[show (D l).bas (pp l)=en D qq e from hl]
  simp only[en] at g hne ⊢
  omega
 ·intro k hk1 hk2
  obtain ⟨m,m1,m2,rfl⟩:=h.enters hj (hB k) (x:=l) (y:=e) ⟨l1,by omega⟩ ⟨e1,by omega⟩ hk1 hk2
  rw[show (D l).bas (pp l)=en D qq e from hl]
  refine ⟨emax m m1 m2,?_⟩
  rw[hvl _ l l1 (by omega),← hvl _ e e1 (by omega)]
  exact fN hk2
end
def code (d:zq):Nat→Nat
 | 0=>0
 | n+1=>2*code d n+(if (List.range d.r).any (fun i=>d.bas i == n)=true then 1 else 0)
theorem nJ {d:zq} {n:Nat}:(List.range d.r).any (fun i=>d.bas i == n)=true↔inB d n:=by
 simp[inB]
theorem K1 {d:zq}:∀ n,code d n<2^n
 | 0=>by simp[code]
 | n+1=>by have:=K1 (d:=d) n; simp only[code,Nat.pow_succ]; split<;>omega
theorem code_inj {d d':zq}:∀ n,code d n=code d' n→∀ k,k<n→(inB d k↔inB d' k)
 | 0,_,k,hk=>by omega
 | n+1,he,k,hk=>by
  simp only[code] at he
  have h1:code d n=code d' n:=by split at he<;>split at he<;>omega
  by_cases e:k=n
  ·subst e
   rw[← nJ,← nJ]
   rw[h1] at he
   cases h2:(List.range d.r).any (fun i=>d.bas i == k)<;>cases h3:(List.range d'.r).any (fun i=>d'.bas i == k)<;>simp only[h2,h3,Bool.false_eq_true,if_true,if_false] at he ⊢<;>omega
  ·exact code_inj n h1 k (by omega)
theorem af4:∀ (M K:Nat) (f:Nat→Nat),(∀ k,k<K→f k<M)→(∀ i j,i<j→j<K→f i≠f j)→K≤M:=by
 intro M
 induction M with
 | zero=>intro K f h _; rcases K with _ | K; exact Nat.le_refl _; exact absurd (h 0 (by omega)) (by omega)
 | succ M ih =>
  intro K f h hne
  rcases K with _ | K
  ·omega
  ·-- the last one is moved out of the way
   have:K≤M:=by
    refine ih K (fun k=>if f k=M then f K else f k) (fun k hk=>?_) (fun i j hij hj=>?_)
    ·have h1:=h k (by omega)
     have h2:=h K (by omega)
     have h3:=hne k K hk (by omega)
     by_cases e:f k=M
     ·simp only[e,if_true]; omega
     ·simp only[e,if_false]; omega
    ·have g1:=hne i j hij (by omega)
     have g2:=hne i K (by omega) (by omega)
     have g3:=hne j K hj (by omega)
     by_cases e1:f i=M<;>by_cases e2:f j=M<;>simp only[e1,e2,if_true,if_false]<;>omega
   omega
theorem Run.le {D:Nat→zq} {pp qq:Nat→Nat} {K N:Nat} (h:Run D pp qq K N):K<2^N:=by
 have:=af4 (2^N) (K+1) (fun k=>code (D k) N) (fun k _=>K1 N) (fun i j hij hj e=>by
  refine h.no_repeat hij (by omega) fun k=>?_
  by_cases hk:k<N
  ·exact code_inj N e k hk
  ·constructor
   ·rintro ⟨i',hi',rfl⟩; exact absurd (gC (h.bijs i (by omega)) hi') hk
   ·rintro ⟨i',hi',rfl⟩; exact absurd (gC (h.bijs j (by omega)) hi') hk)
 omega
def sz (K:Nat) (q:Rat):Prop:=q.num.natAbs≤2^K∧q.den≤2^K
theorem zG {K L:Nat} {q:Rat} (h:sz K q) (hl:K≤L):sz L q :=
 ⟨Nat.le_trans h.1 (Nat.pow_le_pow_right (by omega) hl),Nat.le_trans h.2 (Nat.pow_le_pow_right (by omega) hl)⟩
theorem J2 {K:Nat} {n:Int} {d:Nat} (hd:d≠0) (h1:n.natAbs≤2^K) (h2:d≤2^K):sz K (Rat.normalize n d hd):=by
 rw[Rat.normalize_eq]
 exact ⟨Nat.le_trans (Int.natAbs_ediv_le_natAbs _ _) h1,Nat.le_trans (Nat.div_le_self _ _) h2⟩
theorem vd {K:Nat}:sz K 0:=⟨Nat.zero_le _,Nat.pow_pos (by omega)⟩
theorem C7 {K:Nat}:sz K 1:=⟨Nat.pow_pos (by omega),Nat.pow_pos (by omega)⟩
theorem yj {K L:Nat} {a b:Rat} (ha:sz K a) (hb:sz L b):sz (K+L) (a*b):=by
 rw[Rat.mul_def]
 refine J2 _ ?_ ?_
 ·rw[Int.natAbs_mul,Nat.pow_add]; exact Nat.mul_le_mul ha.1 hb.1
 ·rw[Nat.pow_add]; exact Nat.mul_le_mul ha.2 hb.2
theorem cg {K L:Nat} {a b:Rat} (ha:sz K a) (hb:sz L b):sz (K+L+1) (a+b):=by
 rw[Rat.add_def]
 refine J2 _ ?_ ?_
 ·refine Nat.le_trans (Int.natAbs_add_le _ _) ?_
  rw[Int.natAbs_mul,Int.natAbs_mul,Nat.pow_succ,Nat.pow_add]
  have h1:=Nat.mul_le_mul ha.1 hb.2
  have h2:=Nat.mul_le_mul hb.1 ha.2
  rw[Nat.mul_comm (2^L)] at h2
  simp only[Int.natAbs_natCast]
  omega
 ·rw[Nat.pow_succ,Nat.pow_add]
  have:=Nat.mul_le_mul ha.2 hb.2
  omega
theorem jt {K:Nat} {a:Rat} (ha:sz K a):sz K (-a):=by
 unfold sz
 rw[Rat.neg_num,Rat.neg_den,Int.natAbs_neg]
 exact ha
theorem SJ {K L:Nat} {a b:Rat} (ha:sz K a) (hb:sz L b):sz (K+L+1) (a-b):=by
 rw[Rat.sub_eq_add_neg]; exact cg ha (jt hb)
theorem Lo {K:Nat} {a:Rat} (ha:sz K a):sz K (1/a):=by
 have:1/a=a⁻¹:=by grind
 rw[this]
 unfold sz
 rw[Rat.num_inv,Rat.den_inv]
 constructor
 ·rw[Int.natAbs_mul,Int.natAbs_natCast,Int.natAbs_sign]
  have:=ha.2
  split<;>omega
 ·split
  ·exact Nat.pow_pos (by omega)
  ·exact ha.1
structure szD (K:Nat) (d:zq):Prop where
 a:∀ i j,i<d.r→j<d.c→sz K (d.a i j)
 b:∀ i,i<d.r→sz K (d.b i)
 cst:∀ j,j<d.c→sz K (d.cst j)
 v:sz K d.v
theorem UV {K L:Nat} {d:zq} (h:szD K d) (hl:K≤L):szD L d :=
 ⟨fun i j hi hj=>zG (h.a i j hi hj) hl,fun i hi=>zG (h.b i hi) hl,fun j hj=>zG (h.cst j hj) hl,zG h.v hl⟩
theorem C5 {K:Nat} {d:zq} {p q:Nat} (hp:p<d.r) (hq:q<d.c) (h:szD K d):szD (4*K+1) (pivot d p q):=by
 have hi:=Lo (h.a p q hp hq)
 constructor
 ·intro i j hir hjc
  simp only[pivot] at hir hjc ⊢
  split<;>split
  ·exact zG hi (by omega)
  ·exact zG (yj (h.a p j hp hjc) hi) (by omega)
  ·exact zG (jt (yj (h.a i q hir hq) hi)) (by omega)
  ·exact zG (SJ (h.a i j hir hjc) (yj (h.a i q hir hq) (yj (h.a p j hp hjc) hi))) (by omega)
 ·intro i hir
  simp only[pivot] at hir ⊢
  split
  ·exact zG (yj (h.b p hp) hi) (by omega)
  ·exact zG (SJ (h.b i hir) (yj (h.a i q hir hq) (yj (h.b p hp) hi))) (by omega)
 ·intro j hjc
  simp only[pivot] at hjc ⊢
  split
  ·exact zG (jt (yj (h.cst q hq) hi)) (by omega)
  ·exact zG (SJ (h.cst j hjc) (yj (h.cst q hq) (yj (h.a p j hp hjc) hi))) (by omega)
 ·simp only[pivot]
  exact zG (cg h.v (yj (h.cst q hq) (yj (h.b p hp) hi))) (by omega)
structure Same (d e:zq) (N:Nat):Prop where
 bd:Bij d N
 be:Bij e N
 sol:∀ x,sol d x↔sol e x
 obj:∀ x,LP.sol d x→obj d x=obj e x
theorem Same.refl {d:zq} {N:Nat} (h:Bij d N):Same d d N:=⟨h,h,fun _=>Iff.rfl,fun _ _=>rfl⟩
theorem Same.symm {d e:zq} {N:Nat} (h:Same d e N):Same e d N:=⟨h.be,h.bd,fun x=>(h.sol x).symm,fun x hx=>(h.obj x ((h.sol x).2 hx)).symm⟩
theorem Same.trans {d e f:zq} {N:Nat} (h:Same d e N) (k:Same e f N):Same d f N :=
 ⟨h.bd,k.be,fun x=>(h.sol x).trans (k.sol x),fun x hx=>(h.obj x hx).trans (k.obj x ((h.sol x).1 hx))⟩
theorem Same.pivot {d:zq} {N p q:Nat} (h:Bij d N) (hp:p<d.r) (hq:q<d.c) (ha:d.a p q≠0):Same (pivot d p q) d N :=
 ⟨QP hp hq h,h,fun _=>jG hp hq ha,fun _ hx=>QJ hp hq ha ((jG hp hq ha).1 hx)⟩
def far (d:zq) (f:Nat→Nat):Nat→Nat
 | 0=>0
 | n+1=>far d f n+(if (List.range d.r).any (fun i=>d.bas i == f n)=true then 0 else 1)
theorem EV {d:zq} {f:Nat→Nat}:∀ n,far d f n≤n
 | 0=>Nat.le_refl _
 | n+1=>by have:=EV (d:=d) (f:=f) n; simp only[far]; split<;>omega
theorem ND {d:zq} {f:Nat→Nat}:∀ n,far d f n=0→∀ i,i<n→inB d (f i)
 | 0,_,i,hi=>by omega
 | n+1,h,i,hi=>by
  simp only[far] at h
  by_cases e:i=n
  ·subst e
   apply nJ.1
   cases h2:(List.range d.r).any (fun j=>d.bas j == f i)
   ·rw[h2] at h; simp at h
   ·rfl
  ·exact ND n (by omega) i (by omega)
theorem K9 {d:zq} {f:Nat→Nat}:∀ n,far d f n≠0→∃ i,i<n∧¬ inB d (f i)
 | 0,h=>absurd rfl h
 | n+1,h=>by
  by_cases e:inB d (f n)
  ·have h2:=nJ.2 e
   simp only[far,h2,if_true] at h
   obtain ⟨i,hi,hf⟩:=K9 n (by omega)
   exact ⟨i,by omega,hf⟩
  ·exact ⟨n,by omega,e⟩
theorem Jb {d:zq} {f:Nat→Nat} {p k:Nat} (hk:inB d k) (hp:¬ inB d (f p)):∀ n,far d (upd f p k) n+(if p<n then 1 else 0)=far d f n
 | 0=>by simp[far]
 | n+1=>by
  have ih:=Jb (d:=d) (f:=f) (p:=p) (k:=k) hk hp n
  by_cases e:p=n
  ·subst e
   have h1:=nJ.2 hk
   have h2:(List.range d.r).any (fun i=>d.bas i == f p)=false:=by
    cases h:(List.range d.r).any (fun i=>d.bas i == f p)
    ·rfl
    ·exact absurd (nJ.1 h) hp
   simp only[far,upd,if_true,h1,h2,Bool.false_eq_true,if_false] at ih ⊢
   have:(upd f p k)=fun i=>if i=p then k else f i:=rfl
   simp only[Nat.lt_irrefl,if_false] at ih
   have e2:¬ p<p:=by omega
   simp only[show p<p+1 by omega,if_true]
   omega
  ·have e3:upd f p k n=f n:=by simp[upd,Ne.symm e]
   simp only[far,e3]
   have:(p<n+1)↔(p<n):=by omega
   simp only[this]
   omega
section
variable {d e:zq} {N:Nat} (h:Same d e N)
include h
theorem Same.entries {K:Nat} (hB:∀ k,inB e k→inB d k) (hB2:∀ k,inB d k→inB e k) (hs:szD K d):szD K e:=by
 have hF:∀ j,j<e.c→∃ j',j'<d.c∧d.fre j'=e.fre j:=fun j hj=>go h.bd (je h.be hj) fun hin=>xV h.be hj (hB2 _ hin)
 have hR:∀ i,i<e.r→∃ i',i'<d.r∧d.bas i'=e.bas i:=fun i hi=>hB _ ⟨i,hi,rfl⟩
 have hpt:∀ j j' y,j<e.c→j'<d.c→d.fre j'=e.fre j→∀ k,k<N→¬ inB d k→ptq e j y k=ptq d j' y k:=fun j j' y hj hj' ejj k hk hnk=>by
  obtain ⟨l,hl,rfl⟩:=go h.bd hk hnk
  obtain ⟨l',hl',el⟩:=go h.be hk fun hin=>hnk (hB _ hin)
  rw[vD h.bd hj' hl,← el,vD h.be hj hl']
  by_cases e1:l'=j
  ·subst e1
   rw[if_pos rfl,if_pos (lq h.bd hl hj' (by rw[ejj,el]))]
  ·rw[if_neg e1,if_neg fun e2=>e1 (by subst e2; exact lq h.be hl' hj (by rw[el,ejj]))]
 -- the point of 'e' is the point of 'd'
 have key:∀ j j' y i i',j<e.c→j'<d.c→d.fre j'=e.fre j→i<e.r→i'<d.r→d.bas i'=e.bas i→e.b i-e.a i j*y=d.b i'-d.a i' j'*y:=fun j j' y i i' hj hj' ejj hi hi' eii=>by
  have s1:=(h.sol _).2 (qZ h.be hj (y:=y))
  have s2:=s1 i' hi'
  rw[eii,cc h.be hj hi] at s2
  rw[s2]
  rw[zm (g:=fun l=>d.a i' l*ptq d j' y (d.fre l)) fun l hl=>by rw[hpt j j' y hj hj' ejj _ (je h.bd hl) (xV h.bd hl)]]
  rw[wI hj' (fun l hl hne=>by rw[vD h.bd hj' hl,if_neg hne]; grind),vD h.bd hj' hj',if_pos rfl]
 have keyo:∀ j j' y,j<e.c→j'<d.c→d.fre j'=e.fre j→e.v+e.cst j*y=d.v+d.cst j'*y:=fun j j' y hj hj' ejj=>by
  have s1:=(h.sol _).2 (qZ h.be hj (y:=y))
  have s2:=h.obj _ s1
  rw[Y1 h.be hj] at s2
  rw[← s2]
  unfold LP.obj
  rw[zm (g:=fun l=>d.cst l*ptq d j' y (d.fre l)) fun l hl=>by rw[hpt j j' y hj hj' ejj _ (je h.bd hl) (xV h.bd hl)]]
  rw[wI hj' (fun l hl hne=>by rw[vD h.bd hj' hl,if_neg hne]; grind),vD h.bd hj' hj',if_pos rfl]
 have hvl:∀ k,k<N→vl e k=0∨inB d k:=fun k hk=>by
  by_cases hin:inB e k
  ·exact .inr (hB _ hin)
  ·exact .inl (fN hin)
 have svl:=(h.sol _).2 (fO h.be)
 have z:∀ l,l<d.c→vl e (d.fre l)=0:=fun l hl=>fN fun hin=>xV h.bd hl (hB _ hin)
 constructor
 ·intro i j hi hj
  obtain ⟨i',hi',ei⟩:=hR i hi
  obtain ⟨j',hj',ej⟩:=hF j hj
  have k0:=key j j' 0 i i' hj hj' ej hi hi' ei
  have k1:=key j j' 1 i i' hj hj' ej hi hi' ei
  have:e.a i j=d.a i' j':=by grind
  rw[this]; exact hs.a i' j' hi' hj'
 ·intro i hi
  obtain ⟨i',hi',ei⟩:=hR i hi
  have s2:=svl i' hi'
  rw[ei,YA h.be hi,zM fun l hl=>by rw[z l hl]; grind] at s2
  have:e.b i=d.b i':=by grind
  rw[this]; exact hs.b i' hi'
 ·intro j hj
  obtain ⟨j',hj',ej⟩:=hF j hj
  have k0:=keyo j j' 0 hj hj' ej
  have k1:=keyo j j' 1 hj hj' ej
  have:e.cst j=d.cst j':=by grind
  rw[this]; exact hs.cst j' hj'
 ·have s2:=h.obj _ svl
  rw[YB h.be] at s2
  unfold LP.obj at s2
  rw[zM fun l hl=>by rw[z l hl]; grind] at s2
  have:e.v=d.v:=by grind
  rw[this]; exact hs.v
theorem Same.exchange {i:Nat} (hi:i<e.r) (hn:¬ inB d (e.bas i)):∃ j,j<e.c∧e.a i j≠0∧inB d (e.fre j):=by
 apply Classical.byContradiction
 intro hno
 obtain ⟨q,hq,eq⟩:=go h.bd (gC h.be hi) hn
 have key:∀ y:Rat,y=e.b i:=fun y=>by
  have s1:=(h.sol _).1 (qZ h.bd hq (y:=y)) i hi
  rw[← eq,vD h.bd hq hq,if_pos rfl] at s1
  rw[zM fun j hj=>?_] at s1
  ·grind
  ·by_cases ha:e.a i j=0
   ·rw[ha]; grind
   ·have hnf:¬ inB d (e.fre j):=fun hin=>hno ⟨j,hj,ha,hin⟩
    obtain ⟨l,hl,el⟩:=go h.bd (je h.be hj) hnf
    rw[← el,vD h.bd hq hl,if_neg fun e2=>uV h.be hi hj (by rw[← el,e2,eq])]
    grind
 have k0:=key 0
 have k1:=key 1
 grind
end
def grow (K:Nat):Nat→Nat
 | 0=>K
 | n+1=>4*grow K n+1
theorem ZM {K:Nat} {m n:Nat} (h:m≤n):grow K m≤grow K n:=by
 induction n with
 | zero =>
   have:m=0:=by omega
   rw[this]; exact Nat.le_refl _
 | succ n ih =>
  by_cases e:m=n+1
  ·rw[e]; exact Nat.le_refl _
  ·have:=ih (by omega)
   simp only[grow]; omega
theorem Same.size {d:zq} {N K:Nat} (hs:szD K d):∀ n (e:zq),Same d e N→e.r=d.r→e.c=d.c→far d e.bas e.r≤n→szD (grow K n) e:=by
 intro n
 induction n with
 | zero =>
  intro e h hr hc hn
  have hB:∀ k,inB e k→inB d k:=fun k ⟨i,hi,ek⟩=>by
   have:=ND _ (Nat.le_zero.1 hn) i hi
   rwa [ek] at this
  refine h.entries hB (fun k hk=>?_) hs
  -- as many basic variables in both
  classical
  apply Classical.byContradiction
  intro hnk
  have hkN:k<N:=by obtain ⟨i,hi,rfl⟩:=hk; exact gC h.bd hi
  have c1:zf N (fun x=>if inB d x then (1:Rat) else 0)=zf d.r (fun _=>1):=by
   rw[h.bd fun x=>if inB d x then (1:Rat) else 0,zM fun j hj=>if_neg (xV h.bd hj),zm (n:=d.r) (g:=fun _=>1) fun i hi=>if_pos ⟨i,hi,rfl⟩]
   grind
  have c2:zf N (fun x=>if inB e x then (1:Rat) else 0)=zf e.r (fun _=>1):=by
   rw[h.be fun x=>if inB e x then (1:Rat) else 0,zM fun j hj=>if_neg (xV h.be hj),zm (n:=e.r) (g:=fun _=>1) fun i hi=>if_pos ⟨i,hi,rfl⟩]
   grind
  rw[hr,← c1] at c2
  rw[yh hkN,yh (f:=fun x=>if inB d x then (1:Rat) else 0) hkN,if_neg hnk,if_pos hk] at c2
  have:zf N (fun j=>if j=k then 0 else if inB e j then (1:Rat) else 0)≤zf N (fun j=>if j=k then 0 else if inB d j then (1:Rat) else 0):=n5 fun j _=>by
   by_cases e1:j=k
   ·rw[if_pos e1,if_pos e1]; grind
   ·rw[if_neg e1,if_neg e1]
    by_cases e2:inB e j
    ·rw[if_pos e2,if_pos (hB _ e2)]; grind
    ·rw[if_neg e2]; split<;>grind
  grind
 | succ n ih =>
  intro e h hr hc hn
  by_cases h0:far d e.bas e.r≤n
  ·exact UV (ih e h hr hc h0) (ZM (by omega))
  ·obtain ⟨i,hi,hni⟩:=K9 e.r (by omega:far d e.bas e.r≠0)
   obtain ⟨j,hj,ha,hin⟩:=h.exchange hi hni
   have hS:=h.trans (Same.pivot h.be hi hj ha).symm
   have hfar:=Jb (f:=e.bas) hin hni e.r
   rw[if_pos hi] at hfar
   have:=ih (LP.pivot e i j) hS hr hc (by simp only[LP.pivot]; omega)
   have h2:=C5 (p:=i) (q:=j) (d:=LP.pivot e i j) hi hj this
   rwa [XN ha] at h2
open Classical in
theorem Ja {d:zq} {f:Nat→Nat}:∀ n,((far d f n:Nat):Rat)=zf n fun i=>if inB d (f i) then 0 else 1
 | 0=>rfl
 | n+1=>by
  have ih:=Ja (d:=d) (f:=f) n
  simp only[far,zf]
  rw[← ih]
  by_cases e:inB d (f n)
  ·rw[if_pos (nJ.2 e),if_pos e]; simp; grind
  ·rw[if_neg (fun h=>e (nJ.1 h)),if_neg e]; simp
theorem Q2:∀ n,zf n (fun _=>1)=((n:Nat):Rat)
 | 0=>rfl
 | n+1=>by simp only[zf]; rw[Q2 n]; simp
open Classical in
theorem Same.far_c {d e:zq} {N:Nat} (h:Same d e N):far d e.bas e.r≤d.c:=by
 have h1:=Ja (d:=d) (f:=e.bas) e.r
 have h2:zf N (fun k=>if inB d k then (0:Rat) else 1)=zf e.c (fun j=>if inB d (e.fre j) then 0 else 1)+zf e.r (fun i=>if inB d (e.bas i) then 0 else 1):=h.be fun k=>if inB d k then (0:Rat) else 1
 have h3:zf N (fun k=>if inB d k then (0:Rat) else 1)=zf d.c (fun j=>if inB d (d.fre j) then 0 else 1)+zf d.r (fun i=>if inB d (d.bas i) then 0 else 1):=h.bd fun k=>if inB d k then (0:Rat) else 1
 rw[zM (n:=d.r) fun i hi=>if_pos ⟨i,hi,rfl⟩,zm (n:=d.c) (g:=fun _=>1) fun j hj=>if_neg (xV h.bd hj),Q2] at h3
 have h4:0≤zf e.c (fun j=>if inB d (e.fre j) then (0:Rat) else 1):=by
  have:=n5 (n:=e.c) (f:=fun _=>(0:Rat)) (g:=fun j=>if inB d (e.fre j) then (0:Rat) else 1) fun j _=>by split<;>grind
  rwa [zM fun _ _=>rfl] at this
 have h5:((far d e.bas e.r:Nat):Rat)≤((d.c:Nat):Rat):=by grind
 exact Rat.natCast_le_natCast.1 h5
theorem Same.size_t {d e:zq} {N K t:Nat} (hs:szD K d) (h:Same d e N) (hr:e.r=d.r) (hc:e.c=d.c) (ht:d.r≤t∨d.c≤t):szD (grow K t) e :=
 Same.size hs t e h hr hc (by
  rcases ht with ht | ht
  ·exact Nat.le_trans (EV _) (by rw[hr]; exact ht)
  ·exact Nat.le_trans h.far_c ht)
theorem fI (n m:Nat) (g:Nat→Rat):zf (n+m) g=zf n g+zf m (fun i=>g (n+i)):=by
 induction m with
 | zero=>simp only[Nat.add_zero,zf]; grind
 | succ m ih=>rw[← Nat.add_assoc]; simp only[zf]; rw[ih]; grind
section
variable (n m:Nat) (A:Nat→Nat→Rat) (bb gg:Nat→Rat)
def dG:zq:=⟨m,n,A,bb,gg,0,fun i=>n+i,fun j=>j⟩
def dA:zq:=⟨m,n+1,fun i j=>if j<n then A i j else -1,bb,fun j=>if j<n then 0 else -1,0,fun i=>n+i,fun j=>if j<n then j else n+m⟩
def xu (u:Nat→Rat) (k:Nat):Rat:=if k<n then u k else bb (k-n)-zf n fun j=>A (k-n) j*u j
end
section
variable {n m:Nat} {A:Nat→Nat→Rat} {bb gg:Nat→Rat}
theorem EF:Bij (dG n m A bb gg) (n+m):=fun g=>fI n m g
theorem afg:Bij (dA n m A bb) (n+m+1):=fun g=>by
 simp only[dA,zf]
 rw[fI,if_neg (Nat.lt_irrefl n),zm (n:=n) (f:=fun j=>g (if j<n then j else n+m)) (g:=g) fun i hi=>by rw[if_pos hi]]
 grind
theorem S1 {u:Nat→Rat} {k:Nat} (h:k<n):xu n A bb u k=u k:=if_pos h
theorem PK {u:Nat→Rat} {i:Nat}:xu n A bb u (n+i)=bb i-zf n fun j=>A i j*u j:=by
 unfold xu
 rw[if_neg (by omega),Nat.add_sub_cancel_left]
theorem agC {u:Nat→Rat}:sol (dG n m A bb gg) (xu n A bb u):=by
 intro i hi
 simp only[dG] at hi ⊢
 rw[PK]
 congr 1
 exact zm fun j hj=>by rw[S1 hj]
theorem Ss {x:Nat→Rat} (h:sol (dG n m A bb gg) x) {i:Nat} (hi:i<m):x (n+i)=bb i-zf n fun j=>A i j*x j:=h i hi
theorem T4 {x:Nat→Rat}:obj (dG n m A bb gg) x=zf n fun j=>gg j*x j:=by
 simp only[obj,dG]; grind
theorem K4 {d:zq} (h:Same d (dG n m A bb gg) (n+m)) (u:Nat→Rat):zf n (fun j=>gg j*u j)=d.v+zf n (fun k=>cv d k*u k)+zf m (fun i=>cv d (n+i)*(bb i-zf n fun j=>A i j*u j)):=by
 have h1:=h.obj _ ((h.sol _).2 (agC (u:=u)))
 rw[T4,Mm h.bd,fI] at h1
 rw[zm (n:=n) (f:=fun j=>gg j*xu n A bb u j) (g:=fun j=>gg j*u j) fun j hj=>by rw[S1 hj],
  zm (n:=n) (f:=fun k=>cv d k*xu n A bb u k) (g:=fun k=>cv d k*u k) fun j hj=>by rw[S1 hj],
  zm (n:=m) (g:=fun i=>cv d (n+i)*(bb i-zf n fun j=>A i j*u j)) fun i hi=>by rw[PK]] at h1
 grind
theorem EK {d:zq} (h:Same d (dG n m A bb gg) (n+m)):zf m (fun i=>-cv d (n+i)*bb i)=d.v:=by
 have h1:=K4 h fun _=>0
 rw[zM fun j _=>by grind,zM (n:=n) (f:=fun k=>cv d k*0) fun j _=>by grind,
  zm (n:=m) (g:=fun i=>cv d (n+i)*bb i) fun i _=>by rw[zM fun j _=>by grind]; grind] at h1
 rw[zm (g:=fun i=>-(cv d (n+i)*bb i)) fun i _=>by grind,lX]
 grind
theorem B4 {d:zq} (h:Same d (dG n m A bb gg) (n+m)) {j:Nat} (hj:j<n):zf m (fun i=>-cv d (n+i)*A i j)=gg j-cv d j:=by
 have h1:=K4 h fun k=>if k=j then 1 else 0
 have h2:=EK h
 rw[wI hj fun i _ hne=>by rw[if_neg hne]; grind,wI (f:=fun k=>cv d k*if k=j then 1 else 0) hj fun i _ hne=>by rw[if_neg hne]; grind,
  zm (n:=m) (g:=fun i=>-(-cv d (n+i)*bb i)+-cv d (n+i)*A i j) fun i _=>by
   rw[wI hj fun l _ hne=>by rw[if_neg hne]; grind]
   rw[if_pos rfl]; grind,lW,lX] at h1
 simp only[if_true] at h1
 grind
theorem jv {d:zq} {N:Nat} (_hb:Bij d N) (hf:feas d) (k:Nat):0≤vl d k:=by
 refine xY fun i hi=>?_
 split
 ·exact hf i hi
 ·grind
theorem eF {d:zq} (hc:∀ j,j<d.c→d.cst j≤0) (k:Nat):cv d k≤0:=by
 have:0≤zf d.c fun j=>-(if d.fre j=k then d.cst j else 0):=xY fun j hj=>by
  split
  ·have:=hc j hj; grind
  ·grind
 rw[lX] at this
 unfold cv
 grind
theorem Yg {x:Nat→Rat} (h:sol (dG n m A bb gg) x) (hx:∀ k,0≤x k) {i:Nat} (hi:i<m):zf n (fun j=>A i j*x j)≤bb i:=by
 have:=Ss h hi
 have:=hx (n+i)
 grind
structure Opt (n m:Nat) (A:Nat→Nat→Rat) (bb gg:Nat→Rat) (x y:Nat→Rat) (v:Rat):Prop where
 x0:∀ k,0≤x k
 row:∀ i,i<m→zf n (fun j=>A i j*x j)≤bb i
 y0:∀ i,0≤y i
 col:∀ j,j<n→gg j≤zf m (fun i=>y i*A i j)
 vx:zf n (fun j=>gg j*x j)=v
 vy:zf m (fun i=>y i*bb i)=v
theorem afY {d:zq} (h:Same d (dG n m A bb gg) (n+m)) (hf:feas d) (hc:∀ j,j<d.c→d.cst j≤0):Opt n m A bb gg (vl d) (fun i=>-cv d (n+i)) d.v:=by
 have s1:=(h.sol _).1 (fO h.bd)
 refine ⟨jv h.bd hf,fun i hi=>Yg s1 (jv h.bd hf) hi,fun i=>by have:=eF hc (n+i); grind,fun j hj=>?_,?_,EK h⟩
 ·rw[B4 h hj]; have:=eF hc j; grind
 ·have:=h.obj _ (fO h.bd)
  rw[YB h.bd,T4] at this
  exact this.symm
def dx (d:zq) (q k:Nat):Rat:=zf d.r (fun i=>if d.bas i=k then-d.a i q else 0)+(if d.fre q=k then 1 else 0)
theorem Y6 {d:zq} {q k:Nat}:dx d q k=ptq d q 1 k-ptq d q 0 k:=by
 unfold dx ptq
 rw[zm (g:=fun i=>(if d.bas i=k then d.b i-d.a i q*1 else 0)-(if d.bas i=k then d.b i-d.a i q*0 else 0)) fun i _=>by split<;>grind,ux]
 split<;>grind
structure Unb (n m:Nat) (A:Nat→Nat→Rat) (bb gg:Nat→Rat) (x ray:Nat→Rat):Prop where
 x0:∀ k,0≤x k
 row:∀ i,i<m→zf n (fun j=>A i j*x j)≤bb i
 r0:∀ k,0≤ray k
 rr:∀ i,i<m→zf n (fun j=>A i j*ray j)≤0
 up:0<zf n (fun j=>gg j*ray j)
theorem agz {d:zq} (h:Same d (dG n m A bb gg) (n+m)) (hf:feas d) {q:Nat} (hq:q<d.c) (hc:0<d.cst q) (ha:∀ i,i<d.r→d.a i q≤0):Unb n m A bb gg (vl d) (dx d q):=by
 have s0:=(h.sol _).1 (fO h.bd)
 have s1:=(h.sol _).1 (qZ h.bd hq (y:=1))
 have s2:=(h.sol _).1 (qZ h.bd hq (y:=0))
 have r0:∀ k,0≤dx d q k:=fun k=>by
  unfold dx
  have:0≤zf d.r (fun i=>if d.bas i=k then-d.a i q else 0):=xY fun i hi=>by
   split
   ·have:=ha i hi; grind
   ·grind
  split<;>grind
 refine ⟨jv h.bd hf,fun i hi=>Yg s0 (jv h.bd hf) hi,r0,fun i hi=>?_,?_⟩
 ·have e1:=Ss s1 hi
  have e2:=Ss s2 hi
  have e3:=r0 (n+i)
  rw[Y6,e1,e2] at e3
  rw[zm (g:=fun j=>A i j*ptq d q 1 j-A i j*ptq d q 0 j) fun j _=>by rw[Y6]; grind,ux]
  grind
 ·have e1:=h.obj _ (qZ h.bd hq (y:=1))
  have e2:=h.obj _ (qZ h.bd hq (y:=0))
  rw[Y1 h.bd hq,T4] at e1 e2
  rw[zm (g:=fun j=>gg j*ptq d q 1 j-gg j*ptq d q 0 j) fun j _=>by rw[Y6]; grind,ux]
  grind
theorem agn {x:Nat→Rat} (h:sol (dA n m A bb) x) {i:Nat} (hi:i<m):x (n+i)=bb i-zf n (fun j=>A i j*x j)+x (n+m):=by
 have:=h i hi
 simp only[dA,zf] at this
 rw[if_neg (Nat.lt_irrefl n),if_neg (Nat.lt_irrefl n),zm (n:=n) (g:=fun j=>A i j*x j) fun j hj=>by rw[if_pos hj,if_pos hj]] at this
 grind
theorem RK {x:Nat→Rat} (h:∀ i,i<m→x (n+i)=bb i-zf n (fun j=>A i j*x j)+x (n+m)):sol (dA n m A bb) x:=by
 intro i hi
 have:=h i hi
 simp only[dA,zf]
 rw[if_neg (Nat.lt_irrefl n),if_neg (Nat.lt_irrefl n),zm (n:=n) (g:=fun j=>A i j*x j) fun j hj=>by rw[if_pos hj,if_pos hj]]
 grind
theorem DD {x:Nat→Rat}:obj (dA n m A bb) x=- x (n+m):=by
 simp only[obj,dA,zf]
 rw[if_neg (Nat.lt_irrefl n),if_neg (Nat.lt_irrefl n),zM fun j hj=>by rw[if_pos hj]; grind]
 grind
structure Inf (n m:Nat) (A:Nat→Nat→Rat) (bb:Nat→Rat) (y:Nat→Rat):Prop where
 y0:∀ i,0≤y i
 col:∀ j,j<n→0≤zf m (fun i=>y i*A i j)
 vy:zf m (fun i=>y i*bb i)<0
theorem afD {d:zq} (h:Same d (dA n m A bb) (n+m+1)) (hc:∀ j,j<d.c→d.cst j≤0) (hv:d.v<0):Inf n m A bb (fun i=>-cv d (n+i)):=by
 have key:∀ u:Nat→Rat,0=d.v+zf n (fun k=>cv d k*u k)+zf m (fun i=>cv d (n+i)*(bb i-zf n fun j=>A i j*u j)):=fun u=>by
  have hx:∀ i,i<m→(fun k=>if k=n+m then 0 else xu n A bb u k) (n+i)=bb i-zf n (fun j=>A i j*(fun k=>if k=n+m then 0 else xu n A bb u k) j)+(fun k=>if k=n+m then 0 else xu n A bb u k) (n+m):=fun i hi=>by
   simp only[if_true]
   rw[if_neg (by omega),PK,zm (n:=n) (f:=fun j=>A i j*if j=n+m then 0 else xu n A bb u j) (g:=fun j=>A i j*u j) fun j hj=>by rw[if_neg (by omega),S1 hj]]
   grind
  have h1:=h.obj _ ((h.sol _).2 (RK (x:=fun k=>if k=n+m then 0 else xu n A bb u k) hx))
  rw[DD,Mm h.bd] at h1
  simp only[zf,if_true] at h1
  rw[fI,zm (n:=n) (f:=fun k=>cv d k*if k=n+m then 0 else xu n A bb u k) (g:=fun k=>cv d k*u k) fun j hj=>by rw[if_neg (by omega),S1 hj],
   zm (n:=m) (g:=fun i=>cv d (n+i)*(bb i-zf n fun j=>A i j*u j)) fun i hi=>by rw[if_neg (by omega),PK]] at h1
  grind
 have hvy:zf m (fun i=>-cv d (n+i)*bb i)=d.v:=by
  have h1:=key fun _=>0
  rw[zM (n:=n) (f:=fun k=>cv d k*0) fun j _=>by grind,
   zm (n:=m) (g:=fun i=>cv d (n+i)*bb i) fun i _=>by rw[zM fun j _=>by grind]; grind] at h1
  rw[zm (g:=fun i=>-(cv d (n+i)*bb i)) fun i _=>by grind,lX]
  grind
 refine ⟨fun i=>by have:=eF hc (n+i); grind,fun j hj=>?_,by rw[hvy]; exact hv⟩
 have h1:=key fun k=>if k=j then 1 else 0
 rw[wI (f:=fun k=>cv d k*if k=j then 1 else 0) hj fun i _ hne=>by rw[if_neg hne]; grind,
  zm (n:=m) (g:=fun i=>-(-cv d (n+i)*bb i)+-cv d (n+i)*A i j) fun i _=>by
   rw[wI hj fun l _ hne=>by rw[if_neg hne]; grind]
   rw[if_pos rfl]; grind,lW,lX] at h1
 simp only[if_true] at h1
 have:=eF hc j
 grind
theorem wN {x y:Nat→Rat} (hx:∀ j,j<n→0≤x j) (hr:∀ i,i<m→zf n (fun j=>A i j*x j)≤bb i) (hy:∀ i,i<m→0≤y i) (hc:∀ j,j<n→gg j≤zf m (fun i=>y i*A i j)) :
  zf n (fun j=>gg j*x j)≤zf m (fun i=>y i*bb i):=by
 have h1:zf n (fun j=>gg j*x j)≤zf n (fun j=>zf m (fun i=>y i*A i j)*x j):=n5 fun j hj=>by
  have:=Rat.mul_nonneg (show 0≤zf m (fun i=>y i*A i j)-gg j by have:=hc j hj; grind) (hx j hj)
  grind
 have h2:zf m (fun i=>y i*zf n (fun j=>A i j*x j))≤zf m (fun i=>y i*bb i):=n5 fun i hi=>by
  have:=Rat.mul_nonneg (hy i hi) (show 0≤bb i-zf n (fun j=>A i j*x j) by have:=hr i hi; grind)
  grind
 have h3:zf n (fun j=>zf m (fun i=>y i*A i j)*x j)=zf m (fun i=>y i*zf n (fun j=>A i j*x j)):=by
  rw[zm (n:=n) (g:=fun j=>zf m (fun i=>y i*A i j*x j)) fun j _=>by rw[js],jr]
  exact zm fun i _=>by rw[← nF]; exact zm fun j _=>by grind
 grind
end
end Go.LP

namespace Go.Proofs.YtjeoklgggppjiaaGreat
open Go Go.Am Go.Dig Go.LP
theorem Dl {K x:Nat} (h:x≤2^K):(zg x).length≤K/32+1:=zI.2 (by
 have:B^(K/32+1)=2^(32*(K/32+1)):=by rw[show B=2^32 from rfl,← Nat.pow_mul]
 rw[this]
 exact Nat.lt_of_le_of_lt h (Nat.pow_lt_pow_right (by omega) (by omega)))
theorem qw {K:Nat} {q:Rat} (h:sz K q):(zg q.num.natAbs).length≤K/32+1∧(zg q.den).length≤K/32+1:=⟨Dl h.1,Dl h.2⟩
theorem agi (s:Bool) (N:Nat):sg (!s) N=-sg s N:=by cases s<;>simp[sg]
theorem Ui (q:Rat):mkRat (sg (decide (q.num<0)) q.num.natAbs) q.den=q:=by rw[mN,Rat.mkRat_self]
theorem adm (q:Rat):xJ (!decide (q.num<0)) q.num.natAbs q.den=xU (-q):=by
 rw[qg q.den_nz,agi,← Rat.neg_mkRat,Ui]
theorem acI (p q:Rat) (h:q≠0):xJ (!(decide (p.num<0) == decide (q.num<0))) (p.num.natAbs*q.den) (p.den*q.num.natAbs)=xU (p/q):=by
 have hq:q.num.natAbs≠0:=fun e=>h (Rat.num_eq_zero.1 (by omega))
 have hd:p.den*q.num.natAbs≠0:=Nat.mul_ne_zero p.den_nz hq
 rw[qg hd]
 congr 1
 have e1:=mN p.num
 have e2:=mN q.num
 have e3:=Ui p
 have e4:=Ui q
 have hx:p/q=mkRat (sg (decide (p.num<0)) p.num.natAbs) p.den*(Rat.divInt (q.den:Int) (sg (decide (q.num<0)) q.num.natAbs)):=by
  rw[e3,e2,Rat.div_def,Rat.inv_def]
 rw[hx]
 generalize p.num.natAbs=x at *
 generalize q.num.natAbs=y at *
 generalize decide (p.num<0)=s at *
 generalize decide (q.num<0)=t at *
 have hy:(y:Int)≠0:=by omega
 cases t
 ·have:Rat.divInt (q.den:Int) (sg false y)=mkRat q.den y:=rfl
  rw[this,Rat.mkRat_mul_mkRat]
  congr 1
  cases s<;>simp[sg,Int.neg_mul]
 ·have:Rat.divInt (q.den:Int) (sg true y)=mkRat (-q.den) y:=by
   rw[show sg true y=-(y:Int) from rfl,Rat.divInt_neg']; rfl
  rw[this,Rat.mkRat_mul_mkRat]
  congr 1
  cases s<;>simp[sg,Int.neg_mul,Int.mul_neg]
section
variable {K:Nat} {p q:Rat} (hK:K≤137438953472) (hp:sz K p) (hq:sz K q)
include hK hp
theorem Me:zd Tryz.prog qC [xU p] (xU (-p)):=by
 have h1:=qw hp
 rw[← adm]
 exact DB (by omega) (by omega) p.den_nz
include hq
theorem AI:zd Tryz.prog wK [xU p,xU q] (xU (p*q)):=by
 have h1:=qw hp
 have h2:=qw hq
 rw[← adg]
 exact GW (by omega) (by omega) (by omega) (by omega) p.den_nz q.den_nz
theorem PQ:zd Tryz.prog uE [xU p,xU q] (xU (p+q)):=by
 have h1:=qw hp
 have h2:=qw hq
 rw[← ab4]
 exact J8 (by omega) (by omega) (by omega) (by omega) p.den_nz q.den_nz
theorem abn:zd Tryz.prog gc [xU p,xU q] (xU (p-q)):=by
 have k1:=Me hK hq
 have k2:=PQ hK hp (jt hq)
 rw[Rat.sub_eq_add_neg]
 obtain ⟨a,ha⟩:∃ a,a=p+-q:=⟨_,rfl⟩
 obtain ⟨b,hb⟩:∃ b,b=-q:=⟨_,rfl⟩
 rw[← ha] at k2 ⊢
 rw[← hb] at k1 k2
 refine zx aew (by simp) ?_
 simp[KM]
 refine za k1 (by simp) (by simp) ?_
 simp
 refine za k2 (by simp) (by simp) ?_
 simp[JB]
end
def wX (p q:Rat):Int:=if p<q then -1 else if q<p then 1 else 0
def xX (q:Rat):Int:=if q=0 then 0 else if q<0 then -1 else 1
theorem kD {q:Rat}:q.num<0↔q<0:=by
 have:=Rat.lt_iff q 0
 simpa using this.symm
theorem acs (p q:Rat):wX p q=if p.num*q.den<q.num*p.den then -1 else if q.num*p.den<p.num*q.den then 1 else 0:=by
 unfold wX
 simp only[Rat.lt_iff]
theorem act (p q:Rat):(if decide (p.num<0)=decide (q.num<0) then (if decide (p.num<0)=true then yU (q.num.natAbs*p.den) (p.num.natAbs*q.den) else yU (p.num.natAbs*q.den) (q.num.natAbs*p.den))
  else if decide (p.num<0)=true then -1 else 1)=wX p q:=by
 have d1:(0:Int)<p.den:=by have:=p.den_pos; omega
 have d2:(0:Int)<q.den:=by have:=q.den_pos; omega
 rw[acs]
 unfold yU
 have a1:((p.num.natAbs*q.den:Nat):Int)=(p.num.natAbs:Int)*q.den:=Int.natCast_mul _ _
 have a2:((q.num.natAbs*p.den:Nat):Int)=(q.num.natAbs:Int)*p.den:=Int.natCast_mul _ _
 by_cases h1:p.num<0<;>by_cases h2:q.num<0
 ·have e1:(p.num.natAbs:Int)=-p.num:=by omega
  have e2:(q.num.natAbs:Int)=-q.num:=by omega
  rw[e1,Int.neg_mul] at a1
  rw[e2,Int.neg_mul] at a2
  simp only[h1,h2,if_true,decide_true]
  generalize p.num*q.den=x at *
  generalize q.num*p.den=y at *
  repeat' split
  all_goals first | rfl | omega
 ·have m1:p.num*q.den<0:=Int.mul_neg_of_neg_of_pos h1 d2
  have m2:0≤q.num*p.den:=Int.mul_nonneg (by omega) (by omega)
  simp only[h1,h2,decide_true,decide_false,Bool.true_eq_false,if_false,if_true]
  rw[if_pos (by omega)]
 ·have m1:0≤p.num*q.den:=Int.mul_nonneg (by omega) (by omega)
  have m2:q.num*p.den<0:=Int.mul_neg_of_neg_of_pos h2 d1
  simp only[h1,h2,decide_true,decide_false,Bool.false_eq_true,if_false]
  rw[if_neg (by omega),if_pos (by omega)]
 ·have e1:(p.num.natAbs:Int)=p.num:=by omega
  have e2:(q.num.natAbs:Int)=q.num:=by omega
  rw[e1] at a1
  rw[e2] at a2
  simp only[h1,h2,decide_false,if_true,Bool.false_eq_true,if_false]
  generalize p.num*q.den=x at *
  generalize q.num*p.den=y at *
  repeat' split
  all_goals first | rfl | omega
theorem Cx {q:Rat}:zd Tryz.prog wS [xU q] (iv (xX q)):=by
 unfold xX xU
 refine zx abp (by simp) ?_
 by_cases h0:q=0
 ·subst h0
  simp[cM,bW,yz]
 ·have hn:q.num.natAbs≠0:=fun e=>h0 (Rat.num_eq_zero.1 (by omega))
  have hl0:¬ zg q.num.natAbs=[]:=by rw[yT]; exact hn
  have hl:¬ (zg q.num.natAbs).length=0:=by rw[List.length_eq_zero_iff]; exact hl0
  have hli:¬ ((zg q.num.natAbs).length:Int)=0:=by omega
  by_cases h1:q<0
  ·have h2:=kD.2 h1
   simp[cM,bW,h0,h1,hl,h2]
  ·have h2:¬ q.num<0:=fun h=>h1 (kD.1 h)
   simp[cM,bW,h0,h1,hl,h2]
theorem BQ {K:Nat} {p q:Rat} (hK:K≤137438953472) (hp:sz K p) (hq:sz K q):zd Tryz.prog sX [xU p,xU q] (iv (wX p q)):=by
 have h1:=qw hp
 have h2:=qw hq
 rw[← act]
 have l1:=qW h1.1 h2.2
 have l2:=qW h2.1 h1.2
 have kx:=XA (s:=decide (p.num<0)) (t:=decide (q.num<0)) (N:=p.num.natAbs) (D:=p.den) (M:=q.num.natAbs) (E:=q.den) (by omega) (by omega) (by omega) (by omega)
 have k1:=jd (m1:=.plain) (m2:=.plain) (zD (p.num.natAbs*q.den)) (zD (q.num.natAbs*p.den)) (by omega) (by omega)
 have k2:=jd (m1:=.plain) (m2:=.plain) (zD (q.num.natAbs*p.den)) (zD (p.num.natAbs*q.den)) (by omega) (by omega)
 simp only[zO] at k1 k2
 unfold xU
 generalize p.num.natAbs*q.den=x at *
 generalize q.num.natAbs*p.den=y at *
 generalize decide (p.num<0)=s at *
 generalize decide (q.num<0)=t at *
 refine zx aer (by simp) ?_
 by_cases hst:s=t
 ·have e:(s == t)=true:=by simp[hst]
  rw[if_pos hst]
  simp[Rc,y9 s9,e]
  refine za kx (by simp) (by simp) ?_
  cases s
  ·simp
   refine za k1 (by simp) (by simp) ?_
   simp[Y4]
  ·simp
   refine za k2 (by simp) (by simp) ?_
   simp[Y4]
 ·have e:(s == t)=false:=by simp[hst]
  rw[if_neg hst]
  cases s<;>simp[Rc,y9 s9,e,Y4]
def vfr (s:Bool) (a c:List Nat):Bool :=
 decide (a=zg (val a))&&decide (c=zg (val c))&&!decide (c=[])&&!(s&&decide (a=[]))&&(Nat.gcd (val a) (val c) == 1)
theorem LB (q:Rat):vfr (decide (q.num<0)) (zg q.num.natAbs) (zg q.den)=true:=by
 have h1:¬ q.den=0:=q.den_nz
 have h2:Nat.gcd q.num.natAbs q.den=1:=q.reduced
 have h3:¬ (q.num<0∧q.num.natAbs=0):=by omega
 simp only[vfr,zO,yT,h1,h2,beq_self_eq_true,decide_true,Bool.true_and,Bool.and_true,decide_false,Bool.not_false,Bool.not_eq_true',Bool.and_eq_false_iff,decide_eq_false_iff_not]
 by_cases hn:q.num<0
 ·right; omega
 ·left; exact hn
theorem aeR {s:Bool} {a c:List Nat} (h:vfr s a c=true):∃ q:Rat,s=decide (q.num<0)∧a=zg q.num.natAbs∧c=zg q.den:=by
 simp only[vfr,Bool.and_eq_true,beq_iff_eq,decide_eq_true_eq,Bool.not_eq_true',decide_eq_false_iff_not,Bool.and_eq_false_iff] at h
 obtain ⟨⟨⟨⟨h1,h2⟩,h3⟩,h4⟩,h5⟩:=h
 have hc:val c≠0:=fun e=>h3 (by rw[h2,e,yz])
 have hs:(sg s (val a)).natAbs=val a:=by unfold sg; split<;>omega
 refine ⟨⟨sg s (val a),val c,hc,by rw[hs]; exact h5⟩,?_,?_,h2⟩
 ·show s=decide (sg s (val a)<0)
  cases s
  ·simp[sg]
  ·have:val a≠0:=fun e=>by
    rcases h4 with h4 | h4
    ·cases h4
    ·exact h4 (by rw[h1,e,yz])
   simp[sg]; omega
 ·show a=zg (sg s (val a)).natAbs
  rw[hs]; exact h1
theorem afn {ox oy:Operand} {s b:Bool} {K:AV→Option ze→Prop} :
  yc Tryz.prog .eql uO ox oy [.agg [bv s,bv b],.agg [bv true,bv true]] K=K (bv (s&&b)) none:=by
 rw[Nr Un Uk X6 (xs:=[.bool s,.bool b]) (ys:=[.bool true,.bool true]) rfl rfl rfl rfl]
 cases s<;>cases b<;>rfl
theorem F7 {s:Bool} {a c:List Nat} {m1 m2:Am.Mode} (ha:ok a) (hc:ok c) (hna:a.length<17179869184) (hnc:c.length<17179869184) (f1:stm m1=m1) (f2:stm m2=m2) :
  zd Tryz.prog vX [.agg [bv s,nl m1 a,nl m2 c]] (bv (vfr s a c)):=by
 have k1:=X0 (m:=m1) ha (by omega)
 have k2:=X0 (m:=m2) hc (by omega)
 have kg:=Qx (m1:=m1) (m2:=m2) ha hc (by omega) (by omega) f1 f2
 have kf:=qT (x:=1) (by decide)
 have hvc:c≠[]→c=zg (val c)→val c≠0:=fun h e h0=>h (by rw[e,h0,yz])
 have hgl:c≠[]→c=zg (val c)→(zg (Nat.gcd (val a) (val c))).length<17179869184:=fun h e=>by
  have h1:val c<B^c.length:=by
   have:=zI (x:=val c) (n:=c.length)
   rw[← this,← e]; exact Nat.le_refl _
  exact Nat.lt_of_le_of_lt (zI.2 (Nat.lt_of_le_of_lt (Nat.gcd_le_right _ (Nat.pos_of_ne_zero (hvc h e))) h1)) hnc
 have kc:(zg (Nat.gcd (val a) (val c))).length<17179869184→zd Tryz.prog nI [nD (Nat.gcd (val a) (val c)),nD 1] (iv (yU (Nat.gcd (val a) (val c)) 1)):=fun h=>by
  have:=jd (m1:=.plain) (m2:=.plain) (zD (Nat.gcd (val a) (val c))) (zD 1) (by omega) (by rw[show zg 1=[1] by decide +kernel]; decide)
  simp only[zO] at this
  exact this
 unfold vfr
 generalize Nat.gcd (val a) (val c)=g at *
 generalize val a=x at *
 generalize hy:val c=y at *
 have hkk:zd Tryz.prog cA [.agg [bv s,nl m1 a,nl m2 c]] (.agg [bv s,bv (decide (a=[]))]):=by
  refine zx F2 (by simp) ?_
  simp[Tl,Sc]
 have hcl:c=[]→c.length=0:=fun h=>by rw[h]; rfl
 have hcl':c≠[]→¬ c.length=0:=fun h h'=>h (List.length_eq_zero_iff.1 h')
 generalize d1:decide (a=zg x)=b1 at *
 generalize d2:decide (c=zg y)=b2 at *
 refine zx C9 (by simp) ?_
 simp[Qi]
 refine za k1 (by simp[f1]) (by simp) ?_
 cases b1
 ·simp[jl]
 simp
 refine za k2 (by simp[f2]) (by simp) ?_
 cases b2
 ·simp[jl]
 by_cases e3:c=[]
 ·simp[e3,jl]
 simp[e3]
 refine za hkk (by simp[f1,f2]) (by simp) ?_
 have hg:=hgl e3 (of_decide_eq_true d2)
 have hfin:decide (yU g 1=0)=(g == 1):=by
  have h2:yU g 1=0↔g=1:=by unfold yU; split<;>(try split)<;>omega
  simp only[h2]
  by_cases h1:g=1<;>simp[h1]
 generalize decide (a=[])=z at *
 cases s<;>cases z
 all_goals simp[afn,jl]
 all_goals
  refine za kg (by simp[f1,f2]) (by simp) ?_
  simp
  refine za kf (by simp) (by simp) ?_
  simp
  refine za (kc hg) (by simp) (by simp) ?_
  simp[← hfin]
theorem NK {n:Int} (h1:-9223372036854775808≤n) (h2:n<9223372036854775808):zd Tryz.prog ve [iv n] (xU n):=by
 rw[← Jf]; exact LY h1 h2
theorem Cy {q:Rat}:zd Tryz.prog cB [xU q] (iv (xX q)):=by
 unfold xX xU
 refine zx abv (by simp) ?_
 by_cases h0:q=0
 ·subst h0
  simp[cT,bZ,yz]
 ·have hn:q.num.natAbs≠0:=fun e=>h0 (Rat.num_eq_zero.1 (by omega))
  have hl0:¬ zg q.num.natAbs=[]:=by rw[yT]; exact hn
  have hl:¬ (zg q.num.natAbs).length=0:=by rw[List.length_eq_zero_iff]; exact hl0
  have hli:¬ ((zg q.num.natAbs).length:Int)=0:=by omega
  by_cases h1:q<0
  ·have h2:=kD.2 h1
   simp[cT,bZ,h0,h1,h2]
  ·have h2:¬ q.num<0:=fun h=>h1 (kD.1 h)
   simp[cT,bZ,h0,h1,hl,h2]
section
variable {K:Nat} {p q:Rat}
theorem qt:zd Tryz.prog wS [fq q] (iv (xX q)):=by rw[← sZ]; exact Cx
theorem eK {n:Int} (h1:-9223372036854775808≤n) (h2:n<9223372036854775808):zd Tryz.prog ve [iv n] (fq n):=by rw[← sZ]; exact NK h1 h2
theorem agj:zd Tryz.prog cB [fq q] (iv (xX q)):=by rw[← sZ]; exact Cy
variable (hK:K≤137438953472) (hp:sz K p) (hq:sz K q)
include hK hp
theorem T1:zd Tryz.prog qC [fq p] (fq (-p)):=by simp only[← sZ]; exact Me hK hp
include hq
theorem mG:zd Tryz.prog wK [fq p,fq q] (fq (p*q)):=by simp only[← sZ]; exact AI hK hp hq
theorem cF:zd Tryz.prog uE [fq p,fq q] (fq (p+q)):=by simp only[← sZ]; exact PQ hK hp hq
theorem FZ:zd Tryz.prog gc [fq p,fq q] (fq (p-q)):=by simp only[← sZ]; exact abn hK hp hq
theorem cZ:zd Tryz.prog sX [fq p,fq q] (iv (wX p q)):=by simp only[← sZ]; exact BQ hK hp hq
end
noncomputable def fZ (f:Nat→Rat) (k n:Nat):List (List AV):=(List.range n).map fun j=>if j<k then fr (f j) else zz
noncomputable def fR (f:Nat→Rat) (n:Nat):List (List AV):=(List.range n).map fun j=>fr (f j)
noncomputable abbrev fL (f:Nat→Rat) (n:Nat):AV:=.list 3 .plain (fR f n)
@[simp] theorem TJ {f:Nat→Rat} {n:Nat}:(fR f n).length=n:=by simp[fR]
@[simp] theorem afo {f:Nat→Rat} {k n:Nat}:(fZ f k n).length=n:=by simp[fZ]
theorem fa {f:Nat→Rat} {n i:Nat} (h:i<n):(fR f n)[i]?=some (fr (f i)):=by simp[fR,h]
theorem NB {f:Nat→Rat} {k n i:Nat} (h:i<n) (hk:i<k):(fZ f k n)[i]?=some (fr (f i)):=by simp[fZ,h,hk]
theorem Rl {f:Nat→Rat} {k n i:Nat} (h:i<n) (hk:¬ i<k):(fZ f k n)[i]?=some zz:=by simp[fZ,h,hk]
@[simp] theorem ajb {f:Nat→Rat} {n i:Nat} {h:i<(fR f n).length}:(fR f n)[i]=fr (f i):=by simp[fR]
@[simp] theorem ajd {f:Nat→Rat} {n k:Nat} {h:k<(fZ f k n).length}:(fZ f k n)[k]=zz:=by simp[fZ]
theorem xl {f g:Nat→Rat} {n:Nat} (h:∀ i,i<n→f i=g i):fR f n=fR g n:=by
 unfold fR
 exact List.map_congr_left fun i hi=>by rw[h i (by simpa using hi)]
theorem pJ {f:Nat→Rat} {n i:Nat} {x:Rat}:(fR f n).set i (fr x)=fR (upd f i x) n:=by
 apply List.ext_getElem?
 intro j
 rw[List.getElem?_set]
 by_cases hij:i=j
 ·subst hij
  rw[if_pos rfl,TJ]
  by_cases hi:i<n
  ·rw[if_pos hi,fa hi]; simp[upd]
  ·rw[if_neg hi]; simp[fR,hi]
 ·rw[if_neg hij]
  by_cases hj:j<n
  ·rw[fa hj,fa hj]; simp[upd,Ne.symm hij]
  ·simp[fR,hj]
theorem dV {f:Nat→Rat} {k n:Nat} (hk:k<n):(fZ f k n).set k (fr (f k))=fZ f (k+1) n:=by
 apply List.ext_getElem?
 intro j
 rw[List.getElem?_set]
 by_cases hij:k=j
 ·subst hij
  rw[if_pos rfl,afo,if_pos hk,NB hk (by omega)]
 ·rw[if_neg hij]
  by_cases hj:j<n
  ·by_cases hjk:j<k
   ·rw[NB hj hjk,NB hj (by omega)]
   ·rw[Rl hj hjk,Rl hj (by omega)]
  ·simp[fZ,hj]
theorem gn {f:Nat→Rat} {n:Nat}:List.replicate n zz=fZ f 0 n:=by
 apply List.ext_getElem?
 intro j
 by_cases h:j<n
 ·rw[Rl h (by omega)]; simp[h]
 ·simp[fZ,h]
theorem gm {f:Nat→Rat} {n:Nat}:fZ f n n=fR f n:=by
 unfold fZ fR
 exact List.map_congr_left fun i hi=>by rw[if_pos (by simpa using hi)]
theorem vB {f:Nat→Rat} {n:Nat}:fR f (n+1)=fR f n++[fr (f n)]:=by simp[fR,List.range_succ]
theorem Rk {f:Nat→Rat}:fR f 0=[]:=rfl
theorem EU {f:Nat→Rat} {n:Nat} {g:List AV→Bool} (h:∀ q,g (fr q)=true):(fR f n).all g=true :=
 List.all_eq_true.2 fun r hr=>by
  obtain ⟨j,_,rfl⟩:=List.mem_map.1 hr
  exact h _
theorem TK {f:Nat→Rat} {n:Nat} {g:List AV→List AV} (h:∀ q,g (fr q)=fr q):(fR f n).map g=fR f n :=
 yP fun r hr=>by
  obtain ⟨j,_,rfl⟩:=List.mem_map.1 hr
  exact h _
@[simp] theorem akG {f:Nat→Rat} {n:Nat}:yF (fR f n)=true:=EU fun _=>GB
@[simp] theorem akH {f:Nat→Rat} {n:Nat}:zQ (fR f n)=fR f n:=TK fun _=>Ug
@[simp] theorem akF {f:Nat→Rat} {n l:Nat}:zR l (fR f n)=fR f n:=TK fun _=>agY
@[simp] theorem ajU {f:Nat→Rat} {n l:Nat} {e:ze}:((fR f n).map fun r=>r.map (frz l e))=fR f n:=TK fun _=>afs
@[simp] theorem abH {f:Nat→Rat} {n a b:Nat}:((fR f n).map fun r=>r.map (rn a b))=fR f n:=TK fun _=>agZ
@[simp] theorem ajV {f:Nat→Rat} {n M:Nat}:((fR f n).all fun r=>r.all (Am.low M))=true:=EU fun _=>afu
theorem di {k:Nat}:∀ {rows:List (List AV)},(∀ r∈rows,xo k r=false)→yL k rows=false
 | [],_=>rfl
 | r::rows,h=>by simp[yL,h r (by simp),di (rows:=rows) fun r hr=>h r (by simp[hr])]
@[simp] theorem ajX {f:Nat→Rat} {n k:Nat}:yL k (fR f n)=false:=di fun r hr=>by
 obtain ⟨j,_,rfl⟩:=List.mem_map.1 hr
 exact afv
@[simp] theorem ajW {f:Nat→Rat} {n:Nat}:(fR f n=[])=(n=0):=by
 rw[← List.length_eq_zero_iff,TJ]
@[simp] theorem ajc {f:Nat→Rat} {n:Nat}:(fR f n).take n=fR f n:=List.take_of_length_le (by simp)
@[simp] theorem ajT {f:Nat→Rat} {n k:Nat}:((fR f n).any fun r=>r.any (nH k))=false :=
 List.any_eq_false.2 fun r hr=>by
  obtain ⟨j,_,rfl⟩:=List.mem_map.1 hr
  simp
theorem vZ {q:Rat}:xX q=0↔q=0:=by
 unfold xX; split
 ·simp[*]
 ·rename_i h; split<;>simp[h]
theorem fE {q:Rat}:xX q<0↔q<0:=by
 unfold xX; split
 ·rename_i h; subst h; simp
 ·split<;>simp[*]
theorem fF {q:Rat}:0<xX q↔0<q:=by
 unfold xX; split
 ·rename_i h; subst h; simp
 ·rename_i h
  split
  ·rename_i h2; simp; grind
  ·rename_i h2; simp; grind
theorem dS {p q:Rat}:wX p q<0↔p<q:=by
 unfold wX; split
 ·simp[*]
 ·split<;>simp[*]
theorem KZ {p q:Rat}:0<wX p q↔q<p:=by
 unfold wX; split
 ·simp; grind
 ·split<;>simp[*]
theorem lh {p q:Rat}:wX p q=0↔p=q:=by
 unfold wX; split
 ·simp; grind
 ·split
  ·simp; grind
  ·simp; grind
section
variable {K:Nat} {p q:Rat} (hK:K≤137438953472) (hp:sz K p) (hq:sz K q)
include hK hp hq
theorem BZ (h:q≠0):zd Tryz.prog ga [xU p,xU q] (.tuple [xU (p/q),iv 0]):=by
 have h1:=qw hp
 have h2:=qw hq
 have hq0:q.num.natAbs≠0:=fun e=>h (Rat.num_eq_zero.1 (by omega))
 rw[← acI p q h]
 have l1:=qW h1.1 h2.2
 have l2:=qW h1.2 h2.1
 have k1:=qn (m1:=.plain) (m2:=.plain) (zD p.num.natAbs) (zD q.den) (by omega) (by omega) (by omega) rfl rfl
 have k2:=qn (m1:=.plain) (m2:=.plain) (zD p.den) (zD q.num.natAbs) (by omega) (by omega) (by omega) rfl rfl
 simp only[zO] at k1 k2
 have k:=TZ (neg:=!(decide (p.num<0) == decide (q.num<0))) (N:=p.num.natAbs*q.den) (D:=p.den*q.num.natAbs) (by omega) (by omega) (Nat.mul_ne_zero p.den_nz hq0)
 unfold xU
 generalize p.num.natAbs=a at *
 generalize q.num.natAbs=b at *
 generalize decide (p.num<0)=s at *
 generalize decide (q.num<0)=t at *
 unfold xJ at *
 generalize a*q.den/Nat.gcd (a*q.den) (p.den*b)=x at *
 generalize p.den*b/Nat.gcd (a*q.den) (p.den*b)=y at *
 refine zx aes (by simp) ?_
 simp[KI,y9 s9]
 refine za k1 (by simp) (by simp) ?_
 simp
 refine za k2 (by simp) (by simp) ?_
 simp
 refine za k (by simp) (by simp) ?_
 simp[Jx]
theorem abF (h:q≠0):zd Tryz.prog ga [fq p,fq q] (.tuple [fq (p/q),iv 0]):=by simp only[← sZ]; exact BZ hK hp hq h
end
def elm (l:Nat→Rat) (f:Rat) (c:Nat) (pr:Nat→Rat) (j:Nat):Rat:=(if j=c then 0 else l j)-f*pr j
noncomputable def Yj (l pr:Nat→Rat) (n c:Nat) (b pb f:Rat) (k:Nat):St :=
 {env:=[(2,iv c),(3,fL pr n),(6,.ptr 6 0),(9,.ptr 9 0),(11,.ptr 11 0),(12,.ptr 12 0),(13,.sl 27 3 0 n),(28,fL l n),(29,iv n),(30,iv k)],
  sto:=[(6,.var (fr b)),(9,.var (fr pb)),(11,.var zz),(12,.var (fr f)),(27,.arr 3 (fZ (elm l f c pr) k n))]}
theorem eH {n c K:Nat} {l pr:Nat→Rat} {b pb:Rat} (hn:n<1000000) (hc:c<n) (hK:K≤30000000000) (hl:∀ j,j<n→sz K (l j)) (hp:∀ j,j<n→sz K (pr j)) (hb:sz K b) (hpb:sz K pb) :
  zd Tryz.prog pV [fL l n,fq b,iv c,fL pr n,fq pb] (.tuple [fL (elm l (l c) c pr) n,fq (b-l c*pb)]):=by
 obtain ⟨f,hf⟩:∃ f,l c=f:=⟨_,rfl⟩
 have szf:sz K f:=by rw[← hf]; exact hl c hc
 rw[hf]
 have e0:(c:Int)<n:=by omega
 have ks:=qt (q:=f)
 have k1:=mG (by omega) szf hpb
 have k2:=FZ (K:=K+K) (by omega) (zG hb (by omega)) (yj szf hpb)
 refine zx Pp (by simp) ?_
 simp[aU,e0,hc,hf]
 refine za ks (by simp) (by simp) ?_
 by_cases h0:f=0
 ·have h1:xX f=0:=vZ.2 h0
  have h2:fR (elm l f c pr) n=fR l n:=xl fun j hj=>by
   unfold elm
   rw[h0]
   split
   ·rename_i e; subst e; rw[hf,h0]; grind
   ·grind
  have h3:b-f*pb=b:=by rw[h0]; grind
  simp[h1,jF,h2,h3]
 ·have h1:¬ xX f=0:=fun h=>h0 (vZ.1 h)
  simp[h1,eMk]
  refine ⟨by omega,by omega,?_⟩
  rw[gn (f:=elm l f c pr)]
  refine zr (Yj l pr n c b pb f) (fun _=>True) n (by simp[Yj]) trivial (fun k hk _=>?_) (fun _=>?_)
  ·have e:(k:Int)<n:=by omega
   have w:=zn (k:=k) (by omega)
   have hs:=dV (f:=elm l f c pr) hk
   have g1:=mG (by omega) szf (hp k hk)
   have g2:=T1 (K:=K+K) (by omega) (yj szf (hp k hk))
   have g3:=qt (q:=pr k)
   have g4:=FZ (K:=K+K) (by omega) (zG (hl k hk) (by omega)) (yj szf (hp k hk))
   by_cases hkc:k=c
   ·subst hkc
    have ev:elm l f k pr k=-(f*pr k):=by unfold elm; rw[if_pos rfl]; grind
    rw[ev] at hs
    simp[su,Yj,e,hk]
    refine za g1 (by simp) (by simp) ?_
    simp
    refine za g2 (by simp) (by simp) ?_
    simp[hk,w,hs,Yj]
   ·have ec:¬ (k:Int)=c:=by omega
    have ev:elm l f c pr k=l k-f*pr k:=by unfold elm; rw[if_neg hkc]
    rw[ev] at hs
    simp[su,Yj,e,hk,ec]
    refine za g3 (by simp) (by simp) ?_
    by_cases hz:pr k=0
    ·have z1:xX (pr k)=0:=vZ.2 hz
     have z2:l k-f*pr k=l k:=by rw[hz]; grind
     rw[z2] at hs
     simp[z1,hk,w,hs,Yj]
    ·have z1:¬ xX (pr k)=0:=fun h=>hz (vZ.1 h)
     simp[z1,hk]
     refine za g1 (by simp) (by simp) ?_
     simp
     refine za g4 (by simp) (by simp) ?_
     simp[hk,w,hs,Yj]
  ·simp[su,gX,jF,Yj,gm]
   refine za k1 (by simp) (by simp) ?_
   simp
   refine za k2 (by simp) (by simp) ?_
   simp
def mR (g:Nat→List AV) (n:Nat):List (List AV):=(List.range n).map g
section
variable {g h:Nat→List AV} {n i:Nat}
@[simp] theorem ql:(mR g n).length=n:=by simp[mR]
theorem pK (hi:i<n):(mR g n)[i]?=some (g i):=by simp[mR,hi]
@[simp] theorem lI {hi:i<(mR g n).length}:(mR g n)[i]=g i:=by simp[mR]
theorem wZ (e:∀ i,i<n→g i=h i):mR g n=mR h n:=List.map_congr_left fun i hi=>e i (by simpa using hi)
theorem d9 {x:List AV}:(mR g n).set i x=mR (upd g i x) n:=by
 apply List.ext_getElem?
 intro j
 rw[List.getElem?_set]
 by_cases hij:i=j
 ·subst hij
  rw[if_pos rfl,ql]
  by_cases hi:i<n
  ·rw[if_pos hi,pK hi]; simp[upd]
  ·rw[if_neg hi]; simp[mR,hi]
 ·rw[if_neg hij]
  by_cases hj:j<n
  ·rw[pK hj,pK hj]; simp[upd,Ne.symm hij]
  ·simp[mR,hj]
theorem ca:mR g (n+1)=mR g n++[g n]:=by simp[mR,List.range_succ]
theorem ac9:mR g 0=[]:=rfl
theorem d7 {f:List AV→Bool} (h:∀ i,f (g i)=true):(mR g n).all f=true :=
 List.all_eq_true.2 fun r hr=>by
  obtain ⟨j,_,rfl⟩:=List.mem_map.1 hr
  exact h _
theorem tK {f:List AV→List AV} (h:∀ i,f (g i)=g i):(mR g n).map f=mR g n :=
 yP fun r hr=>by
  obtain ⟨j,_,rfl⟩:=List.mem_map.1 hr
  exact h _
theorem d8 {k:Nat} (h:∀ i,xo k (g i)=false):yL k (mR g n)=false:=di fun r hr=>by
 obtain ⟨j,_,rfl⟩:=List.mem_map.1 hr
 exact h _
end
def nR (f:Nat→Nat) (n:Nat):List (List AV):=mR (fun i=>[iv (f i)]) n
noncomputable def cR (a:Nat→Nat→Rat) (cl:Nat→Nat) (n:Nat):List (List AV):=mR (fun i=>[fL (a i) (cl i)]) n
section
variable {f:Nat→Nat} {a:Nat→Nat→Rat} {cl:Nat→Nat} {n i k:Nat} {e:ze}
@[simp] theorem akc:(nR f n).length=n:=ql
@[simp] theorem ajG:(cR a cl n).length=n:=ql
@[simp] theorem ajl {hi:i<(nR f n).length}:(nR f n)[i]=[iv (f i)]:=lI
@[simp] theorem ai5 {hi:i<(cR a cl n).length}:(cR a cl n)[i]=[fL (a i) (cl i)]:=lI
theorem DA {x:Nat}:(nR f n).set i [iv x]=nR (upd f i x) n:=by
 unfold nR
 rw[d9]
 exact wZ fun j _=>by unfold upd; split<;>rfl
theorem Em {x:Nat→Rat} {l:Nat}:(cR a cl n).set i [fL x l]=cR (upd a i x) (upd cl i l) n:=by
 unfold cR
 rw[d9]
 exact wZ fun j _=>by unfold upd; split<;>rfl
theorem P0 {a':Nat→Nat→Rat} {cl':Nat→Nat} (h:∀ i,i<n→cl i=cl' i∧∀ j,j<cl i→a i j=a' i j):cR a cl n=cR a' cl' n :=
 wZ fun i hi=>by
  obtain ⟨h1,h2⟩:=h i hi
  rw[← h1,show fL (a i) (cl i)=fL (a' i) (cl i) from congrArg _ (xl h2)]
@[simp] theorem akb:((nR f n).map fun r=>r.map (frz k e))=nR f n:=tK fun _=>rfl
@[simp] theorem ajF:((cR a cl n).map fun r=>r.map (frz k e))=cR a cl n:=tK fun _=>by simp
@[simp] theorem ak0:zR k (nR f n)=nR f n:=tK fun _=>by simp
@[simp] theorem akv:zR k (cR a cl n)=cR a cl n:=tK fun _=>by simp
@[simp] theorem akd:yL k (nR f n)=false:=d8 fun _=>by simp
@[simp] theorem ajH:yL k (cR a cl n)=false:=d8 fun _=>by simp
@[simp] theorem ak1:yF (nR f n)=true:=d7 fun _=>by simp
@[simp] theorem akw:yF (cR a cl n)=true:=d7 fun _=>by simp
@[simp] theorem ak2:zQ (nR f n)=nR f n:=tK fun _=>by simp
@[simp] theorem akx:zQ (cR a cl n)=cR a cl n:=tK fun _=>by simp
end
def rest (ρ:List (Nat × ze)):Prop:=∀ p∈ρ,(p.1<1000∨(3000≤p.1∧p.1<4000))∧ZT 1000 p.2=true
def far (k:Nat):Bool:=decide ((1000≤k∧k<3000)∨4000≤k)
section
variable {ρ:List (Nat × ze)} {l:List (Nat × ze)} {k:Nat} {e:ze}
theorem RI (h:rest ρ) (hk:far k=true):lk ρ k=none:=by
 have hk:(1000≤k∧k<3000)∨4000≤k:=of_decide_eq_true hk
 cases hl:lk ρ k with
 | none=>rfl
 | some e=>have:=(h _ (TT hl)).1; simp at this; omega
theorem afH {_l':List (Nat × ze)} (h:lk ρ k=none):lk (ρ++l) k=lk l k:=by
 induction ρ with
 | nil=>rfl
 | cons p ρ ih =>
  obtain ⟨m,x⟩:=p
  simp only[lk,List.cons_append] at h ⊢
  split at h
  ·cases h
  ·rename_i hne; rw[if_neg hne]; exact ih h
theorem rlk (h:rest ρ) (hk:far k=true):lk (ρ++l) k=lk l k:=afH (_l':=[]) (RI h hk)
theorem rpt (h:rest ρ) (hk:far k=true):pt (ρ++l) k e=ρ++pt l k e:=by
 have:=RI h hk
 clear h
 induction ρ with
 | nil=>rfl
 | cons p ρ ih =>
  obtain ⟨m,x⟩:=p
  simp only[lk] at this
  split at this
  ·cases this
  ·rename_i hne; simp only[List.cons_append,pt]; rw[if_neg hne,ih this]
theorem acy {D:List Nat}:del D (ρ++l)=del D ρ++del D l:=by
 induction ρ with
 | nil=>rfl
 | cons p ρ ih =>
  obtain ⟨m,x⟩:=p
  simp only[List.cons_append,del]
  split
  ·exact ih
  ·rw[ih]; rfl
theorem aht {D:List Nat} (h:rest ρ) (hD:D.all far=true):del D ρ=ρ:=by
 induction ρ with
 | nil=>rfl
 | cons p ρ ih =>
  obtain ⟨m,x⟩:=p
  simp only[del]
  have h1:=(h (m,x) (by simp)).1
  have:D.elem m=false:=by
   cases hc:D.elem m with
   | false=>rfl
   | true=>have:=List.all_eq_true.1 hD m (by simpa using hc); simp[far] at this h1; omega
  rw[this,ih fun p hp=>h p (by simp[hp])]; rfl
theorem wG {D:List Nat} (h:rest ρ) (hD:D.all far=true):del D (ρ++l)=ρ++del D l:=by rw[acy,aht h hD]
theorem aao (h:rest ρ) (hk:1000≤k):vt k ρ=true:=by
 induction ρ with
 | nil=>rfl
 | cons p ρ ih =>
  obtain ⟨m,x⟩:=p
  have h1:=(h (m,x) (by simp)).2
  simp only[vt,Do hk h1,ih fun p hp=>h p (by simp[hp])]; rfl
theorem GY:vt k (ρ++l)=(vt k ρ&&vt k l):=by
 induction ρ with
 | nil=>rfl
 | cons p ρ ih =>
  obtain ⟨m,x⟩:=p
  simp only[List.cons_append,vt,ih,Bool.and_assoc]
theorem xb (h:rest ρ) (hk:1000≤k):vt k (ρ++l)=vt k l:=by rw[GY,aao h hk]; rfl
theorem aay {e0:ze} (h:rest ρ) (hk:1000≤k):((ρ++l).map fun p=>(p.1,vU k e0 p.2))=ρ++l.map fun p=>(p.1,vU k e0 p.2):=by
 rw[List.map_append]
 congr 1
 exact yP fun p hp=>by rw[Az hk (h p hp).2]
theorem vI {c:List AV}:vU k e (.var c)=.var (c.map (frz k e)):=rfl
theorem nT {n:Nat} {r:List (List AV)}:vU k e (.uarr n r)=.uarr n (r.map fun r=>r.map (frz k e)):=rfl
theorem mL (h:rest ρ) (hk:1000≤k):(ρ.map fun p=>(p.1,dgE k p.2))=ρ:=yP fun p hp=>by rw[ac5 hk (h p hp).2]
end
theorem eno {k:Nat} {f:List (Nat × AV)} (h:yH 2000 f) (hk:2000≤k):uX k f=true:=j4 hk h
theorem ono {k:Nat} {f:List (List (Nat × AV))} (h:ym 2000 f) (hk:2000≤k):mH k f=true:=TX hk h
theorem aiA {k:Nat} {e:ze} {f:List (Nat × AV)} (h:yH 2000 f) (hk:2000≤k):(f.map fun p=>(p.1,frz k e p.2))=f:=Ut hk h
theorem AQ {k:Nat} {e:ze} {f:List (List (Nat × AV))} (h:ym 2000 f) (hk:2000≤k):(f.map fun f=>f.map fun p=>(p.1,frz k e p.2))=f:=AB hk h
theorem edg {k:Nat} {f:List (Nat × AV)} (h:yH 2000 f) (hk:2000≤k):(f.map fun p=>(p.1,dg k p.2))=f:=Ru hk h
theorem odg {k:Nat} {f:List (List (Nat × AV))} (h:ym 2000 f) (hk:2000≤k):(f.map fun f=>f.map fun p=>(p.1,dg k p.2))=f:=Jm hk h
noncomputable abbrev tC (n m:Nat) (d:zq):List AV:=[iv n,iv m,.us 1961 1 0 m,.us 1972 3 0 m,fL d.cst d.c,f0 d.v,f1 d.v,f2 d.v,.us 1987 1 0 m,.us 2029 1 0 d.c]
noncomputable def tL (n m:Nat) (d:zq):List (Nat × ze) :=
 [(1015,.var (tC n m d)),(1961,.uarr 1 (cR d.a (fun _=>d.c) m)),(1972,.uarr 3 (fR d.b m)),(1987,.uarr 1 (nR d.bas m)),(2029,.uarr 1 (nR d.fre d.c))]
@[simp] theorem ahb {q:Rat} {a b c d e g h:AV}:zB [a,b,c,d,e,f0 q,f1 q,f2 q,g,h] 5 (some 3)=some (fq q):=by
 simp[zB]
def yN (d:zq):Nat→Int
 | 0=>-1
 | k+1=>if 0<d.cst k∧(yN d k<0∨d.fre k<d.fre (yN d k).toNat) then k else yN d k
theorem lm (d:zq):∀ k,-1≤yN d k∧yN d k<k
 | 0=>by simp[yN]
 | k+1=>by have:=lm d k; simp only[yN]; split<;>omega
noncomputable def Yk (n m:Nat) (d:zq) (ρ:List (Nat × ze)) (out:List (List (Nat × AV))) (k:Nat):St :=
 {env:=[(0,.ptr 1015 0),(3,iv (yN d k)),(9,.us 2029 1 0 d.c),(10,iv d.c),(11,iv k)],sto:=ρ++tL n m d,out:=out,base:=5000}
theorem Qu {n m:Nat} {d:zq} {ρ:List (Nat × ze)} {s:St} {K:AV→St→Prop} (hs:s.sto=ρ++tL n m d) (hρ:rest ρ) (hc:d.c<1000000) (h:K (iv (yN d d.c)) s) :
  z0 Tryz.prog qz [.ptr 1015 0] s K:=by
 obtain ⟨env,σ,out,base⟩:=s
 simp only at hs
 subst hs
 refine vb 5000 R5 (by simp) ?_
 simp[dI,tL,rlk hρ,far]
 refine zr (Yk n m d ρ (env::out)) (fun _=>True) d.c (by simp[Yk,tL,yN]) trivial (fun k hk _=>?_) (fun _=>?_)
 ·have e:(k:Int)<d.c:=by omega
  have w:=zn (k:=k) (by omega)
  have g3:=qt (q:=d.cst k)
  obtain ⟨b1,b2⟩:=lm d k
  simp[pm,Yk,tL,e,hk,rlk hρ,far]
  refine za g3 (by simp) (by simp) ?_
  by_cases h0:0<d.cst k
  ·have h0':0<xX (d.cst k):=fF.2 h0
   by_cases h1:yN d k<0
   ·have ev:yN d (k+1)=k:=by simp only[yN]; rw[if_pos ⟨h0,.inl h1⟩]
    simp[h0',h1,w,Yk,ev,tL]
   ·have b3:(yN d k).toNat<d.c:=by omega
    have b4:(0:Int)≤yN d k:=by omega
    have b5:yN d k<d.c:=by omega
    by_cases h2:d.fre k<d.fre (yN d k).toNat
    ·have ev:yN d (k+1)=k:=by simp only[yN]; rw[if_pos ⟨h0,.inr h2⟩]
     simp[h0',h1,h2,b3,b4,b5,w,Yk,ev,tL,rlk hρ,far]
    ·have ev:yN d (k+1)=yN d k:=by simp only[yN]; rw[if_neg fun h=>h.2.elim h1 h2]
     simp[h0',h1,h2,b3,b4,b5,w,Yk,ev,tL,rlk hρ,far]
  ·have h0':¬ 0<xX (d.cst k):=fun h=>h0 (fF.1 h)
   have ev:yN d (k+1)=yN d k:=by simp only[yN]; rw[if_neg fun h=>h0 h.1]
   simp[h0',w,Yk,ev,tL]
 ·simp[pm,jK,cd,Yk]
  exact h
def rat (d:zq) (q i:Nat):Rat:=d.b i/d.a i q
def yb (d:zq) (q:Nat):Nat→Int
 | 0=>-1
 | k+1=>if 0<d.a k q∧(yb d q k<0∨rat d q k<rat d q (yb d q k).toNat∨(rat d q k=rat d q (yb d q k).toNat∧d.bas k≤d.bas (yb d q k).toNat)) then k else yb d q k
theorem lF (d:zq) (q:Nat):∀ k,-1≤yb d q k∧yb d q k<k
 | 0=>by simp[yb]
 | k+1=>by have:=lF d q k; simp only[yb]; split<;>omega
noncomputable def lst (d:zq) (q k:Nat):List AV:=if yb d q k<0 then zz else fr (rat d q (yb d q k).toNat)
@[simp] theorem ajk {d:zq} {q k j:Nat}:xo j (lst d q k)=false:=by unfold lst; split<;>simp
noncomputable def dB (n m:Nat) (d:zq) (q:Nat) (ρ:List (Nat × ze)) (out:List (List (Nat × AV))) (k:Nat):St :=
 {env:=[(0,.ptr 1015 0),(1,iv q),(5,iv (yb d q k)),(6,.ptr 5006 0),(15,.us 1961 1 0 m),(16,iv m),(17,iv k)],sto:=ρ++(tL n m d++[(5006,.var (lst d q k))]),out:=out,base:=5000}
theorem C6 {K L:Nat} {a b:Rat} (ha:sz K a) (hb:sz L b):sz (K+L) (a/b):=by
 rw[show a/b=a*(1/b) by grind]
 exact yj ha (Lo hb)
theorem N3 {n m q L:Nat} {d:zq} {ρ:List (Nat × ze)} {s:St} {K:AV→St→Prop} (hs:s.sto=ρ++tL n m d) (hρ:rest ρ) (hE:yH 2000 s.env) (hO:ym 2000 s.out) (hm:m<1000000) (hq:q<d.c)
  (hL:L≤30000000000) (ha:∀ i,i<m→sz L (d.a i q)) (hb:∀ i,i<m→sz L (d.b i)) (h:K (iv (yb d q m)) s) :
  z0 Tryz.prog pN [.ptr 1015 0,iv q] s K:=by
 obtain ⟨env,σ,out,base⟩:=s
 simp only at hs hE hO
 subst hs
 refine vb 5000 Pg (by simp) ?_
 simp[aK,tL,rlk hρ,rpt hρ,far]
 refine zr (dB n m d q ρ (env::out)) (fun _=>True) m (by simp[dB,tL,yb,lst]) trivial (fun k hk _=>?_) (fun _=>?_)
 ·have e:(k:Int)<m:=by omega
  have eq:(q:Int)<d.c:=by omega
  have w:=zn (k:=k) (by omega)
  obtain ⟨r1,hr1⟩:∃ r,r=rat d q k:=⟨_,rfl⟩
  obtain ⟨r2,hr2⟩:∃ r,r=rat d q (yb d q k).toNat:=⟨_,rfl⟩
  have g1:=qt (q:=d.a k q)
  have g2:d.a k q≠0→zd Tryz.prog ga [fq (d.b k),fq (d.a k q)] (.tuple [fq r1,iv 0]):=fun h=>by rw[hr1]; exact abF (by omega) (hb k hk) (ha k hk) h
  obtain ⟨b1,b2⟩:=lF d q k
  have z1:sz (L+L) r1:=by rw[hr1]; exact C6 (hb k hk) (ha k hk)
  have z2:0≤yb d q k→sz (L+L) r2:=fun h=>by rw[hr2]; exact C6 (hb _ (by omega)) (ha _ (by omega))
  simp[nj,dB,tL,e,hk,rlk hρ,far,eq,hq]
  refine za g1 (by simp) (by simp) ?_
  by_cases h0:0<d.a k q
  ·have h0':¬ xX (d.a k q)≤0:=by have:=fF.2 h0; omega
   have h00:d.a k q≠0:=by grind
   simp[h0',rlk hρ,far,e,eq,hk,hq]
   refine za (g2 h00) (by simp) (by simp) ?_
   by_cases h1:yb d q k<0
   ·have ev:yb d q (k+1)=k:=by simp only[yb]; rw[if_pos ⟨h0,.inl h1⟩]
    have ev1:lst d q k=zz:=by unfold lst; rw[if_pos h1]
    have ev2:lst d q (k+1)=fr r1:=by unfold lst; rw[ev,if_neg (by omega),hr1]; rfl
    have h1':¬ 0≤yb d q k:=by omega
    simp[h1',rlk hρ,rpt hρ,wG hρ,xb hρ,eno hE,ono hO,far,dB,tL,ev,ev1,ev2,w]
   ·have h1':0≤yb d q k:=by omega
    have b3:(yb d q k).toNat<m:=by omega
    have b5:yb d q k<m:=by omega
    have ev1:lst d q k=fr r2:=by unfold lst; rw[if_neg h1,hr2]
    have g3:=cZ (by omega) z1 (z2 h1')
    simp[h1',rlk hρ,rpt hρ,far,ev1]
    refine za g3 (by simp) (by simp) ?_
    by_cases c1:r1<r2
    ·have ev:yb d q (k+1)=k:=by simp only[yb]; rw[if_pos ⟨h0,.inr (.inl (by rw[← hr1,← hr2]; exact c1))⟩]
     have ev2:lst d q (k+1)=fr r1:=by unfold lst; rw[ev,if_neg (by omega),hr1]; rfl
     have k1:¬ 0<wX r1 r2:=by have:=dS.2 c1; omega
     have k2:¬ wX r1 r2=0:=by have:=dS.2 c1; omega
     simp[k1,k2,rlk hρ,rpt hρ,wG hρ,xb hρ,eno hE,ono hO,far,dB,tL,ev,ev2,w]
    ·by_cases c2:r1=r2
     ·have k2:wX r1 r2=0:=lh.2 c2
      have k1:¬ 0<wX r1 r2:=by omega
      by_cases c3:d.bas k≤d.bas (yb d q k).toNat
      ·have ev:yb d q (k+1)=k:=by simp only[yb]; rw[if_pos ⟨h0,.inr (.inr ⟨by rw[← hr1,← hr2]; exact c2,c3⟩)⟩]
       have ev2:lst d q (k+1)=fr r1:=by unfold lst; rw[ev,if_neg (by omega),hr1]; rfl
       have c3':¬ d.bas (yb d q k).toNat<d.bas k:=by omega
       simp[k2,c3',hk,e,b3,b5,h1',rlk hρ,rpt hρ,wG hρ,xb hρ,eno hE,ono hO,far,dB,tL,ev,ev2,w]
      ·have ev:yb d q (k+1)=yb d q k:=by simp only[yb]; rw[if_neg]; rw[← hr1,← hr2]; simp[h1,c1,c3]
       have ev2:lst d q (k+1)=fr r2:=by unfold lst; rw[ev,if_neg (by omega),hr2]
       have c3':d.bas (yb d q k).toNat<d.bas k:=by omega
       simp[k2,c3',hk,e,b3,b5,h1',rlk hρ,wG hρ,xb hρ,eno hE,ono hO,far,dB,tL,ev,ev2,w]
     ·have ev:yb d q (k+1)=yb d q k:=by simp only[yb]; rw[if_neg]; rw[← hr1,← hr2]; simp[h1,c1,c2]
      have ev2:lst d q (k+1)=fr r2:=by unfold lst; rw[ev,if_neg (by omega),hr2]
      have k1:0<wX r1 r2:=KZ.2 (by grind)
      simp[k1,rlk hρ,wG hρ,xb hρ,eno hE,ono hO,far,dB,tL,ev,ev2,w]
  ·have h0':xX (d.a k q)≤0:=Int.not_lt.1 fun h=>h0 (fF.1 h)
   have ev:yb d q (k+1)=yb d q k:=by simp only[yb]; rw[if_neg fun h=>h0 h.1]
   have ev2:lst d q (k+1)=lst d q k:=by unfold lst; rw[ev]
   simp[h0',w,dB,ev,ev2,tL,rlk hρ,wG hρ,xb hρ,eno hE,ono hO,far]
 ·simp[nj,gD,aY,dB,tL,wG hρ,far,xb hρ,eno hE,ono hO]
  exact h
def fu (d:zq) (p q:Nat):Nat→Rat:=upd (fun j=>d.a p j*(1/d.a p q)) q (1/d.a p q)
def pkD (d:zq) (p q k:Nat):zq :=
 {d with a:=fun i=>if i<k∧i≠p then elm (d.a i) (d.a i q) q (fu d p q) else d.a i,b:=fun i=>if i<k∧i≠p then d.b i-d.a i q*(d.b p*(1/d.a p q)) else d.b i}
theorem aaf {d:zq} {p q:Nat}:pkD d p q 0=d:=by simp[pkD]
theorem aae {d:zq} {p q:Nat}:pkD d p q (p+1)=pkD d p q p:=by
 simp only[pkD,zq.mk.injEq,true_and,and_true]
 constructor
 ·funext i; by_cases h:i<p
  ·rw[if_pos ⟨by omega,by omega⟩,if_pos ⟨h,by omega⟩]
  ·rw[if_neg (by omega),if_neg (by omega)]
 ·funext i; by_cases h:i<p
  ·rw[if_pos ⟨by omega,by omega⟩,if_pos ⟨h,by omega⟩]
  ·rw[if_neg (by omega),if_neg (by omega)]
theorem adE {d:zq} {p q i:Nat} (hi:i<d.r):(pivot d p q).a i=(upd (pkD d p q d.r).a p (fu d p q)) i:=by
 funext j
 simp only[pivot,upd,pkD]
 by_cases h:i=p
 ·subst h; simp only[if_true,fu,upd]
 ·simp only[h,hi,if_false,if_true,ne_eq,not_false_eq_true,and_self,elm,fu,upd]
  split<;>grind
theorem adF {d:zq} {p q i:Nat} (hi:i<d.r):(pivot d p q).b i=(upd (pkD d p q d.r).b p (d.b p*(1/d.a p q))) i:=by
 simp only[pivot,upd,pkD]
 by_cases h:i=p
 ·subst h; simp only[if_true]
 ·simp only[h,hi,if_false,if_true,ne_eq,not_false_eq_true,and_self]
section
variable {d:zq} {p q k:Nat}
@[simp] theorem ak9:(pkD d p q k).c=d.c:=rfl
@[simp] theorem ala:(pkD d p q k).r=d.r:=rfl
@[simp] theorem ajv:(pkD d p q k).cst=d.cst:=rfl
@[simp] theorem alb:(pkD d p q k).v=d.v:=rfl
@[simp] theorem aju:(pkD d p q k).bas=d.bas:=rfl
@[simp] theorem ajw:(pkD d p q k).fre=d.fre:=rfl
theorem D4:(pivot d p q).cst=elm d.cst (d.cst q) q (fu d p q):=by
 funext j
 simp only[pivot,elm,fu,upd]
 split<;>grind
end
noncomputable def La (n m:Nat) (d:zq) (p q:Nat) (v:Rat) (f:Nat→Rat) (ρ:List (Nat × ze)) (out:List (List (Nat × AV))) (k:Nat):St :=
 {env:=[(0,.ptr 1015 0),(1,iv p),(2,iv q),(6,.ptr 5006 0),(8,.sl 5034 3 0 d.c),(41,fL (d.a p) d.c),(42,iv d.c),(43,iv k)],
  sto:=ρ++(tL n m d++[(5006,.var (fr v)),(5034,.arr 3 (fZ f k d.c))]),out:=out,base:=5000}
noncomputable def RT (n m:Nat) (d:zq) (p q:Nat) (v:Rat) (f:Nat→Rat) (ρ:List (Nat × ze)) (out:List (List (Nat × AV))) (k:Nat):St :=
 {env:=[(0,.ptr 1015 0),(1,iv p),(2,iv q),(8,fL f d.c),(11,.ptr 5011 0),(72,iv m),(73,iv k)],
  sto:=ρ++(tL n m (pkD d p q k)++[(5011,.var (fr v))]),out:=out,base:=5000}
theorem Mw {n m p q L:Nat} {d:zq} {ρ:List (Nat × ze)} {s:St} {K:AV→St→Prop} (hs:s.sto=ρ++tL n m d) (hρ:rest ρ) (hE:yH 2000 s.env) (hO:ym 2000 s.out) (hm:m<1000000) (hc:d.c<1000000) (hr:d.r=m) (hp:p<m) (hq:q<d.c)
  (hL:L≤10000000000) (hsz:szD L d) (ha0:d.a p q≠0) (h:K (.tuple []) ⟨s.env,ρ++tL n m (pivot d p q),s.out,s.base⟩) :
  z0 Tryz.prog tg [.ptr 1015 0,iv p,iv q] s K:=by
 obtain ⟨env,σ,out,base⟩:=s
 simp only at hs hE hO h
 subst hs
 have ep:(p:Int)<m:=by omega
 have eq:(q:Int)<d.c:=by omega
 have sa:∀ i j,i<m→j<d.c→sz L (d.a i j):=fun i j h1 h2=>hsz.a i j (by omega) h2
 have sb:∀ i,i<m→sz L (d.b i):=fun i h1=>hsz.b i (by omega)
 obtain ⟨inv,hinv⟩:∃ x,1/d.a p q=x:=⟨_,rfl⟩
 have sinv:sz L inv:=by rw[← hinv]; exact Lo (sa p q hp hq)
 have one:sz L 1:=by
  have:1≤2^L:=Nat.one_le_two_pow
  exact ⟨this,this⟩
 have g1:zd Tryz.prog zE [iv 1] (fq 1):=yf (n:=1) (by decide) (by decide)
 have g2:=abF (by omega) one (sa p q hp hq) ha0
 rw[hinv] at g2
 have g3:=mG (by omega) (sb p hp) sinv
 obtain ⟨bnd,hbnd⟩:∃ x,d.b p*inv=x:=⟨_,rfl⟩
 have sbnd:sz (L+L) bnd:=by rw[← hbnd]; exact yj (sb p hp) sinv
 rw[hbnd] at g3
 refine vb 5000 Kx (by simp) ?_
 simp[Xr,tL,rlk hρ,far]
 refine za g1 (by simp) (by simp) ?_
 simp[rlk hρ,far,ep,eq,hp,hq]
 refine za g2 (by simp) (by simp) ?_
 simp[rlk hρ,rpt hρ,far,ep,hp,eMk]
 refine ⟨by omega,by omega,?_⟩
 rw[gn (f:=fun j=>d.a p j*inv)]
 refine zr (La n m d p q inv (fun j=>d.a p j*inv) ρ (env::out)) (fun _=>True) d.c (by simp[La,tL]) trivial (fun k hk _=>?_) (fun _=>?_)
 ·have e:(k:Int)<d.c:=by omega
  have w:=zn (k:=k) (by omega)
  have f1:=mG (by omega) (sa p k hp hk) sinv
  have hset:=dV (f:=fun j=>d.a p j*inv) hk
  simp[la,La,tL,e,hk,tL,rlk hρ,rpt hρ,far]
  refine za f1 (by simp) (by simp) ?_
  simp[hk,w,hset,La,tL,rlk hρ,rpt hρ,wG hρ,xb hρ,eno hE,ono hO,far]
 ·have hprow:upd (fun j=>d.a p j*inv) q inv=fu d p q:=by unfold fu; rw[hinv]
  have hset:(fR (fun j=>d.a p j*inv) d.c).set q (fr inv)=fR (fu d p q) d.c:=by rw[pJ,hprow]
  have spr:∀ j,j<d.c→sz (L+L) (fu d p q j):=fun j hj=>by
   rw[← hprow]; unfold upd; split
   ·exact zG sinv (by omega)
   ·exact yj (sa p j hp hj) sinv
  generalize hpr:fu d p q=pr at *
  simp[la,La,tL,rlk hρ,rpt hρ,wG hρ,xb hρ,eno hE,ono hO,aay hρ,aiA hE,AQ hO,far,gm,dL,hq,eq,ep,hp,hset,xf,vI,nT,t0,jf]
  refine za g3 (by simp) (by simp) ?_
  simp[rlk hρ,rpt hρ,wG hρ,xb hρ,eno hE,ono hO,far]
  refine zr (RT n m d p q bnd pr ρ (env::out)) (fun _=>True) m (by simp[RT,tL,aaf]) trivial (fun k hk _=>?_) (fun _=>?_)
  ·have e:(k:Int)<m:=by omega
   have w:=zn (k:=k) (by omega)
   have pa:(pkD d p q k).a k=d.a k:=by simp[pkD]
   have pb:(pkD d p q k).b k=d.b k:=by simp[pkD]
   have pc:(pkD d p q k).c=d.c:=rfl
   by_cases hkp:k=p
   ·subst hkp
    simp[qJ,RT,tL,e,w,aae]
   ·have ek:¬ (k:Int)=p:=by omega
    have f1:=eH (K:=L+L) (pb:=bnd) hc hq (by omega) (fun j hj=>zG (sa k j hk hj) (by omega)) spr (zG (sb k hk) (by omega)) sbnd
    simp[qJ,RT,tL,rlk hρ,far,e,hk,ek,pa,pb]
    refine za f1 (by simp) (by simp) ?_
    have hs1:(cR (pkD d p q k).a (fun _=>d.c) m).set k [fL (elm (d.a k) (d.a k q) q pr) d.c]=cR (pkD d p q (k+1)).a (fun _=>d.c) m:=by
     rw[Em]
     refine P0 fun i hi=>⟨by unfold upd; split<;>rfl,fun j hj=>?_⟩
     by_cases hik:i=k
     ·subst hik
      simp only[upd,if_true,pkD]
      rw[if_pos ⟨by omega,hkp⟩,hpr]
     ·have:(i<k+1)=(i<k):=by simp only[eq_iff_iff]; omega
      simp only[upd,if_neg hik,pkD,this]
    have hs2:(fR (pkD d p q k).b m).set k (fr (d.b k-d.a k q*bnd))=fR (pkD d p q (k+1)).b m:=by
     rw[pJ]
     refine xl fun i hi=>?_
     by_cases hik:i=k
     ·subst hik
      simp only[upd,if_true,pkD]
      rw[if_pos ⟨by omega,hkp⟩,hinv,hbnd]
     ·have:(i<k+1)=(i<k):=by simp only[eq_iff_iff]; omega
      simp only[upd,if_neg hik,pkD,this]
    simp[tL,rlk hρ,rpt hρ,far,hs1,hs2,hk,e,w,RT]
  ·have f1:=eH (K:=L+L) (pb:=bnd) hc hq (by omega) (fun j hj=>zG (hsz.cst j hj) (by omega)) spr (zG hsz.v (by omega)) sbnd
   have f2:=mG (K:=L+L) (by omega) (zG (hsz.cst q hq) (by omega)) sbnd
   have f3:=cF (K:=L+(L+L)) (by omega) (zG hsz.v (by omega)) (yj (hsz.cst q hq) sbnd)
   have e1:(cR (pkD d p q m).a (fun _=>d.c) m).set p [fL pr d.c]=cR (pivot d p q).a (fun _=>d.c) m:=by
    rw[Em]
    refine P0 fun i hi=>⟨by unfold upd; split<;>rfl,fun j hj=>?_⟩
    rw[adE (by omega),hpr,hr]
   have e2:(fR (pkD d p q m).b m).set p (fr bnd)=fR (pivot d p q).b m:=by
    rw[pJ]
    refine xl fun i hi=>?_
    rw[adF (by omega),hinv,hbnd,hr]
   have e3:(nR d.bas m).set p [iv (d.fre q)]=nR (pivot d p q).bas m:=DA
   have e4:(nR d.fre d.c).set q [iv (d.bas p)]=nR (pivot d p q).fre d.c:=DA
   have e5:elm d.cst (d.cst q) q pr=(pivot d p q).cst:=by rw[D4,hpr]
   have e6:d.v+d.cst q*bnd=(pivot d p q).v:=by simp only[pivot]; rw[hinv,hbnd]
   have e7:(pivot d p q).c=d.c:=rfl
   rw[e5] at f1
   rw[e6] at f3
   generalize pivot d p q=d' at *
   simp[qJ,RT,tL,rlk hρ,rpt hρ,far,dK,hq,eq]
   refine za f1 (by simp) (by simp) ?_
   simp[rlk hρ,rpt hρ,far]
   refine za f2 (by simp) (by simp) ?_
   simp
   refine za f3 (by simp) (by simp) ?_
   simp[rlk hρ,rpt hρ,wG hρ,xb hρ,eno hE,ono hO,far,XP,hp,hq,ep,eq,e1,e2,e3,e4]
   simp only[tL,tC,e7] at h
   exact h
theorem Ud {d:zq}:∀ k,yN d k<0→∀ j,j<k→d.cst j≤0
 | 0,_,j,hj=>by omega
 | k+1,h,j,hj=>by
  simp only[yN] at h
  split at h
  ·omega
  ·rename_i hn
   by_cases e:j=k
   ·subst e
    have:¬ 0<d.cst j:=fun h0=>hn ⟨h0,.inl h⟩
    grind
   ·exact Ud k h j (by omega)
theorem bg {d:zq}:∀ k,0≤yN d k→0<d.cst (yN d k).toNat∧∀ j,j<k→0<d.cst j→d.fre (yN d k).toNat≤d.fre j
 | 0,h=>by simp[yN] at h
 | k+1,h=>by
  have b:=lm d k
  simp only[yN] at h ⊢
  split
  ·rename_i hc
   refine ⟨by simpa using hc.1,fun j hj h0=>?_⟩
   by_cases e:j=k
   ·subst e; simp
   ·by_cases h1:yN d k<0
    ·have:=Ud k h1 j (by omega); grind
    ·have h2:=hc.2.resolve_left h1
     have:=(bg k (by omega)).2 j (by omega) h0
     simp; omega
  ·rename_i hc
   rw[if_neg hc] at h
   obtain ⟨h1,h2⟩:=bg k h
   refine ⟨h1,fun j hj h0=>?_⟩
   by_cases e:j=k
   ·subst e
    have:¬ d.fre j<d.fre (yN d j).toNat:=fun h=>hc ⟨h0,.inr h⟩
    omega
   ·exact h2 j (by omega) h0
theorem Uq {d:zq} {q:Nat}:∀ k,yb d q k<0→∀ i,i<k→d.a i q≤0
 | 0,_,j,hj=>by omega
 | k+1,h,j,hj=>by
  simp only[yb] at h
  split at h
  ·omega
  ·rename_i hn
   by_cases e:j=k
   ·subst e
    have:¬ 0<d.a j q:=fun h0=>hn ⟨h0,.inl h⟩
    grind
   ·exact Uq k h j (by omega)
theorem Ur {d:zq} {q:Nat}:∀ k,0≤yb d q k→0<d.a (yb d q k).toNat q∧∀ i,i<k→0<d.a i q→rat d q (yb d q k).toNat≤rat d q i∧(rat d q (yb d q k).toNat=rat d q i→d.bas (yb d q k).toNat≤d.bas i)
 | 0,h=>by simp[yb] at h
 | k+1,h=>by
  have b:=lF d q k
  simp only[yb] at h ⊢
  split
  ·rename_i hc
   simp only[Int.toNat_natCast]
   refine ⟨hc.1,fun i hi h0=>?_⟩
   by_cases e:i=k
   ·subst e; exact ⟨by grind,fun _=>Nat.le_refl _⟩
   ·by_cases h1:yb d q k<0
    ·have:=Uq k h1 i (by omega); grind
    ·obtain ⟨g1,g2⟩:=(Ur k (by omega)).2 i (by omega) h0
     rcases hc.2 with h2 | h2 | h2
     ·omega
     ·exact ⟨by grind,fun h=>by grind⟩
     ·refine ⟨by grind,fun h=>Nat.le_trans h2.2 (g2 (by grind))⟩
  ·rename_i hc
   rw[if_neg hc] at h
   obtain ⟨h1,h2⟩:=Ur k h
   refine ⟨h1,fun i hi h0=>?_⟩
   by_cases e:i=k
   ·subst e
    have h3:¬ rat d q i<rat d q (yb d q i).toNat:=fun h=>hc ⟨h0,.inr (.inl h)⟩
    refine ⟨by grind,fun h=>?_⟩
    have h4:¬ d.bas i≤d.bas (yb d q i).toNat:=fun h5=>hc ⟨h0,.inr (.inr ⟨h.symm,h5⟩)⟩
    omega
   ·exact h2 i (by omega) h0
theorem Ca {b1 a1 b2 a2:Rat} (h1:0<a1) (h2:0<a2):(b1/a1≤b2/a2↔b1*a2≤b2*a1)∧(b1/a1=b2/a2↔b1*a2=b2*a1):=by
 have e1:b1=b1/a1*a1:=by grind
 have e2:b2=b2/a2*a2:=by grind
 generalize b1/a1=x at *
 generalize b2/a2=y at *
 have hp:0<a1*a2:=Rat.mul_pos h1 h2
 have k1:b2*a1-b1*a2=(y-x)*(a1*a2):=by rw[e1,e2]; grind
 clear e1 e2
 constructor
 ·constructor
  ·intro h
   have:=Rat.mul_nonneg (show 0≤y-x by grind) (show 0≤a1*a2 by grind)
   rw[← k1] at this; grind
  ·intro h
   rcases lt_or_le y x with h3 | h3
   ·have:=Rat.mul_pos (show 0<x-y by grind) hp
    have e:(x-y)*(a1*a2)=-((y-x)*(a1*a2)):=by grind
    rw[e,← k1] at this; grind
   ·exact h3
 ·constructor
  ·intro h
   have:(y-x)*(a1*a2)=0:=by rw[h]; grind
   rw[← k1] at this; grind
  ·intro h
   have h5:(y-x)*(a1*a2)=0:=by rw[← k1]; grind
   rcases Rat.mul_eq_zero.1 h5 with h | h
   ·grind
   ·rw[h] at hp; exact absurd hp (by grind)
def qq' (d:zq):Nat:=(yN d d.c).toNat
def pp' (d:zq):Nat:=(yb d (qq' d) d.r).toNat
def Rn (d:zq):Prop:=0≤yN d d.c∧0≤yb d (qq' d) d.r
theorem bu {d:zq} (h:Rn d):jT d (pp' d) (qq' d):=by
 have b1:=lm d d.c
 have b2:=lF d (qq' d) d.r
 obtain ⟨h1,h2⟩:=h
 obtain ⟨g1,g2⟩:=bg d.c h1
 obtain ⟨g3,g4⟩:=Ur d.r h2
 refine ⟨by unfold pp'; omega,by unfold qq'; omega,g1,g2,g3,fun i hi h0=>?_⟩
 obtain ⟨g5,g6⟩:=g4 i hi h0
 obtain ⟨c1,c2⟩:=Ca (b1:=d.b (pp' d)) (b2:=d.b i) g3 h0
 exact ⟨c1.1 g5,fun h=>g6 (c2.2 h)⟩
def ahh (d:zq):zq:=pivot d (pp' d) (qq' d)
def yA (d:zq):Nat→zq
 | 0=>d
 | k+1=>ahh (yA d k)
theorem aaG {d:zq} {N:Nat} (hb:Bij d N) (hf:feas d):∃ K,(∀ k,k<K→Rn (yA d k))∧¬ Rn (yA d K):=by
 apply Classical.byContradiction
 intro hno
 have all:∀ k,∀ j,j<k→Rn (yA d j):=by
  intro k
  induction k with
  | zero=>intro j hj; omega
  | succ k ih =>
   intro j hj
   by_cases e:j=k
   ·subst e
    exact Classical.byContradiction fun h=>hno ⟨j,ih,h⟩
   ·exact ih j (by omega)
 have r:Run (yA d) (fun k=>pp' (yA d k)) (fun k=>qq' (yA d k)) (2^N) N:=⟨hb,hf,fun k hk=>⟨bu (all _ k hk),rfl⟩⟩
 have:=r.le
 omega
theorem aaH {d:zq} {N K:Nat} (hb:Bij d N) (hf:feas d) (h:∀ k,k<K→Rn (yA d k)):∀ k,k≤K→Same (yA d k) d N∧feas (yA d k)∧(yA d k).r=d.r∧(yA d k).c=d.c:=by
 intro k
 induction k with
 | zero=>intro _; exact ⟨Same.refl hb,hf,rfl,rfl⟩
 | succ k ih =>
  intro hk
  obtain ⟨h1,h2,h3,h4⟩:=ih (by omega)
  have hB:=bu (h k (by omega))
  have ha:(yA d k).a (pp' (yA d k)) (qq' (yA d k))≠0:=by have:=hB.2.2.2.2.1; grind
  exact ⟨(Same.pivot h1.bd hB.1 hB.2.1 ha).trans h1,hB.feas h2,h3,h4⟩
structure Fin (d e:zq) (N:Nat) (x:AV):Prop where
 same:Same e d N
 feas:feas e
 r:e.r=d.r
 c:e.c=d.c
 out:(x=.tuple [iv 0,bv true]∧∀ j,j<e.c→e.cst j≤0)∨∃ q:Nat,x=.tuple [iv q,bv false]∧q<e.c∧0<e.cst q∧∀ i,i<e.r→e.a i q≤0
noncomputable def stOp (n m:Nat) (d:zq) (ρ:List (Nat × ze)) (out:List (List (Nat × AV))) (k:Nat):St :=
 {env:=[(0,.ptr 1015 0)],sto:=ρ++tL n m (yA d k),out:=out,base:=4500}
theorem XM:yJ Tryz.prog qz=true:=by kernel_rfl
theorem T7:yJ Tryz.prog pN=true:=by kernel_rfl
theorem bR:yJ Tryz.prog tg=true:=by kernel_rfl
def dv (e:zq):AV:=if yN e e.c<0 then .tuple [iv 0,bv true] else .tuple [iv (qq' e),bv false]
theorem afp {d e:zq} {N:Nat} (h1:Same e d N) (h2:LP.feas e) (h3:e.r=d.r) (h4:e.c=d.c) (hJe:¬ Rn e):Fin d e N (dv e):=by
 have b1:=lm e e.c
 have b2:=lF e (qq' e) e.r
 refine ⟨h1,h2,h3,h4,?_⟩
 unfold dv
 by_cases g1:yN e e.c<0
 ·rw[if_pos g1]; exact .inl ⟨rfl,Ud _ g1⟩
 ·rw[if_neg g1]
  have g2:yb e (qq' e) e.r<0:=by
   rcases Int.lt_or_le (yb e (qq' e) e.r) 0 with h | h
   ·exact h
   ·exact absurd ⟨by omega,h⟩ hJe
  exact .inr ⟨qq' e,rfl,by unfold qq'; omega,(bg (d:=e) e.c (by omega)).1,Uq _ g2⟩
theorem QN {N:Nat} {d:zq} (hb:Bij d N) (hf:feas d):∃ e,Fin d e N (dv e)∧∀ {n m L:Nat} {ρ:List (Nat × ze)} {s:St} {K:AV→St→Prop},s.sto=ρ++tL n m d→rest ρ→yH 2000 s.env→ym 2000 s.out→m<1000000→d.c<1000000→d.r=m →
  L≤10000000000→(∀ e,Same e d N→e.r=d.r→e.c=d.c→szD L e)→K (dv e) ⟨s.env,ρ++tL n m e,s.out,s.base⟩ →
  z0 Tryz.prog wl [.ptr 1015 0] s K:=by
 obtain ⟨J,hJ,hJe⟩:=aaG hb hf
 have hrun:=aaH hb hf hJ
 obtain ⟨hf1,hf2,hf3,hf4⟩:=hrun J (by omega)
 refine ⟨yA d J,afp hf1 hf2 hf3 hf4 hJe,?_⟩
 intro n m L ρ s K hs hρ hE hO hm hc hr hL hsz h
 obtain ⟨env,σ,out,base⟩:=s
 simp only at hs hE hO h
 subst hs
 have hO2:ym 2000 (env::out):=jh.2 ⟨hE,hO⟩
 refine vb 4500 R6 (by simp) ?_
 simp[dJ]
 refine Gb (stOp n m d ρ (env::out)) (fun _=>True) J (by simp[stOp,yA]) trivial (fun k hk _=>?_) (fun _=>?_)
 ·obtain ⟨h1,h2,h3,h4⟩:=hrun k (by omega)
  have hg:=hJ k hk
  have hB:=bu hg
  have b1:=lm (yA d k) (yA d k).c
  have b2:=lF (yA d k) (qq' (yA d k)) (yA d k).r
  have hz:=hsz _ h1 h3 h4
  have ea:yN (yA d k) (yA d k).c=(qq' (yA d k):Nat):=by unfold qq'; have:=hg.1; omega
  have eb:yb (yA d k) (qq' (yA d k)) (yA d k).r=(pp' (yA d k):Nat):=by unfold pp'; have:=hg.2; omega
  have e3:yA d (k+1)=pivot (yA d k) (pp' (yA d k)) (qq' (yA d k)):=rfl
  have hrm:(yA d k).r=m:=by omega
  rw[hrm] at eb
  generalize hd2:yA d (k+1)=d2 at *
  generalize hd1:yA d k=d1 at *
  generalize qq' d1=q at *
  generalize pp' d1=p at *
  have hst1:stOp n m d ρ (env::out) k={env:=[(0,.ptr 1015 0)],sto:=ρ++tL n m d1,out:=env::out,base:=4500}:=by unfold stOp; rw[hd1]
  rw[hst1]
  have nq:¬ ((q:Int)<0):=by omega
  have np:¬ ((p:Int)<0):=by omega
  simp[pn,XM]
  refine z9 (Qu (s:=⟨_,ρ++tL n m d1,env::out,4500⟩) (d:=d1) (ρ:=ρ) (n:=n) (m:=m) rfl hρ (by omega) ?_)
  rw[ea]
  simp[T7,nq]
  refine z9 (N3 (s:=⟨_,ρ++tL n m d1,env::out,4500⟩) (d:=d1) (ρ:=ρ) (n:=n) (m:=m) (L:=L) rfl hρ ?_ hO2 hm hB.2.1 (by omega) (fun i hi=>hz.a i q (by omega) hB.2.1) (fun i hi=>hz.b i (by omega)) ?_)
  ·simp[yt,yO,mF,sU,xz]
  rw[eb]
  simp[bR,np]
  refine z9 (Mw (s:=⟨_,ρ++tL n m d1,env::out,4500⟩) (d:=d1) (ρ:=ρ) (n:=n) (m:=m) (L:=L) rfl hρ ?_ hO2 hm (by omega) hrm (by have:=hB.1; omega) hB.2.1 hL hz (by have:=hB.2.2.2.2.1; grind) ?_)
  ·simp[yt,yO,mF,sU,xz]
  rw[← e3]
  simp[stOp]
  exact .inl (by rw[hd2])
 ·obtain ⟨h1,h2,h3,h4⟩:=hrun J (by omega)
  have b1:=lm (yA d J) (yA d J).c
  have b2:=lF (yA d J) (qq' (yA d J)) (yA d J).r
  have hz:=hsz _ h1 h3 h4
  have hrm:(yA d J).r=m:=by omega
  generalize hd1:yA d J=d1 at *
  have hst1:stOp n m d ρ (env::out) J={env:=[(0,.ptr 1015 0)],sto:=ρ++tL n m d1,out:=env::out,base:=4500}:=by unfold stOp; rw[hd1]
  rw[hst1]
  simp[pn,XM]
  refine z9 (Qu (s:=⟨_,ρ++tL n m d1,env::out,4500⟩) (d:=d1) (ρ:=ρ) (n:=n) (m:=m) rfl hρ (by omega) ?_)
  by_cases g1:yN d1 d1.c<0
  ·have hfr:dv d1=.tuple [iv 0,bv true]:=if_pos g1
   rw[hfr] at h
   simp[g1,lN]
   exact h
  ·have hfr:dv d1=.tuple [iv (qq' d1),bv false]:=if_neg g1
   rw[hfr] at h
   have ea:yN d1 d1.c=(qq' d1:Nat):=by unfold qq'; omega
   have g2:yb d1 (qq' d1) d1.r<0:=by
    rcases Int.lt_or_le (yb d1 (qq' d1) d1.r) 0 with h | h
    ·exact h
    ·exact absurd ⟨by omega,h⟩ hJe
   have hq:qq' d1<d1.c:=by unfold qq'; omega
   rw[hrm] at g2
   rw[ea]
   generalize qq' d1=q at *
   have nq:¬ ((q:Int)<0):=by omega
   simp[T7,nq]
   refine z9 (N3 (s:=⟨_,ρ++tL n m d1,env::out,4500⟩) (d:=d1) (ρ:=ρ) (n:=n) (m:=m) (L:=L) rfl hρ ?_ hO2 hm hq (by omega) (fun i hi=>hz.a i q (by omega) hq) (fun i hi=>hz.b i (by omega)) ?_)
   ·simp[yt,yO,mF,sU,xz]
   simp[g2,lN]
   exact h
section
variable {k n:Nat} {c:List AV} {r:List (List AV)}
theorem xy:dgE k (.var c)=.var (c.map (dg k)):=rfl
theorem xj:dgE k (.uarr n r)=.uarr n (zR k r):=rfl
theorem Ai {k:Nat} {f:List (Nat × AV)} (h:yH 1000 f) (hk:1000≤k):uX k f=true:=j4 hk h
theorem afU {k:Nat} {f:List (List (Nat × AV))} (h:ym 1000 f) (hk:1000≤k):mH k f=true:=TX hk h
theorem ll {k:Nat} {f:List (Nat × AV)} (h:yH 1000 f) (hk:1000≤k):(f.map fun p=>(p.1,dg k p.2))=f:=Ru hk h
theorem jD {k:Nat} {f:List (List (Nat × AV))} (h:ym 1000 f) (hk:1000≤k):(f.map fun f=>f.map fun p=>(p.1,dg k p.2))=f:=Jm hk h
end
@[simp] theorem acJ {sz by_ d l sz1 off len sz':Nat} {rows1 rows:List (List AV)} {s:St} {K:St→Prop} (h:lk s.sto l=some (.uarr sz rows1)) :
  xk sz by_ s (some d) K [.us l sz1 off len,.lit sz' rows]=(sz'=sz∧0<sz∧(len+rows.length)*by_≤140737488355328∧len+rows.length≤9223372036854775807∧sz1=sz∧off=0∧len=rows1.length ∧
   K ({(s.dg l) with sto:=pt (s.dg l).sto l (.uarr sz (zR l (rows1++rows)))}.put (some d) (.us l sz 0 (len+rows.length)))):=by
 simp[xk,xi,h]
@[simp] theorem ag8 {x:AV} {q:Rat}:zB (x::fr q) 1 (some 3)=some (fq q):=by
 simp only[zB,fr,List.length_cons,List.length_nil,List.drop_succ_cons,List.drop_zero,List.take]
 simp
abbrev z7:AV:=.list 0 .full []
noncomputable def oR (a:Nat→Nat→Rat) (md:Nat→Am.Mode) (cl:Nat→Nat) (n:Nat):List (List AV):=mR (fun i=>[.list 3 (md i) (fR (a i) (cl i))]) n
def om (i:Nat):Am.Mode:=.own (1000000+i)
noncomputable def pR (A:Nat→Nat→Rat) (bb:Nat→Rat) (n m:Nat):List (List AV):=mR (fun i=>[fL (A i) n,f0 (bb i),f1 (bb i),f2 (bb i)]) m
noncomputable abbrev pA (A:Nat→Nat→Rat) (bb gg:Nat→Rat) (n m:Nat):AV:=.agg [fL gg n,.list 4 .plain (pR A bb n m)]
section
variable {a:Nat→Nat→Rat} {bb:Nat→Rat} {md:Nat→Am.Mode} {cl:Nat→Nat} {n m i k:Nat} {e:ze}
@[simp] theorem akf:(oR a md cl n).length=n:=ql
@[simp] theorem akj:(pR a bb n m).length=m:=ql
@[simp] theorem ajn {hi:i<(oR a md cl n).length}:(oR a md cl n)[i]=[.list 3 (md i) (fR (a i) (cl i))]:=lI
@[simp] theorem ajp {hi:i<(pR a bb n m).length}:(pR a bb n m)[i]=[fL (a i) n,f0 (bb i),f1 (bb i),f2 (bb i)]:=lI
@[simp] theorem akg:yL k (oR a md cl n)=false:=d8 fun _=>by simp
@[simp] theorem ak6:yF (pR a bb n m)=true:=d7 fun _=>by simp
@[simp] theorem ak8:zQ (pR a bb n m)=pR a bb n m:=tK fun _=>by simp
end
theorem t6 {g h:Nat→List AV} {n:Nat} {f:List AV→List AV} (e:∀ i,i<n→f (g i)=h i):(mR g n).map f=mR h n:=by
 unfold mR
 rw[List.map_map]
 exact List.map_congr_left fun i hi=>e i (by simpa using hi)
@[simp] theorem GX {f:Nat→Nat} {n a b:Nat}:((nR f n).map fun r=>r.map (rn a b))=nR f n:=tK fun _=>rfl
@[simp] theorem ak7 {a:Nat→Nat→Rat} {bb:Nat→Rat} {n m k l:Nat}:((pR a bb n m).map fun r=>r.map (rn k l))=pR a bb n m:=tK fun _=>by
 simp[rn,rn1]
theorem ahj {A:Nat→Nat→Rat} {cl:Nat→Nat} {n k l:Nat} (hk:k<1000000) (hl:n≤l):((oR A om cl n).map fun r=>r.map (rn k (1000000+l)))=oR A om cl n:=t6 fun i hi=>by
 have:sw k (1000000+l) (1000000+i)=1000000+i:=by unfold sw; rw[if_neg (by omega),if_neg (by omega)]
 simp[rn,rn1,om,this]
theorem ahi {A:Nat→Nat→Rat} {cl:Nat→Nat} {n k:Nat} (hk:k<1000000):zR k (oR A om cl n)=oR A om cl n:=t6 fun i hi=>by
 have:¬ 1000000+i=k:=by omega
 simp[om,dg,this]
theorem ab {k:Nat} {a b:List (List AV)}:zR k (a++b)=zR k a++zR k b:=List.map_append
theorem Xn {k:Nat} {a b:List (List AV)}:yL k (a++b)=(yL k a||yL k b):=by
 induction a with
 | nil=>rfl
 | cons r a ih=>simp only[List.cons_append,yL,ih,Bool.or_assoc]
section
variable {a b:Nat}
theorem Y7 {c:List AV}:rnE a b (.var c)=.var (c.map (rn a b)):=rfl
theorem b9 {n:Nat} {r:List (List AV)}:rnE a b (.uarr n r)=.uarr n (r.map fun r=>r.map (rn a b)):=rfl
theorem MI {k o:Nat}:rn a b (.ptr k o)=.ptr (sw a b k) o:=rfl
theorem PC {k s o l:Nat}:rn a b (.us k s o l)=.us (sw a b k) s o l:=rfl
theorem Sf {v:Value}:rn a b (.val v)=.val v:=rfl
theorem aa {s:Nat} {r:List (List AV)}:rn a b (.list s .plain r)=.list s .plain r:=rfl
theorem JQ {s:Nat} {r:List (List AV)}:rn a b (.list s .full r)=.list s .full r:=rfl
theorem Se {s l:Nat} {r:List (List AV)}:rn a b (.list s (.own l) r)=.list s (.own (sw a b l)) r:=rfl
end
theorem aaD {ρ:List (Nat × ze)} {k l:Nat} (h:rest ρ) (hk:far k=true) (hl:far l=true):(ρ.map fun p=>(sw k l p.1,rnE k l p.2))=ρ:=yP fun p hp=>by
 have hk:(1000≤k∧k<3000)∨4000≤k:=of_decide_eq_true hk
 have hl:(1000≤l∧l<3000)∨4000≤l:=of_decide_eq_true hl
 obtain ⟨h1,h2⟩:=h p hp
 have:sw k l p.1=p.1:=by unfold sw; rw[if_neg (by omega),if_neg (by omega)]
 rw[this,ac6 (by omega) (by omega) h2]
noncomputable def vG (k:Nat):AV:=if k=0 then z7 else .list 3 (.own 2039) (fR (fun _=>0) k)
theorem YO {l k:Nat} (h:¬ l=2039):dg l (vG k)=vG k:=by
 unfold vG
 split
 ·simp
 ·simp only[dg]; rw[if_neg (fun e=>h e.symm)]
theorem acx {l j k:Nat} (h:¬ l=2039) (hj:¬ j=2039):rn l j (vG k)=vG k:=by
 unfold vG
 split
 ·rfl
 ·simp only[rn,rn1,sw]; rw[if_neg (fun e=>h e.symm),if_neg (fun e=>hj e.symm)]
@[simp] theorem ahX {l k:Nat}:zT l (vG k)=false:=by unfold vG; split<;>rfl
theorem Dz {f:Nat→Nat} {k:Nat}:nR f k++[[iv (f k)]]=nR f (k+1):=ca.symm
theorem afQ {a:Nat→Nat→Rat} {md:Nat→Am.Mode} {cl:Nat→Nat} {k:Nat}:oR a md cl k++[[.list 3 (md k) (fR (a k) (cl k))]]=oR a md cl (k+1):=ca.symm
noncomputable def RS (A:Nat→Nat→Rat) (bb gg:Nat→Rat) (n m:Nat) (ρ:List (Nat × ze)) (out:List (List (Nat × AV))) (k:Nat):St :=
 {env:=[(1,.ptr 1001 0),(3,.ptr 1015 0),(18,iv n),(19,iv k)],
  sto:=ρ++[(1001,.var [fL gg n,.list 4 .plain (pR A bb n m)]),(1015,.var [iv n,iv m,z7,z7,vG k,f0 0,f1 0,f2 0,z7,.us 2029 1 0 k]),(2029,.uarr 1 (nR id k))],out:=out,base:=1000}
noncomputable def FM (A:Nat→Nat→Rat) (bb _gg:Nat→Rat) (n m:Nat) (ρ:List (Nat × ze)) (out:List (List (Nat × AV))) (k:Nat):St :=
 {env:=[(3,.ptr 1015 0),(44,.list 4 .plain (pR A bb n m)),(45,iv m),(46,iv k)],
  sto:=ρ++[(1015,.var [iv n,iv m,.us 1961 1 0 k,.us 1972 3 0 k,vG n,f0 0,f1 0,f2 0,.us 1987 1 0 k,.us 2029 1 0 n]),(2029,.uarr 1 (nR id n)),
   (1961,.uarr 1 (oR A om (fun _=>n) k)),(1972,.uarr 3 (fR bb k)),(1987,.uarr 1 (nR (fun i=>n+i) k))],out:=out,base:=1000}
theorem L4 {n m:Nat} {A:Nat→Nat→Rat} {bb gg:Nat→Rat} {ρ:List (Nat × ze)} {s:St} {K:AV→St→Prop} (hs:s.sto=ρ) (hρ:rest ρ) (hE:yH 1000 s.env) (hO:ym 1000 s.out) (hm:m<1000000) (hn:n<1000000)
  (h:K (.ptr 1015 0) ⟨s.env,ρ++[(1015,.var [iv n,iv m,.us 1961 1 0 m,.us 1972 3 0 m,vG n,f0 0,f1 0,f2 0,.us 1987 1 0 m,.us 2029 1 0 n]),(2029,.uarr 1 (nR id n)),
   (1961,.uarr 1 (oR A om (fun _=>n) m)),(1972,.uarr 3 (fR bb m)),(1987,.uarr 1 (nR (fun i=>n+i) m))],s.out,s.base⟩) :
  z0 Tryz.prog tv [pA A bb gg n m] s K:=by
 obtain ⟨env,σ,out,base⟩:=s
 simp only at hs hE hO h
 subst hs
 have g0:zd Tryz.prog zE [iv 0] (fq 0):=yf (n:=0) (by decide) (by decide)
 have hpt:∀ k e,far k=true→pt σ k e=σ++[(k,e)]:=fun k e hk=>by
  have:=rpt (l:=[]) (e:=e) hρ hk
  simpa using this
 have hlk:∀ k,far k=true→lk σ k=none:=fun k hk=>RI hρ hk
 refine vb 1000 Qa (by simp) ?_
 simp[dQ,hpt,hlk,rlk hρ,far]
 refine za g0 (by simp) (by simp) ?_
 simp[rlk hρ,rpt hρ,far]
 have hE2:yH 2000 env:=QD (by omega) hE
 have hO2:ym 2000 out:=Dp (by omega) hO
 have hne:∀ k,k≠0→vG k=.list 3 (.own 2039) (fR (fun _=>0) k):=fun k hk=>by unfold vG; rw[if_neg hk]
 have hz:vG 0=z7:=rfl
 refine v9 (RS A bb gg n m σ (env::out)) (fun _=>True) n ?_ trivial (fun k hk _=>?_) (fun _=>?_)
 ·refine St.imp.trans (St.imp_tok 2029 1 (by simp[rlk hρ,far])) ?_
  simp[St.dg,mL hρ,ll hE,jD hO,rpt hρ,far,-dgE,xy]
  refine St.imp.trans (St.imp_cell_nil (k:=1015) (j:=9) (l:=2029) (sz:=1) (by simp[rlk hρ,far]; rfl) (by simp; rfl) (by simp[rlk hρ,far])) ?_
  simp[rpt hρ,far,RS,hz]
  exact St.imp.refl
 ·have e:(k:Int)<n:=by omega
  have w:=zn (k:=k) (by omega)
  have hap:nR id k++[[iv k]]=nR id (k+1):=Dz (f:=id)
  have hfp:fR (fun _=>0) k++[fr 0]=fR (fun _=>0) (k+1):=vB.symm
  have hne1:=hne (k+1) (by omega)
  have hcd:∀ l,¬ l=2039→dg l (vG k)=vG k:=fun l h=>YO h
  simp[pw,RS,e,rlk hρ,rpt hρ,far,mL hρ,ll hE,jD hO,-dgE,xy,xj,hap,hcd]
  refine ⟨by omega,by omega,?_⟩
  refine za g0 (by simp) (by simp) ?_
  by_cases k0:k=0
  ·subst k0
   have w1:IntKind.i64.wrap 1=1:=by decide
   have h1:fR (fun _=>(0:Rat)) 1=[fr 0]:=rfl
   simp[hz,rlk hρ,rpt hρ,far,mL hρ,ll hE,jD hO,-dgE,xy,xj,w1,RS,hne 1 (by omega),h1]
   refine St.imp.trans (St.imp_rn 1039 2039) ?_
   have hr0:=aaD (k:=1039) (l:=2039) hρ rfl rfl
   have he:=d6 (k:=1039) (by omega) (j:=2039) (by omega) hE
   have ho:=YZ (k:=1039) (by omega) (j:=2039) (by omega) hO
   simp only[St.rn,List.map_append,hr0]
   simp only[List.map_cons,List.map_nil,Y7,b9,MI,PC,Sf,aa,Se,JQ,GX,Gx,Gy,Gz,sw,Nat.reduceEqDiff,if_true,if_false,he,ho]
   exact St.imp.refl
  ·simp[hne k k0,rlk hρ,rpt hρ,far,mL hρ,ll hE,jD hO,-dgE,xy,xj,hfp,w,RS,hne1]
   exact ⟨by omega,by omega,St.imp.refl⟩
 ·have hcd:∀ l,¬ l=2039→dg l (vG n)=vG n:=fun l h=>YO h
  simp[pw,RS,jO,rlk hρ,wG hρ,far,-dgE,xb hρ,Ai hE,afU hO]
  refine v9 (FM A bb gg n m σ (env::out)) (fun _=>True) m ?_ trivial (fun k hk _=>?_) (fun _=>?_)
  ·refine St.imp.trans (St.imp_tok 1961 1 (by simp[rlk hρ,far])) ?_
   simp[St.dg,rpt hρ,far,mL hρ,ll hE,jD hO,-dgE,xy,xj,hcd]
   refine St.imp.trans (St.imp_cell_nil (k:=1015) (j:=2) (l:=1961) (sz:=1) (by simp[rlk hρ,far]; rfl) (by simp; rfl) (by simp[rlk hρ,far])) ?_
   simp[rpt hρ,far]
   refine St.imp.trans (St.imp_tok 1972 3 (by simp[rlk hρ,far])) ?_
   simp[St.dg,rpt hρ,far,mL hρ,ll hE,jD hO,-dgE,xy,xj,hcd]
   refine St.imp.trans (St.imp_cell_nil (k:=1015) (j:=3) (l:=1972) (sz:=3) (by simp[rlk hρ,far]; rfl) (by simp; rfl) (by simp[rlk hρ,far])) ?_
   simp[rpt hρ,far]
   refine St.imp.trans (St.imp_tok 1987 1 (by simp[rlk hρ,far])) ?_
   simp[St.dg,rpt hρ,far,mL hρ,ll hE,jD hO,-dgE,xy,xj,hcd]
   refine St.imp.trans (St.imp_cell_nil (k:=1015) (j:=8) (l:=1987) (sz:=1) (by simp[rlk hρ,far]; rfl) (by simp; rfl) (by simp[rlk hρ,far])) ?_
   simp[rpt hρ,far,FM]
   exact St.imp.refl
  ·have e:(k:Int)<m:=by omega
   have w:=zn (k:=k) (by omega)
   have hau:wq 1 [[z7]] [0] [.list 3 (.own 1059) (fR (A k) n)]=some [[.list 3 (.own 1059) (fR (A k) n)]]:=rfl
   have hd1:∀ l,¬ l=1059→zR l [[.list 3 (.own 1059) (fR (A k) n)]]=[[.list 3 (.own 1059) (fR (A k) n)]]:=fun l h=>by
    have:¬ 1059=l:=fun e=>h e.symm
    simp[zR,dg,this]
   have hfb:fR bb k++[fr (bb k)]=fR bb (k+1):=vB.symm
   have hnb:nR (fun i=>n+i) k++[[iv (n+k:Nat)]]=nR (fun i=>n+i) (k+1):=Dz (f:=fun i=>n+i)
   have hnb':nR (fun i=>n+i) k++[[iv ((n:Int)+k)]]=nR (fun i=>n+i) (k+1):=by rw[← hnb,Int.natCast_add]
   have wn:IntKind.i64.wrap (n+k)=(n:Int)+(k:Int):=by rw[wrap64]<;>omega
   simp[px,FM,e,hk,rlk hρ,rpt hρ,wG hρ,far,mL hρ,ll hE,jD hO,-dgE,xy,xj,hcd,xb hρ,Ai hE,afU hO,hau,ahi,ab,hd1,hfb,wn,w,Xn]
   refine ⟨by omega,by omega,by omega,by omega,by omega,by omega,by omega,by omega,?_⟩
   refine St.imp.trans (St.imp_rn 1059 (1000000+k)) ?_
   have ho:om k=.own (1000000+k):=rfl
   have hap:=afQ (a:=A) (md:=om) (cl:=fun _=>n) (k:=k)
   rw[ho] at hap
   have s1:∀ l,l<1000000→¬ l=1059→sw 1059 (1000000+k) l=l:=fun l h1 h2=>by unfold sw; rw[if_neg h2,if_neg (by omega)]
   have s2:sw 1059 (1000000+k) 1059=1000000+k:=by unfold sw; rw[if_pos rfl]
   have hf:far (1000000+k)=true:=decide_eq_true (by omega)
   have hc:=acx (l:=1059) (j:=1000000+k) (k:=n) (by omega) (by omega)
   have hr:=ahj (A:=A) (cl:=fun _=>n) (n:=k) (k:=1059) (l:=k) (by omega) (Nat.le_refl _)
   have he:=d6 (k:=1059) (by omega) (j:=1000000+k) (by omega) hE
   have ho':=YZ (k:=1059) (by omega) (j:=1000000+k) (by omega) hO
   have hq:zR 1987 [[iv ((n:Int)+k)]]=[[iv ((n+k:Nat):Int)]]:=by rw[Int.natCast_add]; rfl
   have hr0:=aaD (k:=1059) (l:=1000000+k) hρ rfl hf
   simp only[St.rn,List.map_append,List.map_cons,List.map_nil,hr0,s1,s2,Y7,b9,MI,PC,Sf,aa,Se,hr,hc,he,ho',GX,abH,Gx,Gy,Gz,hap,hq,Nat.reduceLT,Nat.reduceEqDiff,not_false_eq_true,Int.natCast_add]
   rw[hnb']
   exact St.imp.refl
  ·simp[px,FM,jN,ce,-dgE]
   exact h
noncomputable def Li (n:Nat) (out:List (List (Nat × AV))) (k:Nat):St:={env:=[(3,.sl 1006 3 0 n),(8,iv n),(9,iv k)],sto:=[(1006,.arr 3 (fZ (fun _=>0) k n))],out:=out,base:=1000}
theorem LG {n:Nat} {s:St} {K:AV→St→Prop} (hs:s.sto=[]) (hn:n<1000000) (h:K (.sl 1006 3 0 n) ⟨s.env,[(1006,.arr 3 (fR (fun _=>0) n))],s.out,s.base⟩) :
  z0 Tryz.prog rP [iv n] s K:=by
 obtain ⟨env,σ,out,base⟩:=s
 simp only at hs h
 subst hs
 refine vb 1000 Q4 (by simp) ?_
 simp[Zz,eMk]
 refine ⟨by omega,by omega,?_⟩
 rw[gn (f:=fun _=>0)]
 have k0:zd Tryz.prog zE [iv 0] (fq 0):=yf (n:=0) (by decide) (by decide)
 refine zr (Li n (env::out)) (fun _=>True) n (by simp[Li]) trivial (fun k hk _=>?_) (fun _=>?_)
 ·have e:(k:Int)<n:=by omega
  have w:=zn (k:=k) (by omega)
  have hs:=dV (f:=fun _=>0) hk
  simp[qa,Li,e]
  refine za k0 (by simp) (by simp) ?_
  simp[splice,hk,w,hs,Li]
 ·simp[qa,gZ,Yb,Li,gm]
  exact h
theorem bS:yJ Tryz.prog rP=true:=by kernel_rfl
noncomputable def tR (n m:Nat) (d:zq):AV:=.ro [iv n,iv m,.list 1 .plain (cR d.a (fun _=>d.c) m),fL d.b m,fL d.cst d.c,f0 d.v,f1 d.v,f2 d.v,.list 1 .plain (nR d.bas m),.list 1 .plain (nR d.fre d.c)]
def xL (n m:Nat) (d:zq):Nat→Nat→Rat
 | 0=>fun _=>0
 | k+1=>if n≤d.fre k∧d.fre k<n+m then upd (xL n m d k) (d.fre k-n) (-d.cst k) else xL n m d k
noncomputable def UT (n m:Nat) (d:zq) (k:Nat):St :=
 {env:=[(0,tR n m d),(3,.sl 1006 3 0 m),(14,.list 1 .plain (nR d.fre d.c)),(15,iv d.c),(16,iv k)],sto:=[(1006,.arr 3 (fR (xL n m d k) m))]}
theorem Mx {n m L:Nat} {d:zq} (hm:m<1000000) (hn:n<1000000) (hc:d.c<1000000) (hfre:∀ j,j<d.c→d.fre j<4000000) (hL:L≤100000000000) (hsz:∀ j,j<d.c→sz L (d.cst j)) :
  zd Tryz.prog tq [tR n m d] (fL (xL n m d d.c) m):=by
 refine zx Yt (by simp[tR]) ?_
 simp[gF,tR,bS]
 refine z9 (LG rfl hm ?_)
 simp
 refine zr (UT n m d) (fun _=>True) d.c (by simp[UT,tR,xL]) trivial (fun k hk _=>?_) (fun _=>?_)
 ·have e:(k:Int)<d.c:=by omega
  have w:=zn (k:=k) (by omega)
  have g:=T1 (K:=L) (by omega) (hsz k hk)
  have hf:=hfre k hk
  obtain ⟨f,hfe⟩:∃ f,d.fre k=f:=⟨_,rfl⟩
  rw[hfe] at hf
  have w1:IntKind.i64.wrap ((n:Int)+m)=(n:Int)+m:=by rw[wrap64]<;>omega
  by_cases h1:n≤f
  ·by_cases h2:f<n+m
   ·have ev:xL n m d (k+1)=upd (xL n m d k) (f-n) (-d.cst k):=by simp only[xL]; rw[hfe,if_pos ⟨h1,h2⟩]
    have h1':(n:Int)≤f:=by omega
    have h2':(f:Int)<n+m:=by omega
    have w2:IntKind.i64.wrap ((f:Int)-n)=((f-n:Nat):Int):=by rw[wrap64]<;>omega
    have h3:f-n<m:=by omega
    have h4:((f-n:Nat):Int)<m:=by omega
    generalize f-n=g0 at *
    simp[xt,UT,tR,e,hk,hfe,w1,h1',h2',w2]
    refine za g (by simp) (by simp) ?_
    simp[splice,h3,h4,w,UT,tR,ev,pJ]
   ·have ev:xL n m d (k+1)=xL n m d k:=by simp only[xL]; rw[hfe,if_neg fun h=>h2 h.2]
    have h1':(n:Int)≤f:=by omega
    have h2':¬ (f:Int)<n+m:=by omega
    simp[xt,UT,tR,e,hk,hfe,w1,h1',h2',w,ev]
  ·have ev:xL n m d (k+1)=xL n m d k:=by simp only[xL]; rw[hfe,if_neg fun h=>h1 h.1]
   have h1':¬ (n:Int)≤f:=by omega
   simp[xt,UT,tR,e,hk,hfe,h1',w,ev]
 ·simp[xt,mo,fw,UT]
def nA (n:Nat) (d:zq):Nat→Nat→Rat
 | 0=>fun _=>0
 | k+1=>if d.bas k<n then upd (nA n d k) (d.bas k) (d.b k) else nA n d k
noncomputable def Lb (n m:Nat) (d:zq) (k:Nat):St :=
 {env:=[(0,tR n m d),(3,.sl 1006 3 0 n),(14,.list 1 .plain (nR d.bas m)),(15,iv m),(16,iv k)],sto:=[(1006,.arr 3 (fR (nA n d k) n))]}
theorem Ke {n m:Nat} {d:zq} (hm:m<1000000) (hn:n<1000000) :
  zd Tryz.prog pD [tR n m d] (fL (nA n d m) n):=by
 refine zx Ky (by simp[tR]) ?_
 simp[Xs,tR,bS]
 refine z9 (LG rfl hn ?_)
 simp
 refine zr (Lb n m d) (fun _=>True) m (by simp[Lb,tR,nA]) trivial (fun k hk _=>?_) (fun _=>?_)
 ·have e:(k:Int)<m:=by omega
  have w:=zn (k:=k) (by omega)
  obtain ⟨f,hfe⟩:∃ f,d.bas k=f:=⟨_,rfl⟩
  by_cases h1:f<n
  ·have ev:nA n d (k+1)=upd (nA n d k) f (d.b k):=by simp only[nA]; rw[hfe,if_pos h1]
   have h1':(f:Int)<n:=by omega
   simp[qK,Lb,tR,e,hk,hfe,h1,h1',w,ev,splice,pJ]
  ·have ev:nA n d (k+1)=nA n d k:=by simp only[nA]; rw[hfe,if_neg h1]
   have h1':¬ (f:Int)<n:=by omega
   simp[qK,Lb,tR,e,hk,hfe,h1',w,ev]
 ·simp[qK,dM,XQ,Lb]
def tV (n:Nat) (d:zq) (q:Nat):Nat→Nat→Rat
 | 0=>if d.fre q<n then upd (fun _=>0) (d.fre q) 1 else fun _=>0
 | k+1=>if d.bas k<n then upd (tV n d q k) (d.bas k) (-d.a k q) else tV n d q k
noncomputable def an (n m q:Nat) (d:zq) (k:Nat):St :=
 {env:=[(0,tR n m d),(1,iv q),(5,.sl 1006 3 0 n),(38,.list 1 .plain (nR d.bas m)),(39,iv m),(40,iv k)],sto:=[(1006,.arr 3 (fR (tV n d q k) n))]}
theorem Cc {n m q L:Nat} {d:zq} (hm:m<1000000) (hn:n<1000000) (hq:q<d.c) (hL:L≤100000000000) (hsz:∀ i,i<m→sz L (d.a i q)) :
  zd Tryz.prog Zh [tR n m d,iv q] (fL (tV n d q m) n):=by
 have h1g:zd Tryz.prog zE [iv 1] (fq 1):=yf (n:=1) (by decide) (by decide)
 have eq0:(q:Int)<d.c:=by omega
 obtain ⟨f,hfe⟩:∃ f,d.fre q=f:=⟨_,rfl⟩
 have loop:awp Tryz.prog (.loop rW) (an n m q d 0) (wP 0 (rm Tryz.prog gG (UI Z4 (fL (tV n d q m) n)))):=by
  refine zr (an n m q d) (fun _=>True) m (by simp[an]) trivial (fun k hk _=>?_) (fun _=>?_)
  ·have e:(k:Int)<m:=by omega
   have w:=zn (k:=k) (by omega)
   have g:=T1 (K:=L) (by omega) (hsz k hk)
   obtain ⟨f,hfe⟩:∃ f,d.bas k=f:=⟨_,rfl⟩
   by_cases h1:f<n
   ·have ev:tV n d q (k+1)=upd (tV n d q k) f (-d.a k q):=by simp only[tV]; rw[hfe,if_pos h1]
    have h1':(f:Int)<n:=by omega
    simp[rW,an,tR,e,hk,hq,eq0,hfe,h1']
    refine za g (by simp) (by simp) ?_
    simp[an,tR,h1,h1',w,ev,splice,pJ]
   ·have ev:tV n d q (k+1)=tV n d q k:=by simp only[tV]; rw[hfe,if_neg h1]
    have h1':¬ (f:Int)<n:=by omega
    simp[rW,an,tR,e,hk,hfe,h1',w,ev]
  ·simp[rW,gG,Z4,an]
 refine zx C8 (by simp[tR]) ?_
 simp[Qh,tR,bS]
 refine z9 (LG rfl hn ?_)
 by_cases h1:f<n
 ·have h1':(f:Int)<n:=by omega
  have ev:tV n d q 0=upd (fun _=>0) f 1:=by simp only[tV]; rw[hfe,if_pos h1]
  simp[hq,eq0,hfe,h1']
  refine za h1g (by simp) (by simp) ?_
  simp[h1,h1',splice,pJ]
  simpa [an,tR,ev] using loop
 ·have h1':¬ (f:Int)<n:=by omega
  have ev:tV n d q 0=fun _=>0:=by simp only[tV]; rw[hfe,if_neg h1]
  simp[hq,eq0,hfe,h1']
  simpa [an,tR,ev] using loop
noncomputable def Lj (n:Nat) (σ:List (Nat × ze)) (out:List (List (Nat × AV))) (k:Nat):St:={env:=[(3,.sl 5006 3 0 n),(8,iv n),(9,iv k)],sto:=σ++[(5006,.arr 3 (fZ (fun _=>0) k n))],out:=out,base:=5000}
theorem agF {n n' m:Nat} {d:zq} {ρ:List (Nat × ze)} {s:St} {K:AV→St→Prop} (hs:s.sto=ρ++tL n' m d) (hρ:rest ρ) (hn:n<1000000)
  (h:K (.sl 5006 3 0 n) ⟨s.env,ρ++(tL n' m d++[(5006,.arr 3 (fR (fun _=>0) n))]),s.out,s.base⟩) :
  z0 Tryz.prog rP [iv n] s K:=by
 obtain ⟨env,σ,out,base⟩:=s
 simp only at hs h
 subst hs
 refine vb 5000 Q4 (by simp) ?_
 simp[Zz,eMk,tL,rlk hρ,rpt hρ,far]
 refine ⟨by omega,by omega,?_⟩
 rw[gn (f:=fun _=>0)]
 have k0:zd Tryz.prog zE [iv 0] (fq 0):=yf (n:=0) (by decide) (by decide)
 refine zr (Lj n (ρ++tL n' m d) (env::out)) (fun _=>True) n (by simp[Lj,tL]) trivial (fun k hk _=>?_) (fun _=>?_)
 ·have e:(k:Int)<n:=by omega
  have w:=zn (k:=k) (by omega)
  have hs:=dV (f:=fun _=>0) hk
  simp[qa,Lj,tL,e]
  refine za k0 (by simp) (by simp) ?_
  simp[splice,hk,w,hs,Lj,rlk hρ,rpt hρ,far]
 ·simp[qa,gZ,Yb,Lj,tL,gm]
  exact h
noncomputable def dz (ls:List (Nat × AV)) (σ:List (Nat × ze)) (f:Nat→Rat) (len:Nat) (out:List (List (Nat × AV))) (last:Bool):St :=
 if last then ⟨ls++[(3,fL f len)],σ,out,4500⟩ else ⟨ls++[(3,.sl 5006 3 0 len)],σ++[(5006,.arr 3 (fR f len))],out,4500⟩
theorem am {ls:List (Nat × AV)} {σ:List (Nat × ze)} {f:Nat→Rat} {len:Nat} {out:List (List (Nat × AV))}:dz ls σ f len out false=⟨ls++[(3,.sl 5006 3 0 len)],σ++[(5006,.arr 3 (fR f len))],out,4500⟩:=rfl
theorem Mj {M k len:Nat} {ls:List (Nat × AV)} {f:Nat→Rat} (hl:yH M ls) (hk:M≤k):uX k (ls++[(3,fL f len)])=true :=
 j4 (M:=M) hk fun p hp=>by
  rcases List.mem_append.1 hp with h | h
  ·exact hl p h
  ·simp only[List.mem_singleton] at h; subst h; rfl
theorem MX {ls:List (Nat × AV)} {n m:Nat} {d:zq} {ρ:List (Nat × ze)} {f:Nat→Rat} {len:Nat} {out:List (List (Nat × AV))} {last:Bool} (hρ:rest ρ) (hl:yH 3000 ls) (hO:ym 2000 out) :
  St.imp (dz ls (ρ++tL n m d) f len out false) (dz ls (ρ++tL n m d) f len out last):=by
 cases last with
 | false=>exact St.imp.refl
 | true =>
  refine St.imp_freeze (k:=5006) ?_
  have hn1:uX 5006 (ls++[(3,fL f len)])=true:=Mj hl (by omega)
  have e1:=Ut (k:=5006) (e:=.arr 3 (fR f len)) (by omega) hl
  simp[xf,dz,tL,rlk hρ,wG hρ,xb hρ,ono hO,aay hρ,AQ hO,far,vI,nT,t0,jf,e1,hn1]
abbrev lsA (d:zq) (k:Nat):List (Nat × AV):=[(0,.ptr 1015 0),(14,.us 2029 1 0 d.c),(15,iv d.c),(16,iv k)]
theorem Jo {d:zq} {k:Nat}:yH 3000 (lsA d k):=by simp[yt,yO,mF,xz]; rfl
theorem adG {n m L:Nat} {d:zq} {ρ:List (Nat × ze)} {s:St} {K:AV→St→Prop} (hs:s.sto=ρ++tL n m d) (hρ:rest ρ) (hE:yH 2000 s.env) (hO:ym 2000 s.out) (hm:m<1000000) (hn:n<1000000) (hc:d.c<1000000) (hfre:∀ j,j<d.c→d.fre j<4000000) (hL:L≤100000000000) (hsz:∀ j,j<d.c→sz L (d.cst j))
  (h:K (fL (xL n m d d.c) m) ⟨s.env,ρ++tL n m d,s.out,s.base⟩):z0 Tryz.prog tq [.ptr 1015 0] s K:=by
 obtain ⟨env,σ,out,base⟩:=s
 simp only at hs hE hO h
 subst hs
 have hO2:ym 2000 (env::out):=jh.2 ⟨hE,hO⟩
 refine vb 4500 Yt (by simp) ?_
 simp[gF,bS,tL,rlk hρ,far]
 refine z9 (agF (d:=d) (n':=n) (m:=m) rfl hρ hm ?_)
 simp[tL,rlk hρ,far]
 refine v9 (fun k=>dz (lsA d k) (ρ++tL n m d) (xL n m d k) m (env::out) (k == d.c)) (fun _=>True) d.c (St.imp.trans (St.imp_of (by simp[dz,tL,xL])) (MX hρ Jo hO2)) trivial (fun k hk _=>?_) (fun _=>?_)
 ·have e:(k:Int)<d.c:=by omega
  have hlast:(k == d.c)=false:=by simp; omega
  rw[hlast]
  have fin:=MX (last:=k+1 == d.c) (n:=n) (m:=m) (d:=d) (f:=xL n m d (k+1)) (len:=m) hρ (Jo (d:=d) (k:=k+1)) hO2
  have w:=zn (k:=k) (by omega)
  have g:=T1 (K:=L) (by omega) (hsz k hk)
  have hf:=hfre k hk
  obtain ⟨f,hfe⟩:∃ f,d.fre k=f:=⟨_,rfl⟩
  rw[hfe] at hf
  have w1:IntKind.i64.wrap ((n:Int)+m)=(n:Int)+m:=by rw[wrap64]<;>omega
  by_cases h1:n≤f
  ·by_cases h2:f<n+m
   ·have ev:xL n m d (k+1)=upd (xL n m d k) (f-n) (-d.cst k):=by simp only[xL]; rw[hfe,if_pos ⟨h1,h2⟩]
    have h1':(n:Int)≤f:=by omega
    have h2':(f:Int)<n+m:=by omega
    have w2:IntKind.i64.wrap ((f:Int)-n)=((f-n:Nat):Int):=by rw[wrap64]<;>omega
    have h3:f-n<m:=by omega
    have h4:((f-n:Nat):Int)<m:=by omega
    rw[ev] at fin
    generalize f-n=g0 at *
    simp[xt,am,tL,rlk hρ,far,e,hk,hfe,w1,h1',h2',w2]
    refine za g (by simp) (by simp) ?_
    simp[splice,h3,h4,w,pJ,rlk hρ,rpt hρ,far]
    rw[ev]
    refine St.imp.trans (St.imp_of ?_) fin
    simp[dz,tL]
   ·have ev:xL n m d (k+1)=xL n m d k:=by simp only[xL]; rw[hfe,if_neg fun h=>h2 h.2]
    have h1':(n:Int)≤f:=by omega
    have h2':¬ (f:Int)<n+m:=by omega
    simp[xt,am,tL,rlk hρ,far,e,hk,hfe,w1,h1',h2',w]
    refine St.imp.trans (St.imp_of ?_) fin
    simp[dz,tL,ev]
  ·have ev:xL n m d (k+1)=xL n m d k:=by simp only[xL]; rw[hfe,if_neg fun h=>h1 h.1]
   have h1':¬ (n:Int)≤f:=by omega
   simp[xt,am,tL,rlk hρ,far,e,hk,hfe,h1',w]
   refine St.imp.trans (St.imp_of ?_) fin
   simp[dz,tL,ev]
 ·simp[xt,mo,fw,dz]
  exact h
end Go.Proofs.YtjeoklgggppjiaaGreat

namespace Go.LP
def sk (j k:Nat):Nat:=if k<j then k else k+1
theorem abZ {j k:Nat}:sk j k≠j:=by unfold sk; split<;>omega
theorem PG {j k n:Nat} (hj:j<n) (h:k<n-1):sk j k<n:=by unfold sk; split<;>omega
theorem Yr {j:Nat} {f:Nat→Rat}:∀ {n:Nat},j<n+1→zf (n+1) f=zf n (fun k=>f (sk j k))+f j
 | 0,h=>by
  obtain rfl:j=0:=by omega
  simp[zf]
 | n+1,h=>by
  by_cases e:j=n+1
  ·subst e
   simp only[zf]
   rw[zm (n:=n) (f:=fun k=>f (sk (n+1) k)) (g:=f) fun k hk=>by unfold sk; rw[if_pos (by omega)]]
   unfold sk; rw[if_pos (by omega)]
  ·have ih:=Yr (f:=f) (n:=n) (show j<n+1 by omega)
   rw[show zf (n+1+1) f=zf (n+1) f+f (n+1) from rfl,ih]
   simp only[zf]
   rw[show sk j n=n+1 by unfold sk; rw[if_neg (by omega)]]
   grind
def mC (d:zq) (j:Nat):zq:=⟨d.r,d.c-1,fun i k=>d.a i (sk j k),d.b,fun k=>d.cst (sk j k),d.v,d.bas,fun k=>d.fre (sk j k)⟩
theorem Aj {d:zq} {p q:Nat} (h:feas d) (hb:d.b p=0):feas (pivot d p q):=by
 intro i hi
 have:=h i hi
 simp only[pivot,hb]
 split<;>grind
section
variable {n m:Nat} {A:Nat→Nat→Rat} {bb gg:Nat→Rat}
theorem JY {p:Nat}:(dA n m A bb).a p n≠0:=by
 simp only[dA,Nat.lt_irrefl,if_false]
 grind
theorem FS {p:Nat} (hp:p<m):Same (pivot (dA n m A bb) p n) (dA n m A bb) (n+m+1):=Same.pivot afg hp (Nat.lt_succ_self n) JY
theorem FR {p:Nat} (h0:bb p<0) (hmin:∀ i,i<m→bb p≤bb i):feas (pivot (dA n m A bb) p n):=by
 intro i hi
 have:=hmin i hi
 simp only[pivot,dA,Nat.lt_irrefl,if_false]
 split<;>grind
section
variable {d:zq} (h:Same d (dA n m A bb) (n+m+1))
include h
theorem RA {x:Nat→Rat} (hx:sol d x):obj d x=- x (n+m):=by rw[h.obj x hx,DD]
theorem abQ (hf:feas d):d.v≤0:=by
 have h1:=RA h (fO h.bd)
 rw[YB h.bd] at h1
 have:=jv h.bd hf (n+m)
 grind
theorem Kb (hf:feas d) {q:Nat} (hq:q<d.c) (hc:0<d.cst q) (ha:∀ i,i<d.r→d.a i q≤0):False:=by
 have hv:=abQ h hf
 have hy0:0≤1/d.cst q:=by have:=bE hc; grind
 have hy:0≤(1-d.v)*(1/d.cst q):=Rat.mul_nonneg (by grind) hy0
 have h1:=RA h (qZ h.bd hq (y:=(1-d.v)*(1/d.cst q)))
 rw[Y1 h.bd hq] at h1
 have h2:d.v+d.cst q*((1-d.v)*(1/d.cst q))=1:=by grind
 have h3:0≤ptq d q ((1-d.v)*(1/d.cst q)) (n+m):=by
  unfold ptq
  generalize (1-d.v)*(1/d.cst q)=y at *
  have:0≤zf d.r (fun i=>if d.bas i=n+m then d.b i-d.a i q*y else 0):=xY fun i hi=>by
   split
   ·have h4:=hf i hi
    have h5:=Rat.mul_nonneg (show 0≤- d.a i q by have:=ha i hi; grind) hy
    grind
   ·grind
  split<;>grind
 rw[h2] at h1
 grind
theorem adD {i:Nat} (hi:i<d.r) (hb:d.bas i=n+m):∃ j,j<d.c∧d.a i j≠0:=by
 apply Classical.byContradiction
 intro hno
 have hz:∀ j,j<d.c→d.a i j=0:=fun j hj=>Classical.byContradiction fun e=>hno ⟨j,hj,e⟩
 have hx:=(h.sol _).2 (RK (n:=n) (m:=m) (A:=A) (bb:=bb) (x:=fun k=>if k<n then 0 else if k=n+m then d.b i+1 else bb (k-n)+(d.b i+1)) fun l hl=>by
  rw[if_neg (by omega),if_neg (by omega),if_neg (by omega),if_pos rfl,Nat.add_sub_cancel_left,zM fun j hj=>by rw[if_pos hj]; grind]
  grind)
 have h1:=hx i hi
 rw[hb,zM fun j hj=>by rw[hz j hj]; grind] at h1
 dsimp only at h1
 rw[if_neg (by omega),if_pos rfl] at h1
 grind
theorem af3 {i:Nat} (hi:i<d.r) (hb:d.bas i=n+m) (hv:d.v=0):d.b i=0:=by
 have h1:=RA h (fO h.bd)
 rw[YB h.bd,← hb,YA h.bd hi] at h1
 grind
theorem B1 {j:Nat} (hj:j<d.c) (hfre:d.fre j=n+m):Bij (mC d j) (n+m):=by
 intro g
 have h1:=h.bd fun k=>if k=n+m then 0 else g k
 obtain ⟨c,hc⟩:∃ c,d.c=c+1:=⟨d.c-1,by omega⟩
 simp only[zf,if_true] at h1
 rw[hc,Yr (j:=j) (by omega)] at h1
 simp only[mC,hc,Nat.add_sub_cancel]
 rw[hfre,if_pos rfl,zm (n:=n+m) (g:=g) fun k hk=>if_neg (by omega),
  zm (n:=c) (g:=fun k=>g (d.fre (sk j k))) fun k hk=>if_neg fun e=>abZ (lq h.bd (PG (n:=d.c) (k:=k) hj (by omega)) hj (by rw[e,hfre])),
  zm (n:=d.r) (g:=fun i=>g (d.bas i)) fun i hi=>if_neg fun e=>uV h.bd hi hj (by rw[e,hfre])] at h1
 grind
theorem B2 {j:Nat} (hj:j<d.c) (hfre:d.fre j=n+m) (x:Nat→Rat):sol (mC d j) x↔sol (dG n m A bb gg) x:=by
 obtain ⟨c,hc⟩:∃ c,d.c=c+1:=⟨d.c-1,by omega⟩
 have e1:sol (mC d j) x↔sol d (fun k=>if k=n+m then 0 else x k):=by
  refine forall_congr' fun i=>forall_congr' fun hi=>?_
  simp only[mC,hc,Nat.add_sub_cancel]
  rw[if_neg fun e=>uV h.bd hi hj (by rw[e,hfre]),Yr (j:=j) (by omega),hfre,if_pos rfl,
   zm (n:=c) (f:=fun k=>d.a i (sk j k)*(if d.fre (sk j k)=n+m then 0 else x (d.fre (sk j k)))) (g:=fun k=>d.a i (sk j k)*x (d.fre (sk j k))) fun k hk=>by
    rw[if_neg fun e=>abZ (lq h.bd (PG (n:=d.c) (k:=k) hj (by omega)) hj (by rw[e,hfre]))]]
  grind
 rw[e1,h.sol]
 constructor
 ·intro hx i hi
  have:=agn hx hi
  rw[if_neg (by simp only[dG] at hi; omega),if_pos rfl,zm (n:=n) (g:=fun j=>A i j*x j) fun k hk=>by rw[if_neg (by omega)]] at this
  simp only[dG]
  grind
 ·intro hx
  refine RK fun i hi=>?_
  have:=Ss hx hi
  rw[if_neg (by omega),if_pos rfl,zm (n:=n) (g:=fun j=>A i j*x j) fun k hk=>by rw[if_neg (by omega)]]
  grind
end
end
theorem ab0 {d:zq} {N L:Nat} (hb:Bij d N) (hs:szD L d) (k:Nat):sz L (vl d k):=by
 by_cases h:inB d k
 ·obtain ⟨i,hi,rfl⟩:=h
  rw[YA hb hi]; exact hs.b i hi
 ·rw[fN h]; exact vd
theorem abE {d:zq} {N L:Nat} (hb:Bij d N) (hs:szD L d) (k:Nat):sz L (cv d k):=by
 by_cases h:∃ j,j<d.c∧d.fre j=k
 ·obtain ⟨j,hj,rfl⟩:=h
  rw[TD hb hj]; exact hs.cst j hj
 ·have:cv d k=0:=zM fun j hj=>if_neg fun e=>h ⟨j,hj,e⟩
  rw[this]; exact vd
theorem adM {d:zq} {N L q:Nat} (hb:Bij d N) (hs:szD L d) (hq:q<d.c) (k:Nat):sz L (dx d q k):=by
 by_cases h:inB d k
 ·obtain ⟨i,hi,rfl⟩:=h
  have e:dx d q (d.bas i)=- d.a i q:=by rw[Y6,cc hb hq hi,cc hb hq hi]; grind
  rw[e]; exact jt (hs.a i q hi hq)
 ·unfold dx
  rw[zM fun i hi=>if_neg fun e=>h ⟨i,hi,e⟩]
  split
  ·rw[show (0:Rat)+1=1 by grind]; exact C7
  ·rw[show (0:Rat)+0=0 by grind]; exact vd
def sgV (n:Nat) (g:Nat→Rat) (d:zq) (k:Nat):Rat:=zf k fun i=>if d.bas i<n then g (d.bas i)*d.b i else 0
def sgC (n:Nat) (g:Nat→Rat) (d:zq) (k j:Nat):Rat:=(if d.fre j<n then g (d.fre j) else 0)-zf k fun i=>if d.bas i<n then g (d.bas i)*d.a i j else 0
def ku (n:Nat) (g:Nat→Rat) (d:zq):zq:={d with cst:=sgC n g d d.r,v:=sgV n g d d.r}
section
variable {n m:Nat} {A:Nat→Nat→Rat} {bb gg:Nat→Rat}
theorem E7 {d:zq} (hb:Bij d (n+m)) (hs:∀ x,sol d x↔sol (dG n m A bb gg) x):Same (ku n gg d) (dG n m A bb gg) (n+m):=by
 refine ⟨hb,EF,hs,fun x hx=>?_⟩
 have hx':sol d x:=hx
 rw[T4]
 have h1:=hb fun k=>if k<n then gg k*x k else 0
 rw[fI,zm (n:=n) (g:=fun k=>gg k*x k) fun k hk=>if_pos hk,zM (n:=m) fun k hk=>if_neg (by omega)] at h1
 have h2:zf d.r (fun i=>if d.bas i<n then gg (d.bas i)*x (d.bas i) else 0)=sgV n gg d d.r-zf d.c fun j=>zf d.r (fun i=>if d.bas i<n then gg (d.bas i)*d.a i j else 0)*x (d.fre j):=by
  rw[zm (n:=d.c) (g:=fun j=>zf d.r fun i=>if d.bas i<n then gg (d.bas i)*d.a i j*x (d.fre j) else 0) fun j hj=>by
   rw[← js]; exact zm fun i hi=>by split<;>grind]
  rw[← jr,sgV,← ux]
  refine zm fun i hi=>?_
  by_cases e:d.bas i<n
  ·simp only[if_pos e]
   rw[hx' i hi,zm (n:=d.c) (f:=fun j=>gg (d.bas i)*d.a i j*x (d.fre j)) (g:=fun j=>gg (d.bas i)*(d.a i j*x (d.fre j))) fun j hj=>by grind,nF]
   grind
  ·simp only[if_neg e]
   rw[zM fun j hj=>rfl]
   grind
 have h3:zf d.c (fun j=>sgC n gg d d.r j*x (d.fre j))=zf d.c (fun j=>if d.fre j<n then gg (d.fre j)*x (d.fre j) else 0)-zf d.c fun j=>zf d.r (fun i=>if d.bas i<n then gg (d.bas i)*d.a i j else 0)*x (d.fre j):=by
  rw[← ux]
  refine zm fun j hj=>?_
  unfold sgC
  split<;>grind
 show sgV n gg d d.r+zf d.c (fun j=>sgC n gg d d.r j*x (d.fre j))=_
 rw[h3]
 grind
end
end Go.LP
