/- What the proof rests on, part 10: N29 N30 F2 F3 F4 F6 F7 F8 F9 F10 F12 F13 F14 F15 X0 MR RFx YS Y1 BBs GA CM X1 X2 X3 X4 X5 X6 X7 X8 X8b LP5 X9 X10. -/
import Derived.Test.YtfmcplfbnkoglaaP9
set_option maxRecDepth 100000
set_option maxHeartbeats 4000000
namespace Go.Proofs.Ytfmcplfbnkoglaa
open Go Go.Am Go.Dig
theorem CN {x y j:Nat} (hy:0<y) :
  let r:=2*(x/2^(j+1)%y)+x/2^j%2
  (r<y→x/2^j/y=2*(x/2^(j+1)/y)∧x/2^j%y=r)∧(y≤r→x/2^j/y=2*(x/2^(j+1)/y)+1∧x/2^j%y=r-y):=by
 intro r
 have hX:x/2^j=2*(x/2^(j+1))+x/2^j%2:=by
  have:x/2^(j+1)=x/2^j/2:=by rw[Nat.pow_succ,Nat.div_div_eq_div_mul]
  rw[this]; omega
 have hb:x/2^j%2<2:=Nat.mod_lt _ (by omega)
 have hd:=Nat.div_add_mod (x/2^(j+1)) y
 have hm:=Nat.mod_lt (x/2^(j+1)) hy
 have hr:r=2*(x/2^(j+1)%y)+x/2^j%2:=rfl
 generalize x/2^j%2=b at *
 generalize x/2^(j+1)/y=q at *
 generalize x/2^(j+1)%y=m at *
 generalize x/2^(j+1)=X at *
 generalize x/2^j=Z at *
 have hZ:Z=y*(2*q)+r:=by
  rw[show y*(2*q)=2*(y*q) by rw[Nat.mul_left_comm]]; omega
 clear hX hd
 constructor
 ·intro h
  rw[hZ]
  exact ⟨by rw[Nat.mul_add_div hy,Nat.div_eq_of_lt h,Nat.add_zero],by rw[Nat.mul_add_mod,Nat.mod_eq_of_lt h]⟩
 ·intro h
  have h2:Z=y*(2*q+1)+(r-y):=by rw[Nat.mul_add,Nat.mul_one]; omega
  have h3:r-y<y:=by omega
  rw[h2]
  exact ⟨by rw[Nat.mul_add_div hy,Nat.div_eq_of_lt h3,Nat.add_zero],by rw[Nat.mul_add_mod,Nat.mod_eq_of_lt h3]⟩
theorem Fo {x y:Nat} (hy:0<y):x/2^(bl x+1-bl y)<y∧0<bl y:=by
 have h1:=aaB x
 have hne:y≠0:=by omega
 have hb:bl y=Nat.log2 y+1:=by unfold bl; rw[if_neg hne]
 have h2:=Nat.log2_self_le hne
 refine ⟨Nat.lt_of_lt_of_le ?_ h2,by omega⟩
 apply Nat.div_lt_of_lt_mul
 rw[← Nat.pow_add]
 exact Nat.lt_of_lt_of_le h1 (Nat.pow_le_pow_right (by omega) (by omega))
def qA (t Q:Nat):AV:=if t=0 then .list 0 .full [] else nD Q
def S5 (m1 m2:Am.Mode) (a c:List Nat) (k t:Nat):St :=
 {env:=[(0,nl m1 a),(1,nl m2 c),(8,qA t (val a/2^(k-t)/val c)),(9,nD (val a/2^(k-t)%val c)),(10,iv ((k:Int)-1-t))],sto:=[]}
theorem cn {m1 m2:Am.Mode} {a c:List Nat} (ha:ok a) (hc:ok c) (hna:a.length<68719476736) (hnc:c.length<68719476736) (f1:stm m1=m1) (f2:stm m2=m2) (hD:val c≠0) :
  zd Try.prog nP [nl m1 a,nl m2 c] (co (val a) (val c)):=by
 have hy:0<val c:=by omega
 obtain ⟨s1,s2⟩:=Fo (x:=val a) hy
 have b1:=Po ha (by omega) f1
 have b2:=Po hc (by omega) f2
 have hl1:bl (val a)≤32*a.length:=Jn (by rw[← lI]; exact vm ha)
 have hl2:bl (val c)≤32*c.length:=Jn (by rw[← lI]; exact vm hc)
 obtain ⟨k,hk⟩:∃ k,bl (val a)+1-bl (val c)=k:=⟨_,rfl⟩
 have hk2:k≤32*a.length:=by omega
 have hh:=Bz (k:=k) ha (by omega) (by omega) f1
 have hcl:¬ c.length=0:=fun h=>by
  rw[List.length_eq_zero_iff] at h
  subst h
  exact hD rfl
 have hcn:¬ c=[]:=fun h=>hcl (by rw[h]; rfl)
 rw[hk] at s1
 have m0:max (1:Int) (bl (val c):Int)=(bl (val c):Int):=by omega
 have w0:IntKind.i64.wrap ((bl (val a):Int)-(bl (val c):Int))=(bl (val a):Int)-(bl (val c):Int):=by rw[wrap64]<;>omega
 have w1:IntKind.i64.wrap ((bl (val a):Int)-(bl (val c):Int)+1)=(bl (val a):Int)-(bl (val c):Int)+1:=by rw[wrap64]<;>omega
 have m1':max (0:Int) ((bl (val a):Int)-(bl (val c):Int)+1)=(k:Int):=by omega
 have w2:IntKind.i64.wrap ((k:Int)-1)=(k:Int)-1:=by rw[wrap64]<;>omega
 refine wT G3 (by simp) ?_
 simp[US,hcl]
 refine za b1 (by simp[f1]) (by simp) ?_
 simp
 refine za b2 (by simp[f2]) (by simp) ?_
 simp[m0,w0,w1,m1']
 refine za hh (by simp[f1]) (by simp) ?_
 simp[w2]
 have r0:val a/2^k%val c=val a/2^k:=Nat.mod_eq_of_lt s1
 refine zl (S5 m1 m2 a c k) (fun _=>True) k (by simp[S5,qA,r0]) trivial (fun t ht _=>?_) (fun _=>?_)
 ·obtain ⟨j,hj⟩:∃ j,k-1-t=j:=⟨_,rfl⟩
  have hj1:k-t=j+1:=by omega
  have hj2:k-(t+1)=j:=by omega
  have hjz:(k:Int)-1-t=(j:Int):=by omega
  obtain ⟨p1,p2⟩:=CN (x:=val a) (j:=j) hy
  have hb:=Sk (m:=m1) (i:=j) ha (by omega) (by omega) f1
  have hQ:val a/2^(j+1)/val c<B^a.length:=Nat.lt_of_le_of_lt (Nat.le_trans (Nat.div_le_self _ _) (Nat.div_le_self _ _)) (vm ha)
  have hR:val a/2^(j+1)%val c<B^c.length:=Nat.lt_trans (Nat.mod_lt _ hy) (vm hc)
  have hbt:val a/2^j%2<2:=Nat.mod_lt _ (by omega)
  have hst:S5 m1 m2 a c k (t+1)={env:=[(0,nl m1 a),(1,nl m2 c),(8,nD (val a/2^j/val c)),(9,nD (val a/2^j%val c)),(10,iv ((j:Int)-1))],sto:=[]}:=by
   rw[S5,hj2,qA,if_neg (by omega),show (k:Int)-1-((t+1:Nat):Int)=(j:Int)-1 by omega]
  rw[S5,hj1,hjz]
  have h2:∀ {z n:Nat},z<B^n→z+z<B^(n+1)∧z+z+1<B^(n+1):=fun {z n} h=>by
   rw[Nat.pow_succ]
   have:B^n*2≤B^n*B:=Nat.mul_le_mul_left _ (by decide)
   omega
  have q0:t=0→val a/2^(j+1)/val c=0:=fun h=>by
   have:j+1=k:=by omega
   rw[this]; exact Nat.div_eq_of_lt s1
  generalize val a/2^(j+1)/val c=Q at *
  generalize val a/2^(j+1)%val c=R at *
  generalize val a/2^j%2=d at *
  have lQ:=zE.2 hQ
  have lR:=zE.2 hR
  have lQQ:=zE.2 (h2 hQ).1
  have lRR:=zE.2 (h2 hR).1
  have lRR1:(zf (R+R+d)).length≤c.length+1:=zE.2 (by have:=h2 hR; omega)
  have ld:(zf d).length≤1:=zE.2 (by rw[Nat.pow_one,z5]; omega)
  have kq:=jo (m1:=.plain) (m2:=.plain) (zw Q) (zw Q) (by omega) (by omega) rfl rfl
  have kr:=jo (m1:=.plain) (m2:=.plain) (zw R) (zw R) (by omega) (by omega) rfl rfl
  have kf:=gf (x:=d) (by omega)
  have kr2:=jo (m1:=.plain) (m2:=.plain) (zw (R+R)) (zw d) (by omega) (by omega) rfl rfl
  have kc:=L9 (m1:=.plain) (m2:=m2) (zw (R+R+d)) hc (by omega) (by omega) rfl f2
  have ks:=Rl (m1:=.plain) (m2:=m2) (zw (R+R+d)) hc (by omega) (by omega) rfl f2
  have kf1:=gf (x:=1) (by omega)
  have l1:(zf 1).length≤1:=zE.2 (by decide)
  have kq1:=jo (m1:=.plain) (m2:=.plain) (zw (Q+Q)) (zw 1) (by omega) (by omega) rfl rfl
  simp only[zI] at kq kr kr2 kc ks kq1
  have w3:IntKind.i64.wrap ((j:Int)-1)=(j:Int)-1:=by rw[wrap64]<;>omega
  have kq':zd Try.prog qo [qA t Q,qA t Q] (nD (Q+Q))∧qA t Q=(if t=0 then .list 0 .full [] else nD Q):=by
   refine ⟨?_,rfl⟩
   unfold qA
   split
   ·rename_i h0
    have hq0:=q0 h0
    subst hq0
    exact Zf (gh kq (sC (sz:=0))) (sC (sz:=0))
   ·exact kq
  have hsn:wD (fun _=>none) (qA t Q)=some (qA t Q):=by unfold qA; split<;>simp
  have hrf:([qA t Q,qA t Q]:List AV).any rT=false:=by unfold qA; split<;>simp
  simp[kH]
  refine za kq'.1 (by simp[hsn]) (.inl hrf) ?_
  simp
  refine za kr (by simp) (by simp) ?_
  simp
  refine za hb (by simp[f1]) (by simp) ?_
  simp
  refine za kf (by simp) (by simp) ?_
  simp
  refine za kr2 (by simp) (by simp) ?_
  simp
  refine za kc (by simp[f2]) (by simp) ?_
  have e2:R+R+d=2*R+d:=by omega
  have e3:Q+Q=2*Q:=by omega
  by_cases hlt:R+R+d<val c
  ·have hcm:¬ (0:Int)≤yQ (R+R+d) (val c):=by simp[yQ,hlt]
   obtain ⟨g1,g2⟩:=p1 (by omega)
   rw[g1,g2,← e2,← e3] at hst
   simp[hcm,w3,hst]
  ·have hcm:(0:Int)≤yQ (R+R+d) (val c):=by simp only[yQ,if_neg hlt]; split<;>omega
   obtain ⟨g1,g2⟩:=p2 (by omega)
   rw[g1,g2,← e2,← e3] at hst
   simp[hcm]
   refine za ks (by simp[f2]) (by simp) ?_
   simp
   refine za kf1 (by simp) (by simp) ?_
   simp
   refine za kq1 (by simp) (by simp) ?_
   simp[w3,hst]
 ·have hkk:¬ (k:Int)≤(k:Int)-1:=by omega
  have e0:¬ (0:Int)≤(k:Int)-1-k:=by omega
  simp[kH,S5,hkk,bK,TE]
  rcases Nat.eq_zero_or_pos k with h0 | h0
  ·subst h0
   have hz:val a/val c=0:=by rw[Nat.pow_zero,Nat.div_one] at s1; exact Nat.div_eq_of_lt s1
   simp[qA]
   rw[co,hz]
   exact Nf sC AV.imp.refl AV.imp.refl
  ·have hk0:¬ k=0:=by omega
   simp[qA,hk0]
   exact AV.imp.refl
theorem Km {A D:Nat} (hna:(zf A).length<68719476736) (hnc:(zf D).length<68719476736) :
  zd Try.prog eP [nD A,nD D] (nD (Nat.gcd A D)):=by
 obtain ⟨N,h1,h2⟩:=FY D A
 obtain ⟨L,hL⟩:∃ L,L=68719476735:=⟨_,rfl⟩
 have hL1:A<B^L:=zE.1 (by omega)
 have hL2:D<B^L:=zE.1 (by omega)
 have hb:=fun k=>JC k A D hL1 hL2
 have hlen:∀ x,x<B^L→(zf x).length<68719476736:=fun x hx=>Nat.lt_of_le_of_lt (zE.2 hx) (by omega)
 have hg:=hlen _ (show Nat.gcd A D<B^L by have:=(hb N).1; rw[h2] at this; exact this)
 refine zD adl (by simp) ?_
 simp[L6]
 refine zl (fun k=>stG (eu A D k)) (fun _=>True) N (by simp[stG,eu]) trivial (fun k hk _=>?_) (fun _=>?_)
 ·have hne:=h1 k hk
  obtain ⟨b1,b2⟩:=hb k
  have b1':=hlen _ b1
  have b2':=hlen _ b2
  have hs:=Sy k A D
  obtain ⟨x,hx⟩:∃ x,(eu A D k).1=x:=⟨_,rfl⟩
  obtain ⟨y,hy⟩:∃ y,(eu A D k).2=y:=⟨_,rfl⟩
  rw[hx,hy] at hs
  rw[hx] at b1'
  rw[hy] at b2' hne
  have kd:=cn (m1:=.plain) (m2:=.plain) (zw x) (zw y) b1' b2' rfl rfl (by rw[zI]; exact hne)
  rw[zI,zI] at kd
  have hl0:0<(zf y).length:=by
   rcases Nat.eq_zero_or_pos (zf y).length with h | h
   ·rw[List.length_eq_zero_iff,yE] at h; exact absurd h hne
   ·exact h
  simp[cc,stG,hl0,hx,hy]
  refine za kd (by simp) (by simp) ?_
  simp[hs]
 ·simp only[h2]
  have kt:=nc (m:=.plain) (zw (Nat.gcd A D)) (by omega)
  rw[zI] at kt
  simp[cc,UT,K4,stG,yd]
  refine za kt (by simp) (by simp) ?_
  simp
theorem gl {neg:Bool} {N D:Nat} (hN:(zf N).length<68719476736) (hD:(zf D).length<68719476736) (h0:D≠0) :
  zd Try.prog pP [bv neg,nD N,nD D] (.tuple [xk neg N D,iv 0]):=by
 obtain ⟨g0,g1,g2⟩:=P8 (N:=N) h0
 have kg:=Km hN hD
 have hgl:(zf (Nat.gcd N D)).length<68719476736:=by
  have h1:D<B^(zf D).length:=zE.1 (Nat.le_refl _)
  exact Nat.lt_of_le_of_lt (zE.2 (Nat.lt_of_le_of_lt g2 h1)) hD
 have hl0:¬ (zf D).length=0:=by rw[List.length_eq_zero_iff,yE]; exact h0
 have hl1:¬ zf D=[]:=by rw[yE]; exact h0
 unfold xk
 have hz:(zf (N/Nat.gcd N D)).length=0↔N=0:=by rw[List.length_eq_zero_iff,yE]; exact g1
 generalize Nat.gcd N D=g at *
 have kn:=cn (m1:=.plain) (m2:=.plain) (zw N) (zw g) (by omega) (by omega) rfl rfl (by rw[zI]; exact g0)
 have kd:=cn (m1:=.plain) (m2:=.plain) (zw D) (zw g) (by omega) (by omega) rfl rfl (by rw[zI]; exact g0)
 simp only[zI] at kn kd
 refine zD aar (by simp) ?_
 simp[Px,hl0]
 refine za kg (by simp) (by simp) ?_
 simp
 refine za kn (by simp) (by simp) ?_
 simp
 refine za kd (by simp) (by simp) ?_
 cases neg
 ·simp[cU]
 ·by_cases hN0:N=0
  ·subst hN0
   simp[cU,yd]
  ·have:0<(zf N).length:=by
    rcases Nat.eq_zero_or_pos (zf N).length with h | h
    ·rw[List.length_eq_zero_iff,yE] at h; exact absurd h hN0
    ·exact h
   simp[cU,this,hN0]
theorem TL {n:Int} (h1:-9223372036854775808≤n) (h2:n<9223372036854775808):zd Try.prog dO [iv n] (nD n.natAbs):=by
 obtain ⟨x,hx⟩:∃ x,n.natAbs=x:=⟨_,rfl⟩
 have hxl:x<18446744073709551616:=by omega
 have k:=gf (x:=x) hxl
 rw[hx]
 refine zD aat (by simp) ?_
 by_cases h:n<0
 ·have w1:IntKind.i64.wrap (n+1)=n+1:=by rw[wrap64]<;>omega
  have w2:IntKind.i64.wrap (-(n+1))=(x:Int)-1:=by rw[wrap64]<;>omega
  have w2':IntKind.i64.wrap (-1+-n)=(x:Int)-1:=by rw[wrap64]<;>omega
  have w3:IntKind.u64.wrap ((x:Int)-1)=(x:Int)-1:=by rw[vL]<;>omega
  have w4:IntKind.u64.wrap (x:Int)=x:=w64 hxl
  simp[Xu,h,w1,NB,w2,w3,w4]
  refine za k (by simp) (by simp) ?_
  simp[X1]
 ·have w4:IntKind.u64.wrap n=(x:Int):=by rw[vL]<;>omega
  simp[Xu,h,w4]
  refine za k (by simp) (by simp) ?_
  simp[X1]
theorem ab4 {n d:Int} (h1:-9223372036854775808≤n) (h2:n<9223372036854775808) (h3:-9223372036854775808≤d) (h4:d<9223372036854775808) (h0:d≠0) :
  zd Try.prog Sg [iv n,iv d] (.tuple [xk (decide (n<0) != decide (d<0)) n.natAbs d.natAbs,iv 0]):=by
 have k1:=TL h1 h2
 have k2:=TL h3 h4
 have l1:=qz (x:=n.natAbs) (by omega)
 have l2:=qz (x:=d.natAbs) (by omega)
 have k3:=gl (neg:=decide (n<0) != decide (d<0)) (N:=n.natAbs) (D:=d.natAbs) (by omega) (by omega) (by omega)
 unfold xk at *
 generalize n.natAbs/Nat.gcd n.natAbs d.natAbs=p at *
 generalize d.natAbs/Nat.gcd n.natAbs d.natAbs=q at *
 generalize hb:(decide (n<0) != decide (d<0))=b at *
 refine zD adg (by simp) ?_
 have hu:Try.prog.underlying va=some .bool:=by first | exact un_T_bool | rfl | kernel_rfl
 have hb':(!(decide (n<0) == decide (d<0)))=b:=hb
 simp[L1,yJ hu]
 rw[hb']
 refine za k1 (by simp) (by simp) ?_
 simp
 refine za k2 (by simp) (by simp) ?_
 simp
 refine za k3 (by simp) (by simp) ?_
 simp[KZ]
theorem M7 {n:Int} (h1:-9223372036854775808≤n) (h2:n<9223372036854775808):zd Try.prog xD [iv n] (xk (decide (n<0)) n.natAbs 1):=by
 have k:=ab4 (n:=n) (d:=1) h1 h2 (by decide) (by decide) (by decide)
 have e:(decide (n<0) != decide ((1:Int)<0))=decide (n<0):=by simp
 rw[e,show (1:Int).natAbs=1 from rfl] at k
 unfold xk at *
 generalize n.natAbs/Nat.gcd n.natAbs 1=p at *
 generalize 1/Nat.gcd n.natAbs 1=q at *
 refine zD LE (by simp) ?_
 simp[YW]
 refine za k (by simp) (by simp) ?_
 simp[Xe]
theorem EH {s:Bool} {N D:Nat} (hN:(zf N).length<68719476736) (hD:(zf D).length<68719476736) (h0:D≠0):zd Try.prog qj [frA s N D] (xk (!s) N D):=by
 have k:=qG (neg:=!s) hN hD h0
 unfold xk at *
 generalize N/Nat.gcd N D=p at *
 generalize D/Nat.gcd N D=q at *
 refine zD ac3 (by simp) ?_
 simp[LS]
 refine za k (by simp) (by simp) ?_
 simp[KR]
theorem vw {x y n m:Nat} (hx:(zf x).length≤n) (hy:(zf y).length≤m):(zf (x*y)).length≤n+m:=zE.2 (by
 rw[Nat.pow_add]; exact Nat.mul_lt_mul_of_lt_of_lt (zE.1 hx) (zE.1 hy))
theorem J1 {s t:Bool} {N D M E:Nat} (hN:(zf N).length<17179869184) (hD:(zf D).length<17179869184) (hM:(zf M).length<17179869184) (hE:(zf E).length<17179869184) (h0:D≠0) (h1:E≠0) :
  zd Try.prog vq [frA s N D,frA t M E] (xk (!(s == t)) (N*M) (D*E)):=by
 have l1:=vw (Nat.le_refl (zf N).length) (Nat.le_refl (zf M).length)
 have l2:=vw (Nat.le_refl (zf D).length) (Nat.le_refl (zf E).length)
 have h2:D*E≠0:=Nat.mul_ne_zero h0 h1
 have k1:=r4 (m1:=.plain) (m2:=.plain) (zw N) (zw M) (by omega) (by omega) (by omega) rfl rfl
 have k2:=r4 (m1:=.plain) (m2:=.plain) (zw D) (zw E) (by omega) (by omega) (by omega) rfl rfl
 simp only[zI] at k1 k2
 have k:=qG (neg:=!(s == t)) (N:=N*M) (D:=D*E) (by omega) (by omega) h2
 unfold xk at *
 generalize N*M/Nat.gcd (N*M) (D*E)=p at *
 generalize D*E/Nat.gcd (N*M) (D*E)=q at *
 refine zD ac2 (by simp) ?_
 simp[LR,yJ wU]
 refine za k1 (by simp) (by simp) ?_
 simp
 refine za k2 (by simp) (by simp) ?_
 simp
 refine za k (by simp) (by simp) ?_
 simp[KQ]
theorem YZ {s t:Bool} {N D M E:Nat} (hN:(zf N).length<17179869184) (hD:(zf D).length<17179869184) (hM:(zf M).length<17179869184) (hE:(zf E).length<17179869184) :
  zd Try.prog gN [frA s N D,frA t M E] (.tuple [nD (N*E),nD (M*D)]):=by
 have k1:=r4 (m1:=.plain) (m2:=.plain) (zw N) (zw E) (by omega) (by omega) (by omega) rfl rfl
 have k2:=r4 (m1:=.plain) (m2:=.plain) (zw M) (zw D) (by omega) (by omega) (by omega) rfl rfl
 simp only[zI] at k1 k2
 refine zD Cc (by simp) ?_
 simp[RA]
 refine za k1 (by simp) (by simp) ?_
 simp
 refine za k2 (by simp) (by simp) ?_
 simp[Qd]
def Si (s:Bool) (N D:Nat) (t:Bool) (M E:Nat):AV :=
 if s=t then xk s (N*E+M*D) (D*E) else if N*E<M*D then xk t (M*D-N*E) (D*E) else xk s (N*E-M*D) (D*E)
theorem LK {x y n:Nat} (hx:(zf x).length≤n) (hy:(zf y).length≤n):(zf (x+y)).length≤n+1:=zE.2 (by
 have h1:=zE.1 hx
 have h2:=zE.1 hy
 rw[Nat.pow_succ]
 have:B^n*2≤B^n*B:=Nat.mul_le_mul_left _ (by decide)
 omega)
theorem YI {x y n:Nat} (hx:(zf x).length≤n):(zf (x-y)).length≤n:=zE.2 (Nat.lt_of_le_of_lt (Nat.sub_le _ _) (zE.1 hx))
theorem pY (s:Bool) (N D:Nat):∃ b p q,xk s N D=.agg [bv b,nD p,nD q]:=⟨_,_,_,rfl⟩
theorem Jj {s t:Bool} {N D M E:Nat} (hN:(zf N).length<17179869184) (hD:(zf D).length<17179869184) (hM:(zf M).length<17179869184) (hE:(zf E).length<17179869184) (h0:D≠0) (h1:E≠0) :
  zd Try.prog sO [frA s N D,frA t M E] (Si s N D t M E):=by
 have l1:=vw (Nat.le_refl (zf N).length) (Nat.le_refl (zf E).length)
 have l2:=vw (Nat.le_refl (zf M).length) (Nat.le_refl (zf D).length)
 have l3:=vw (Nat.le_refl (zf D).length) (Nat.le_refl (zf E).length)
 have h2:D*E≠0:=Nat.mul_ne_zero h0 h1
 have kx:=YZ (s:=s) (t:=t) hN hD hM hE
 have kd:=r4 (m1:=.plain) (m2:=.plain) (zw D) (zw E) (by omega) (by omega) (by omega) rfl rfl
 simp only[zI] at kd
 have l4:=LK (n:=34359738368) (show (zf (N*E)).length≤34359738368 by omega) (show (zf (M*D)).length≤34359738368 by omega)
 have l5:=YI (y:=M*D) l1
 have l6:=YI (y:=N*E) l2
 have ka:=gS (m1:=.plain) (m2:=.plain) (zw (N*E)) (zw (M*D)) (by omega) (by omega)
 have ks:=Qq (m1:=.plain) (m2:=.plain) (zw (N*E)) (zw (M*D)) (by omega) (by omega)
 have ks2:=Qq (m1:=.plain) (m2:=.plain) (zw (M*D)) (zw (N*E)) (by omega) (by omega)
 simp only[zI] at ka ks ks2
 have m1:=qG (neg:=s) (N:=N*E+M*D) (D:=D*E) (by omega) (by omega) h2
 have m2:=qG (neg:=s) (N:=N*E-M*D) (D:=D*E) (by omega) (by omega) h2
 have m3:=qG (neg:=t) (N:=M*D-N*E) (D:=D*E) (by omega) (by omega) h2
 unfold Si
 refine zD acZ (by simp) ?_
 generalize N*E=x at *
 generalize M*D=y at *
 generalize D*E=d at *
 by_cases hst:s=t
 ·have e:(s == t)=true:=by simp[hst]
  obtain ⟨b,p,q,hf⟩:=pY s (x+y) d
  rw[if_pos hst,hf]
  rw[hf] at m1
  simp[Sm]
  refine za kx (by simp) (by simp) ?_
  simp
  refine za kd (by simp) (by simp) ?_
  simp[sK wU,e]
  refine za ka (by simp) (by simp) ?_
  simp
  refine za m1 (by simp) (by simp) ?_
  simp[Ys]
 ·have e:(s == t)=false:=by simp[hst]
  rw[if_neg hst]
  simp[Sm]
  refine za kx (by simp) (by simp) ?_
  simp
  refine za kd (by simp) (by simp) ?_
  simp[sK wU,e]
  refine za ks (by simp) (by simp) ?_
  by_cases hlt:x<y
  ·obtain ⟨b,p,q,hf⟩:=pY t (y-x) d
   rw[if_pos hlt,hf]
   rw[hf] at m3
   have hge:¬ y<x:=by omega
   rw[if_neg hge] at ks2
   simp[hlt]
   refine za ks2 (by simp) (by simp) ?_
   simp
   refine za m3 (by simp) (by simp) ?_
   simp[Ys]
  ·obtain ⟨b,p,q,hf⟩:=pY s (x-y) d
   rw[if_neg hlt,hf]
   rw[hf] at m2
   simp[hlt]
   refine za m2 (by simp) (by simp) ?_
   simp[Ys]
theorem ab2 {s:Bool} {N D:Nat} (hN:(zf N).length<68719476736) (_hD:(zf D).length<68719476736):zd Try.prog Z7 [frA s N D] (frA (!s&&decide (N≠0)) N D):=by
 refine zD adf (by simp) ?_
 cases s
 ·by_cases h0:N=0
  ·subst h0
   simp[Yd,Yv,yd]
  ·have:0<(zf N).length:=by
    rcases Nat.eq_zero_or_pos (zf N).length with h | h
    ·rw[List.length_eq_zero_iff,yE] at h; exact absurd h h0
    ·exact h
   simp[Yd,Yv,this,h0]
 ·simp[Yd,Yv]
theorem BM {s t:Bool} {N D M E:Nat} (hN:(zf N).length<17179869184) (hD:(zf D).length<17179869184) (hM:(zf M).length<17179869184) (hE:(zf E).length<17179869184) (h0:D≠0) (h1:E≠0) :
  zd Try.prog jl [frA s N D,frA t M E] (xk (!(s == t)) (N*M) (D*E)):=by
 have l1:=vw (Nat.le_refl (zf N).length) (Nat.le_refl (zf M).length)
 have l2:=vw (Nat.le_refl (zf D).length) (Nat.le_refl (zf E).length)
 have h2:D*E≠0:=Nat.mul_ne_zero h0 h1
 have k1:=dw (m1:=.plain) (m2:=.plain) (zw N) (zw M) (by omega) rfl rfl
 have k2:=dw (m1:=.plain) (m2:=.plain) (zw D) (zw E) (by omega) rfl rfl
 simp only[zI] at k1 k2
 have k:=gl (neg:=!(s == t)) (N:=N*M) (D:=D*E) (by omega) (by omega) h2
 obtain ⟨b,p,q,hf⟩:=pY (!(s == t)) (N*M) (D*E)
 rw[hf] at k ⊢
 refine zD ade (by simp) ?_
 simp[L0,yJ wU]
 refine za k1 (by simp) (by simp) ?_
 simp
 refine za k2 (by simp) (by simp) ?_
 simp
 refine za k (by simp) (by simp) ?_
 simp[KY]
theorem Cx {s t:Bool} {N D M E:Nat} (hN:(zf N).length<17179869184) (hD:(zf D).length<17179869184) (hM:(zf M).length<17179869184) (hE:(zf E).length<17179869184) (h0:D≠0) (h1:E≠0) :
  zd Try.prog nf [frA s N D,frA t M E] (Si s N D t M E):=by
 have l1:=vw (Nat.le_refl (zf N).length) (Nat.le_refl (zf E).length)
 have l2:=vw (Nat.le_refl (zf M).length) (Nat.le_refl (zf D).length)
 have l3:=vw (Nat.le_refl (zf D).length) (Nat.le_refl (zf E).length)
 have h2:D*E≠0:=Nat.mul_ne_zero h0 h1
 have kx:=dw (m1:=.plain) (m2:=.plain) (zw N) (zw E) (by omega) rfl rfl
 have ky:=dw (m1:=.plain) (m2:=.plain) (zw M) (zw D) (by omega) rfl rfl
 have kd:=dw (m1:=.plain) (m2:=.plain) (zw D) (zw E) (by omega) rfl rfl
 simp only[zI] at kd kx ky
 have l4:=LK (n:=34359738368) (show (zf (N*E)).length≤34359738368 by omega) (show (zf (M*D)).length≤34359738368 by omega)
 have l5:=YI (y:=M*D) l1
 have l6:=YI (y:=N*E) l2
 have ka:=jo (m1:=.plain) (m2:=.plain) (zw (N*E)) (zw (M*D)) (by omega) (by omega) rfl rfl
 have ks:=Rl (m1:=.plain) (m2:=.plain) (zw (N*E)) (zw (M*D)) (by omega) (by omega) rfl rfl
 have ks2:=Rl (m1:=.plain) (m2:=.plain) (zw (M*D)) (zw (N*E)) (by omega) (by omega) rfl rfl
 simp only[zI] at ka ks ks2
 have m1:=gl (neg:=s) (N:=N*E+M*D) (D:=D*E) (by omega) (by omega) h2
 have m2:=gl (neg:=s) (N:=N*E-M*D) (D:=D*E) (by omega) (by omega) h2
 have m3:=gl (neg:=t) (N:=M*D-N*E) (D:=D*E) (by omega) (by omega) h2
 unfold Si
 refine zD adb (by simp) ?_
 generalize N*E=x at *
 generalize M*D=y at *
 generalize D*E=d at *
 by_cases hst:s=t
 ·have e:(s == t)=true:=by simp[hst]
  obtain ⟨b,p,q,hf⟩:=pY s (x+y) d
  rw[if_pos hst,hf]
  rw[hf] at m1
  simp[Sp]
  refine za kx (by simp) (by simp) ?_
  simp
  refine za ky (by simp) (by simp) ?_
  simp
  refine za kd (by simp) (by simp) ?_
  simp[sK wU,e]
  refine za ka (by simp) (by simp) ?_
  simp
  refine za m1 (by simp) (by simp) ?_
  simp[Yu]
 ·have e:(s == t)=false:=by simp[hst]
  rw[if_neg hst]
  simp[Sp]
  refine za kx (by simp) (by simp) ?_
  simp
  refine za ky (by simp) (by simp) ?_
  simp
  refine za kd (by simp) (by simp) ?_
  simp[sK wU,e]
  refine za ks (by simp) (by simp) ?_
  by_cases hlt:x<y
  ·obtain ⟨b,p,q,hf⟩:=pY t (y-x) d
   rw[if_pos hlt,hf]
   rw[hf] at m3
   have hge:¬ y≤x:=by omega
   simp[hge]
   refine za ks2 (by simp) (by simp) ?_
   simp
   refine za m3 (by simp) (by simp) ?_
   simp[Yu]
  ·obtain ⟨b,p,q,hf⟩:=pY s (x-y) d
   rw[if_neg hlt,hf]
   rw[hf] at m2
   have hle:y≤x:=by omega
   simp[hle]
   refine za m2 (by simp) (by simp) ?_
   simp[Yu]
theorem KF (p q:Rat):xk (!(decide (p.num<0) == decide (q.num<0))) (p.num.natAbs*q.num.natAbs) (p.den*q.den)=yp (p*q):=by
 have h:p.den*q.den≠0:=Nat.mul_ne_zero p.den_nz q.den_nz
 rw[tP h,Rat.mul_def']
 congr 2
 have e1:=mi p.num
 have e2:=mi q.num
 generalize p.num.natAbs=x at *
 generalize q.num.natAbs=y at *
 generalize decide (p.num<0)=s at *
 generalize decide (q.num<0)=t at *
 rw[← e1,← e2]
 cases s<;>cases t<;>simp[sg,Int.neg_mul,Int.mul_neg]
theorem LL (p q:Rat):Si (decide (p.num<0)) p.num.natAbs p.den (decide (q.num<0)) q.num.natAbs q.den=yp (p+q):=by
 have h:p.den*q.den≠0:=Nat.mul_ne_zero p.den_nz q.den_nz
 have e1:=mi p.num
 have e2:=mi q.num
 unfold Si
 rw[tP h,tP h,tP h,Rat.add_def']
 generalize p.num.natAbs=x at *
 generalize q.num.natAbs=y at *
 generalize decide (p.num<0)=s at *
 generalize decide (q.num<0)=t at *
 rw[← e1,← e2]
 have a1:((x*q.den:Nat):Int)=(x:Int)*q.den:=Int.natCast_mul _ _
 have a2:((y*p.den:Nat):Int)=(y:Int)*p.den:=Int.natCast_mul _ _
 generalize hX:x*q.den=X at *
 generalize hY:y*p.den=Y at *
 cases s<;>cases t
 ·simp only[if_true]; congr 2; simp[sg]; omega
 ·simp only[Bool.false_eq_true,if_false]
  split<;>(congr 2; simp only[sg,if_true,Bool.false_eq_true,if_false,Int.neg_mul]; omega)
 ·simp only[Bool.true_eq_false,if_false]
  split<;>(congr 2; simp only[sg,if_true,Bool.false_eq_true,if_false,Int.neg_mul]; omega)
 ·simp only[if_true]; congr 2; simp only[sg,if_true,Int.neg_mul]; omega
open Go.LP
theorem Eq {K x:Nat} (h:x≤2^K):(zf x).length≤K/32+1:=zE.2 (by
 have:B^(K/32+1)=2^(32*(K/32+1)):=by rw[show B=2^32 from rfl,← Nat.pow_mul]
 rw[this]
 exact Nat.lt_of_le_of_lt h (Nat.pow_lt_pow_right (by omega) (by omega)))
theorem vO {K:Nat} {q:Rat} (h:sz K q):(zf q.num.natAbs).length≤K/32+1∧(zf q.den).length≤K/32+1:=⟨Eq h.1,Eq h.2⟩
theorem aeO (s:Bool) (N:Nat):sg (!s) N=-sg s N:=by cases s<;>simp[sg]
theorem XD (q:Rat):mkRat (sg (decide (q.num<0)) q.num.natAbs) q.den=q:=by rw[mi,Rat.mkRat_self]
theorem ab1 (q:Rat):xk (!decide (q.num<0)) q.num.natAbs q.den=yp (-q):=by
 rw[tP q.den_nz,aeO,← Rat.neg_mkRat,XD]
theorem abv (p q:Rat) (h:q≠0):xk (!(decide (p.num<0) == decide (q.num<0))) (p.num.natAbs*q.den) (p.den*q.num.natAbs)=yp (p/q):=by
 have hq:q.num.natAbs≠0:=fun e=>h (Rat.num_eq_zero.1 (by omega))
 have hd:p.den*q.num.natAbs≠0:=Nat.mul_ne_zero p.den_nz hq
 rw[tP hd]
 congr 1
 have e1:=mi p.num
 have e2:=mi q.num
 have e3:=XD p
 have e4:=XD q
 have hx:p/q=mkRat (sg (decide (p.num<0)) p.num.natAbs) p.den*(Rat.divInt (q.den:Int) (sg (decide (q.num<0)) q.num.natAbs)):=by
  rw[e3,e2,Rat.div_def,Rat.inv_def]
 rw[hx]
 generalize p.num.natAbs=x at *
 generalize q.num.natAbs=y at *
 generalize decide (p.num<0)=s at *
 generalize decide (q.num<0)=t at *
 have hy:(y:Int)≠0:=by omega
 cases t
 ·have:Rat.divInt (q.den:Int) (sg false y)=mkRat q.den y:=rfl
  rw[this,Rat.mkRat_mul_mkRat]
  congr 1
  cases s<;>simp[sg,Int.neg_mul]
 ·have:Rat.divInt (q.den:Int) (sg true y)=mkRat (-q.den) y:=by
   rw[show sg true y=-(y:Int) from rfl,Rat.divInt_neg']; rfl
  rw[this,Rat.mkRat_mul_mkRat]
  congr 1
  cases s<;>simp[sg,Int.neg_mul,Int.mul_neg]
section
variable {K:Nat} {p q:Rat} (hK:K≤137438953472) (hp:sz K p) (hq:sz K q)
include hK hp
theorem NA:zd Try.prog qj [yp p] (yp (-p)):=by
 have h1:=vO hp
 rw[← ab1]
 exact EH (by omega) (by omega) p.den_nz
include hq
theorem BN:zd Try.prog vq [yp p,yp q] (yp (p*q)):=by
 have h1:=vO hp
 have h2:=vO hq
 rw[← KF]
 exact J1 (by omega) (by omega) (by omega) (by omega) p.den_nz q.den_nz
theorem Pg:zd Try.prog sO [yp p,yp q] (yp (p+q)):=by
 have h1:=vO hp
 have h2:=vO hq
 rw[← LL]
 exact Jj (by omega) (by omega) (by omega) (by omega) p.den_nz q.den_nz
theorem aak:zd Try.prog nd [yp p,yp q] (yp (p-q)):=by
 have k1:=NA hK hq
 have k2:=Pg hK hp (qe hq)
 rw[Rat.sub_eq_add_neg]
 obtain ⟨a,ha⟩:∃ a,a=p+-q:=⟨_,rfl⟩
 obtain ⟨b,hb⟩:∃ b,b=-q:=⟨_,rfl⟩
 rw[← ha] at k2 ⊢
 rw[← hb] at k1 k2
 refine zD ac5 (by simp) ?_
 simp[LU]
 refine za k1 (by simp) (by simp) ?_
 simp
 refine za k2 (by simp) (by simp) ?_
 simp[KU]
theorem C9 (h:q≠0):zd Try.prog ji [yp p,yp q] (.tuple [yp (p/q),iv 0]):=by
 have h1:=vO hp
 have h2:=vO hq
 have hq0:q.num.natAbs≠0:=fun e=>h (Rat.num_eq_zero.1 (by omega))
 rw[← abv p q h]
 have l1:=vw h1.1 h2.2
 have l2:=vw h1.2 h2.1
 have k1:=r4 (m1:=.plain) (m2:=.plain) (zw p.num.natAbs) (zw q.den) (by omega) (by omega) (by omega) rfl rfl
 have k2:=r4 (m1:=.plain) (m2:=.plain) (zw p.den) (zw q.num.natAbs) (by omega) (by omega) (by omega) rfl rfl
 simp only[zI] at k1 k2
 have k:=cF (neg:=!(decide (p.num<0) == decide (q.num<0))) (N:=p.num.natAbs*q.den) (D:=p.den*q.num.natAbs) (by omega) (by omega) (Nat.mul_ne_zero p.den_nz hq0)
 unfold yp
 generalize p.num.natAbs=a at *
 generalize q.num.natAbs=b at *
 generalize decide (p.num<0)=s at *
 generalize decide (q.num<0)=t at *
 unfold xk at *
 generalize a*q.den/Nat.gcd (a*q.den) (p.den*b)=x at *
 generalize p.den*b/Nat.gcd (a*q.den) (p.den*b)=y at *
 refine zD ac1 (by simp) ?_
 simp[LQ,yJ wU]
 refine za k1 (by simp) (by simp) ?_
 simp
 refine za k2 (by simp) (by simp) ?_
 simp
 refine za k (by simp) (by simp) ?_
 simp[KP]
end
def xV (p q:Rat):Int:=if p<q then -1 else if q<p then 1 else 0
def yA (q:Rat):Int:=if q=0 then 0 else if q<0 then -1 else 1
theorem sS {q:Rat}:q.num<0↔q<0:=by
 have:=Rat.lt_iff q 0
 simpa using this.symm
theorem abh (p q:Rat):xV p q=if p.num*q.den<q.num*p.den then -1 else if q.num*p.den<p.num*q.den then 1 else 0:=by
 unfold xV
 simp only[Rat.lt_iff]
theorem abj (p q:Rat):(if decide (p.num<0)=decide (q.num<0) then (if decide (p.num<0)=true then yQ (q.num.natAbs*p.den) (p.num.natAbs*q.den) else yQ (p.num.natAbs*q.den) (q.num.natAbs*p.den))
  else if decide (p.num<0)=true then -1 else 1)=xV p q:=by
 have d1:(0:Int)<p.den:=by have:=p.den_pos; omega
 have d2:(0:Int)<q.den:=by have:=q.den_pos; omega
 rw[abh]
 unfold yQ
 have a1:((p.num.natAbs*q.den:Nat):Int)=(p.num.natAbs:Int)*q.den:=Int.natCast_mul _ _
 have a2:((q.num.natAbs*p.den:Nat):Int)=(q.num.natAbs:Int)*p.den:=Int.natCast_mul _ _
 by_cases h1:p.num<0<;>by_cases h2:q.num<0
 ·have e1:(p.num.natAbs:Int)=-p.num:=by omega
  have e2:(q.num.natAbs:Int)=-q.num:=by omega
  rw[e1,Int.neg_mul] at a1
  rw[e2,Int.neg_mul] at a2
  simp only[h1,h2,if_true,decide_true]
  generalize p.num*q.den=x at *
  generalize q.num*p.den=y at *
  repeat' split
  all_goals first | rfl | omega
 ·have m1:p.num*q.den<0:=Int.mul_neg_of_neg_of_pos h1 d2
  have m2:0≤q.num*p.den:=Int.mul_nonneg (by omega) (by omega)
  simp only[h1,h2,decide_true,decide_false,Bool.true_eq_false,if_false,if_true]
  rw[if_pos (by omega)]
 ·have m1:0≤p.num*q.den:=Int.mul_nonneg (by omega) (by omega)
  have m2:q.num*p.den<0:=Int.mul_neg_of_neg_of_pos h2 d1
  simp only[h1,h2,decide_true,decide_false,Bool.false_eq_true,if_false]
  rw[if_neg (by omega),if_pos (by omega)]
 ·have e1:(p.num.natAbs:Int)=p.num:=by omega
  have e2:(q.num.natAbs:Int)=q.num:=by omega
  rw[e1] at a1
  rw[e2] at a2
  simp only[h1,h2,decide_false,if_true,Bool.false_eq_true,if_false]
  generalize p.num*q.den=x at *
  generalize q.num*p.den=y at *
  repeat' split
  all_goals first | rfl | omega
theorem DE {q:Rat}:zd Try.prog xw [yp q] (iv (yA q)):=by
 unfold yA yp
 refine zD aan (by simp) ?_
 by_cases h0:q=0
 ·subst h0
  simp[dX,cT,yd]
 ·have hn:q.num.natAbs≠0:=fun e=>h0 (Rat.num_eq_zero.1 (by omega))
  have hl0:¬ zf q.num.natAbs=[]:=by rw[yE]; exact hn
  have hl:¬ (zf q.num.natAbs).length=0:=by rw[List.length_eq_zero_iff]; exact hl0
  have hli:¬ ((zf q.num.natAbs).length:Int)=0:=by omega
  by_cases h1:q<0
  ·have h2:=sS.2 h1
   simp[dX,cT,h0,h1,hl,h2]
  ·have h2:¬ q.num<0:=fun h=>h1 (sS.1 h)
   simp[dX,cT,h0,h1,hl,h2]
theorem C0 {K:Nat} {p q:Rat} (hK:K≤137438953472) (hp:sz K p) (hq:sz K q):zd Try.prog mC [yp p,yp q] (iv (xV p q)):=by
 have h1:=vO hp
 have h2:=vO hq
 rw[← abj]
 have l1:=vw h1.1 h2.2
 have l2:=vw h2.1 h1.2
 have kx:=YZ (s:=decide (p.num<0)) (t:=decide (q.num<0)) (N:=p.num.natAbs) (D:=p.den) (M:=q.num.natAbs) (E:=q.den) (by omega) (by omega) (by omega) (by omega)
 have k1:=lV (m1:=.plain) (m2:=.plain) (zw (p.num.natAbs*q.den)) (zw (q.num.natAbs*p.den)) (by omega) (by omega)
 have k2:=lV (m1:=.plain) (m2:=.plain) (zw (q.num.natAbs*p.den)) (zw (p.num.natAbs*q.den)) (by omega) (by omega)
 simp only[zI] at k1 k2
 unfold yp
 generalize p.num.natAbs*q.den=x at *
 generalize q.num.natAbs*p.den=y at *
 generalize decide (p.num<0)=s at *
 generalize decide (q.num<0)=t at *
 refine zD ac0 (by simp) ?_
 by_cases hst:s=t
 ·have e:(s == t)=true:=by simp[hst]
  rw[if_pos hst]
  simp[Sn,yJ wU,e]
  refine za kx (by simp) (by simp) ?_
  cases s
  ·simp
   refine za k1 (by simp) (by simp) ?_
   simp[Yt]
  ·simp
   refine za k2 (by simp) (by simp) ?_
   simp[Yt]
 ·have e:(s == t)=false:=by simp[hst]
  rw[if_neg hst]
  cases s<;>simp[Sn,yJ wU,e,Yt]
def vfr (s:Bool) (a c:List Nat):Bool :=
 decide (a=zf (val a))&&decide (c=zf (val c))&&!decide (c=[])&&!(s&&decide (a=[]))&&(Nat.gcd (val a) (val c) == 1)
theorem aaz (q:Rat):vfr (decide (q.num<0)) (zf q.num.natAbs) (zf q.den)=true:=by
 have h1:¬ q.den=0:=q.den_nz
 have h2:Nat.gcd q.num.natAbs q.den=1:=q.reduced
 have h3:¬ (q.num<0∧q.num.natAbs=0):=by omega
 simp only[vfr,zI,yE,h1,h2,beq_self_eq_true,decide_true,Bool.true_and,Bool.and_true,decide_false,Bool.not_false,Bool.not_eq_true',Bool.and_eq_false_iff,decide_eq_false_iff_not]
 by_cases hn:q.num<0
 ·right; omega
 ·left; exact hn
theorem adu {s:Bool} {a c:List Nat} (h:vfr s a c=true):∃ q:Rat,s=decide (q.num<0)∧a=zf q.num.natAbs∧c=zf q.den:=by
 simp only[vfr,Bool.and_eq_true,beq_iff_eq,decide_eq_true_eq,Bool.not_eq_true',decide_eq_false_iff_not,Bool.and_eq_false_iff] at h
 obtain ⟨⟨⟨⟨h1,h2⟩,h3⟩,h4⟩,h5⟩:=h
 have hc:val c≠0:=fun e=>h3 (by rw[h2,e,yd])
 have hs:(sg s (val a)).natAbs=val a:=by unfold sg; split<;>omega
 refine ⟨⟨sg s (val a),val c,hc,by rw[hs]; exact h5⟩,?_,?_,h2⟩
 ·show s=decide (sg s (val a)<0)
  cases s
  ·simp[sg]
  ·have:val a≠0:=fun e=>by
    rcases h4 with h4 | h4
    ·cases h4
    ·exact h4 (by rw[h1,e,yd])
   simp[sg]; omega
 ·show a=zf (sg s (val a)).natAbs
  rw[hs]; exact h1
theorem ad0 {ox oy:Operand} {s b:Bool} {K:AV→Option ze→Prop} :
  z9 Try.prog .eql uy ox oy [.agg [bv s,bv b],.agg [bv true,bv true]] K=K (bv (s&&b)) none:=by
 rw[ga XL XG Xq (xs:=[.bool s,.bool b]) (ys:=[.bool true,.bool true]) rfl rfl rfl rfl]
 cases s<;>cases b<;>rfl
theorem G7 {s:Bool} {a c:List Nat} {m1 m2:Am.Mode} (ha:ok a) (hc:ok c) (hna:a.length<17179869184) (hnc:c.length<17179869184) (f1:stm m1=m1) (f2:stm m2=m2) :
  zd Try.prog tO [.agg [bv s,nl m1 a,nl m2 c]] (bv (vfr s a c)):=by
 have k1:=Xn (m:=m1) ha (by omega)
 have k2:=Xn (m:=m2) hc (by omega)
 have kg:=RR (m1:=m1) (m2:=m2) ha hc (by omega) (by omega) f1 f2
 have kf:=qD (x:=1) (by decide)
 have hvc:c≠[]→c=zf (val c)→val c≠0:=fun h e h0=>h (by rw[e,h0,yd])
 have hgl:c≠[]→c=zf (val c)→(zf (Nat.gcd (val a) (val c))).length<17179869184:=fun h e=>by
  have h1:val c<B^c.length:=by
   have:=zE (x:=val c) (n:=c.length)
   rw[← this,← e]; exact Nat.le_refl _
  exact Nat.lt_of_le_of_lt (zE.2 (Nat.lt_of_le_of_lt (Nat.gcd_le_right _ (Nat.pos_of_ne_zero (hvc h e))) h1)) hnc
 have kc:(zf (Nat.gcd (val a) (val c))).length<17179869184→zd Try.prog ne [nD (Nat.gcd (val a) (val c)),nD 1] (iv (yQ (Nat.gcd (val a) (val c)) 1)):=fun h=>by
  have:=lV (m1:=.plain) (m2:=.plain) (zw (Nat.gcd (val a) (val c))) (zw 1) (by omega) (by rw[show zf 1=[1] by decide +kernel]; decide)
  simp only[zI] at this
  exact this
 unfold vfr
 generalize Nat.gcd (val a) (val c)=g at *
 generalize val a=x at *
 generalize hy:val c=y at *
 have hkk:zd Try.prog dN [.agg [bv s,nl m1 a,nl m2 c]] (.agg [bv s,bv (decide (a=[]))]):=by
  refine zD G1 (by simp) ?_
  simp[UI,TD]
 have hcl:c=[]→c.length=0:=fun h=>by rw[h]; rfl
 have hcl':c≠[]→¬ c.length=0:=fun h h'=>h (List.length_eq_zero_iff.1 h')
 generalize d1:decide (a=zf x)=b1 at *
 generalize d2:decide (c=zf y)=b2 at *
 refine zD Cb (by simp) ?_
 simp[Rz]
 refine za k1 (by simp[f1]) (by simp) ?_
 cases b1
 ·simp[ke]
 simp
 refine za k2 (by simp[f2]) (by simp) ?_
 cases b2
 ·simp[ke]
 by_cases e3:c=[]
 ·simp[e3,ke]
 simp[e3]
 refine za hkk (by simp[f1,f2]) (by simp) ?_
 have hg:=hgl e3 (of_decide_eq_true d2)
 have hfin:decide (yQ g 1=0)=(g == 1):=by
  have h2:yQ g 1=0↔g=1:=by unfold yQ; split<;>(try split)<;>omega
  simp only[h2]
  by_cases h1:g=1<;>simp[h1]
 generalize decide (a=[])=z at *
 cases s<;>cases z
 all_goals simp[ad0,ke]
 all_goals
  refine za kg (by simp[f1,f2]) (by simp) ?_
  simp
  refine za kf (by simp) (by simp) ?_
  simp
  refine za (kc hg) (by simp) (by simp) ?_
  simp[← hfin]
theorem BQ (q:Rat):frA (!decide (q.num<0)&&decide (q.num.natAbs≠0)) q.num.natAbs q.den=yp (-q):=by
 unfold yp
 rw[Rat.neg_num,Rat.neg_den,Int.natAbs_neg]
 have:(!decide (q.num<0)&&decide (q.num.natAbs≠0))=decide (-q.num<0):=by
  by_cases h:q.num<0
  ·have h2:¬ -q.num<0:=by omega
   simp[h]; omega
  ·by_cases h0:q.num.natAbs=0
   ·have h2:¬ -q.num<0:=by omega
    simp[h0]; omega
   ·have h2:-q.num<0:=by omega
    simp[h,h0]; omega
 rw[this]
theorem P5 {n:Int} (h1:-9223372036854775808≤n) (h2:n<9223372036854775808):zd Try.prog xD [iv n] (yp n):=by
 rw[← Kq]; exact M7 h1 h2
theorem CZ (p q:Rat):yA (p-q)=xV p q:=by
 unfold yA xV
 by_cases h1:p<q
 ·have:¬ p-q=0:=by grind
  have h2:p-q<0:=by grind
  simp[h1,this,h2]
 ·by_cases h3:q<p
  ·have:¬ p-q=0:=by grind
   have h2:¬ p-q<0:=by grind
   simp[h1,h3,this,h2]
  ·have:p-q=0:=by grind
   simp[h1,h3,this]
theorem Qm {q:Rat}:zd Try.prog pQ [yp q] (iv (yA q)):=by
 unfold yA yp
 refine zD aas (by simp) ?_
 by_cases h0:q=0
 ·subst h0
  simp[d9,cV,yd]
 ·have hn:q.num.natAbs≠0:=fun e=>h0 (Rat.num_eq_zero.1 (by omega))
  have hl0:¬ zf q.num.natAbs=[]:=by rw[yE]; exact hn
  have hl:¬ (zf q.num.natAbs).length=0:=by rw[List.length_eq_zero_iff]; exact hl0
  have hli:¬ ((zf q.num.natAbs).length:Int)=0:=by omega
  by_cases h1:q<0
  ·have h2:=sS.2 h1
   simp[d9,cV,h0,h1,h2]
  ·have h2:¬ q.num<0:=fun h=>h1 (sS.1 h)
   simp[d9,cV,h0,h1,hl,h2]
section
variable {K:Nat} {p q:Rat} (hK:K≤137438953472) (hp:sz K p) (hq:sz K q)
include hK hp
theorem BR:zd Try.prog Z7 [yp p] (yp (-p)):=by
 have h1:=vO hp
 rw[← BQ]
 exact ab2 (by omega) (by omega)
include hq
theorem BO:zd Try.prog jl [yp p,yp q] (yp (p*q)):=by
 have h1:=vO hp
 have h2:=vO hq
 rw[← KF]
 exact BM (by omega) (by omega) (by omega) (by omega) p.den_nz q.den_nz
theorem Pi:zd Try.prog nf [yp p,yp q] (yp (p+q)):=by
 have h1:=vO hp
 have h2:=vO hq
 rw[← LL]
 exact Cx (by omega) (by omega) (by omega) (by omega) p.den_nz q.den_nz
theorem MA:zd Try.prog jm [yp p,yp q] (yp (p-q)):=by
 have k1:=BR hK hq
 have k2:=Pi hK hp (qe hq)
 rw[Rat.sub_eq_add_neg]
 obtain ⟨a,ha⟩:∃ a,a=p+-q:=⟨_,rfl⟩
 obtain ⟨b,hb⟩:∃ b,b=-q:=⟨_,rfl⟩
 rw[← ha] at k2 ⊢
 rw[← hb] at k1 k2
 refine zD adh (by simp) ?_
 simp[L2]
 refine za k1 (by simp) (by simp) ?_
 simp
 refine za k2 (by simp) (by simp) ?_
 simp[K0]
theorem C1:zd Try.prog qm [yp p,yp q] (iv (xV p q)):=by
 have k1:=MA hK hp hq
 have k2:=Qm (q:=p-q)
 rw[CZ] at k2
 generalize xV p q=c at *
 obtain ⟨a,ha⟩:∃ a,a=p-q:=⟨_,rfl⟩
 rw[← ha] at k1 k2
 refine zD adc (by simp) ?_
 simp[LZ]
 refine za k1 (by simp) (by simp) ?_
 simp
 refine za k2 (by simp) (by simp) ?_
 simp[KX]
end
theorem cm:zf 1=[1]:=by decide +kernel
theorem G8 {s:Bool} {a c:List Nat} {m1 m2:Am.Mode} (ha:ok a) (hc:ok c) (hna:a.length<17179869184) (hnc:c.length<17179869184) (f1:stm m1=m1) (f2:stm m2=m2) :
  zd Try.prog ng [.agg [bv s,nl m1 a,nl m2 c]] (bv (vfr s a c)):=by
 have k1:=Qv (m:=m1) ha (by omega)
 have k2:=Qv (m:=m2) hc (by omega)
 have kg:a=zf (val a)→c=zf (val c)→zd Try.prog eP [nl m1 a,nl m2 c] (nD (Nat.gcd (val a) (val c))):=fun h1 h2=>by
  have:=Km (A:=val a) (D:=val c) (by rw[← h1]; omega) (by rw[← h2]; omega)
  unfold nD at this
  rw[← h1,← h2] at this
  exact gh (Zf this (Zg f1)) (Zg f2)
 have ha0:a=[]→val a=0:=fun h=>by rw[h]; rfl
 have hc1:c=zf (val c)→((val c == 1)=decide (c=[1])):=fun h=>by
  by_cases h1:val c=1
  ·rw[h1,cm] at h; rw[h1,decide_eq_true h]; rfl
  ·have:¬ c=[1]:=fun e=>h1 (by rw[e]; rfl)
   simp[h1,this]
 have hgd:∀ g,(g == 1)=decide (zf g=[1]):=fun g=>by
  by_cases h1:g=1
  ·subst h1; simp[cm]
  ·have:¬ zf g=[1]:=fun e=>h1 (cj (by rw[e,cm]))
   simp[h1,this]
 have hone:∀ l:List Nat,(decide (l=[1]))=(decide (l.length=1)&&decide (l[0]?=some 1)):=fun l=>by
  match l with
  | []=>rfl
  | [z]=>simp
  | _::_::_=>simp
 unfold vfr
 generalize hx:val a=x at *
 generalize hy:val c=y at *
 generalize hg:Nat.gcd x y=g at *
 have hcl':c≠[]→¬ c.length=0:=fun h h'=>h (List.length_eq_zero_iff.1 h')
 generalize d1:decide (a=zf x)=b1 at *
 generalize d2:decide (c=zf y)=b2 at *
 refine zD Ci (by simp) ?_
 simp[RG]
 refine za k1 (by simp[f1]) (by simp) ?_
 cases b1
 ·simp[wG]
 simp
 refine za k2 (by simp[f2]) (by simp) ?_
 cases b2
 ·simp[wG]
 by_cases e3:c=[]
 ·simp[e3,wG]
 by_cases e4:a=[]
 ·have hx0:=ha0 e4
  rw[hx0,Nat.gcd_zero_left] at hg
  have hg1:=hc1 (of_decide_eq_true d2)
  rw[hg] at hg1
  rw[hg1]
  match c,e3 with
  | [z],_ =>
   cases s
   ·by_cases hz:z=1
    ·subst hz; simp[e4,wG]
    ·have hz':¬ (z:Int)=1:=by omega
     simp[e4,hz,hz',wG]
   ·simp[e4,wG]
  | z::z2::l,_ =>
   have hl:¬ ((l.length:Int)+1+1=1):=by omega
   have hl2:¬ ((l.length:Int)+1+1=0):=by omega
   cases s<;>simp[e4,hl,hl2,wG]
 ·have kg':=kg (of_decide_eq_true d1) (of_decide_eq_true d2)
  rw[hgd g]
  have hl0:¬ (a.length:Int)=0:=by
   have:a.length≠0:=fun h=>e4 (List.length_eq_zero_iff.1 h)
   omega
  simp[e3,e4]
  refine za kg' (by simp[f1,f2]) (by simp) ?_
  match hl:zf g with
  | []=>simp[hl,wG]
  | [z] =>
   by_cases hz:z=1
   ·subst hz; simp[hl,wG]
   ·have hz':¬ (z:Int)=1:=by omega
    simp[hl,hz,hz',wG]
  | z::z2::l =>
   have hl2:¬ ((l.length:Int)+1+1=1):=by omega
   simp[hl,hl2,wG]
section
variable {K:Nat} {p q:Rat}
theorem vi:zd Try.prog xw [fq q] (iv (yA q)):=by rw[← wP]; exact DE
theorem rR {n:Int} (h1:-9223372036854775808≤n) (h2:n<9223372036854775808):zd Try.prog xD [iv n] (fq n):=by rw[← wP]; exact P5 h1 h2
theorem Md:zd Try.prog pQ [fq q] (iv (yA q)):=by rw[← wP]; exact Qm
variable (hK:K≤137438953472) (hp:sz K p) (hq:sz K q)
include hK hp
theorem Ts:zd Try.prog qj [fq p] (fq (-p)):=by simp only[← wP]; exact NA hK hp
include hq
theorem jf:zd Try.prog vq [fq p,fq q] (fq (p*q)):=by simp only[← wP]; exact BN hK hp hq
theorem UA:zd Try.prog sO [fq p,fq q] (fq (p+q)):=by simp only[← wP]; exact Pg hK hp hq
theorem T2:zd Try.prog nd [fq p,fq q] (fq (p-q)):=by simp only[← wP]; exact aak hK hp hq
theorem J2:zd Try.prog jl [fq p,fq q] (fq (p*q)):=by simp only[← wP]; exact BO hK hp hq
theorem Jk:zd Try.prog nf [fq p,fq q] (fq (p+q)):=by simp only[← wP]; exact Pi hK hp hq
theorem G0:zd Try.prog jm [fq p,fq q] (fq (p-q)):=by simp only[← wP]; exact MA hK hp hq
theorem aaE (h:q≠0):zd Try.prog ji [fq p,fq q] (.tuple [fq (p/q),iv 0]):=by simp only[← wP]; exact C9 hK hp hq h
theorem UY:zd Try.prog mC [fq p,fq q] (iv (xV p q)):=by simp only[← wP]; exact C0 hK hp hq
theorem aaC:zd Try.prog qm [fq p,fq q] (iv (xV p q)):=by simp only[← wP]; exact C1 hK hp hq
end
noncomputable def fZ (f:Nat→Rat) (k n:Nat):List (List AV):=(List.range n).map fun j=>if j<k then fr (f j) else zz
noncomputable def fR (f:Nat→Rat) (n:Nat):List (List AV):=(List.range n).map fun j=>fr (f j)
noncomputable abbrev fL (f:Nat→Rat) (n:Nat):AV:=.list 3 .plain (fR f n)
@[simp] theorem F5 {f:Nat→Rat} {n:Nat}:(fR f n).length=n:=by simp[fR]
@[simp] theorem ad3 {f:Nat→Rat} {k n:Nat}:(fZ f k n).length=n:=by simp[fZ]
theorem aY {f:Nat→Rat} {n i:Nat} (h:i<n):(fR f n)[i]?=some (fr (f i)):=by simp[fR,h]
theorem PW {f:Nat→Rat} {k n i:Nat} (h:i<n) (hk:i<k):(fZ f k n)[i]?=some (fr (f i)):=by simp[fZ,h,hk]
theorem Sz {f:Nat→Rat} {k n i:Nat} (h:i<n) (hk:¬ i<k):(fZ f k n)[i]?=some zz:=by simp[fZ,h,hk]
@[simp] theorem ahN {f:Nat→Rat} {n i:Nat} {h:i<(fR f n).length}:(fR f n)[i]=fr (f i):=by simp[fR]
@[simp] theorem ahP {f:Nat→Rat} {n k:Nat} {h:k<(fZ f k n).length}:(fZ f k n)[k]=zz:=by simp[fZ]
theorem ye {f g:Nat→Rat} {n:Nat} (h:∀ i,i<n→f i=g i):fR f n=fR g n:=by
 unfold fR
 exact List.map_congr_left fun i hi=>by rw[h i (by simpa using hi)]
theorem uE {f:Nat→Rat} {n i:Nat} {x:Rat}:(fR f n).set i (fr x)=fR (upd f i x) n:=by
 apply List.ext_getElem?
 intro j
 rw[List.getElem?_set]
 by_cases hij:i=j
 ·subst hij
  rw[if_pos rfl,F5]
  by_cases hi:i<n
  ·rw[if_pos hi,aY hi]; simp[upd]
  ·rw[if_neg hi]; simp[fR,hi]
 ·rw[if_neg hij]
  by_cases hj:j<n
  ·rw[aY hj,aY hj]; simp[upd,Ne.symm hij]
  ·simp[fR,hj]
theorem lW {f:Nat→Rat} {k n:Nat} (hk:k<n):(fZ f k n).set k (fr (f k))=fZ f (k+1) n:=by
 apply List.ext_getElem?
 intro j
 rw[List.getElem?_set]
 by_cases hij:k=j
 ·subst hij
  rw[if_pos rfl,ad3,if_pos hk,PW hk (by omega)]
 ·rw[if_neg hij]
  by_cases hj:j<n
  ·by_cases hjk:j<k
   ·rw[PW hj hjk,PW hj (by omega)]
   ·rw[Sz hj hjk,Sz hj (by omega)]
  ·simp[fZ,hj]
theorem nF {f:Nat→Rat} {n:Nat}:List.replicate n zz=fZ f 0 n:=by
 apply List.ext_getElem?
 intro j
 by_cases h:j<n
 ·rw[Sz h (by omega)]; simp[h]
 ·simp[fZ,h]
theorem nE {f:Nat→Rat} {n:Nat}:fZ f n n=fR f n:=by
 unfold fZ fR
 exact List.map_congr_left fun i hi=>by rw[if_pos (by simpa using hi)]
theorem dn {f:Nat→Rat} {n:Nat}:fR f (n+1)=fR f n++[fr (f n)]:=by simp[fR,List.range_succ]
theorem abB {f:Nat→Rat}:fR f 0=[]:=rfl
theorem F4 {f:Nat→Rat} {n:Nat} {g:List AV→Bool} (h:∀ q,g (fr q)=true):(fR f n).all g=true :=
 List.all_eq_true.2 fun r hr=>by
  obtain ⟨j,_,rfl⟩:=List.mem_map.1 hr
  exact h _
theorem U7 {f:Nat→Rat} {n:Nat} {g:List AV→List AV} (h:∀ q,g (fr q)=fr q):(fR f n).map g=fR f n :=
 yM fun r hr=>by
  obtain ⟨j,_,rfl⟩:=List.mem_map.1 hr
  exact h _
@[simp] theorem aji {f:Nat→Rat} {n:Nat}:yV (fR f n)=true:=F4 fun _=>JI
@[simp] theorem ajj {f:Nat→Rat} {n:Nat}:zQ (fR f n)=fR f n:=U7 fun _=>XC
@[simp] theorem ajh {f:Nat→Rat} {n l:Nat}:zX l (fR f n)=fR f n:=U7 fun _=>aft
@[simp] theorem aiw {f:Nat→Rat} {n l:Nat} {e:ze}:((fR f n).map fun r=>r.map (frz l e))=fR f n:=U7 fun _=>ad6
@[simp] theorem aaG {f:Nat→Rat} {n a b:Nat}:((fR f n).map fun r=>r.map (rn a b))=fR f n:=U7 fun _=>afu
@[simp] theorem aix {f:Nat→Rat} {n M:Nat}:((fR f n).all fun r=>r.all (Am.low M))=true:=F4 fun _=>ad8
theorem f6 {k:Nat}:∀ {rows:List (List AV)},(∀ r∈rows,y5 k r=false)→xo k rows=false
 | [],_=>rfl
 | r::rows,h=>by simp[xo,h r (by simp),f6 (rows:=rows) fun r hr=>h r (by simp[hr])]
@[simp] theorem aiz {f:Nat→Rat} {n k:Nat}:xo k (fR f n)=false:=f6 fun r hr=>by
 obtain ⟨j,_,rfl⟩:=List.mem_map.1 hr
 exact ad9
@[simp] theorem aiy {f:Nat→Rat} {n:Nat}:(fR f n=[])=(n=0):=by
 rw[← List.length_eq_zero_iff,F5]
@[simp] theorem ahO {f:Nat→Rat} {n:Nat}:(fR f n).take n=fR f n:=List.take_of_length_le (by simp)
@[simp] theorem aiv {f:Nat→Rat} {n k:Nat}:((fR f n).any fun r=>r.any (na k))=false :=
 List.any_eq_false.2 fun r hr=>by
  obtain ⟨j,_,rfl⟩:=List.mem_map.1 hr
  simp
theorem wH {q:Rat}:yA q=0↔q=0:=by
 unfold yA; split
 ·simp[*]
 ·rename_i h; split<;>simp[h]
theorem p9 {q:Rat}:yA q<0↔q<0:=by
 unfold yA; split
 ·rename_i h; subst h; simp
 ·split<;>simp[*]
theorem uV {q:Rat}:0<yA q↔0<q:=by
 unfold yA; split
 ·rename_i h; subst h; simp
 ·rename_i h
  split
  ·rename_i h2; simp; grind
  ·rename_i h2; simp; grind
theorem qy {p q:Rat}:xV p q<0↔p<q:=by
 unfold xV; split
 ·simp[*]
 ·split<;>simp[*]
theorem abi {p q:Rat}:0<xV p q↔q<p:=by
 unfold xV; split
 ·simp; grind
 ·split<;>simp[*]
theorem CY {p q:Rat}:xV p q=0↔p=q:=by
 unfold xV; split
 ·simp; grind
 ·split
  ·simp; grind
  ·simp; grind
def mR (g:Nat→List AV) (n:Nat):List (List AV):=(List.range n).map g
section
variable {g h:Nat→List AV} {n i:Nat}
@[simp] theorem n9:(mR g n).length=n:=by simp[mR]
theorem rY (hi:i<n):(mR g n)[i]?=some (g i):=by simp[mR,hi]
@[simp] theorem ju {hi:i<(mR g n).length}:(mR g n)[i]=g i:=by simp[mR]
theorem uU (e:∀ i,i<n→g i=h i):mR g n=mR h n:=List.map_congr_left fun i hi=>e i (by simpa using hi)
theorem Tq {x:List AV}:(mR g n).set i x=mR (upd g i x) n:=by
 apply List.ext_getElem?
 intro j
 rw[List.getElem?_set]
 by_cases hij:i=j
 ·subst hij
  rw[if_pos rfl,n9]
  by_cases hi:i<n
  ·rw[if_pos hi,rY hi]; simp[upd]
  ·rw[if_neg hi]; simp[mR,hi]
 ·rw[if_neg hij]
  by_cases hj:j<n
  ·rw[rY hj,rY hj]; simp[upd,Ne.symm hij]
  ·simp[mR,hj]
theorem SJ:mR g (n+1)=mR g n++[g n]:=by simp[mR,List.range_succ]
theorem Zm {f:List AV→Bool} (h:∀ i,f (g i)=true):(mR g n).all f=true :=
 List.all_eq_true.2 fun r hr=>by
  obtain ⟨j,_,rfl⟩:=List.mem_map.1 hr
  exact h _
theorem tD {f:List AV→List AV} (h:∀ i,f (g i)=g i):(mR g n).map f=mR g n :=
 yM fun r hr=>by
  obtain ⟨j,_,rfl⟩:=List.mem_map.1 hr
  exact h _
theorem Tp {k:Nat} (h:∀ i,y5 k (g i)=false):xo k (mR g n)=false:=f6 fun r hr=>by
 obtain ⟨j,_,rfl⟩:=List.mem_map.1 hr
 exact h _
end
structure RF where
 s:Bool
 a:List Nat
 c:List Nat
def RF.fine (x:RF):Prop:=ok x.a∧ok x.c∧x.a.length<17179869184∧x.c.length<17179869184
def RF.v (x:RF):Bool:=vfr x.s x.a x.c
def RF.of (q:Rat):RF:=⟨decide (q.num<0),zf q.num.natAbs,zf q.den⟩
noncomputable def h0 (x:RF):AV:=Classical.choose (pG (bv x.s))
noncomputable def h1 (x:RF):AV:=Classical.choose (pG (nl .plain x.a))
noncomputable def h2 (x:RF):AV:=Classical.choose (pG (nl .plain x.c))
theorem pJ (x:RF):h0 x=bv x.s:=Classical.choose_spec (pG _)
theorem qE (x:RF):h1 x=nl .plain x.a:=Classical.choose_spec (pG _)
theorem vv (x:RF):h2 x=nl .plain x.c:=Classical.choose_spec (pG _)
noncomputable def hr (x:RF):List AV:=[h0 x,h1 x,h2 x]
@[simp] theorem ahW (x:RF):[h0 x,h1 x,h2 x]=hr x:=rfl
noncomputable abbrev hq (x:RF):AV:=.agg (hr x)
theorem aaI (q:Rat):h0 (RF.of q)=f0 q:=by rw[pJ,lu]; rfl
theorem aaJ (q:Rat):h1 (RF.of q)=f1 q:=by rw[qE,pH]; rfl
theorem aaK (q:Rat):h2 (RF.of q)=f2 q:=by rw[vv,pI]; rfl
theorem Tb (q:Rat):hr (RF.of q)=fr q:=by unfold hr fr; rw[aaI,aaJ,aaK]
theorem ja (x:RF):hr x=[bv x.s,nl .plain x.a,nl .plain x.c]:=by unfold hr; rw[pJ,qE,vv]
section
variable {x:RF} {l k a b M:Nat} {e:ze}
@[simp] theorem ajo:rf (h0 x)=true:=by rw[pJ]; rfl
@[simp] theorem ahd:strip (h0 x)=h0 x:=by rw[pJ]; rfl
@[simp] theorem ajn:dg l (h0 x)=h0 x:=by rw[pJ]; simp
@[simp] theorem aiB:frz l e (h0 x)=h0 x:=by rw[pJ]; rfl
@[simp] theorem ajp:rn a b (h0 x)=h0 x:=by rw[pJ]; rfl
@[simp] theorem aiC:Am.low M (h0 x)=true:=by rw[pJ]; rfl
@[simp] theorem ahS:zT k (h0 x)=false:=by rw[pJ]; rfl
@[simp] theorem aiD:na k (h0 x)=false:=by rw[pJ]; rfl
@[simp] theorem ajr:rf (h1 x)=true:=by rw[qE]; rfl
@[simp] theorem ahe:strip (h1 x)=h1 x:=by rw[qE]; rfl
@[simp] theorem ajq:dg l (h1 x)=h1 x:=by rw[qE]; simp
@[simp] theorem aiE:frz l e (h1 x)=h1 x:=by rw[qE]; rfl
@[simp] theorem ajs:rn a b (h1 x)=h1 x:=by rw[qE]; rfl
@[simp] theorem aiF:Am.low M (h1 x)=true:=by rw[qE]; rfl
@[simp] theorem ahT:zT k (h1 x)=false:=by rw[qE]; rfl
@[simp] theorem aiG:na k (h1 x)=false:=by rw[qE]; rfl
@[simp] theorem aju:rf (h2 x)=true:=by rw[vv]; rfl
@[simp] theorem ahf:strip (h2 x)=h2 x:=by rw[vv]; rfl
@[simp] theorem ajt:dg l (h2 x)=h2 x:=by rw[vv]; simp
@[simp] theorem aiH:frz l e (h2 x)=h2 x:=by rw[vv]; rfl
@[simp] theorem ajv:rn a b (h2 x)=h2 x:=by rw[vv]; rfl
@[simp] theorem aiI:Am.low M (h2 x)=true:=by rw[vv]; rfl
@[simp] theorem ahU:zT k (h2 x)=false:=by rw[vv]; rfl
@[simp] theorem aiJ:na k (h2 x)=false:=by rw[vv]; rfl
@[simp] theorem aeg:(hr x).length=3:=by simp[ja]
@[simp] theorem afH:(hr x).all rf=true:=by rw[ja]; simp
@[simp] theorem BA:(hr x).map strip=hr x:=by rw[ja]; simp
@[simp] theorem ajB:(hr x).map (dg l)=hr x:=by rw[ja]; simp
@[simp] theorem aiL:y5 k (hr x)=false:=by rw[ja]; simp
@[simp] theorem agy:zH (hr x) 0 (some 3)=some (hq x):=by rw[uH aeg afH,BA]
@[simp] theorem afb {y:AV}:zH (y::hr x) 1 (some 3)=some (hq x):=by
 simp only[zH,hr,List.length_cons,List.length_nil,List.drop_succ_cons,List.drop_zero,List.take]
 simp
@[simp] theorem agM {y z w:AV}:splice [y,z,w] 0 (hr x)=hr x:=by rw[ja]; simp[splice]
end
theorem du {x:RF} (h:x.fine):zd Try.prog tO [hq x] (bv x.v):=by
 unfold hq; rw[ja]; exact G7 h.1 h.2.1 h.2.2.1 h.2.2.2 rfl rfl
theorem XI {x:RF} (h:x.fine):zd Try.prog ng [hq x] (bv x.v):=by
 unfold hq; rw[ja]; exact G8 h.1 h.2.1 h.2.2.1 h.2.2.2 rfl rfl
noncomputable def hR (f:Nat→RF) (n:Nat):List (List AV):=mR (fun j=>hr (f j)) n
noncomputable abbrev hL (f:Nat→RF) (n:Nat):AV:=.list 3 .plain (hR f n)
section
variable {f:Nat→RF} {n i k:Nat}
@[simp] theorem aiK:(hR f n).length=n:=n9
@[simp] theorem ahV {hi:i<(hR f n).length}:(hR f n)[i]=hr (f i):=ju
@[simp] theorem ajw:yV (hR f n)=true:=Zm fun _=>by simp
@[simp] theorem ajx:zQ (hR f n)=hR f n:=tD fun _=>by simp
theorem Ta {g:Nat→Rat} (h:∀ j,j<n→f j=RF.of (g j)):hR f n=fR g n:=uU fun j hj=>by rw[h j hj,Tb]
end
@[simp] theorem ajU {x:RF}:(hr x)[0]?=some (h0 x):=rfl
@[simp] theorem ajV {x:RF}:(hr x)[1]?=some (h1 x):=rfl
@[simp] theorem ajW {x:RF}:(hr x)[2]?=some (h2 x):=rfl
@[simp] theorem ajz {x:RF} {h:1<(hr x).length}:(hr x)[1]=h1 x:=rfl
@[simp] theorem ajA {x:RF} {h:2<(hr x).length}:(hr x)[2]=h2 x:=rfl
def gD (x:RF) (D:Nat):Prop:=x.a.length≤D∧x.c.length≤D
noncomputable def TW (s t:Bool) (a c a' c':List Nat) (k:Nat):St :=
 {env:=[(2,.ptr 2 0),(3,.ptr 3 0),(5,iv k)],sto:=[(2,.var [bv s,nl .plain a,nl .plain c]),(3,.var [bv t,nl .plain a',nl .plain c'])]}
noncomputable def TX (s t:Bool) (a c a' c':List Nat) (k:Nat):St :=
 {env:=[(2,.ptr 2 0),(3,.ptr 3 0),(6,iv k)],sto:=[(2,.var [bv s,nl .plain a,nl .plain c]),(3,.var [bv t,nl .plain a',nl .plain c'])]}
theorem Ti {a b:List Nat} (hl:a.length=b.length) (h:∀ j,j<a.length→a[j]?=b[j]?):a=b:=by
 apply List.ext_getElem?
 intro j
 by_cases hj:j<a.length
 ·exact h j hj
 ·rw[List.getElem?_eq_none (by omega),List.getElem?_eq_none (by omega)]
theorem AM {s t:Bool} {a c a' c':List Nat} (hn:a.length<4611686018427387904) (hm:c.length<4611686018427387904) :
  zd Try.prog vX [.agg [bv s,nl .plain a,nl .plain c],.agg [bv t,nl .plain a',nl .plain c']] (bv (decide (s=t∧a=a'∧c=c'))):=by
 refine zD MD (by simp) ?_
 by_cases e1:s=t
 rotate_left
 ·have e1':(s == t)=false:=by simp[e1]
  rw[decide_eq_false fun h=>e1 h.1]
  simp[mL,yJ wU,e1',r8]
 subst e1
 by_cases e2:a.length=a'.length
 rotate_left
 ·have e2':¬ (a.length:Int)=a'.length:=by omega
  rw[decide_eq_false fun h=>e2 (by rw[h.2.1])]
  simp[mL,yJ wU,e2',r8]
 have e2':(a.length:Int)=a'.length:=by omega
 by_cases e3:c.length=c'.length
 rotate_left
 ·have e3':¬ (c.length:Int)=c'.length:=by omega
  rw[decide_eq_false fun h=>e3 (by rw[h.2.2])]
  simp[mL,yJ wU,e2,e3',r8]
 have e3':(c.length:Int)=c'.length:=by omega
 simp[mL,yJ wU,e2,e3]
 refine zl (TW s s a c a' c') (fun k=>∀ j,j<k→a[j]?=a'[j]?) a.length (by simp[TW]) (fun j hj=>by omega) (fun k hk hI=>?_) (fun hI0=>?_)
 ·have e:(k:Int)<a.length:=by omega
  have w:=zq (k:=k) (by omega)
  have hk':k<a'.length:=by omega
  have e':(k:Int)<a'.length:=by omega
  by_cases h:a[k]=a'[k]
  ·have h':(a[k]:Int)=a'[k]:=by rw[h]
   simp[pg,TW,e,hk,hk',e',h,w]
   intro j hj
   by_cases ej:j=k
   ·subst ej; simp[hk,hk',h]
   ·exact hI j (by omega)
  ·have h':¬ (a[k]:Int)=a'[k]:=by omega
   rw[decide_eq_false (p:=a=a') fun h2=>h (by simp only[h2])]
   simp[pg,TW,e,hk,hk',e',h',r8]
 ·have hae:=Ti e2 hI0
  subst hae
  simp[pg,TW,ef]
  refine zl (TX s s a c a c') (fun k=>∀ j,j<k→c[j]?=c'[j]?) c.length (by simp[TX]) (fun j hj=>by omega) (fun k hk hI=>?_) (fun hI1=>?_)
  ·have e:(k:Int)<c.length:=by omega
   have w:=zq (k:=k) (by omega)
   have hk':k<c'.length:=by omega
   have e':(k:Int)<c'.length:=by omega
   by_cases h:c[k]=c'[k]
   ·have h':(c[k]:Int)=c'[k]:=by rw[h]
    simp[pi,TX,e,hk,hk',e',h,w]
    intro j hj
    by_cases ej:j=k
    ·subst ej; simp[hk,hk',h]
    ·exact hI j (by omega)
   ·have h':¬ (c[k]:Int)=c'[k]:=by omega
    rw[decide_eq_false (p:=c=c') fun h2=>h (by simp only[h2])]
    simp[pi,TX,e,hk,hk',e',h',r8]
  ·have hce:=Ti e3 hI1
   subst hce
   simp[pi,TX,ee,r8]
theorem Dg {p q:Rat}:(decide (p.num<0)=decide (q.num<0)∧zf p.num.natAbs=zf q.num.natAbs∧zf p.den=zf q.den)↔p=q:=by
 constructor
 ·rintro ⟨h1,h2,h3⟩
  have h2:=cj h2
  have h3:=cj h3
  have h1:=decide_eq_decide.1 h1
  exact Rat.ext (by omega) h3
 ·rintro rfl; exact ⟨rfl,rfl,rfl⟩
theorem N8 {K:Nat} {p q:Rat} (hK:K≤137438953472) (hp:sz K p):zd Try.prog vX [fq p,fq q] (bv (decide (p=q))):=by
 obtain ⟨l1,l2⟩:=vO hp
 have h:=AM (s:=decide (p.num<0)) (t:=decide (q.num<0)) (a:=zf p.num.natAbs) (c:=zf p.den) (a':=zf q.num.natAbs) (c':=zf q.den) (by omega) (by omega)
 unfold fq
 rw[uF,uF]
 rw[show decide (p=q)=decide (decide (p.num<0)=decide (q.num<0)∧zf p.num.natAbs=zf q.num.natAbs∧zf p.den=zf q.den) from decide_eq_decide.2 Dg.symm]
 exact h
theorem AL:zd Try.prog vX [.agg [bv false,z8,z8],.agg [bv false,z8,z8]] (bv true):=by
 refine zD MD (by simp) ?_
 simp[mL,yJ wU]
 refine zl (fun k=>{env:=[(2,.ptr 2 0),(3,.ptr 3 0),(5,iv k)],sto:=[(2,.var [bv false,z8,z8]),(3,.var [bv false,z8,z8])]}) (fun _=>True) 0 (by simp) trivial (fun k hk _=>by omega) (fun _=>?_)
 simp[pg,ef]
 refine zl (fun k=>{env:=[(2,.ptr 2 0),(3,.ptr 3 0),(6,iv k)],sto:=[(2,.var [bv false,z8,z8]),(3,.var [bv false,z8,z8])]}) (fun _=>True) 0 (by simp) trivial (fun k hk _=>by omega) (fun _=>?_)
 simp[pi,ee,r8]
theorem ae6:zd Try.prog xD [iv 0] (fq 0):=rR (n:=0) (by decide) (by decide)
theorem dq {K:Nat} {q:Rat} (hK:K≤137438953472) (h:sz K q):(RF.of q).fine:=by
 obtain ⟨l1,l2⟩:=vO h
 exact ⟨zw _,zw _,by simp only[RF.of]; omega,by simp only[RF.of]; omega⟩
@[simp] theorem ajR {q:Rat}:(fr q)[0]?=some (f0 q):=rfl
@[simp] theorem ajk {q:Rat} {h:0<(fr q).length}:(fr q)[0]=f0 q:=rfl
@[simp] theorem ajS {q:Rat}:(fr q)[1]?=some (f1 q):=rfl
@[simp] theorem ajT {q:Rat}:(fr q)[2]?=some (f2 q):=rfl
@[simp] theorem ajl {q:Rat} {h:1<(fr q).length}:(fr q)[1]=f1 q:=rfl
@[simp] theorem ajm {q:Rat} {h:2<(fr q).length}:(fr q)[2]=f2 q:=rfl
theorem NJ (q:Rat):(RF.of q).v=true:=aaz q
abbrev G4:Ty:=.slice (.int .u32)
abbrev Z1:Ty:=.st [.bool,G4,G4]
theorem EG {cs:List AV} (h:TyC G4 cs):∃ a:List Nat,cs=[nl .plain a]∧ok a:=by
 obtain ⟨rows,rfl,_,h⟩:=h
 obtain ⟨a,rfl,h2⟩:=lc (fun d:Nat=>[uv d]) (fun d=>d<B) (fun r hr=>by
  obtain ⟨n,rfl,hn⟩:=hr
  have hn2:0≤n∧n<4294967296:=by
   have h:=Bool.and_eq_true_iff.1 hn
   have h1:=of_decide_eq_true h.1
   have h2:=of_decide_eq_true h.2
   have e1:IntKind.min .u32=0:=by decide
   have e2:IntKind.max .u32=4294967295:=by decide
   omega
  refine ⟨n.toNat,?_,?_⟩
  ·show _=[AV.val (.int .u32 ((n.toNat:Nat):Int))]
   rw[show ((n.toNat:Nat):Int)=n by omega]
  ·show n.toNat<4294967296
   omega) h
 exact ⟨a,rfl,h2⟩
theorem abC {r:List AV} (h:TyC Z1 r):∃ x:RF,r=hr x∧(ok x.a∧ok x.c):=by
 obtain ⟨a1,b1,rfl,⟨s,rfl⟩,a2,b2,rfl,h2,a3,b3,rfl,h3,rfl⟩:=h
 obtain ⟨a,rfl,ha⟩:=EG h2
 obtain ⟨c,rfl,hc⟩:=EG h3
 exact ⟨⟨s,a,c⟩,by rw[ja]; rfl,ha,hc⟩
theorem abQ {α:Type} (d:α) (g:α→List AV) (l:List α):mR (fun j=>g (l.getD j d)) l.length=l.map g:=by
 apply List.ext_getElem?
 intro j
 by_cases h:j<l.length
 ·rw[rY h]; simp[h]
 ·rw[List.getElem?_eq_none (by simp; omega),List.getElem?_eq_none (by simp; omega)]
theorem P0 {cs:List AV} (h:TyC (.slice Z1) cs):∃ (f:Nat→RF) (n:Nat),cs=[hL f n]∧n<2305843009213693952∧∀ j,j<n→ok (f j).a∧ok (f j).c:=by
 obtain ⟨rows,rfl,hl,h⟩:=h
 obtain ⟨l,rfl,h2⟩:=lc hr (fun x=>ok x.a∧ok x.c) (fun r hr=>abC hr) h
 refine ⟨fun j=>l.getD j ⟨false,[],[]⟩,l.length,?_,?_,fun j hj=>?_⟩
 ·have:=abQ (⟨false,[],[]⟩:RF) hr l
  unfold hL hR
  rw[this]; rfl
 ·simp[reachBytes] at hl; omega
 ·have:l.getD j ⟨false,[],[]⟩=l[j]:=by simp[hj]
  dsimp only
  rw[this]
  exact h2 _ (List.getElem_mem hj)
section
variable {D:Nat}
theorem JH {x:RF} {D:Nat} (h:ok x.a∧ok x.c) (hs:gD x D) (hD:D≤1000):x.fine:=⟨h.1,h.2,by have:=hs.1; omega,by have:=hs.2; omega⟩
theorem aal {x:RF} {q:Rat} (h:gD x D) (e:x=RF.of q):sz (32*D) q:=by
 subst e
 have e1:2^(32*D)=B^D:=by rw[Nat.pow_mul,show (2:Nat)^32=B from rfl]
 obtain ⟨h1,h2⟩:=h
 simp only[RF.of] at h1 h2
 exact ⟨Nat.le_of_lt (by rw[e1]; exact zE.1 h1),Nat.le_of_lt (by rw[e1]; exact zE.1 h2)⟩
end
theorem qd {K:Nat} {n:Int} (h:n.natAbs≤2^K):sz K (n:Rat):=⟨by simpa using h,by simpa using Nat.one_le_two_pow⟩
open Go.Pb
def RF.q (x:RF):Rat:=mkRat (sg x.s (val x.a)) (val x.c)
theorem Gh (q:Rat):(RF.of q).q=q:=by
 unfold RF.q RF.of
 simp only[zI]
 rw[mi,Rat.mkRat_self]
theorem XS {x:RF} (h:x.v=true):x=RF.of x.q:=by
 obtain ⟨q,h1,h2,h3⟩:=adu h
 have:x=RF.of q:=by cases x; simp only at h1 h2 h3; subst h1 h2 h3; rfl
 rw[this,Gh]
def prE (Y:Nat→RF):Nat→Int
 | 0=>0
 | k+1=>if prE Y k≠0 then prE Y k else if (Y k).v=false then 2 else if (Y k).s=true then 4 else 0
def fpE (P:Pb) (fx:List Int) (Y:Nat→RF) (m:Nat):Int:=if P.fixE fx≠0 then P.fixE fx else if m≠P.rows then 3 else prE Y m
def k9 (Y:Nat→RF) (m:Nat):Prop:=∀ r,r<m→(Y r).v=true∧(Y r).s=false
theorem XY {Y:Nat→RF} {k:Nat} (h:prE Y k≠0):∀ m,k≤m→prE Y m=prE Y k
 | 0,hm=>by rw[Nat.le_zero.1 hm]
 | m+1,hm=>by
  by_cases e:k=m+1
  ·rw[e]
  ·have ih:=XY h m (by omega)
   simp only[prE]
   rw[ih,if_pos h]
theorem m5 {Y:Nat→RF}:∀ {m:Nat},k9 Y m→prE Y m=0
 | 0,_=>rfl
 | m+1,h=>by
  have ih:=m5 (m:=m) fun r hr=>h r (by omega)
  obtain ⟨h1,h2⟩:=h m (by omega)
  simp only[prE]
  rw[if_neg fun e=>e ih,if_neg (by rw[h1]; decide),if_neg (by rw[h2]; decide)]
theorem Bx {Y:Nat→RF}:∀ {m:Nat},prE Y m=0→k9 Y m
 | 0,_=>fun r hr=>by omega
 | m+1,h=>by
  simp only[prE] at h
  split at h
  ·rename_i h0; exact absurd h h0
  ·rename_i h0
   split at h
   ·cases h
   ·rename_i h1
    split at h
    ·cases h
    ·rename_i h2
     have ih:=Bx (Decidable.not_not.1 h0)
     intro r hr
     by_cases e:r=m
     ·subst e; exact ⟨by simpa using h1,by simpa using h2⟩
     ·exact ih r (by omega)
theorem aaS {Y:Nat→RF} {k m:Nat} (h:k9 Y k) (hv:(Y k).v=false) (hk:k<m):prE Y m=2:=by
 have h1:prE Y (k+1)=2:=by simp only[prE]; rw[if_neg fun e=>e (m5 h),if_pos hv]
 rw[XY (by rw[h1]; decide) m hk,h1]
theorem aaR {Y:Nat→RF} {k m:Nat} (h:k9 Y k) (hv:(Y k).v=true) (hs:(Y k).s=true) (hk:k<m):prE Y m=4:=by
 have h1:prE Y (k+1)=4:=by simp only[prE]; rw[if_neg fun e=>e (m5 h),if_neg (by rw[hv]; decide),if_pos hs]
 rw[XY (by rw[h1]; decide) m hk,h1]
theorem U8 {Y:Nat→RF} {k:Nat} (h:k9 Y k) (hv:(Y k).v=true) (hs:(Y k).s=false):k9 Y (k+1):=fun r hr=>by
 by_cases e:r=k
 ·subst e; exact ⟨hv,hs⟩
 ·exact h r (by omega)
theorem af7 {x:RF} (h:x.v=true):x.s=decide (x.q<0):=by
 have e:=XS h
 have:x.s=decide (x.q.num<0):=congrArg RF.s e
 rw[this,decide_eq_decide]
 exact sS
section
variable {P:Pb} {fx:List Int} {y:Nat→Rat} {S k r i:Nat}
theorem G6 (hG:P.Good) (hi:i<P.of.length):sz 20 (P.vQ i):=by
 have hv:=(xY (xv (hG.off _ (at_mem hi))).1).2.1
 exact qd (by omega)
theorem FF (hG:P.Good) (hi:i<P.of.length) (hr:r<P.rows):sz 2 (P.cof r i):=by
 have hv:=tu (xY (xv (hG.off _ (at_mem hi))).1).2.2 hr
 exact qd (by omega)
theorem U5 (hG:P.Good) (hi:i<P.of.length) (hy:∀ r,r<P.rows→sz S (y r)):∀ R,R≤P.rows→sz (20+R*(S+3)) (P.exc y R i)
 | 0,_=>by
  unfold Pb.exc
  have:zh 0 (fun r=>y r*P.cof r i)=0:=rfl
  rw[this,Rat.sub_eq_add_neg,show P.vQ i+-0=P.vQ i by grind]
  exact zC (G6 hG hi) (by omega)
 | R+1,h=>by
  have ih:=U5 hG hi hy R (by omega)
  have:P.exc y (R+1) i=P.exc y R i-y R*P.cof R i:=by unfold Pb.exc; simp only[zh]; grind
  rw[this]
  exact zC (km ih (yB (hy R (by omega)) (FF hG hi (by omega)))) (by rw[Nat.add_mul]; omega)
theorem j7 (hG:P.Good) (hr:r<P.rows):∀ k,k≤P.of.length→0≤((P.inK fx k).map (P.coef r)).sum∧((P.inK fx k).map (P.coef r)).sum≤4*k:=fun k hk=>by
 have h:=Qs (a:=0) (b:=4) (f:=P.coef r) (l:=P.inK fx k) fun o ho=>tu (xY (xv (hG.off _ (Ko hk o ho))).1).2.2 hr
 have:=SC (P:=P) (fx:=fx) (k:=k)
 omega
theorem aC (hG:P.Good) (hr:r<P.rows):0≤P.bnd r∧P.bnd r≤4:=by
 unfold Pb.rows at hr
 unfold Pb.bnd
 split
 ·omega
 ·split
  ·exact hG.sup _ (by omega)
  ·have h1:=hG.set (r-P.cl.length-6) (by omega)
   have h2:=hG.sup (r-P.cl.length-6) (by omega)
   unfold Pb.okC at h1
   omega
theorem Yz (hG:P.Good) (hl:fx.length=P.of.length) (hr:r<P.rows):sz 10 ((P.relB fx r:Int):Rat):=by
 have h1:=j7 (fx:=fx) hG hr fx.length (by omega)
 have h2:=aC hG hr
 have h3:=hG.k
 refine qd ?_
 unfold Pb.relB Pb.inL
 omega
theorem Fe (hG:P.Good) (hl:fx.length=P.of.length):sz 28 ((P.accV fx fx.length:Int):Rat):=by
 have h1:=eR (fx:=fx) hG fx.length (by omega)
 have h3:=hG.k
 exact qd (by omega)
theorem Q0 (hG:P.Good) (hl:fx.length=P.of.length) (hy:∀ r,r<P.rows→sz S (y r)):∀ R,R≤P.rows→sz (28+R*(S+11)) (P.bdQ fx y R)
 | 0,_=>by
  unfold Pb.bdQ
  have:zh 0 (fun r=>y r*((P.relB fx r:Int):Rat))=0:=rfl
  rw[this,show ((P.accV fx fx.length:Int):Rat)+0=((P.accV fx fx.length:Int):Rat) by grind]
  exact zC (Fe hG hl) (by omega)
 | R+1,h=>by
  have ih:=Q0 hG hl hy R (by omega)
  have:P.bdQ fx y (R+1)=P.bdQ fx y R+y R*((P.relB fx R:Int):Rat):=by unfold Pb.bdQ; simp only[zh]; grind
  rw[this]
  exact zC (pn ih (yB (hy R (by omega)) (Yz hG hl (by omega)))) (by rw[Nat.add_mul]; omega)
theorem QW (hG:P.Good) (hl:fx.length=P.of.length) (hy:∀ r,r<P.rows→sz S (y r)):∀ k,k≤fx.length→sz (k*(21+P.rows*(S+3))) (P.adQ fx y P.rows k)
 | 0,_=>wl
 | k+1,h=>by
  have ih:=QW hG hl hy k (by omega)
  have he:=U5 (i:=k) hG (by omega) hy P.rows (Nat.le_refl _)
  unfold Pb.adQ at ih ⊢
  simp only[zh]
  have e:(k+1)*(21+P.rows*(S+3))=k*(21+P.rows*(S+3))+(20+P.rows*(S+3))+1:=by rw[Nat.add_mul]; omega
  rw[e]
  split
  ·exact pn ih he
  ·exact pn ih (zC wl (Nat.zero_le _))
end
abbrev zfr:AV:=.agg zz
theorem yb {P:Program} {f:FuncId} {xs:List AV} {s:St} {dst:Option Nat} {K:St→Prop} (h:yc P f xs s fun r s'=>s'.base=s.base∧K (s'.put dst r)):tv P f xs s dst K:=h
def FT (f:FuncId) (ds:List Nat) (s:St) (d:Option Nat) (K:St→Prop) (xs:List AV):Prop :=
 rQ s.sto s.base ds∧∀ D:List Nat,yc Try.prog f xs {s with env:=del D s.env} fun r s'=>∃ A:St,s'={A with env:=del D A.env}∧A.base=s.base∧rQ A.sto A.base ds∧K (A.put d r)
@[simp] theorem agE {f:FuncId} {ds:List Nat} {xs:List Opd} {d:Option Nat} {os:List zi} {s:St} {KS:St→Prop} :
  zj Try.prog (⟨d,.callM f ds,xs,none⟩::os) s KS=(y6 Try.prog f=true∧FT f ds s d (eF Try.prog os KS) (xs.map (ev s))):=propext Iff.rfl
theorem l8 {M:Nat} {n:Int}:Am.low M (iv n)=true:=rfl
theorem rX {M:Nat} {b:Bool}:Am.low M (bv b)=true:=rfl
theorem xR {M k off:Nat}:Am.low M (.ptr k off)=decide (k<M):=rfl
theorem MU {P:Program} {f:FuncId} {xs args:List AV} {s:St} {r:AV} {K:AV→St→Prop} (h:zd P f args r) (hs:yx (wD (lk s.sto)) xs=some args)
  (hp:xs.any rT=true→pf r=true) (hK:K r s):yc P f xs s K:=by
 intro F a w I β lam hI vs hv hR
 obtain ⟨hl,hg⟩:=cG hs
 have done:∀ (J:Nat→Nat→Prop),(∀ b o,J b o→b<w.heap.size)→(∀ i x,args[i]?=some x→R0 J w x (vs.getD i undef)) →
   (∀ (w':World) (v:Value),R0 (fun b o=>(J b o∨w.heap.size≤b)∧b<w'.heap.size) w' r v→w.heap.size≤w'.heap.size→R0 (fun b o=>I b o∨(w.heap.size≤b∧b<w'.heap.size)) w' r v) →
   Calls P f vs w fun e w'=>∃ v,e=.returned v∧∃ r s' I' β' lam',K r s'∧Inv F s'.look (lk s'.sto) I' β' lam' a w'∧R I' w' β' lam' r v:=by
  intro J hJ hJR hres
  refine Calls.mono (h J vs w hJ (by omega) hJR) fun e w' ⟨v,he,hb,hr⟩=>⟨v,he,r,s,fun b o=>I b o∨(w.heap.size≤b∧b<w'.heap.size),β,lam,hK,?_,.base (hres w' v hr hb.size)⟩
  exact hI.grow hb (fun _ _ h=>.inl h) (fun _ _ h=>h)
 by_cases href:xs.any rT=true
 ·refine done (Seen I β lam) (fun b o h=>?_) (fun i x hi=>?_) (fun w' v hr _=>aaP hr (hp href))
  ·rcases h with h | h
   ·exact hI.Isub _ _ h
   ·rcases h with ⟨k,h⟩ | ⟨l,p,cap,sz,h,h0⟩
    ·exact (hI.bnew _ _ h).2.1
    ·exact hI.hlm _ _ _ _ _ h h0
  ·obtain ⟨x',hx',hsn⟩:=hg i x hi
   exact (jz hI.hread hI.usto hsn (hR i x' hx')).1
 ·refine done I hI.Isub (fun i x hi=>?_) (fun w' v hr hle=>hr.mono (fun b o hb=>?_) (fun _ _ _ _ h=>h))
  ·obtain ⟨x',hx',hsn⟩:=hg i x hi
   refine (jz hI.hread hI.usto hsn (hR i x' hx')).2 ?_
   have:=List.any_eq_false.1 (by simpa using href) x' (List.mem_iff_getElem?.2 ⟨i,hx'⟩)
   simpa using this
  ·rcases hb.1 with h | h
   ·exact .inl h
   ·exact .inr ⟨h,hb.2⟩
theorem PN {f:FuncId} {ds:List Nat} {xs args:List AV} {s:St} {d:Option Nat} {r:AV} {K:St→Prop} (h:zd Try.prog f args r) (hf:rQ s.sto s.base ds) (hs:yx (wD (lk s.sto)) xs=some args)
  (hp:xs.any rT=true→pf r=true) (hK:K (s.put d r)):FT f ds s d K xs :=
 ⟨hf,fun _=>MU h hs hp ⟨s,rfl,rfl,hf,hK⟩⟩
theorem St.imp_env_nil {s:St} {t n l sz:Nat} (hk:lk s.env t=some (.list n .full [])) (hl:lk s.sto l=some (.uarr sz [])):St.imp s {s with env:=pt s.env t (.us l sz 0 0)}:=by
 rintro F a w ⟨I,β,lam,h⟩
 refine ⟨I,β,lam,{h with env:=?_}⟩
 rintro ⟨d,t'⟩ x hx
 cases d with
 | zero =>
  have hx:lk (pt s.env t (.us l sz 0 0)) t'=some x:=hx
  rw[xO] at hx
  by_cases e:t=t'
  ·subst e
   rw[if_pos rfl] at hx
   cases hx
   obtain ⟨v,h1,h2⟩:=h.env (0,t) _ hk
   refine ⟨v,h1,?_⟩
   obtain ⟨av,cap,rfl,_,hf,_⟩:=h2.list_inv
   have hc:=hf rfl
   simp only[List.length_nil] at hc
   subst hc
   obtain ⟨a',cap',g1,g2,g3,g4⟩:=h.usto l sz [] hl
   exact .us l sz 0 0 cap' 0 a' av g1 (Nat.le_refl _) (Nat.zero_le _) (fun h=>absurd rfl h)
  ·rw[if_neg e] at hx
   exact h.env (0,t') x hx
 | succ d=>exact h.env (d+1,t') x hx
theorem Pk {P:Program} {c:zc} {s t:St} {K:Exit→St→Prop} (h:St.imp s t) (ha:awp P (.loop c) t K):awp P (.loop c) s K:=by
 obtain ⟨J,n,s0,h0,h1⟩:=ha
 exact ⟨J,n,s0,h.trans h0,h1⟩
def elm (l:Nat→Rat) (f:Rat) (c:Nat) (pr:Nat→Rat) (j:Nat):Rat:=(if j=c then 0 else l j)-f*pr j
noncomputable def ZM (l pr:Nat→Rat) (n c:Nat) (b pb f:Rat) (k:Nat):St :=
 {env:=[(2,iv c),(3,fL pr n),(6,.ptr 6 0),(9,.ptr 9 0),(11,.ptr 11 0),(12,.ptr 12 0),(13,.sl 27 3 0 n),(28,fL l n),(29,iv n),(30,iv k)],
  sto:=[(6,.var (fr b)),(9,.var (fr pb)),(11,.var zz),(12,.var (fr f)),(27,.arr 3 (fZ (elm l f c pr) k n))]}
theorem ft {n c K:Nat} {l pr:Nat→Rat} {b pb:Rat} (hn:n<1000000) (hc:c<n) (hK:K≤30000000000) (hl:∀ j,j<n→sz K (l j)) (hp:∀ j,j<n→sz K (pr j)) (hb:sz K b) (hpb:sz K pb) :
  zd Try.prog pC [fL l n,fq b,iv c,fL pr n,fq pb] (.tuple [fL (elm l (l c) c pr) n,fq (b-l c*pb)]):=by
 obtain ⟨f,hf⟩:∃ f,l c=f:=⟨_,rfl⟩
 have szf:sz K f:=by rw[← hf]; exact hl c hc
 rw[hf]
 have e0:(c:Int)<n:=by omega
 have ks:=vi (q:=f)
 have k1:=jf (by omega) szf hpb
 have k2:=T2 (K:=K+K) (by omega) (zC hb (by omega)) (yB szf hpb)
 refine zD QS (by simp) ?_
 simp[bQ,e0,hc,hf]
 refine za ks (by simp) (by simp) ?_
 by_cases h0:f=0
 ·have h1:yA f=0:=wH.2 h0
  have h2:fR (elm l f c pr) n=fR l n:=ye fun j hj=>by
   unfold elm
   rw[h0]
   split
   ·rename_i e; subst e; rw[hf,h0]; grind
   ·grind
  have h3:b-f*pb=b:=by rw[h0]; grind
  simp[h1,kN,h2,h3]
 ·have h1:¬ yA f=0:=fun h=>h0 (wH.1 h)
  simp[h1,eMk]
  refine ⟨by omega,by omega,?_⟩
  rw[nF (f:=elm l f c pr)]
  refine zl (ZM l pr n c b pb f) (fun _=>True) n (by simp[ZM]) trivial (fun k hk _=>?_) (fun _=>?_)
  ·have e:(k:Int)<n:=by omega
   have w:=zq (k:=k) (by omega)
   have hs:=lW (f:=elm l f c pr) hk
   have g1:=jf (by omega) szf (hp k hk)
   have g2:=Ts (K:=K+K) (by omega) (yB szf (hp k hk))
   have g3:=vi (q:=pr k)
   have g4:=T2 (K:=K+K) (by omega) (zC (hl k hk) (by omega)) (yB szf (hp k hk))
   by_cases hkc:k=c
   ·subst hkc
    have ev:elm l f k pr k=-(f*pr k):=by unfold elm; rw[if_pos rfl]; grind
    rw[ev] at hs
    simp[t8,ZM,e,hk]
    refine za g1 (by simp) (by simp) ?_
    simp
    refine za g2 (by simp) (by simp) ?_
    simp[hk,w,hs,ZM]
   ·have ec:¬ (k:Int)=c:=by omega
    have ev:elm l f c pr k=l k-f*pr k:=by unfold elm; rw[if_neg hkc]
    rw[ev] at hs
    simp[t8,ZM,e,hk,ec]
    refine za g3 (by simp) (by simp) ?_
    by_cases hz:pr k=0
    ·have z1:yA (pr k)=0:=wH.2 hz
     have z2:l k-f*pr k=l k:=by rw[hz]; grind
     rw[z2] at hs
     simp[z1,hk,w,hs,ZM]
    ·have z1:¬ yA (pr k)=0:=fun h=>hz (wH.1 h)
     simp[z1,hk]
     refine za g1 (by simp) (by simp) ?_
     simp
     refine za g4 (by simp) (by simp) ?_
     simp[hk,w,hs,ZM]
  ·simp[t8,j4,kN,ZM,nE]
   refine za k1 (by simp) (by simp) ?_
   simp
   refine za k2 (by simp) (by simp) ?_
   simp
def nR (f:Nat→Nat) (n:Nat):List (List AV):=mR (fun i=>[iv (f i)]) n
noncomputable def cR (a:Nat→Nat→Rat) (cl:Nat→Nat) (n:Nat):List (List AV):=mR (fun i=>[fL (a i) (cl i)]) n
section
variable {f:Nat→Nat} {a:Nat→Nat→Rat} {cl:Nat→Nat} {n i k:Nat} {e:ze}
@[simp] theorem aiP:(nR f n).length=n:=n9
@[simp] theorem aih:(cR a cl n).length=n:=n9
@[simp] theorem ahY {hi:i<(nR f n).length}:(nR f n)[i]=[iv (f i)]:=ju
@[simp] theorem ahH {hi:i<(cR a cl n).length}:(cR a cl n)[i]=[fL (a i) (cl i)]:=ju
theorem EF {x:Nat}:(nR f n).set i [iv x]=nR (upd f i x) n:=by
 unfold nR
 rw[Tq]
 exact uU fun j _=>by unfold upd; split<;>rfl
theorem Fr {x:Nat→Rat} {l:Nat}:(cR a cl n).set i [fL x l]=cR (upd a i x) (upd cl i l) n:=by
 unfold cR
 rw[Tq]
 exact uU fun j _=>by unfold upd; split<;>rfl
theorem Pt {a':Nat→Nat→Rat} {cl':Nat→Nat} (h:∀ i,i<n→cl i=cl' i∧∀ j,j<cl i→a i j=a' i j):cR a cl n=cR a' cl' n :=
 uU fun i hi=>by
  obtain ⟨h1,h2⟩:=h i hi
  rw[← h1,show fL (a i) (cl i)=fL (a' i) (cl i) from congrArg _ (ye h2)]
@[simp] theorem aiO:((nR f n).map fun r=>r.map (frz k e))=nR f n:=tD fun _=>rfl
@[simp] theorem aig:((cR a cl n).map fun r=>r.map (frz k e))=cR a cl n:=tD fun _=>by simp
@[simp] theorem ajD:zX k (nR f n)=nR f n:=tD fun _=>by simp
@[simp] theorem ai7:zX k (cR a cl n)=cR a cl n:=tD fun _=>by simp
@[simp] theorem aiQ:xo k (nR f n)=false:=Tp fun _=>by simp
@[simp] theorem aii:xo k (cR a cl n)=false:=Tp fun _=>by simp
@[simp] theorem ajE:yV (nR f n)=true:=Zm fun _=>by simp
@[simp] theorem ai8:yV (cR a cl n)=true:=Zm fun _=>by simp
@[simp] theorem ajF:zQ (nR f n)=nR f n:=tD fun _=>by simp
@[simp] theorem ai9:zQ (cR a cl n)=cR a cl n:=tD fun _=>by simp
end
def rest (ρ:List (Nat × ze)):Prop:=∀ p∈ρ,(p.1<1000∨(3000≤p.1∧p.1<4000))∧Zl 1000 p.2=true
def far (k:Nat):Bool:=decide ((1000≤k∧k<3000)∨4000≤k)
section
variable {ρ:List (Nat × ze)} {l:List (Nat × ze)} {k:Nat} {e:ze}
theorem SW (h:rest ρ) (hk:far k=true):lk ρ k=none:=by
 have hk:(1000≤k∧k<3000)∨4000≤k:=of_decide_eq_true hk
 cases hl:lk ρ k with
 | none=>rfl
 | some e=>have:=(h _ (Tj hl)).1; simp at this; omega
theorem aek {_l':List (Nat × ze)} (h:lk ρ k=none):lk (ρ++l) k=lk l k:=by
 induction ρ with
 | nil=>rfl
 | cons p ρ ih =>
  obtain ⟨m,x⟩:=p
  simp only[lk,List.cons_append] at h ⊢
  split at h
  ·cases h
  ·rename_i hne; rw[if_neg hne]; exact ih h
theorem rlk (h:rest ρ) (hk:far k=true):lk (ρ++l) k=lk l k:=aek (_l':=[]) (SW h hk)
theorem rpt (h:rest ρ) (hk:far k=true):pt (ρ++l) k e=ρ++pt l k e:=by
 have:=SW h hk
 clear h
 induction ρ with
 | nil=>rfl
 | cons p ρ ih =>
  obtain ⟨m,x⟩:=p
  simp only[lk] at this
  split at this
  ·cases this
  ·rename_i hne; simp only[List.cons_append,pt]; rw[if_neg hne,ih this]
theorem abn {D:List Nat}:del D (ρ++l)=del D ρ++del D l:=by
 induction ρ with
 | nil=>rfl
 | cons p ρ ih =>
  obtain ⟨m,x⟩:=p
  simp only[List.cons_append,del]
  split
  ·exact ih
  ·rw[ih]; rfl
theorem afX {D:List Nat} (h:rest ρ) (hD:D.all far=true):del D ρ=ρ:=by
 induction ρ with
 | nil=>rfl
 | cons p ρ ih =>
  obtain ⟨m,x⟩:=p
  simp only[del]
  have h1:=(h (m,x) (by simp)).1
  have:D.elem m=false:=by
   cases hc:D.elem m with
   | false=>rfl
   | true=>have:=List.all_eq_true.1 hD m (by simpa using hc); simp[far] at this h1; omega
  rw[this,ih fun p hp=>h p (by simp[hp])]; rfl
theorem wB {D:List Nat} (h:rest ρ) (hD:D.all far=true):del D (ρ++l)=ρ++del D l:=by rw[abn,afX h hD]
theorem Av (h:rest ρ) (hk:1000≤k):tE k ρ=true:=by
 induction ρ with
 | nil=>rfl
 | cons p ρ ih =>
  obtain ⟨m,x⟩:=p
  have h1:=(h (m,x) (by simp)).2
  simp only[tE,Et hk h1,ih fun p hp=>h p (by simp[hp])]; rfl
theorem J4:tE k (ρ++l)=(tE k ρ&&tE k l):=by
 induction ρ with
 | nil=>rfl
 | cons p ρ ih =>
  obtain ⟨m,x⟩:=p
  simp only[List.cons_append,tE,ih,Bool.and_assoc]
theorem y7 (h:rest ρ) (hk:1000≤k):tE k (ρ++l)=tE k l:=by rw[J4,Av h hk]; rfl
theorem AB {e0:ze} (h:rest ρ) (hk:1000≤k):((ρ++l).map fun p=>(p.1,s7 k e0 p.2))=ρ++l.map fun p=>(p.1,s7 k e0 p.2):=by
 rw[List.map_append]
 congr 1
 exact yM fun p hp=>by rw[BG hk (h p hp).2]
theorem sj {c:List AV}:s7 k e (.var c)=.var (c.map (frz k e)):=rfl
theorem nH {n:Nat} {r:List (List AV)}:s7 k e (.uarr n r)=.uarr n (r.map fun r=>r.map (frz k e)):=rfl
theorem mf (h:rest ρ) (hk:1000≤k):(ρ.map fun p=>(p.1,dgE k p.2))=ρ:=yM fun p hp=>by rw[abN hk (h p hp).2]
end
theorem eno {k:Nat} {f:List (Nat × AV)} (h:xf 2000 f) (hk:2000≤k):qH k f=true:=jd hk h
theorem ono {k:Nat} {f:List (List (Nat × AV))} (h:yq 2000 f) (hk:2000≤k):ma k f=true:=Tn hk h
theorem ag5 {k:Nat} {e:ze} {f:List (Nat × AV)} (h:xf 2000 f) (hk:2000≤k):(f.map fun p=>(p.1,frz k e p.2))=f:=XQ hk h
theorem BZ {k:Nat} {e:ze} {f:List (List (Nat × AV))} (h:yq 2000 f) (hk:2000≤k):(f.map fun f=>f.map fun p=>(p.1,frz k e p.2))=f:=BH hk h
theorem edg {k:Nat} {f:List (Nat × AV)} (h:xf 2000 f) (hk:2000≤k):(f.map fun p=>(p.1,dg k p.2))=f:=SH hk h
theorem odg {k:Nat} {f:List (List (Nat × AV))} (h:yq 2000 f) (hk:2000≤k):(f.map fun f=>f.map fun p=>(p.1,dg k p.2))=f:=Kz hk h
noncomputable abbrev tC (n m:Nat) (d:zn):List AV:=[iv n,iv m,.us 1961 1 0 m,.us 1972 3 0 m,fL d.cst d.c,f0 d.v,f1 d.v,f2 d.v,.us 1987 1 0 m,.us 2029 1 0 d.c]
noncomputable def tL (n m:Nat) (d:zn):List (Nat × ze) :=
 [(1015,.var (tC n m d)),(1961,.uarr 1 (cR d.a (fun _=>d.c) m)),(1972,.uarr 3 (fR d.b m)),(1987,.uarr 1 (nR d.bas m)),(2029,.uarr 1 (nR d.fre d.c))]
@[simp] theorem afG {q:Rat} {a b c d e g h:AV}:zH [a,b,c,d,e,f0 q,f1 q,f2 q,g,h] 5 (some 3)=some (fq q):=by
 simp[zH]
def yL (d:zn):Nat→Int
 | 0=>-1
 | k+1=>if 0<d.cst k∧(yL d k<0∨d.fre k<d.fre (yL d k).toNat) then k else yL d k
theorem mN (d:zn):∀ k,-1≤yL d k∧yL d k<k
 | 0=>by simp[yL]
 | k+1=>by have:=mN d k; simp only[yL]; split<;>omega
noncomputable def ZN (n m:Nat) (d:zn) (ρ:List (Nat × ze)) (out:List (List (Nat × AV))) (k:Nat):St :=
 {env:=[(0,.ptr 1015 0),(3,iv (yL d k)),(9,.us 2029 1 0 d.c),(10,iv d.c),(11,iv k)],sto:=ρ++tL n m d,out:=out,base:=5000}
theorem RQ {n m:Nat} {d:zn} {ρ:List (Nat × ze)} {s:St} {K:AV→St→Prop} (hs:s.sto=ρ++tL n m d) (hρ:rest ρ) (hc:d.c<1000000) (h:K (iv (yL d d.c)) s) :
  yc Try.prog qh [.ptr 1015 0] s K:=by
 obtain ⟨env,σ,out,base⟩:=s
 simp only at hs
 subst hs
 refine vF 5000 Ro (by simp) ?_
 simp[eU,tL,rlk hρ,far]
 refine zl (ZN n m d ρ (env::out)) (fun _=>True) d.c (by simp[ZN,tL,yL]) trivial (fun k hk _=>?_) (fun _=>?_)
 ·have e:(k:Int)<d.c:=by omega
  have w:=zq (k:=k) (by omega)
  have g3:=vi (q:=d.cst k)
  obtain ⟨b1,b2⟩:=mN d k
  simp[qQ,ZN,tL,e,hk,rlk hρ,far]
  refine za g3 (by simp) (by simp) ?_
  by_cases h0:0<d.cst k
  ·have h0':0<yA (d.cst k):=uV.2 h0
   by_cases h1:yL d k<0
   ·have ev:yL d (k+1)=k:=by simp only[yL]; rw[if_pos ⟨h0,.inl h1⟩]
    simp[h0',h1,w,ZN,ev,tL]
   ·have b3:(yL d k).toNat<d.c:=by omega
    have b4:(0:Int)≤yL d k:=by omega
    have b5:yL d k<d.c:=by omega
    by_cases h2:d.fre k<d.fre (yL d k).toNat
    ·have ev:yL d (k+1)=k:=by simp only[yL]; rw[if_pos ⟨h0,.inr h2⟩]
     simp[h0',h1,h2,b3,b4,b5,w,ZN,ev,tL,rlk hρ,far]
    ·have ev:yL d (k+1)=yL d k:=by simp only[yL]; rw[if_neg fun h=>h.2.elim h1 h2]
     simp[h0',h1,h2,b3,b4,b5,w,ZN,ev,tL,rlk hρ,far]
  ·have h0':¬ 0<yA (d.cst k):=fun h=>h0 (uV.1 h)
   have ev:yL d (k+1)=yL d k:=by simp only[yL]; rw[if_neg fun h=>h0 h.1]
   simp[h0',w,ZN,ev,tL]
 ·simp[qQ,kQ,dy,ZN]
  exact h
def rat (d:zn) (q i:Nat):Rat:=d.b i/d.a i q
def ya (d:zn) (q:Nat):Nat→Int
 | 0=>-1
 | k+1=>if 0<d.a k q∧(ya d q k<0∨rat d q k<rat d q (ya d q k).toNat∨(rat d q k=rat d q (ya d q k).toNat∧d.bas k≤d.bas (ya d q k).toNat)) then k else ya d q k
theorem mV (d:zn) (q:Nat):∀ k,-1≤ya d q k∧ya d q k<k
 | 0=>by simp[ya]
 | k+1=>by have:=mV d q k; simp only[ya]; split<;>omega
noncomputable def lst (d:zn) (q k:Nat):List AV:=if ya d q k<0 then zz else fr (rat d q (ya d q k).toNat)
@[simp] theorem ahX {d:zn} {q k j:Nat}:y5 j (lst d q k)=false:=by unfold lst; split<;>simp
noncomputable def eK (n m:Nat) (d:zn) (q:Nat) (ρ:List (Nat × ze)) (out:List (List (Nat × AV))) (k:Nat):St :=
 {env:=[(0,.ptr 1015 0),(1,iv q),(5,iv (ya d q k)),(6,.ptr 5006 0),(15,.us 1961 1 0 m),(16,iv m),(17,iv k)],sto:=ρ++(tL n m d++[(5006,.var (lst d q k))]),out:=out,base:=5000}
theorem D9 {K L:Nat} {a b:Rat} (ha:sz K a) (hb:sz L b):sz (K+L) (a/b):=by
 rw[show a/b=a*(1/b) by grind]
 exact yB ha (MB hb)
theorem Nm {n m q L:Nat} {d:zn} {ρ:List (Nat × ze)} {s:St} {K:AV→St→Prop} (hs:s.sto=ρ++tL n m d) (hρ:rest ρ) (hE:xf 2000 s.env) (hO:yq 2000 s.out) (hm:m<1000000) (hq:q<d.c)
  (hL:L≤30000000000) (ha:∀ i,i<m→sz L (d.a i q)) (hb:∀ i,i<m→sz L (d.b i)) (h:K (iv (ya d q m)) s) :
  yc Try.prog pw [.ptr 1015 0,iv q] s K:=by
 obtain ⟨env,σ,out,base⟩:=s
 simp only at hs hE hO
 subst hs
 refine vF 5000 QI (by simp) ?_
 simp[bF,tL,rlk hρ,rpt hρ,far]
 refine zl (eK n m d q ρ (env::out)) (fun _=>True) m (by simp[eK,tL,ya,lst]) trivial (fun k hk _=>?_) (fun _=>?_)
 ·have e:(k:Int)<m:=by omega
  have eq:(q:Int)<d.c:=by omega
  have w:=zq (k:=k) (by omega)
  obtain ⟨r1,hr1⟩:∃ r,r=rat d q k:=⟨_,rfl⟩
  obtain ⟨r2,hr2⟩:∃ r,r=rat d q (ya d q k).toNat:=⟨_,rfl⟩
  have g1:=vi (q:=d.a k q)
  have g2:d.a k q≠0→zd Try.prog ji [fq (d.b k),fq (d.a k q)] (.tuple [fq r1,iv 0]):=fun h=>by rw[hr1]; exact aaE (by omega) (hb k hk) (ha k hk) h
  obtain ⟨b1,b2⟩:=mV d q k
  have z1:sz (L+L) r1:=by rw[hr1]; exact D9 (hb k hk) (ha k hk)
  have z2:0≤ya d q k→sz (L+L) r2:=fun h=>by rw[hr2]; exact D9 (hb _ (by omega)) (ha _ (by omega))
  simp[pU,eK,tL,e,hk,rlk hρ,far,eq,hq]
  refine za g1 (by simp) (by simp) ?_
  by_cases h0:0<d.a k q
  ·have h0':¬ yA (d.a k q)≤0:=by have:=uV.2 h0; omega
   have h00:d.a k q≠0:=by grind
   simp[h0',rlk hρ,far,e,eq,hk,hq]
   refine za (g2 h00) (by simp) (by simp) ?_
   by_cases h1:ya d q k<0
   ·have ev:ya d q (k+1)=k:=by simp only[ya]; rw[if_pos ⟨h0,.inl h1⟩]
    have ev1:lst d q k=zz:=by unfold lst; rw[if_pos h1]
    have ev2:lst d q (k+1)=fr r1:=by unfold lst; rw[ev,if_neg (by omega),hr1]; rfl
    have h1':¬ 0≤ya d q k:=by omega
    simp[h1',rlk hρ,rpt hρ,wB hρ,y7 hρ,eno hE,ono hO,far,eK,tL,ev,ev1,ev2,w]
   ·have h1':0≤ya d q k:=by omega
    have b3:(ya d q k).toNat<m:=by omega
    have b5:ya d q k<m:=by omega
    have ev1:lst d q k=fr r2:=by unfold lst; rw[if_neg h1,hr2]
    have g3:=UY (by omega) z1 (z2 h1')
    simp[h1',rlk hρ,rpt hρ,far,ev1]
    refine za g3 (by simp) (by simp) ?_
    by_cases c1:r1<r2
    ·have ev:ya d q (k+1)=k:=by simp only[ya]; rw[if_pos ⟨h0,.inr (.inl (by rw[← hr1,← hr2]; exact c1))⟩]
     have ev2:lst d q (k+1)=fr r1:=by unfold lst; rw[ev,if_neg (by omega),hr1]; rfl
     have k1:¬ 0<xV r1 r2:=by have:=qy.2 c1; omega
     have k2:¬ xV r1 r2=0:=by have:=qy.2 c1; omega
     simp[k1,k2,rlk hρ,rpt hρ,wB hρ,y7 hρ,eno hE,ono hO,far,eK,tL,ev,ev2,w]
    ·by_cases c2:r1=r2
     ·have k2:xV r1 r2=0:=CY.2 c2
      have k1:¬ 0<xV r1 r2:=by omega
      by_cases c3:d.bas k≤d.bas (ya d q k).toNat
      ·have ev:ya d q (k+1)=k:=by simp only[ya]; rw[if_pos ⟨h0,.inr (.inr ⟨by rw[← hr1,← hr2]; exact c2,c3⟩)⟩]
       have ev2:lst d q (k+1)=fr r1:=by unfold lst; rw[ev,if_neg (by omega),hr1]; rfl
       have c3':¬ d.bas (ya d q k).toNat<d.bas k:=by omega
       simp[k2,c3',hk,e,b3,b5,h1',rlk hρ,rpt hρ,wB hρ,y7 hρ,eno hE,ono hO,far,eK,tL,ev,ev2,w]
      ·have ev:ya d q (k+1)=ya d q k:=by simp only[ya]; rw[if_neg]; rw[← hr1,← hr2]; simp[h1,c1,c3]
       have ev2:lst d q (k+1)=fr r2:=by unfold lst; rw[ev,if_neg (by omega),hr2]
       have c3':d.bas (ya d q k).toNat<d.bas k:=by omega
       simp[k2,c3',hk,e,b3,b5,h1',rlk hρ,wB hρ,y7 hρ,eno hE,ono hO,far,eK,tL,ev,ev2,w]
     ·have ev:ya d q (k+1)=ya d q k:=by simp only[ya]; rw[if_neg]; rw[← hr1,← hr2]; simp[h1,c1,c2]
      have ev2:lst d q (k+1)=fr r2:=by unfold lst; rw[ev,if_neg (by omega),hr2]
      have k1:0<xV r1 r2:=abi.2 (by grind)
      simp[k1,rlk hρ,wB hρ,y7 hρ,eno hE,ono hO,far,eK,tL,ev,ev2,w]
  ·have h0':yA (d.a k q)≤0:=Int.not_lt.1 fun h=>h0 (uV.1 h)
   have ev:ya d q (k+1)=ya d q k:=by simp only[ya]; rw[if_neg fun h=>h0 h.1]
   have ev2:lst d q (k+1)=lst d q k:=by unfold lst; rw[ev]
   simp[h0',w,eK,ev,ev2,tL,rlk hρ,wB hρ,y7 hρ,eno hE,ono hO,far]
 ·simp[pU,jI,bT,eK,tL,wB hρ,far,y7 hρ,eno hE,ono hO]
  exact h
def gu (d:zn) (p q:Nat):Nat→Rat:=upd (fun j=>d.a p j*(1/d.a p q)) q (1/d.a p q)
def pkD (d:zn) (p q k:Nat):zn :=
 {d with a:=fun i=>if i<k∧i≠p then elm (d.a i) (d.a i q) q (gu d p q) else d.a i,b:=fun i=>if i<k∧i≠p then d.b i-d.a i q*(d.b p*(1/d.a p q)) else d.b i}
theorem An {d:zn} {p q:Nat}:pkD d p q 0=d:=by simp[pkD]
theorem Al {d:zn} {p q:Nat}:pkD d p q (p+1)=pkD d p q p:=by
 simp only[pkD,zn.mk.injEq,true_and,and_true]
 constructor
 ·funext i; by_cases h:i<p
  ·rw[if_pos ⟨by omega,by omega⟩,if_pos ⟨h,by omega⟩]
  ·rw[if_neg (by omega),if_neg (by omega)]
 ·funext i; by_cases h:i<p
  ·rw[if_pos ⟨by omega,by omega⟩,if_pos ⟨h,by omega⟩]
  ·rw[if_neg (by omega),if_neg (by omega)]
theorem ack {d:zn} {p q i:Nat} (hi:i<d.r):(pivot d p q).a i=(upd (pkD d p q d.r).a p (gu d p q)) i:=by
 funext j
 simp only[pivot,upd,pkD]
 by_cases h:i=p
 ·subst h; simp only[if_true,gu,upd]
 ·simp only[h,hi,if_false,if_true,ne_eq,not_false_eq_true,and_self,elm,gu,upd]
  split<;>grind
theorem acl {d:zn} {p q i:Nat} (hi:i<d.r):(pivot d p q).b i=(upd (pkD d p q d.r).b p (d.b p*(1/d.a p q))) i:=by
 simp only[pivot,upd,pkD]
 by_cases h:i=p
 ·subst h; simp only[if_true]
 ·simp only[h,hi,if_false,if_true,ne_eq,not_false_eq_true,and_self]
section
variable {d:zn} {p q k:Nat}
@[simp] theorem ajM:(pkD d p q k).c=d.c:=rfl
@[simp] theorem ajN:(pkD d p q k).r=d.r:=rfl
@[simp] theorem ah8:(pkD d p q k).cst=d.cst:=rfl
@[simp] theorem ajO:(pkD d p q k).v=d.v:=rfl
@[simp] theorem ah7:(pkD d p q k).bas=d.bas:=rfl
@[simp] theorem ah9:(pkD d p q k).fre=d.fre:=rfl
theorem E9:(pivot d p q).cst=elm d.cst (d.cst q) q (gu d p q):=by
 funext j
 simp only[pivot,elm,gu,upd]
 split<;>grind
end
noncomputable def Mo (n m:Nat) (d:zn) (p q:Nat) (v:Rat) (f:Nat→Rat) (ρ:List (Nat × ze)) (out:List (List (Nat × AV))) (k:Nat):St :=
 {env:=[(0,.ptr 1015 0),(1,iv p),(2,iv q),(6,.ptr 5006 0),(8,.sl 5034 3 0 d.c),(41,fL (d.a p) d.c),(42,iv d.c),(43,iv k)],
  sto:=ρ++(tL n m d++[(5006,.var (fr v)),(5034,.arr 3 (fZ f k d.c))]),out:=out,base:=5000}
noncomputable def Ra (n m:Nat) (d:zn) (p q:Nat) (v:Rat) (f:Nat→Rat) (ρ:List (Nat × ze)) (out:List (List (Nat × AV))) (k:Nat):St :=
 {env:=[(0,.ptr 1015 0),(1,iv p),(2,iv q),(8,fL f d.c),(11,.ptr 5011 0),(72,iv m),(73,iv k)],
  sto:=ρ++(tL n m (pkD d p q k)++[(5011,.var (fr v))]),out:=out,base:=5000}
theorem NR {n m p q L:Nat} {d:zn} {ρ:List (Nat × ze)} {s:St} {K:AV→St→Prop} (hs:s.sto=ρ++tL n m d) (hρ:rest ρ) (hE:xf 2000 s.env) (hO:yq 2000 s.out) (hm:m<1000000) (hc:d.c<1000000) (hr:d.r=m) (hp:p<m) (hq:q<d.c)
  (hL:L≤10000000000) (hsz:szD L d) (ha0:d.a p q≠0) (h:K (.tuple []) ⟨s.env,ρ++tL n m (pivot d p q),s.out,s.base⟩) :
  yc Try.prog uP [.ptr 1015 0,iv p,iv q] s K:=by
 obtain ⟨env,σ,out,base⟩:=s
 simp only at hs hE hO h
 subst hs
 have ep:(p:Int)<m:=by omega
 have eq:(q:Int)<d.c:=by omega
 have sa:∀ i j,i<m→j<d.c→sz L (d.a i j):=fun i j h1 h2=>hsz.a i j (by omega) h2
 have sb:∀ i,i<m→sz L (d.b i):=fun i h1=>hsz.b i (by omega)
 obtain ⟨inv,hinv⟩:∃ x,1/d.a p q=x:=⟨_,rfl⟩
 have sinv:sz L inv:=by rw[← hinv]; exact MB (sa p q hp hq)
 have one:sz L 1:=by
  have:1≤2^L:=Nat.one_le_two_pow
  exact ⟨this,this⟩
 have g1:zd Try.prog zP [iv 1] (fq 1):=yH (n:=1) (by decide) (by decide)
 have g2:=aaE (by omega) one (sa p q hp hq) ha0
 rw[hinv] at g2
 have g3:=jf (by omega) (sb p hp) sinv
 obtain ⟨bnd,hbnd⟩:∃ x,d.b p*inv=x:=⟨_,rfl⟩
 have sbnd:sz (L+L) bnd:=by rw[← hbnd]; exact yB (sb p hp) sinv
 rw[hbnd] at g3
 refine vF 5000 LB (by simp) ?_
 simp[YT,tL,rlk hρ,far]
 refine za g1 (by simp) (by simp) ?_
 simp[rlk hρ,far,ep,eq,hp,hq]
 refine za g2 (by simp) (by simp) ?_
 simp[rlk hρ,rpt hρ,far,ep,hp,eMk]
 refine ⟨by omega,by omega,?_⟩
 rw[nF (f:=fun j=>d.a p j*inv)]
 refine zl (Mo n m d p q inv (fun j=>d.a p j*inv) ρ (env::out)) (fun _=>True) d.c (by simp[Mo,tL]) trivial (fun k hk _=>?_) (fun _=>?_)
 ·have e:(k:Int)<d.c:=by omega
  have w:=zq (k:=k) (by omega)
  have f1:=jf (by omega) (sa p k hp hk) sinv
  have hset:=lW (f:=fun j=>d.a p j*inv) hk
  simp[mH,Mo,tL,e,hk,tL,rlk hρ,rpt hρ,far]
  refine za f1 (by simp) (by simp) ?_
  simp[hk,w,hset,Mo,tL,rlk hρ,rpt hρ,wB hρ,y7 hρ,eno hE,ono hO,far]
 ·have hprow:upd (fun j=>d.a p j*inv) q inv=gu d p q:=by unfold gu; rw[hinv]
  have hset:(fR (fun j=>d.a p j*inv) d.c).set q (fr inv)=fR (gu d p q) d.c:=by rw[uE,hprow]
  have spr:∀ j,j<d.c→sz (L+L) (gu d p q j):=fun j hj=>by
   rw[← hprow]; unfold upd; split
   ·exact zC sinv (by omega)
   ·exact yB (sa p j hp hj) sinv
  generalize hpr:gu d p q=pr at *
  simp[mH,Mo,tL,rlk hρ,rpt hρ,wB hρ,y7 hρ,eno hE,ono hO,AB hρ,ag5 hE,BZ hO,far,nE,eX,hq,eq,ep,hp,hset,xa,sj,nH,tQ,lY]
  refine za g3 (by simp) (by simp) ?_
  simp[rlk hρ,rpt hρ,wB hρ,y7 hρ,eno hE,ono hO,far]
  refine zl (Ra n m d p q bnd pr ρ (env::out)) (fun _=>True) m (by simp[Ra,tL,An]) trivial (fun k hk _=>?_) (fun _=>?_)
  ·have e:(k:Int)<m:=by omega
   have w:=zq (k:=k) (by omega)
   have pa:(pkD d p q k).a k=d.a k:=by simp[pkD]
   have pb:(pkD d p q k).b k=d.b k:=by simp[pkD]
   have pc:(pkD d p q k).c=d.c:=rfl
   by_cases hkp:k=p
   ·subst hkp
    simp[qr,Ra,tL,e,w,Al]
   ·have ek:¬ (k:Int)=p:=by omega
    have f1:=ft (K:=L+L) (pb:=bnd) hc hq (by omega) (fun j hj=>zC (sa k j hk hj) (by omega)) spr (zC (sb k hk) (by omega)) sbnd
    simp[qr,Ra,tL,rlk hρ,far,e,hk,ek,pa,pb]
    refine za f1 (by simp) (by simp) ?_
    have hs1:(cR (pkD d p q k).a (fun _=>d.c) m).set k [fL (elm (d.a k) (d.a k q) q pr) d.c]=cR (pkD d p q (k+1)).a (fun _=>d.c) m:=by
     rw[Fr]
     refine Pt fun i hi=>⟨by unfold upd; split<;>rfl,fun j hj=>?_⟩
     by_cases hik:i=k
     ·subst hik
      simp only[upd,if_true,pkD]
      rw[if_pos ⟨by omega,hkp⟩,hpr]
     ·have:(i<k+1)=(i<k):=by simp only[eq_iff_iff]; omega
      simp only[upd,if_neg hik,pkD,this]
    have hs2:(fR (pkD d p q k).b m).set k (fr (d.b k-d.a k q*bnd))=fR (pkD d p q (k+1)).b m:=by
     rw[uE]
     refine ye fun i hi=>?_
     by_cases hik:i=k
     ·subst hik
      simp only[upd,if_true,pkD]
      rw[if_pos ⟨by omega,hkp⟩,hinv,hbnd]
     ·have:(i<k+1)=(i<k):=by simp only[eq_iff_iff]; omega
      simp only[upd,if_neg hik,pkD,this]
    simp[tL,rlk hρ,rpt hρ,far,hs1,hs2,hk,e,w,Ra]
  ·have f1:=ft (K:=L+L) (pb:=bnd) hc hq (by omega) (fun j hj=>zC (hsz.cst j hj) (by omega)) spr (zC hsz.v (by omega)) sbnd
   have f2:=jf (K:=L+L) (by omega) (zC (hsz.cst q hq) (by omega)) sbnd
   have f3:=UA (K:=L+(L+L)) (by omega) (zC hsz.v (by omega)) (yB (hsz.cst q hq) sbnd)
   have e1:(cR (pkD d p q m).a (fun _=>d.c) m).set p [fL pr d.c]=cR (pivot d p q).a (fun _=>d.c) m:=by
    rw[Fr]
    refine Pt fun i hi=>⟨by unfold upd; split<;>rfl,fun j hj=>?_⟩
    rw[ack (by omega),hpr,hr]
   have e2:(fR (pkD d p q m).b m).set p (fr bnd)=fR (pivot d p q).b m:=by
    rw[uE]
    refine ye fun i hi=>?_
    rw[acl (by omega),hinv,hbnd,hr]
   have e3:(nR d.bas m).set p [iv (d.fre q)]=nR (pivot d p q).bas m:=EF
   have e4:(nR d.fre d.c).set q [iv (d.bas p)]=nR (pivot d p q).fre d.c:=EF
   have e5:elm d.cst (d.cst q) q pr=(pivot d p q).cst:=by rw[E9,hpr]
   have e6:d.v+d.cst q*bnd=(pivot d p q).v:=by simp only[pivot]; rw[hinv,hbnd]
   have e7:(pivot d p q).c=d.c:=rfl
   rw[e5] at f1
   rw[e6] at f3
   generalize pivot d p q=d' at *
   simp[qr,Ra,tL,rlk hρ,rpt hρ,far,eW,hq,eq]
   refine za f1 (by simp) (by simp) ?_
   simp[rlk hρ,rpt hρ,far]
   refine za f2 (by simp) (by simp) ?_
   simp
   refine za f3 (by simp) (by simp) ?_
   simp[rlk hρ,rpt hρ,wB hρ,y7 hρ,eno hE,ono hO,far,Xb,hp,hq,ep,eq,e1,e2,e3,e4]
   simp only[tL,tC,e7] at h
   exact h
theorem Xz {d:zn}:∀ k,yL d k<0→∀ j,j<k→d.cst j≤0
 | 0,_,j,hj=>by omega
 | k+1,h,j,hj=>by
  simp only[yL] at h
  split at h
  ·omega
  ·rename_i hn
   by_cases e:j=k
   ·subst e
    have:¬ 0<d.cst j:=fun h0=>hn ⟨h0,.inl h⟩
    grind
   ·exact Xz k h j (by omega)
theorem ct {d:zn}:∀ k,0≤yL d k→0<d.cst (yL d k).toNat∧∀ j,j<k→0<d.cst j→d.fre (yL d k).toNat≤d.fre j
 | 0,h=>by simp[yL] at h
 | k+1,h=>by
  have b:=mN d k
  simp only[yL] at h ⊢
  split
  ·rename_i hc
   refine ⟨by simpa using hc.1,fun j hj h0=>?_⟩
   by_cases e:j=k
   ·subst e; simp
   ·by_cases h1:yL d k<0
    ·have:=Xz k h1 j (by omega); grind
    ·have h2:=hc.2.resolve_left h1
     have:=(ct k (by omega)).2 j (by omega) h0
     simp; omega
  ·rename_i hc
   rw[if_neg hc] at h
   obtain ⟨h1,h2⟩:=ct k h
   refine ⟨h1,fun j hj h0=>?_⟩
   by_cases e:j=k
   ·subst e
    have:¬ d.fre j<d.fre (yL d j).toNat:=fun h=>hc ⟨h0,.inr h⟩
    omega
   ·exact h2 j (by omega) h0
theorem XN {d:zn} {q:Nat}:∀ k,ya d q k<0→∀ i,i<k→d.a i q≤0
 | 0,_,j,hj=>by omega
 | k+1,h,j,hj=>by
  simp only[ya] at h
  split at h
  ·omega
  ·rename_i hn
   by_cases e:j=k
   ·subst e
    have:¬ 0<d.a j q:=fun h0=>hn ⟨h0,.inl h⟩
    grind
   ·exact XN k h j (by omega)
theorem XO {d:zn} {q:Nat}:∀ k,0≤ya d q k→0<d.a (ya d q k).toNat q∧∀ i,i<k→0<d.a i q→rat d q (ya d q k).toNat≤rat d q i∧(rat d q (ya d q k).toNat=rat d q i→d.bas (ya d q k).toNat≤d.bas i)
 | 0,h=>by simp[ya] at h
 | k+1,h=>by
  have b:=mV d q k
  simp only[ya] at h ⊢
  split
  ·rename_i hc
   simp only[Int.toNat_natCast]
   refine ⟨hc.1,fun i hi h0=>?_⟩
   by_cases e:i=k
   ·subst e; exact ⟨by grind,fun _=>Nat.le_refl _⟩
   ·by_cases h1:ya d q k<0
    ·have:=XN k h1 i (by omega); grind
    ·obtain ⟨g1,g2⟩:=(XO k (by omega)).2 i (by omega) h0
     rcases hc.2 with h2 | h2 | h2
     ·omega
     ·exact ⟨by grind,fun h=>by grind⟩
     ·refine ⟨by grind,fun h=>Nat.le_trans h2.2 (g2 (by grind))⟩
  ·rename_i hc
   rw[if_neg hc] at h
   obtain ⟨h1,h2⟩:=XO k h
   refine ⟨h1,fun i hi h0=>?_⟩
   by_cases e:i=k
   ·subst e
    have h3:¬ rat d q i<rat d q (ya d q i).toNat:=fun h=>hc ⟨h0,.inr (.inl h)⟩
    refine ⟨by grind,fun h=>?_⟩
    have h4:¬ d.bas i≤d.bas (ya d q i).toNat:=fun h5=>hc ⟨h0,.inr (.inr ⟨h.symm,h5⟩)⟩
    omega
   ·exact h2 i (by omega) h0
theorem Df {b1 a1 b2 a2:Rat} (h1:0<a1) (h2:0<a2):(b1/a1≤b2/a2↔b1*a2≤b2*a1)∧(b1/a1=b2/a2↔b1*a2=b2*a1):=by
 have e1:b1=b1/a1*a1:=by grind
 have e2:b2=b2/a2*a2:=by grind
 generalize b1/a1=x at *
 generalize b2/a2=y at *
 have hp:0<a1*a2:=Rat.mul_pos h1 h2
 have k1:b2*a1-b1*a2=(y-x)*(a1*a2):=by rw[e1,e2]; grind
 clear e1 e2
 constructor
 ·constructor
  ·intro h
   have:=Rat.mul_nonneg (show 0≤y-x by grind) (show 0≤a1*a2 by grind)
   rw[← k1] at this; grind
  ·intro h
   rcases lt_or_le y x with h3 | h3
   ·have:=Rat.mul_pos (show 0<x-y by grind) hp
    have e:(x-y)*(a1*a2)=-((y-x)*(a1*a2)):=by grind
    rw[e,← k1] at this; grind
   ·exact h3
 ·constructor
  ·intro h
   have:(y-x)*(a1*a2)=0:=by rw[h]; grind
   rw[← k1] at this; grind
  ·intro h
   have h5:(y-x)*(a1*a2)=0:=by rw[← k1]; grind
   rcases Rat.mul_eq_zero.1 h5 with h | h
   ·grind
   ·rw[h] at hp; exact absurd hp (by grind)
def qq' (d:zn):Nat:=(yL d d.c).toNat
def pp' (d:zn):Nat:=(ya d (qq' d) d.r).toNat
def SB (d:zn):Prop:=0≤yL d d.c∧0≤ya d (qq' d) d.r
theorem cA {d:zn} (h:SB d):kW d (pp' d) (qq' d):=by
 have b1:=mN d d.c
 have b2:=mV d (qq' d) d.r
 obtain ⟨h1,h2⟩:=h
 obtain ⟨g1,g2⟩:=ct d.c h1
 obtain ⟨g3,g4⟩:=XO d.r h2
 refine ⟨by unfold pp'; omega,by unfold qq'; omega,g1,g2,g3,fun i hi h0=>?_⟩
 obtain ⟨g5,g6⟩:=g4 i hi h0
 obtain ⟨c1,c2⟩:=Df (b1:=d.b (pp' d)) (b2:=d.b i) g3 h0
 exact ⟨c1.1 g5,fun h=>g6 (c2.2 h)⟩
def afM (d:zn):zn:=pivot d (pp' d) (qq' d)
def yy (d:zn):Nat→zn
 | 0=>d
 | k+1=>afM (yy d k)
theorem AH {d:zn} {N:Nat} (hb:Bij d N) (hf:feas d):∃ K,(∀ k,k<K→SB (yy d k))∧¬ SB (yy d K):=by
 apply Classical.byContradiction
 intro hno
 have all:∀ k,∀ j,j<k→SB (yy d j):=by
  intro k
  induction k with
  | zero=>intro j hj; omega
  | succ k ih =>
   intro j hj
   by_cases e:j=k
   ·subst e
    exact Classical.byContradiction fun h=>hno ⟨j,ih,h⟩
   ·exact ih j (by omega)
 have r:Run (yy d) (fun k=>pp' (yy d k)) (fun k=>qq' (yy d k)) (2^N) N:=⟨hb,hf,fun k hk=>⟨cA (all _ k hk),rfl⟩⟩
 have:=r.le
 omega
theorem AI {d:zn} {N K:Nat} (hb:Bij d N) (hf:feas d) (h:∀ k,k<K→SB (yy d k)):∀ k,k≤K→Same (yy d k) d N∧feas (yy d k)∧(yy d k).r=d.r∧(yy d k).c=d.c:=by
 intro k
 induction k with
 | zero=>intro _; exact ⟨Same.refl hb,hf,rfl,rfl⟩
 | succ k ih =>
  intro hk
  obtain ⟨h1,h2,h3,h4⟩:=ih (by omega)
  have hB:=cA (h k (by omega))
  have ha:(yy d k).a (pp' (yy d k)) (qq' (yy d k))≠0:=by have:=hB.2.2.2.2.1; grind
  exact ⟨(Same.pivot h1.bd hB.1 hB.2.1 ha).trans h1,hB.feas h2,h3,h4⟩
structure Fin (d e:zn) (N:Nat) (x:AV):Prop where
 same:Same e d N
 feas:feas e
 r:e.r=d.r
 c:e.c=d.c
 out:(x=.tuple [iv 0,bv true]∧∀ j,j<e.c→e.cst j≤0)∨∃ q:Nat,x=.tuple [iv q,bv false]∧q<e.c∧0<e.cst q∧∀ i,i<e.r→e.a i q≤0
noncomputable def stOp (n m:Nat) (d:zn) (ρ:List (Nat × ze)) (out:List (List (Nat × AV))) (k:Nat):St :=
 {env:=[(0,.ptr 1015 0)],sto:=ρ++tL n m (yy d k),out:=out,base:=4500}
theorem Y8:y6 Try.prog qh=true:=by kernel_rfl
theorem Tz:y6 Try.prog pw=true:=by kernel_rfl
theorem cM:y6 Try.prog uP=true:=by kernel_rfl
def eE (e:zn):AV:=if yL e e.c<0 then .tuple [iv 0,bv true] else .tuple [iv (qq' e),bv false]
theorem ad4 {d e:zn} {N:Nat} (h1:Same e d N) (h2:LP.feas e) (h3:e.r=d.r) (h4:e.c=d.c) (hJe:¬ SB e):Fin d e N (eE e):=by
 have b1:=mN e e.c
 have b2:=mV e (qq' e) e.r
 refine ⟨h1,h2,h3,h4,?_⟩
 unfold eE
 by_cases g1:yL e e.c<0
 ·rw[if_pos g1]; exact .inl ⟨rfl,Xz _ g1⟩
 ·rw[if_neg g1]
  have g2:ya e (qq' e) e.r<0:=by
   rcases Int.lt_or_le (ya e (qq' e) e.r) 0 with h | h
   ·exact h
   ·exact absurd ⟨by omega,h⟩ hJe
  exact .inr ⟨qq' e,rfl,by unfold qq'; omega,(ct (d:=e) e.c (by omega)).1,XN _ g2⟩
theorem Qa {N:Nat} {d:zn} (hb:Bij d N) (hf:feas d):∃ e,Fin d e N (eE e)∧∀ {n m L:Nat} {ρ:List (Nat × ze)} {s:St} {K:AV→St→Prop},s.sto=ρ++tL n m d→rest ρ→xf 2000 s.env→yq 2000 s.out→m<1000000→d.c<1000000→d.r=m →
  L≤10000000000→(∀ e,Same e d N→e.r=d.r→e.c=d.c→szD L e)→K (eE e) ⟨s.env,ρ++tL n m e,s.out,s.base⟩ →
  yc Try.prog x8 [.ptr 1015 0] s K:=by
 obtain ⟨J,hJ,hJe⟩:=AH hb hf
 have hrun:=AI hb hf hJ
 obtain ⟨hf1,hf2,hf3,hf4⟩:=hrun J (by omega)
 refine ⟨yy d J,ad4 hf1 hf2 hf3 hf4 hJe,?_⟩
 intro n m L ρ s K hs hρ hE hO hm hc hr hL hsz h
 obtain ⟨env,σ,out,base⟩:=s
 simp only at hs hE hO h
 subst hs
 have hO2:yq 2000 (env::out):=l7.2 ⟨hE,hO⟩
 refine vF 4500 Rp (by simp) ?_
 simp[eV]
 refine Jl (stOp n m d ρ (env::out)) (fun _=>True) J (by simp[stOp,yy]) trivial (fun k hk _=>?_) (fun _=>?_)
 ·obtain ⟨h1,h2,h3,h4⟩:=hrun k (by omega)
  have hg:=hJ k hk
  have hB:=cA hg
  have b1:=mN (yy d k) (yy d k).c
  have b2:=mV (yy d k) (qq' (yy d k)) (yy d k).r
  have hz:=hsz _ h1 h3 h4
  have ea:yL (yy d k) (yy d k).c=(qq' (yy d k):Nat):=by unfold qq'; have:=hg.1; omega
  have eb:ya (yy d k) (qq' (yy d k)) (yy d k).r=(pp' (yy d k):Nat):=by unfold pp'; have:=hg.2; omega
  have e3:yy d (k+1)=pivot (yy d k) (pp' (yy d k)) (qq' (yy d k)):=rfl
  have hrm:(yy d k).r=m:=by omega
  rw[hrm] at eb
  generalize hd2:yy d (k+1)=d2 at *
  generalize hd1:yy d k=d1 at *
  generalize qq' d1=q at *
  generalize pp' d1=p at *
  have hst1:stOp n m d ρ (env::out) k={env:=[(0,.ptr 1015 0)],sto:=ρ++tL n m d1,out:=env::out,base:=4500}:=by unfold stOp; rw[hd1]
  rw[hst1]
  have nq:¬ ((q:Int)<0):=by omega
  have np:¬ ((p:Int)<0):=by omega
  simp[qS,Y8]
  refine yb (RQ (s:=⟨_,ρ++tL n m d1,env::out,4500⟩) (d:=d1) (ρ:=ρ) (n:=n) (m:=m) rfl hρ (by omega) ?_)
  rw[ea]
  simp[Tz,nq]
  refine yb (Nm (s:=⟨_,ρ++tL n m d1,env::out,4500⟩) (d:=d1) (ρ:=ρ) (n:=n) (m:=m) (L:=L) rfl hρ ?_ hO2 hm hB.2.1 (by omega) (fun i hi=>hz.a i q (by omega) hB.2.1) (fun i hi=>hz.b i (by omega)) ?_)
  ·simp[yI,xg,l8,rX,xR]
  rw[eb]
  simp[cM,np]
  refine yb (NR (s:=⟨_,ρ++tL n m d1,env::out,4500⟩) (d:=d1) (ρ:=ρ) (n:=n) (m:=m) (L:=L) rfl hρ ?_ hO2 hm (by omega) hrm (by have:=hB.1; omega) hB.2.1 hL hz (by have:=hB.2.2.2.2.1; grind) ?_)
  ·simp[yI,xg,l8,rX,xR]
  rw[← e3]
  simp[stOp]
  exact .inl (by rw[hd2])
 ·obtain ⟨h1,h2,h3,h4⟩:=hrun J (by omega)
  have b1:=mN (yy d J) (yy d J).c
  have b2:=mV (yy d J) (qq' (yy d J)) (yy d J).r
  have hz:=hsz _ h1 h3 h4
  have hrm:(yy d J).r=m:=by omega
  generalize hd1:yy d J=d1 at *
  have hst1:stOp n m d ρ (env::out) J={env:=[(0,.ptr 1015 0)],sto:=ρ++tL n m d1,out:=env::out,base:=4500}:=by unfold stOp; rw[hd1]
  rw[hst1]
  simp[qS,Y8]
  refine yb (RQ (s:=⟨_,ρ++tL n m d1,env::out,4500⟩) (d:=d1) (ρ:=ρ) (n:=n) (m:=m) rfl hρ (by omega) ?_)
  by_cases g1:yL d1 d1.c<0
  ·have hfr:eE d1=.tuple [iv 0,bv true]:=if_pos g1
   rw[hfr] at h
   simp[g1,m6]
   exact h
  ·have hfr:eE d1=.tuple [iv (qq' d1),bv false]:=if_neg g1
   rw[hfr] at h
   have ea:yL d1 d1.c=(qq' d1:Nat):=by unfold qq'; omega
   have g2:ya d1 (qq' d1) d1.r<0:=by
    rcases Int.lt_or_le (ya d1 (qq' d1) d1.r) 0 with h | h
    ·exact h
    ·exact absurd ⟨by omega,h⟩ hJe
   have hq:qq' d1<d1.c:=by unfold qq'; omega
   rw[hrm] at g2
   rw[ea]
   generalize qq' d1=q at *
   have nq:¬ ((q:Int)<0):=by omega
   simp[Tz,nq]
   refine yb (Nm (s:=⟨_,ρ++tL n m d1,env::out,4500⟩) (d:=d1) (ρ:=ρ) (n:=n) (m:=m) (L:=L) rfl hρ ?_ hO2 hm hq (by omega) (fun i hi=>hz.a i q (by omega) hq) (fun i hi=>hz.b i (by omega)) ?_)
   ·simp[yI,xg,l8,rX,xR]
   simp[g2,m6]
   exact h
section
variable {k n:Nat} {c:List AV} {r:List (List AV)}
theorem vu:dgE k (.var c)=.var (c.map (dg k)):=rfl
theorem wO:dgE k (.uarr n r)=.uarr n (zX k r):=rfl
theorem ad1 {k:Nat} {f:List (Nat × AV)} (h:xf 1000 f) (hk:1000≤k):qH k f=true:=jd hk h
theorem aes {k:Nat} {f:List (List (Nat × AV))} (h:yq 1000 f) (hk:1000≤k):ma k f=true:=Tn hk h
theorem aW {k:Nat} {f:List (Nat × AV)} (h:xf 1000 f) (hk:1000≤k):(f.map fun p=>(p.1,dg k p.2))=f:=SH hk h
theorem Zs {k:Nat} {f:List (List (Nat × AV))} (h:yq 1000 f) (hk:1000≤k):(f.map fun f=>f.map fun p=>(p.1,dg k p.2))=f:=Kz hk h
end
@[simp] theorem abw {sz by_ d l sz1 off len sz':Nat} {rows1 rows:List (List AV)} {s:St} {K:St→Prop} (h:lk s.sto l=some (.uarr sz rows1)) :
  xe sz by_ s (some d) K [.us l sz1 off len,.lit sz' rows]=(sz'=sz∧0<sz∧(len+rows.length)*by_≤140737488355328∧len+rows.length≤9223372036854775807∧sz1=sz∧off=0∧len=rows1.length ∧
   K ({(s.dg l) with sto:=pt (s.dg l).sto l (.uarr sz (zX l (rows1++rows)))}.put (some d) (.us l sz 0 (len+rows.length)))):=by
 simp[xe,xd,h]
@[simp] theorem afD {x:AV} {q:Rat}:zH (x::fr q) 1 (some 3)=some (fq q):=by
 simp only[zH,fr,List.length_cons,List.length_nil,List.drop_succ_cons,List.drop_zero,List.take]
 simp
abbrev xH:AV:=.list 0 .full []
noncomputable def oR (a:Nat→Nat→Rat) (md:Nat→Am.Mode) (cl:Nat→Nat) (n:Nat):List (List AV):=mR (fun i=>[.list 3 (md i) (fR (a i) (cl i))]) n
def om (i:Nat):Am.Mode:=.own (1000000+i)
noncomputable def pR (A:Nat→Nat→Rat) (bb:Nat→Rat) (n m:Nat):List (List AV):=mR (fun i=>[fL (A i) n,f0 (bb i),f1 (bb i),f2 (bb i)]) m
noncomputable abbrev pA (A:Nat→Nat→Rat) (bb gg:Nat→Rat) (n m:Nat):AV:=.agg [fL gg n,.list 4 .plain (pR A bb n m)]
section
variable {a:Nat→Nat→Rat} {bb:Nat→Rat} {md:Nat→Am.Mode} {cl:Nat→Nat} {n m i k:Nat} {e:ze}
@[simp] theorem aiS:(oR a md cl n).length=n:=n9
@[simp] theorem aiW:(pR a bb n m).length=m:=n9
@[simp] theorem ah0 {hi:i<(oR a md cl n).length}:(oR a md cl n)[i]=[.list 3 (md i) (fR (a i) (cl i))]:=ju
@[simp] theorem ah2 {hi:i<(pR a bb n m).length}:(pR a bb n m)[i]=[fL (a i) n,f0 (bb i),f1 (bb i),f2 (bb i)]:=ju
@[simp] theorem aiT:xo k (oR a md cl n)=false:=Tp fun _=>by simp
@[simp] theorem ajJ:yV (pR a bb n m)=true:=Zm fun _=>by simp
@[simp] theorem ajL:zQ (pR a bb n m)=pR a bb n m:=tD fun _=>by simp
end
theorem Zn {g h:Nat→List AV} {n:Nat} {f:List AV→List AV} (e:∀ i,i<n→f (g i)=h i):(mR g n).map f=mR h n:=by
 unfold mR
 rw[List.map_map]
 exact List.map_congr_left fun i hi=>e i (by simpa using hi)
@[simp] theorem J3 {f:Nat→Nat} {n a b:Nat}:((nR f n).map fun r=>r.map (rn a b))=nR f n:=tD fun _=>rfl
@[simp] theorem ajK {a:Nat→Nat→Rat} {bb:Nat→Rat} {n m k l:Nat}:((pR a bb n m).map fun r=>r.map (rn k l))=pR a bb n m:=tD fun _=>by
 simp[rn,rn1]
theorem afO {A:Nat→Nat→Rat} {cl:Nat→Nat} {n k l:Nat} (hk:k<1000000) (hl:n≤l):((oR A om cl n).map fun r=>r.map (rn k (1000000+l)))=oR A om cl n:=Zn fun i hi=>by
 have:sw k (1000000+l) (1000000+i)=1000000+i:=by unfold sw; rw[if_neg (by omega),if_neg (by omega)]
 simp[rn,rn1,om,this]
theorem afN {A:Nat→Nat→Rat} {cl:Nat→Nat} {n k:Nat} (hk:k<1000000):zX k (oR A om cl n)=oR A om cl n:=Zn fun i hi=>by
 have:¬ 1000000+i=k:=by omega
 simp[om,dg,this]
theorem TG {k:Nat} {a b:List (List AV)}:zX k (a++b)=zX k a++zX k b:=List.map_append
theorem MR {k:Nat} {a b:List (List AV)}:xo k (a++b)=(xo k a||xo k b):=by
 induction a with
 | nil=>rfl
 | cons r a ih=>simp only[List.cons_append,xo,ih,Bool.or_assoc]
section
variable {a b:Nat}
theorem SY {c:List AV}:rnE a b (.var c)=.var (c.map (rn a b)):=rfl
theorem X9 {n:Nat} {r:List (List AV)}:rnE a b (.uarr n r)=.uarr n (r.map fun r=>r.map (rn a b)):=rfl
theorem Dt {k o:Nat}:rn a b (.ptr k o)=.ptr (sw a b k) o:=rfl
theorem Gt {k s o l:Nat}:rn a b (.us k s o l)=.us (sw a b k) s o l:=rfl
theorem N3 {v:Value}:rn a b (.val v)=.val v:=rfl
theorem Ua {s:Nat} {r:List (List AV)}:rn a b (.list s .plain r)=.list s .plain r:=rfl
theorem acA {s:Nat} {r:List (List AV)}:rn a b (.list s .full r)=.list s .full r:=rfl
theorem Ds {s l:Nat} {r:List (List AV)}:rn a b (.list s (.own l) r)=.list s (.own (sw a b l)) r:=rfl
end
theorem AE {ρ:List (Nat × ze)} {k l:Nat} (h:rest ρ) (hk:far k=true) (hl:far l=true):(ρ.map fun p=>(sw k l p.1,rnE k l p.2))=ρ:=yM fun p hp=>by
 have hk:(1000≤k∧k<3000)∨4000≤k:=of_decide_eq_true hk
 have hl:(1000≤l∧l<3000)∨4000≤l:=of_decide_eq_true hl
 obtain ⟨h1,h2⟩:=h p hp
 have:sw k l p.1=p.1:=by unfold sw; rw[if_neg (by omega),if_neg (by omega)]
 rw[this,abO (by omega) (by omega) h2]
noncomputable def vH (k:Nat):AV:=if k=0 then xH else .list 3 (.own 2039) (fR (fun _=>0) k)
theorem Yg {l k:Nat} (h:¬ l=2039):dg l (vH k)=vH k:=by
 unfold vH
 split
 ·simp
 ·simp only[dg]; rw[if_neg (fun e=>h e.symm)]
theorem abm {l j k:Nat} (h:¬ l=2039) (hj:¬ j=2039):rn l j (vH k)=vH k:=by
 unfold vH
 split
 ·rfl
 ·simp only[rn,rn1,sw]; rw[if_neg (fun e=>h e.symm),if_neg (fun e=>hj e.symm)]
@[simp] theorem agp {l k:Nat}:zT l (vH k)=false:=by unfold vH; split<;>rfl
theorem EE {f:Nat→Nat} {k:Nat}:nR f k++[[iv (f k)]]=nR f (k+1):=SJ.symm
theorem aer {a:Nat→Nat→Rat} {md:Nat→Am.Mode} {cl:Nat→Nat} {k:Nat}:oR a md cl k++[[.list 3 (md k) (fR (a k) (cl k))]]=oR a md cl (k+1):=SJ.symm
noncomputable def S9 (A:Nat→Nat→Rat) (bb gg:Nat→Rat) (n m:Nat) (ρ:List (Nat × ze)) (out:List (List (Nat × AV))) (k:Nat):St :=
 {env:=[(1,.ptr 1001 0),(3,.ptr 1015 0),(18,iv n),(19,iv k)],
  sto:=ρ++[(1001,.var [fL gg n,.list 4 .plain (pR A bb n m)]),(1015,.var [iv n,iv m,xH,xH,vH k,f0 0,f1 0,f2 0,xH,.us 2029 1 0 k]),(2029,.uarr 1 (nR id k))],out:=out,base:=1000}
noncomputable def GO (A:Nat→Nat→Rat) (bb _gg:Nat→Rat) (n m:Nat) (ρ:List (Nat × ze)) (out:List (List (Nat × AV))) (k:Nat):St :=
 {env:=[(3,.ptr 1015 0),(44,.list 4 .plain (pR A bb n m)),(45,iv m),(46,iv k)],
  sto:=ρ++[(1015,.var [iv n,iv m,.us 1961 1 0 k,.us 1972 3 0 k,vH n,f0 0,f1 0,f2 0,.us 1987 1 0 k,.us 2029 1 0 n]),(2029,.uarr 1 (nR id n)),
   (1961,.uarr 1 (oR A om (fun _=>n) k)),(1972,.uarr 3 (fR bb k)),(1987,.uarr 1 (nR (fun i=>n+i) k))],out:=out,base:=1000}
theorem Lb {n m:Nat} {A:Nat→Nat→Rat} {bb gg:Nat→Rat} {ρ:List (Nat × ze)} {s:St} {K:AV→St→Prop} (hs:s.sto=ρ) (hρ:rest ρ) (hE:xf 1000 s.env) (hO:yq 1000 s.out) (hm:m<1000000) (hn:n<1000000)
  (h:K (.ptr 1015 0) ⟨s.env,ρ++[(1015,.var [iv n,iv m,.us 1961 1 0 m,.us 1972 3 0 m,vH n,f0 0,f1 0,f2 0,.us 1987 1 0 m,.us 2029 1 0 n]),(2029,.uarr 1 (nR id n)),
   (1961,.uarr 1 (oR A om (fun _=>n) m)),(1972,.uarr 3 (fR bb m)),(1987,.uarr 1 (nR (fun i=>n+i) m))],s.out,s.base⟩) :
  yc Try.prog tj [pA A bb gg n m] s K:=by
 obtain ⟨env,σ,out,base⟩:=s
 simp only at hs hE hO h
 subst hs
 have g0:zd Try.prog zP [iv 0] (fq 0):=yH (n:=0) (by decide) (by decide)
 have hpt:∀ k e,far k=true→pt σ k e=σ++[(k,e)]:=fun k e hk=>by
  have:=rpt (l:=[]) (e:=e) hρ hk
  simpa using this
 have hlk:∀ k,far k=true→lk σ k=none:=fun k hk=>SW hρ hk
 refine vF 1000 Rv (by simp) ?_
 simp[dl,hpt,hlk,rlk hρ,far]
 refine za g0 (by simp) (by simp) ?_
 simp[rlk hρ,rpt hρ,far]
 have hE2:xf 2000 env:=R1 (by omega) hE
 have hO2:yq 2000 out:=Eu (by omega) hO
 have hne:∀ k,k≠0→vH k=.list 3 (.own 2039) (fR (fun _=>0) k):=fun k hk=>by unfold vH; rw[if_neg hk]
 have hz:vH 0=xH:=rfl
 refine mG (S9 A bb gg n m σ (env::out)) (fun _=>True) n ?_ trivial (fun k hk _=>?_) (fun _=>?_)
 ·refine St.imp.trans (St.imp_tok 2029 1 (by simp[rlk hρ,far])) ?_
  simp[St.dg,mf hρ,aW hE,Zs hO,rpt hρ,far,-dgE,vu]
  refine St.imp.trans (St.imp_cell_nil (k:=1015) (j:=9) (l:=2029) (sz:=1) (by simp[rlk hρ,far]; rfl) (by simp; rfl) (by simp[rlk hρ,far])) ?_
  simp[rpt hρ,far,S9,hz]
  exact St.imp.refl
 ·have e:(k:Int)<n:=by omega
  have w:=zq (k:=k) (by omega)
  have hap:nR id k++[[iv k]]=nR id (k+1):=EE (f:=id)
  have hfp:fR (fun _=>0) k++[fr 0]=fR (fun _=>0) (k+1):=dn.symm
  have hne1:=hne (k+1) (by omega)
  have hcd:∀ l,¬ l=2039→dg l (vH k)=vH k:=fun l h=>Yg h
  simp[qV,S9,e,rlk hρ,rpt hρ,far,mf hρ,aW hE,Zs hO,-dgE,vu,wO,hap,hcd]
  refine ⟨by omega,by omega,?_⟩
  refine za g0 (by simp) (by simp) ?_
  by_cases k0:k=0
  ·subst k0
   have w1:IntKind.i64.wrap 1=1:=by decide
   have h1:fR (fun _=>(0:Rat)) 1=[fr 0]:=rfl
   simp[hz,rlk hρ,rpt hρ,far,mf hρ,aW hE,Zs hO,-dgE,vu,wO,w1,S9,hne 1 (by omega),h1]
   refine St.imp.trans (St.imp_rn 1039 2039) ?_
   have hr0:=AE (k:=1039) (l:=2039) hρ rfl rfl
   have he:=Yo (k:=1039) (by omega) (j:=2039) (by omega) hE
   have ho:=SI (k:=1039) (by omega) (j:=2039) (by omega) hO
   simp only[St.rn,List.map_append,hr0]
   simp only[List.map_cons,List.map_nil,SY,X9,Dt,Gt,N3,Ua,Ds,acA,J3,JE,JF,JG,sw,Nat.reduceEqDiff,if_true,if_false,he,ho]
   exact St.imp.refl
  ·simp[hne k k0,rlk hρ,rpt hρ,far,mf hρ,aW hE,Zs hO,-dgE,vu,wO,hfp,w,S9,hne1]
   exact ⟨by omega,by omega,St.imp.refl⟩
 ·have hcd:∀ l,¬ l=2039→dg l (vH n)=vH n:=fun l h=>Yg h
  simp[qV,S9,kV,rlk hρ,wB hρ,far,-dgE,y7 hρ,ad1 hE,aes hO]
  refine mG (GO A bb gg n m σ (env::out)) (fun _=>True) m ?_ trivial (fun k hk _=>?_) (fun _=>?_)
  ·refine St.imp.trans (St.imp_tok 1961 1 (by simp[rlk hρ,far])) ?_
   simp[St.dg,rpt hρ,far,mf hρ,aW hE,Zs hO,-dgE,vu,wO,hcd]
   refine St.imp.trans (St.imp_cell_nil (k:=1015) (j:=2) (l:=1961) (sz:=1) (by simp[rlk hρ,far]; rfl) (by simp; rfl) (by simp[rlk hρ,far])) ?_
   simp[rpt hρ,far]
   refine St.imp.trans (St.imp_tok 1972 3 (by simp[rlk hρ,far])) ?_
   simp[St.dg,rpt hρ,far,mf hρ,aW hE,Zs hO,-dgE,vu,wO,hcd]
   refine St.imp.trans (St.imp_cell_nil (k:=1015) (j:=3) (l:=1972) (sz:=3) (by simp[rlk hρ,far]; rfl) (by simp; rfl) (by simp[rlk hρ,far])) ?_
   simp[rpt hρ,far]
   refine St.imp.trans (St.imp_tok 1987 1 (by simp[rlk hρ,far])) ?_
   simp[St.dg,rpt hρ,far,mf hρ,aW hE,Zs hO,-dgE,vu,wO,hcd]
   refine St.imp.trans (St.imp_cell_nil (k:=1015) (j:=8) (l:=1987) (sz:=1) (by simp[rlk hρ,far]; rfl) (by simp; rfl) (by simp[rlk hρ,far])) ?_
   simp[rpt hρ,far,GO]
   exact St.imp.refl
  ·have e:(k:Int)<m:=by omega
   have w:=zq (k:=k) (by omega)
   have hau:wk 1 [[xH]] [0] [.list 3 (.own 1059) (fR (A k) n)]=some [[.list 3 (.own 1059) (fR (A k) n)]]:=rfl
   have hd1:∀ l,¬ l=1059→zX l [[.list 3 (.own 1059) (fR (A k) n)]]=[[.list 3 (.own 1059) (fR (A k) n)]]:=fun l h=>by
    have:¬ 1059=l:=fun e=>h e.symm
    simp[zX,dg,this]
   have hfb:fR bb k++[fr (bb k)]=fR bb (k+1):=dn.symm
   have hnb:nR (fun i=>n+i) k++[[iv (n+k:Nat)]]=nR (fun i=>n+i) (k+1):=EE (f:=fun i=>n+i)
   have hnb':nR (fun i=>n+i) k++[[iv ((n:Int)+k)]]=nR (fun i=>n+i) (k+1):=by rw[← hnb,Int.natCast_add]
   have wn:IntKind.i64.wrap (n+k)=(n:Int)+(k:Int):=by rw[wrap64]<;>omega
   simp[qW,GO,e,hk,rlk hρ,rpt hρ,wB hρ,far,mf hρ,aW hE,Zs hO,-dgE,vu,wO,hcd,y7 hρ,ad1 hE,aes hO,hau,afN,TG,hd1,hfb,wn,w,MR]
   refine ⟨by omega,by omega,by omega,by omega,by omega,by omega,by omega,by omega,?_⟩
   refine St.imp.trans (St.imp_rn 1059 (1000000+k)) ?_
   have ho:om k=.own (1000000+k):=rfl
   have hap:=aer (a:=A) (md:=om) (cl:=fun _=>n) (k:=k)
   rw[ho] at hap
   have s1:∀ l,l<1000000→¬ l=1059→sw 1059 (1000000+k) l=l:=fun l h1 h2=>by unfold sw; rw[if_neg h2,if_neg (by omega)]
   have s2:sw 1059 (1000000+k) 1059=1000000+k:=by unfold sw; rw[if_pos rfl]
   have hf:far (1000000+k)=true:=decide_eq_true (by omega)
   have hc:=abm (l:=1059) (j:=1000000+k) (k:=n) (by omega) (by omega)
   have hr:=afO (A:=A) (cl:=fun _=>n) (n:=k) (k:=1059) (l:=k) (by omega) (Nat.le_refl _)
   have he:=Yo (k:=1059) (by omega) (j:=1000000+k) (by omega) hE
   have ho':=SI (k:=1059) (by omega) (j:=1000000+k) (by omega) hO
   have hq:zX 1987 [[iv ((n:Int)+k)]]=[[iv ((n+k:Nat):Int)]]:=by rw[Int.natCast_add]; rfl
   have hr0:=AE (k:=1059) (l:=1000000+k) hρ rfl hf
   simp only[St.rn,List.map_append,List.map_cons,List.map_nil,hr0,s1,s2,SY,X9,Dt,Gt,N3,Ua,Ds,hr,hc,he,ho',J3,aaG,JE,JF,JG,hap,hq,Nat.reduceLT,Nat.reduceEqDiff,not_false_eq_true,Int.natCast_add]
   rw[hnb']
   exact St.imp.refl
  ·simp[qW,GO,kU,dC,-dgE]
   exact h
noncomputable def Mv (n:Nat) (out:List (List (Nat × AV))) (k:Nat):St:={env:=[(3,.sl 1006 3 0 n),(8,iv n),(9,iv k)],sto:=[(1006,.arr 3 (fZ (fun _=>0) k n))],out:=out,base:=1000}
theorem MP {n:Nat} {s:St} {K:AV→St→Prop} (hs:s.sto=[]) (hn:n<1000000) (h:K (.sl 1006 3 0 n) ⟨s.env,[(1006,.arr 3 (fR (fun _=>0) n))],s.out,s.base⟩) :
  yc Try.prog rB [iv n] s K:=by
 obtain ⟨env,σ,out,base⟩:=s
 simp only at hs h
 subst hs
 refine vF 1000 Qt (by simp) ?_
 simp[aS,eMk]
 refine ⟨by omega,by omega,?_⟩
 rw[nF (f:=fun _=>0)]
 have k0:zd Try.prog zP [iv 0] (fq 0):=yH (n:=0) (by decide) (by decide)
 refine zl (Mv n (env::out)) (fun _=>True) n (by simp[Mv]) trivial (fun k hk _=>?_) (fun _=>?_)
 ·have e:(k:Int)<n:=by omega
  have w:=zq (k:=k) (by omega)
  have hs:=lW (f:=fun _=>0) hk
  simp[rN,Mv,e]
  refine za k0 (by simp) (by simp) ?_
  simp[splice,hk,w,hs,Mv]
 ·simp[rN,j6,ZF,Mv,nE]
  exact h
theorem cN:y6 Try.prog rB=true:=by kernel_rfl
noncomputable def tR (n m:Nat) (d:zn):AV:=.ro [iv n,iv m,.list 1 .plain (cR d.a (fun _=>d.c) m),fL d.b m,fL d.cst d.c,f0 d.v,f1 d.v,f2 d.v,.list 1 .plain (nR d.bas m),.list 1 .plain (nR d.fre d.c)]
def xJ (n m:Nat) (d:zn):Nat→Nat→Rat
 | 0=>fun _=>0
 | k+1=>if n≤d.fre k∧d.fre k<n+m then upd (xJ n m d k) (d.fre k-n) (-d.cst k) else xJ n m d k
noncomputable def Uj (n m:Nat) (d:zn) (k:Nat):St :=
 {env:=[(0,tR n m d),(3,.sl 1006 3 0 m),(14,.list 1 .plain (nR d.fre d.c)),(15,iv d.c),(16,iv k)],sto:=[(1006,.arr 3 (fR (xJ n m d k) m))]}
theorem NS {n m L:Nat} {d:zn} (hm:m<1000000) (hn:n<1000000) (hc:d.c<1000000) (hfre:∀ j,j<d.c→d.fre j<4000000) (hL:L≤100000000000) (hsz:∀ j,j<d.c→sz L (d.cst j)) :
  zd Try.prog te [tR n m d] (fL (xJ n m d d.c) m):=by
 refine zD ZV (by simp[tR]) ?_
 simp[jJ,tR,cN]
 refine yb (MP rfl hm ?_)
 simp
 refine zl (Uj n m d) (fun _=>True) d.c (by simp[Uj,tR,xJ]) trivial (fun k hk _=>?_) (fun _=>?_)
 ·have e:(k:Int)<d.c:=by omega
  have w:=zq (k:=k) (by omega)
  have g:=Ts (K:=L) (by omega) (hsz k hk)
  have hf:=hfre k hk
  obtain ⟨f,hfe⟩:∃ f,d.fre k=f:=⟨_,rfl⟩
  rw[hfe] at hf
  have w1:IntKind.i64.wrap ((n:Int)+m)=(n:Int)+m:=by rw[wrap64]<;>omega
  by_cases h1:n≤f
  ·by_cases h2:f<n+m
   ·have ev:xJ n m d (k+1)=upd (xJ n m d k) (f-n) (-d.cst k):=by simp only[xJ]; rw[hfe,if_pos ⟨h1,h2⟩]
    have h1':(n:Int)≤f:=by omega
    have h2':(f:Int)<n+m:=by omega
    have w2:IntKind.i64.wrap ((f:Int)-n)=((f-n:Nat):Int):=by rw[wrap64]<;>omega
    have h3:f-n<m:=by omega
    have h4:((f-n:Nat):Int)<m:=by omega
    generalize f-n=g0 at *
    simp[xj,Uj,tR,e,hk,hfe,w1,h1',h2',w2]
    refine za g (by simp) (by simp) ?_
    simp[splice,h3,h4,w,Uj,tR,ev,uE]
   ·have ev:xJ n m d (k+1)=xJ n m d k:=by simp only[xJ]; rw[hfe,if_neg fun h=>h2 h.2]
    have h1':(n:Int)≤f:=by omega
    have h2':¬ (f:Int)<n+m:=by omega
    simp[xj,Uj,tR,e,hk,hfe,w1,h1',h2',w,ev]
  ·have ev:xJ n m d (k+1)=xJ n m d k:=by simp only[xJ]; rw[hfe,if_neg fun h=>h1 h.1]
   have h1':¬ (n:Int)≤f:=by omega
   simp[xj,Uj,tR,e,hk,hfe,h1',w,ev]
 ·simp[xj,nT,gw,Uj]
def p7 (n:Nat) (d:zn):Nat→Nat→Rat
 | 0=>fun _=>0
 | k+1=>if d.bas k<n then upd (p7 n d k) (d.bas k) (d.b k) else p7 n d k
noncomputable def Mp (n m:Nat) (d:zn) (k:Nat):St :=
 {env:=[(0,tR n m d),(3,.sl 1006 3 0 n),(14,.list 1 .plain (nR d.bas m)),(15,iv m),(16,iv k)],sto:=[(1006,.arr 3 (fR (p7 n d k) n))]}
theorem Lk {n m:Nat} {d:zn} (hm:m<1000000) (hn:n<1000000) :
  zd Try.prog qZ [tR n m d] (fL (p7 n d m) n):=by
 refine zD LC (by simp[tR]) ?_
 simp[YU,tR,cN]
 refine yb (MP rfl hn ?_)
 simp
 refine zl (Mp n m d) (fun _=>True) m (by simp[Mp,tR,p7]) trivial (fun k hk _=>?_) (fun _=>?_)
 ·have e:(k:Int)<m:=by omega
  have w:=zq (k:=k) (by omega)
  obtain ⟨f,hfe⟩:∃ f,d.bas k=f:=⟨_,rfl⟩
  by_cases h1:f<n
  ·have ev:p7 n d (k+1)=upd (p7 n d k) f (d.b k):=by simp only[p7]; rw[hfe,if_pos h1]
   have h1':(f:Int)<n:=by omega
   simp[qt,Mp,tR,e,hk,hfe,h1,h1',w,ev,splice,uE]
  ·have ev:p7 n d (k+1)=p7 n d k:=by simp only[p7]; rw[hfe,if_neg h1]
   have h1':¬ (f:Int)<n:=by omega
   simp[qt,Mp,tR,e,hk,hfe,h1',w,ev]
 ·simp[qt,eY,Xc,Mp]
def tH (n:Nat) (d:zn) (q:Nat):Nat→Nat→Rat
 | 0=>if d.fre q<n then upd (fun _=>0) (d.fre q) 1 else fun _=>0
 | k+1=>if d.bas k<n then upd (tH n d q k) (d.bas k) (-d.a k q) else tH n d q k
noncomputable def bg (n m q:Nat) (d:zn) (k:Nat):St :=
 {env:=[(0,tR n m d),(1,iv q),(5,.sl 1006 3 0 n),(38,.list 1 .plain (nR d.bas m)),(39,iv m),(40,iv k)],sto:=[(1006,.arr 3 (fR (tH n d q k) n))]}
theorem Dh {n m q L:Nat} {d:zn} (hm:m<1000000) (hn:n<1000000) (hq:q<d.c) (hL:L≤100000000000) (hsz:∀ i,i<m→sz L (d.a i q)) :
  zd Try.prog af [tR n m d,iv q] (fL (tH n d q m) n):=by
 have h1g:zd Try.prog zP [iv 1] (fq 1):=yH (n:=1) (by decide) (by decide)
 have eq0:(q:Int)<d.c:=by omega
 obtain ⟨f,hfe⟩:∃ f,d.fre q=f:=⟨_,rfl⟩
 have loop:awp Try.prog (.loop rG) (bg n m q d 0) (vb 0 (r9 Try.prog jK (SX Zx (fL (tH n d q m) n)))):=by
  refine zl (bg n m q d) (fun _=>True) m (by simp[bg]) trivial (fun k hk _=>?_) (fun _=>?_)
  ·have e:(k:Int)<m:=by omega
   have w:=zq (k:=k) (by omega)
   have g:=Ts (K:=L) (by omega) (hsz k hk)
   obtain ⟨f,hfe⟩:∃ f,d.bas k=f:=⟨_,rfl⟩
   by_cases h1:f<n
   ·have ev:tH n d q (k+1)=upd (tH n d q k) f (-d.a k q):=by simp only[tH]; rw[hfe,if_pos h1]
    have h1':(f:Int)<n:=by omega
    simp[rG,bg,tR,e,hk,hq,eq0,hfe,h1']
    refine za g (by simp) (by simp) ?_
    simp[bg,tR,h1,h1',w,ev,splice,uE]
   ·have ev:tH n d q (k+1)=tH n d q k:=by simp only[tH]; rw[hfe,if_neg h1]
    have h1':¬ (f:Int)<n:=by omega
    simp[rG,bg,tR,e,hk,hfe,h1',w,ev]
  ·simp[rG,jK,Zx,bg]
 refine zD Ca (by simp[tR]) ?_
 simp[Ry,tR,cN]
 refine yb (MP rfl hn ?_)
 by_cases h1:f<n
 ·have h1':(f:Int)<n:=by omega
  have ev:tH n d q 0=upd (fun _=>0) f 1:=by simp only[tH]; rw[hfe,if_pos h1]
  simp[hq,eq0,hfe,h1']
  refine za h1g (by simp) (by simp) ?_
  simp[h1,h1',splice,uE]
  simpa [bg,tR,ev] using loop
 ·have h1':¬ (f:Int)<n:=by omega
  have ev:tH n d q 0=fun _=>0:=by simp only[tH]; rw[hfe,if_neg h1]
  simp[hq,eq0,hfe,h1']
  simpa [bg,tR,ev] using loop
noncomputable def Mw (n:Nat) (σ:List (Nat × ze)) (out:List (List (Nat × AV))) (k:Nat):St:={env:=[(3,.sl 5006 3 0 n),(8,iv n),(9,iv k)],sto:=σ++[(5006,.arr 3 (fZ (fun _=>0) k n))],out:=out,base:=5000}
theorem ae7 {n n' m:Nat} {d:zn} {ρ:List (Nat × ze)} {s:St} {K:AV→St→Prop} (hs:s.sto=ρ++tL n' m d) (hρ:rest ρ) (hn:n<1000000)
  (h:K (.sl 5006 3 0 n) ⟨s.env,ρ++(tL n' m d++[(5006,.arr 3 (fR (fun _=>0) n))]),s.out,s.base⟩) :
  yc Try.prog rB [iv n] s K:=by
 obtain ⟨env,σ,out,base⟩:=s
 simp only at hs h
 subst hs
 refine vF 5000 Qt (by simp) ?_
 simp[aS,eMk,tL,rlk hρ,rpt hρ,far]
 refine ⟨by omega,by omega,?_⟩
 rw[nF (f:=fun _=>0)]
 have k0:zd Try.prog zP [iv 0] (fq 0):=yH (n:=0) (by decide) (by decide)
 refine zl (Mw n (ρ++tL n' m d) (env::out)) (fun _=>True) n (by simp[Mw,tL]) trivial (fun k hk _=>?_) (fun _=>?_)
 ·have e:(k:Int)<n:=by omega
  have w:=zq (k:=k) (by omega)
  have hs:=lW (f:=fun _=>0) hk
  simp[rN,Mw,tL,e]
  refine za k0 (by simp) (by simp) ?_
  simp[splice,hk,w,hs,Mw,rlk hρ,rpt hρ,far]
 ·simp[rN,j6,ZF,Mw,tL,nE]
  exact h
noncomputable def eJ (ls:List (Nat × AV)) (σ:List (Nat × ze)) (f:Nat→Rat) (len:Nat) (out:List (List (Nat × AV))) (last:Bool):St :=
 if last then ⟨ls++[(3,fL f len)],σ,out,4500⟩ else ⟨ls++[(3,.sl 5006 3 0 len)],σ++[(5006,.arr 3 (fR f len))],out,4500⟩
theorem c9 {ls:List (Nat × AV)} {σ:List (Nat × ze)} {f:Nat→Rat} {len:Nat} {out:List (List (Nat × AV))}:eJ ls σ f len out false=⟨ls++[(3,.sl 5006 3 0 len)],σ++[(5006,.arr 3 (fR f len))],out,4500⟩:=rfl
theorem NF {M k len:Nat} {ls:List (Nat × AV)} {f:Nat→Rat} (hl:xf M ls) (hk:M≤k):qH k (ls++[(3,fL f len)])=true :=
 jd (M:=M) hk fun p hp=>by
  rcases List.mem_append.1 hp with h | h
  ·exact hl p h
  ·simp only[List.mem_singleton] at h; subst h; rfl
theorem Mh {ls:List (Nat × AV)} {n m:Nat} {d:zn} {ρ:List (Nat × ze)} {f:Nat→Rat} {len:Nat} {out:List (List (Nat × AV))} {last:Bool} (hρ:rest ρ) (hl:xf 3000 ls) (hO:yq 2000 out) :
  St.imp (eJ ls (ρ++tL n m d) f len out false) (eJ ls (ρ++tL n m d) f len out last):=by
 cases last with
 | false=>exact St.imp.refl
 | true =>
  refine St.imp_freeze (k:=5006) ?_
  have hn1:qH 5006 (ls++[(3,fL f len)])=true:=NF hl (by omega)
  have e1:=XQ (k:=5006) (e:=.arr 3 (fR f len)) (by omega) hl
  simp[xa,eJ,tL,rlk hρ,wB hρ,y7 hρ,ono hO,AB hρ,BZ hO,far,sj,nH,tQ,lY,e1,hn1]
abbrev lsA (d:zn) (k:Nat):List (Nat × AV):=[(0,.ptr 1015 0),(14,.us 2029 1 0 d.c),(15,iv d.c),(16,iv k)]
theorem KB {d:zn} {k:Nat}:xf 3000 (lsA d k):=by simp[yI,xg,l8,xR]; rfl
theorem acm {n m L:Nat} {d:zn} {ρ:List (Nat × ze)} {s:St} {K:AV→St→Prop} (hs:s.sto=ρ++tL n m d) (hρ:rest ρ) (hE:xf 2000 s.env) (hO:yq 2000 s.out) (hm:m<1000000) (hn:n<1000000) (hc:d.c<1000000) (hfre:∀ j,j<d.c→d.fre j<4000000) (hL:L≤100000000000) (hsz:∀ j,j<d.c→sz L (d.cst j))
  (h:K (fL (xJ n m d d.c) m) ⟨s.env,ρ++tL n m d,s.out,s.base⟩):yc Try.prog te [.ptr 1015 0] s K:=by
 obtain ⟨env,σ,out,base⟩:=s
 simp only at hs hE hO h
 subst hs
 have hO2:yq 2000 (env::out):=l7.2 ⟨hE,hO⟩
 refine vF 4500 ZV (by simp) ?_
 simp[jJ,cN,tL,rlk hρ,far]
 refine yb (ae7 (d:=d) (n':=n) (m:=m) rfl hρ hm ?_)
 simp[tL,rlk hρ,far]
 refine mG (fun k=>eJ (lsA d k) (ρ++tL n m d) (xJ n m d k) m (env::out) (k == d.c)) (fun _=>True) d.c (St.imp.trans (St.imp_of (by simp[eJ,tL,xJ])) (Mh hρ KB hO2)) trivial (fun k hk _=>?_) (fun _=>?_)
 ·have e:(k:Int)<d.c:=by omega
  have hlast:(k == d.c)=false:=by simp; omega
  rw[hlast]
  have fin:=Mh (last:=k+1 == d.c) (n:=n) (m:=m) (d:=d) (f:=xJ n m d (k+1)) (len:=m) hρ (KB (d:=d) (k:=k+1)) hO2
  have w:=zq (k:=k) (by omega)
  have g:=Ts (K:=L) (by omega) (hsz k hk)
  have hf:=hfre k hk
  obtain ⟨f,hfe⟩:∃ f,d.fre k=f:=⟨_,rfl⟩
  rw[hfe] at hf
  have w1:IntKind.i64.wrap ((n:Int)+m)=(n:Int)+m:=by rw[wrap64]<;>omega
  by_cases h1:n≤f
  ·by_cases h2:f<n+m
   ·have ev:xJ n m d (k+1)=upd (xJ n m d k) (f-n) (-d.cst k):=by simp only[xJ]; rw[hfe,if_pos ⟨h1,h2⟩]
    have h1':(n:Int)≤f:=by omega
    have h2':(f:Int)<n+m:=by omega
    have w2:IntKind.i64.wrap ((f:Int)-n)=((f-n:Nat):Int):=by rw[wrap64]<;>omega
    have h3:f-n<m:=by omega
    have h4:((f-n:Nat):Int)<m:=by omega
    rw[ev] at fin
    generalize f-n=g0 at *
    simp[xj,c9,tL,rlk hρ,far,e,hk,hfe,w1,h1',h2',w2]
    refine za g (by simp) (by simp) ?_
    simp[splice,h3,h4,w,uE,rlk hρ,rpt hρ,far]
    rw[ev]
    refine St.imp.trans (St.imp_of ?_) fin
    simp[eJ,tL]
   ·have ev:xJ n m d (k+1)=xJ n m d k:=by simp only[xJ]; rw[hfe,if_neg fun h=>h2 h.2]
    have h1':(n:Int)≤f:=by omega
    have h2':¬ (f:Int)<n+m:=by omega
    simp[xj,c9,tL,rlk hρ,far,e,hk,hfe,w1,h1',h2',w]
    refine St.imp.trans (St.imp_of ?_) fin
    simp[eJ,tL,ev]
  ·have ev:xJ n m d (k+1)=xJ n m d k:=by simp only[xJ]; rw[hfe,if_neg fun h=>h1 h.1]
   have h1':¬ (n:Int)≤f:=by omega
   simp[xj,c9,tL,rlk hρ,far,e,hk,hfe,h1',w]
   refine St.imp.trans (St.imp_of ?_) fin
   simp[eJ,tL,ev]
 ·simp[xj,nT,gw,eJ]
  exact h
end Go.Proofs.Ytfmcplfbnkoglaa

namespace Go.LP
def sk (j k:Nat):Nat:=if k<j then k else k+1
theorem aaX {j k:Nat}:sk j k≠j:=by unfold sk; split<;>omega
theorem Q8 {j k n:Nat} (hj:j<n) (h:k<n-1):sk j k<n:=by unfold sk; split<;>omega
theorem ZU {j:Nat} {f:Nat→Rat}:∀ {n:Nat},j<n+1→zh (n+1) f=zh n (fun k=>f (sk j k))+f j
 | 0,h=>by
  obtain rfl:j=0:=by omega
  simp[zh]
 | n+1,h=>by
  by_cases e:j=n+1
  ·subst e
   simp only[zh]
   rw[zt (n:=n) (f:=fun k=>f (sk (n+1) k)) (g:=f) fun k hk=>by unfold sk; rw[if_pos (by omega)]]
   unfold sk; rw[if_pos (by omega)]
  ·have ih:=ZU (f:=f) (n:=n) (show j<n+1 by omega)
   rw[show zh (n+1+1) f=zh (n+1) f+f (n+1) from rfl,ih]
   simp only[zh]
   rw[show sk j n=n+1 by unfold sk; rw[if_neg (by omega)]]
   grind
def pF (d:zn) (j:Nat):zn:=⟨d.r,d.c-1,fun i k=>d.a i (sk j k),d.b,fun k=>d.cst (sk j k),d.v,d.bas,fun k=>d.fre (sk j k)⟩
theorem Bs {d:zn} {p q:Nat} (h:feas d) (hb:d.b p=0):feas (pivot d p q):=by
 intro i hi
 have:=h i hi
 simp only[pivot,hb]
 split<;>grind
section
variable {n m:Nat} {A:Nat→Nat→Rat} {bb gg:Nat→Rat}
theorem Jg {p:Nat}:(dA n m A bb).a p n≠0:=by
 simp only[dA,Nat.lt_irrefl,if_false]
 grind
theorem GT {p:Nat} (hp:p<m):Same (pivot (dA n m A bb) p n) (dA n m A bb) (n+m+1):=Same.pivot adT hp (Nat.lt_succ_self n) Jg
theorem GS {p:Nat} (h0:bb p<0) (hmin:∀ i,i<m→bb p≤bb i):feas (pivot (dA n m A bb) p n):=by
 intro i hi
 have:=hmin i hi
 simp only[pivot,dA,Nat.lt_irrefl,if_false]
 split<;>grind
section
variable {d:zn} (h:Same d (dA n m A bb) (n+m+1))
include h
theorem SO {x:Nat→Rat} (hx:sol d x):obj d x=- x (n+m):=by rw[h.obj x hx,EJ]
theorem aaQ (hf:feas d):d.v≤0:=by
 have h1:=SO h (gM h.bd)
 rw[Z3 h.bd] at h1
 have:=ku h.bd hf (n+m)
 grind
theorem Li (hf:feas d) {q:Nat} (hq:q<d.c) (hc:0<d.cst q) (ha:∀ i,i<d.r→d.a i q≤0):False:=by
 have hv:=aaQ h hf
 have hy0:0≤1/d.cst q:=by have:=cE hc; grind
 have hy:0≤(1-d.v)*(1/d.cst q):=Rat.mul_nonneg (by grind) hy0
 have h1:=SO h (qJ h.bd hq (y:=(1-d.v)*(1/d.cst q)))
 rw[Yr h.bd hq] at h1
 have h2:d.v+d.cst q*((1-d.v)*(1/d.cst q))=1:=by grind
 have h3:0≤ptq d q ((1-d.v)*(1/d.cst q)) (n+m):=by
  unfold ptq
  generalize (1-d.v)*(1/d.cst q)=y at *
  have:0≤zh d.r (fun i=>if d.bas i=n+m then d.b i-d.a i q*y else 0):=xZ fun i hi=>by
   split
   ·have h4:=hf i hi
    have h5:=Rat.mul_nonneg (show 0≤- d.a i q by have:=ha i hi; grind) hy
    grind
   ·grind
  split<;>grind
 rw[h2] at h1
 grind
theorem acj {i:Nat} (hi:i<d.r) (hb:d.bas i=n+m):∃ j,j<d.c∧d.a i j≠0:=by
 apply Classical.byContradiction
 intro hno
 have hz:∀ j,j<d.c→d.a i j=0:=fun j hj=>Classical.byContradiction fun e=>hno ⟨j,hj,e⟩
 have hx:=(h.sol _).2 (S0 (n:=n) (m:=m) (A:=A) (bb:=bb) (x:=fun k=>if k<n then 0 else if k=n+m then d.b i+1 else bb (k-n)+(d.b i+1)) fun l hl=>by
  rw[if_neg (by omega),if_neg (by omega),if_neg (by omega),if_pos rfl,Nat.add_sub_cancel_left,zO fun j hj=>by rw[if_pos hj]; grind]
  grind)
 have h1:=hx i hi
 rw[hb,zO fun j hj=>by rw[hz j hj]; grind] at h1
 dsimp only at h1
 rw[if_neg (by omega),if_pos rfl] at h1
 grind
theorem aeB {i:Nat} (hi:i<d.r) (hb:d.bas i=n+m) (hv:d.v=0):d.b i=0:=by
 have h1:=SO h (gM h.bd)
 rw[Z3 h.bd,← hb,Z2 h.bd hi] at h1
 grind
theorem Bb {j:Nat} (hj:j<d.c) (hfre:d.fre j=n+m):Bij (pF d j) (n+m):=by
 intro g
 have h1:=h.bd fun k=>if k=n+m then 0 else g k
 obtain ⟨c,hc⟩:∃ c,d.c=c+1:=⟨d.c-1,by omega⟩
 simp only[zh,if_true] at h1
 rw[hc,ZU (j:=j) (by omega)] at h1
 simp only[pF,hc,Nat.add_sub_cancel]
 rw[hfre,if_pos rfl,zt (n:=n+m) (g:=g) fun k hk=>if_neg (by omega),
  zt (n:=c) (g:=fun k=>g (d.fre (sk j k))) fun k hk=>if_neg fun e=>aaX (mP h.bd (Q8 (n:=d.c) (k:=k) hj (by omega)) hj (by rw[e,hfre])),
  zt (n:=d.r) (g:=fun i=>g (d.bas i)) fun i hi=>if_neg fun e=>uG h.bd hi hj (by rw[e,hfre])] at h1
 grind
theorem Bc {j:Nat} (hj:j<d.c) (hfre:d.fre j=n+m) (x:Nat→Rat):sol (pF d j) x↔sol (dG n m A bb gg) x:=by
 obtain ⟨c,hc⟩:∃ c,d.c=c+1:=⟨d.c-1,by omega⟩
 have e1:sol (pF d j) x↔sol d (fun k=>if k=n+m then 0 else x k):=by
  refine forall_congr' fun i=>forall_congr' fun hi=>?_
  simp only[pF,hc,Nat.add_sub_cancel]
  rw[if_neg fun e=>uG h.bd hi hj (by rw[e,hfre]),ZU (j:=j) (by omega),hfre,if_pos rfl,
   zt (n:=c) (f:=fun k=>d.a i (sk j k)*(if d.fre (sk j k)=n+m then 0 else x (d.fre (sk j k)))) (g:=fun k=>d.a i (sk j k)*x (d.fre (sk j k))) fun k hk=>by
    rw[if_neg fun e=>aaX (mP h.bd (Q8 (n:=d.c) (k:=k) hj (by omega)) hj (by rw[e,hfre]))]]
  grind
 rw[e1,h.sol]
 constructor
 ·intro hx i hi
  have:=aeS hx hi
  rw[if_neg (by simp only[dG] at hi; omega),if_pos rfl,zt (n:=n) (g:=fun j=>A i j*x j) fun k hk=>by rw[if_neg (by omega)]] at this
  simp only[dG]
  grind
 ·intro hx
  refine S0 fun i hi=>?_
  have:=TQ hx hi
  rw[if_neg (by omega),if_pos rfl,zt (n:=n) (g:=fun j=>A i j*x j) fun k hk=>by rw[if_neg (by omega)]]
  grind
end
end
theorem aaY {d:zn} {N L:Nat} (hb:Bij d N) (hs:szD L d) (k:Nat):sz L (vl d k):=by
 by_cases h:inB d k
 ·obtain ⟨i,hi,rfl⟩:=h
  rw[Z2 hb hi]; exact hs.b i hi
 ·rw[gL h]; exact wl
theorem aaD {d:zn} {N L:Nat} (hb:Bij d N) (hs:szD L d) (k:Nat):sz L (cv d k):=by
 by_cases h:∃ j,j<d.c∧d.fre j=k
 ·obtain ⟨j,hj,rfl⟩:=h
  rw[U1 hb hj]; exact hs.cst j hj
 ·have:cv d k=0:=zO fun j hj=>if_neg fun e=>h ⟨j,hj,e⟩
  rw[this]; exact wl
theorem acs {d:zn} {N L q:Nat} (hb:Bij d N) (hs:szD L d) (hq:q<d.c) (k:Nat):sz L (eH d q k):=by
 by_cases h:inB d k
 ·obtain ⟨i,hi,rfl⟩:=h
  have e:eH d q (d.bas i)=- d.a i q:=by rw[Yx,dx hb hq hi,dx hb hq hi]; grind
  rw[e]; exact qe (hs.a i q hi hq)
 ·unfold eH
  rw[zO fun i hi=>if_neg fun e=>h ⟨i,hi,e⟩]
  split
  ·rw[show (0:Rat)+1=1 by grind]; exact T4
  ·rw[show (0:Rat)+0=0 by grind]; exact wl
def sgV (n:Nat) (g:Nat→Rat) (d:zn) (k:Nat):Rat:=zh k fun i=>if d.bas i<n then g (d.bas i)*d.b i else 0
def sgC (n:Nat) (g:Nat→Rat) (d:zn) (k j:Nat):Rat:=(if d.fre j<n then g (d.fre j) else 0)-zh k fun i=>if d.bas i<n then g (d.bas i)*d.a i j else 0
def lw (n:Nat) (g:Nat→Rat) (d:zn):zn:={d with cst:=sgC n g d d.r,v:=sgV n g d d.r}
section
variable {n m:Nat} {A:Nat→Nat→Rat} {bb gg:Nat→Rat}
theorem Eh {d:zn} (hb:Bij d (n+m)) (hs:∀ x,sol d x↔sol (dG n m A bb gg) x):Same (lw n gg d) (dG n m A bb gg) (n+m):=by
 refine ⟨hb,FJ,hs,fun x hx=>?_⟩
 have hx':sol d x:=hx
 rw[Tv]
 have h1:=hb fun k=>if k<n then gg k*x k else 0
 rw[gG,zt (n:=n) (g:=fun k=>gg k*x k) fun k hk=>if_pos hk,zO (n:=m) fun k hk=>if_neg (by omega)] at h1
 have h2:zh d.r (fun i=>if d.bas i<n then gg (d.bas i)*x (d.bas i) else 0)=sgV n gg d d.r-zh d.c fun j=>zh d.r (fun i=>if d.bas i<n then gg (d.bas i)*d.a i j else 0)*x (d.fre j):=by
  rw[zt (n:=d.c) (g:=fun j=>zh d.r fun i=>if d.bas i<n then gg (d.bas i)*d.a i j*x (d.fre j) else 0) fun j hj=>by
   rw[← fS]; exact zt fun i hi=>by split<;>grind]
  rw[← fQ,sgV,← uW]
  refine zt fun i hi=>?_
  by_cases e:d.bas i<n
  ·simp only[if_pos e]
   rw[hx' i hi,zt (n:=d.c) (f:=fun j=>gg (d.bas i)*d.a i j*x (d.fre j)) (g:=fun j=>gg (d.bas i)*(d.a i j*x (d.fre j))) fun j hj=>by grind,li]
   grind
  ·simp only[if_neg e]
   rw[zO fun j hj=>rfl]
   grind
 have h3:zh d.c (fun j=>sgC n gg d d.r j*x (d.fre j))=zh d.c (fun j=>if d.fre j<n then gg (d.fre j)*x (d.fre j) else 0)-zh d.c fun j=>zh d.r (fun i=>if d.bas i<n then gg (d.bas i)*d.a i j else 0)*x (d.fre j):=by
  rw[← uW]
  refine zt fun j hj=>?_
  unfold sgC
  split<;>grind
 show sgV n gg d d.r+zh d.c (fun j=>sgC n gg d d.r j*x (d.fre j))=_
 rw[h3]
 grind
end
end Go.LP

namespace Go.Proofs.Ytfmcplfbnkoglaa
open Go Go.Am Go.Dig Go.LP
theorem aeN {n k L:Nat} {g:Nat→Rat} {d:zn} (hg:∀ j,j<n→sz L (g j)) (hb:∀ i,i<k→sz L (d.b i)):sz (k*(2*L+1)) (sgV n g d k):=by
 induction k with
 | zero=>exact wl
 | succ k ih =>
  have h1:=ih fun i hi=>hb i (by omega)
  have e:(k+1)*(2*L+1)=k*(2*L+1)+(L+L)+1:=by rw[Nat.succ_mul]; omega
  rw[e]
  refine pn h1 ?_
  dsimp only
  split
  ·rename_i h; exact yB (hg _ h) (hb k (by omega))
  ·exact wl
theorem aeM {n k L j:Nat} {g:Nat→Rat} {d:zn} (hg:∀ j,j<n→sz L (g j)) (ha:∀ i,i<k→sz L (d.a i j)):sz (L+k*(2*L+1)+1) (sgC n g d k j):=by
 refine km ?_ ?_
 ·split
  ·rename_i h; exact hg _ h
  ·exact wl
 ·induction k with
  | zero=>exact wl
  | succ k ih =>
   have h1:=ih fun i hi=>ha i (by omega)
   have e:(k+1)*(2*L+1)=k*(2*L+1)+(L+L)+1:=by rw[Nat.succ_mul]; omega
   rw[e]
   refine pn h1 ?_
   dsimp only
   split
   ·rename_i h; exact yB (hg _ h) (ha k (by omega))
   ·exact wl
def wv (d:zn) (v:Rat):zn:={d with v:=v}
noncomputable def Ug (n m:Nat) (g:Nat→Rat) (d:zn) (ρ:List (Nat × ze)) (out:List (List (Nat × AV))) (k:Nat):St :=
 {env:=[(0,.ptr 1015 0),(1,fL g n),(4,.sl 5020 3 0 d.c),(24,.us 2029 1 0 d.c),(25,iv d.c),(26,iv k)],
  sto:=ρ++(tL n m (wv d 0)++[(5020,.arr 3 (fZ (sgC n g d 0) k d.c))]),out:=out,base:=5000}
noncomputable def mn (n m:Nat) (g:Nat→Rat) (d:zn) (ρ:List (Nat × ze)) (out:List (List (Nat × AV))) (k:Nat):St :=
 {env:=[(0,.ptr 1015 0),(1,fL g n),(4,.sl 5020 3 0 d.c),(52,.us 1987 1 0 m),(53,iv m),(54,iv k)],
  sto:=ρ++(tL n m (wv d (sgV n g d k))++[(5020,.arr 3 (fR (sgC n g d k) d.c))]),out:=out,base:=5000}
noncomputable def Mj (n m:Nat) (g:Nat→Rat) (d:zn) (ρ:List (Nat × ze)) (out:List (List (Nat × AV))) (k:Nat):St :=
 if k=m then ⟨[(0,.ptr 1015 0),(1,fL g n),(4,fL (sgC n g d k) d.c),(52,.us 1987 1 0 m),(53,iv m),(54,iv k)],
  ρ++tL n m (wv d (sgV n g d k)),out,5000⟩ else mn n m g d ρ out k
theorem acT {n m:Nat} {g:Nat→Rat} {d:zn} {ρ:List (Nat × ze)} {out:List (List (Nat × AV))} {k:Nat} (h:k<m):Mj n m g d ρ out k=mn n m g d ρ out k:=if_neg (by omega)
theorem aac {n m:Nat} {g:Nat→Rat} {d:zn} {ρ:List (Nat × ze)} {out:List (List (Nat × AV))}:Mj n m g d ρ out m=⟨[(0,.ptr 1015 0),(1,fL g n),(4,fL (sgC n g d m) d.c),(52,.us 1987 1 0 m),(53,iv m),(54,iv m)],
  ρ++tL n m (wv d (sgV n g d m)),out,5000⟩:=if_pos rfl
theorem Mk {n m:Nat} {g:Nat→Rat} {d:zn} {ρ:List (Nat × ze)} {out:List (List (Nat × AV))} (hρ:rest ρ) (hO:yq 2000 out) (k:Nat):St.imp (mn n m g d ρ out k) (Mj n m g d ρ out k):=by
 unfold Mj
 split
 ·refine St.imp_freeze (k:=5020) ?_
  simp[xa,mn,tL,rlk hρ,wB hρ,y7 hρ,ono hO,AB hρ,BZ hO,far,wv,sj,nH,tQ,lY]
 ·exact St.imp.refl
noncomputable def Uh (n m:Nat) (g:Nat→Rat) (d:zn) (ρ:List (Nat × ze)) (out:List (List (Nat × AV))) (k:Nat) (l:Nat):St :=
 {env:=[(0,.ptr 1015 0),(1,fL g n),(4,.sl 5020 3 0 d.c),(8,iv (d.bas k)),(52,.us 1987 1 0 m),(53,iv m),(54,iv k),(99,fL (d.a k) d.c),(100,iv d.c),(101,iv l)],
  sto:=ρ++(tL n m (wv d (sgV n g d (k+1)))++[(5020,.arr 3 (fR (fun j=>if j<l then sgC n g d (k+1) j else sgC n g d k j) d.c))]),out:=out,base:=5000}
theorem Ma {n m L:Nat} {g:Nat→Rat} {d:zn} {ρ:List (Nat × ze)} {s:St} {K:AV→St→Prop} (hs:s.sto=ρ++tL n m d) (hρ:rest ρ) (hE:xf 2000 s.env) (hO:yq 2000 s.out) (hm:m<1000000) (_hn:n<1000000) (hc:d.c<1000000) (hr:d.r=m)
  (hL:L+(m+1)*(2*L+1)≤100000000000) (hsz:szD L d) (hg:∀ j,j<n→sz L (g j)) (h:K (.tuple []) ⟨s.env,ρ++tL n m (lw n g d),s.out,s.base⟩) :
  yc Try.prog px [.ptr 1015 0,fL g n] s K:=by
 obtain ⟨env,σ,out,base⟩:=s
 simp only at hs hE hO h
 subst hs
 have g0:zd Try.prog zP [iv 0] (fq 0):=yH (n:=0) (by decide) (by decide)
 have v0:sgV n g d 0=0:=rfl
 refine vF 5000 QJ (by simp) ?_
 simp[bG,tL]
 refine za g0 (by simp) (by simp) ?_
 simp[rlk hρ,rpt hρ,far,eMk]
 refine ⟨by omega,by omega,?_⟩
 rw[nF (f:=sgC n g d 0)]
 refine zl (Ug n m g d ρ (env::out)) (fun _=>True) d.c (by simp[Ug,tL,wv]) trivial (fun k hk _=>?_) (fun _=>?_)
 ·have e:(k:Int)<d.c:=by omega
  have w:=zq (k:=k) (by omega)
  have hset:=lW (f:=sgC n g d 0) hk
  obtain ⟨f,hfe⟩:∃ f,d.fre k=f:=⟨_,rfl⟩
  by_cases h1:f<n
  ·have h1':(f:Int)<n:=by omega
   have ev:sgC n g d 0 k=g f:=by simp only[sgC,zh]; rw[hfe,if_pos h1]; grind
   rw[ev] at hset
   simp[t5,Ug,tL,rlk hρ,far,wv,e,hk,hfe]
   refine za g0 (by simp) (by simp) ?_
   simp[tL,rlk hρ,rpt hρ,far,wv,e,hk,h1,h1',w,splice,hset,Ug]
  ·have h1':¬ (f:Int)<n:=by omega
   have ev:sgC n g d 0 k=0:=by simp only[sgC,zh]; rw[hfe,if_neg h1]; grind
   rw[ev] at hset
   simp[t5,Ug,tL,rlk hρ,far,wv,e,hk,hfe]
   refine za g0 (by simp) (by simp) ?_
   simp[tL,rlk hρ,rpt hρ,far,wv,e,hk,h1',w,splice,hset,Ug]
 ·simp[t5,Ug,jM,tL,rlk hρ,far,wv,nE]
  have hO2:yq 2000 (env::out):=l7.2 ⟨hE,hO⟩
  refine mG (Mj n m g d ρ (env::out)) (fun _=>True) m (St.imp.trans (St.imp_of (by simp[mn,tL,wv,v0])) (Mk hρ hO2 0)) trivial (fun k hk _=>?_) (fun _=>?_)
  ·rw[acT hk]
   have fin:=Mk (n:=n) (m:=m) (g:=g) (d:=d) hρ hO2 (k+1)
   have e:(k:Int)<m:=by omega
   have w:=zq (k:=k) (by omega)
   have hkm:k*(2*L+1)≤m*(2*L+1):=Nat.mul_le_mul_right _ (by omega)
   have hms:(m+1)*(2*L+1)=m*(2*L+1)+(2*L+1):=Nat.succ_mul _ _
   rw[hms] at hL
   obtain ⟨v,hve⟩:∃ v,d.bas k=v:=⟨_,rfl⟩
   by_cases h1:n≤v
   ·have h1':(n:Int)≤v:=by omega
    have h1n:¬ v<n:=by omega
    have ev:sgV n g d (k+1)=sgV n g d k:=by simp only[sgV,zh]; rw[hve,if_neg (by omega)]; grind
    have ec:sgC n g d (k+1)=sgC n g d k:=by funext j; simp only[sgC,zh]; rw[hve,if_neg h1n]; grind
    simp[v7,t0,mn,tL,rlk hρ,far,wv,e,hk,hve,h1',w]
    refine St.imp.trans (St.imp_of ?_) fin
    simp[mn,tL,wv,ev,ec]
   ·have hvn:v<n:=by omega
    have hvn':(v:Int)<n:=by omega
    have h1':¬ (n:Int)≤v:=by omega
    have s1:=vi (q:=g v)
    by_cases h2:g v=0
    ·have s2:yA (g v)=0:=wH.2 h2
     have ev:sgV n g d (k+1)=sgV n g d k:=by simp only[sgV,zh]; rw[hve,if_pos hvn,h2]; grind
     have ec:sgC n g d (k+1)=sgC n g d k:=by funext j; simp only[sgC,zh]; rw[hve,if_pos hvn,h2]; grind
     simp[v7,t0,mn,tL,rlk hρ,far,wv,e,hk,hve,h1',hvn,hvn']
     refine za s1 (by simp) (by simp) ?_
     simp[w,s2]
     refine St.imp.trans (St.imp_of ?_) fin
     simp[mn,tL,wv,ev,ec]
    ·have s2:¬ yA (g v)=0:=fun h=>h2 (wH.1 h)
     have sb:=hsz.b k (by omega)
     have sv:=aeN (k:=k) hg (fun i hi=>hsz.b i (by omega))
     have g1:=jf (K:=L) (by omega) (hg v hvn) sb
     have g2:=UA (K:=L+(m+1)*(2*L+1)) (by omega) (zC sv (by omega)) (zC (yB (hg v hvn) sb) (by omega))
     have ev:sgV n g d k+g v*d.b k=sgV n g d (k+1):=by simp only[sgV,zh]; rw[hve,if_pos hvn]
     rw[ev] at g2
     have ec:∀ j,sgC n g d k j-g v*d.a k j=sgC n g d (k+1) j:=fun j=>by simp only[sgC,zh]; rw[hve,if_pos hvn]; grind
     simp[v7,t0,mn,tL,rlk hρ,far,wv,e,hk,hve,h1',hvn,hvn']
     refine za s1 (by simp) (by simp) ?_
     simp[rlk hρ,far,e,hk,hvn,hvn',s2]
     refine za g1 (by simp) (by simp) ?_
     simp
     refine za g2 (by simp) (by simp) ?_
     simp[rlk hρ,rpt hρ,far,e,hk]
     refine zl (Uh n m g d ρ (env::out) k) (fun _=>True) d.c (by simp[Uh,tL,wv,hve]) trivial (fun l hl _=>?_) (fun _=>?_)
     ·have e2:(l:Int)<d.c:=by omega
      have w2:=zq (k:=l) (by omega)
      have t1:=vi (q:=d.a k l)
      have sa:=hsz.a k l (by omega) hl
      have sc:=aeM (k:=k) (j:=l) hg (fun i hi=>hsz.a i l (by omega) hl)
      have mx:∀ x,x=sgC n g d (k+1) l→(fR (fun j=>if j<l then sgC n g d (k+1) j else sgC n g d k j) d.c).set l (fr x)=fR (fun j=>if j<l+1 then sgC n g d (k+1) j else sgC n g d k j) d.c:=fun x hx=>by
       rw[uE]
       refine ye fun j _=>?_
       unfold upd
       by_cases ej:j=l
       ·subst ej; rw[if_pos rfl,if_pos (by omega),hx]
       ·rw[if_neg ej]
        dsimp only
        by_cases ej2:j<l
        ·rw[if_pos ej2,if_pos (by omega)]
        ·rw[if_neg ej2,if_neg (by omega)]
      have mg:(fR (fun j=>if j<l then sgC n g d (k+1) j else sgC n g d k j) d.c)[l]?=some (fr (sgC n g d k l)):=by rw[aY hl,if_neg (Nat.lt_irrefl l)]
      have ecl:=ec l
      by_cases h3:d.a k l=0
      ·have s3:yA (d.a k l)=0:=wH.2 h3
       have ms:fR (fun j=>if j<l then sgC n g d (k+1) j else sgC n g d k j) d.c=fR (fun j=>if j<l+1 then sgC n g d (k+1) j else sgC n g d k j) d.c:=by
        refine ye fun j _=>?_
        by_cases ej:j=l
        ·subst ej; rw[if_neg (Nat.lt_irrefl j),if_pos (by omega),← ecl,h3]; grind
        ·by_cases ej2:j<l
         ·rw[if_pos ej2,if_pos (by omega)]
         ·rw[if_neg ej2,if_neg (by omega)]
       simp[t6,Uh,tL,rlk hρ,rpt hρ,far,wv,e2,hl,hve]
       refine za t1 (by simp) (by simp) ?_
       simp[tL,rlk hρ,wB hρ,y7 hρ,eno hE,ono hO,far,wv,s3,w2,Uh,hve,ms]
      ·have s3:¬ yA (d.a k l)=0:=fun h=>h3 (wH.1 h)
       have t2:=jf (K:=L) (by omega) (hg v hvn) sa
       have t3:=T2 (K:=L+(m+1)*(2*L+1)) (by omega) (zC sc (by omega)) (zC (yB (hg v hvn) sa) (by omega))
       rw[ecl] at t3
       have mx:=mx _ rfl
       simp[t6,Uh,tL,rlk hρ,rpt hρ,far,wv,e2,hl,hve]
       refine za t1 (by simp) (by simp) ?_
       simp[rlk hρ,far,e2,hl,s3,hvn,hvn']
       refine za t2 (by simp) (by simp) ?_
       simp
       refine za t3 (by simp) (by simp) ?_
       simp[tL,rlk hρ,rpt hρ,wB hρ,y7 hρ,eno hE,ono hO,far,wv,e2,hl,splice,mx,w2,Uh,hve]
     ·have hfull:fR (fun j=>if j<d.c then sgC n g d (k+1) j else sgC n g d k j) d.c=fR (sgC n g d (k+1)) d.c:=ye fun j hj=>if_pos hj
      simp[t6,Uh,tL,wv,hfull,w]
      refine St.imp.trans (St.imp_of ?_) fin
      simp[mn,tL,wv]
  ·rw[aac]
   simp[v7,jL,bU,tL,rlk hρ,rpt hρ,far,wv]
   simpa [lw,tL,tC,hr] using h
@[simp] theorem adx {sz by_ d n j sz' off len:Nat} {rows:List (List AV)} {s:St} {K:St→Prop} (h:lk s.sto j=some (.uarr sz rows)) :
  xe sz by_ s (some d) K [.list n .full [],.us j sz' off len]=(sz'=sz∧off+len≤rows.length∧0<sz∧((rows.drop off).take len).length*by_≤140737488355328∧((rows.drop off).take len).length≤9223372036854775807∧lk s.sto (s.base+d)=none ∧
   K (((s.dg (s.base+d)).put (some d) (.us (s.base+d) sz 0 ((rows.drop off).take len).length)).new (some d) (some (.uarr sz (zX (s.base+d) ((rows.drop off).take len)))))):=by
 simp[xe,xd,h]
@[simp] theorem abx {sz by_ d l j sz1 off1 len1 sz' off len:Nat} {rows1 rows:List (List AV)} {s:St} {K:St→Prop} (h1:lk s.sto l=some (.uarr sz rows1)) (h:lk s.sto j=some (.uarr sz rows)) :
  xe sz by_ s (some d) K [.us l sz1 off1 len1,.us j sz' off len]=(sz'=sz∧off+len≤rows.length∧0<sz∧(len1+((rows.drop off).take len).length)*by_≤140737488355328∧len1+((rows.drop off).take len).length≤9223372036854775807∧sz1=sz∧off1=0∧len1=rows1.length ∧
   K ({(s.dg l) with sto:=pt (s.dg l).sto l (.uarr sz (zX l (rows1++((rows.drop off).take len))))}.put (some d) (.us l sz 0 (len1+((rows.drop off).take len).length)))):=by
 simp[xe,xd,h,h1]
theorem KC {g:Nat→List AV} {j c:Nat} (hj:j<c):(mR g c).take j++(mR g c).drop (j+1)=mR (fun k=>g (sk j k)) (c-1):=by
 apply List.ext_getElem?
 intro i
 by_cases h:i<j
 ·rw[List.getElem?_append_left (by simp; omega),List.getElem?_take,if_pos h,rY (by omega),rY (by omega)]
  unfold sk; rw[if_pos h]
 ·rw[List.getElem?_append_right (by simp; omega),List.getElem?_drop]
  have e:j+1+(i-((mR g c).take j).length)=i+1:=by simp; omega
  rw[e]
  by_cases h2:i<c-1
  ·rw[rY (by omega),rY h2]
   unfold sk; rw[if_neg h]
  ·rw[List.getElem?_eq_none (by simp; omega),List.getElem?_eq_none (by simp; omega)]
theorem Ki {f:Nat→Rat} {j c:Nat} (hj:j<c):(fR f c).take j++(fR f c).drop (j+1)=fR (fun k=>f (sk j k)) (c-1):=KC (g:=fun k=>fr (f k)) hj
theorem abY {f:Nat→Nat} {j c:Nat} (hj:j<c):(nR f c).take j++(nR f c).drop (j+1)=nR (fun k=>f (sk j k)) (c-1):=KC (g:=fun k=>[iv (f k)]) hj
theorem abZ {f:Nat→Nat} {j c l:Nat}:zX l ((nR f c).take j)=(nR f c).take j:=yM fun r hr=>by
 obtain ⟨i,_,rfl⟩:=List.mem_map.1 (List.mem_of_mem_take hr)
 rfl
theorem abX {f:Nat→Nat} {j c l:Nat}:zX l ((nR f c).drop j)=(nR f c).drop j:=yM fun r hr=>by
 obtain ⟨i,_,rfl⟩:=List.mem_map.1 (List.mem_of_mem_drop hr)
 rfl
theorem ab0 {f:Nat→Nat} {j c:Nat}:((nR f c).drop j).take (c-j)=(nR f c).drop j:=List.take_of_length_le (by simp)
theorem least {p:Nat→Prop}:∀ {n:Nat},(∃ i,i<n∧p i)→∃ i,i<n∧p i∧∀ k,k<i→¬ p k
 | 0,⟨i,h,_⟩=>by omega
 | n+1,⟨i,h,hp⟩=>by
  by_cases e:∃ i,i<n∧p i
  ·obtain ⟨i,h1,h2,h3⟩:=least e
   exact ⟨i,by omega,h2,h3⟩
  ·refine ⟨i,h,hp,fun k hk hpk=>e ⟨k,by omega,hpk⟩⟩
def Rm (n m:Nat) (d e:zn):Prop:=∃ d1 j,(d1=d∨∃ i q,i<m∧q<d.c∧d.bas i=n+m∧d.a i q≠0∧d1=pivot d i q)∧j<d1.c∧d1.fre j=n+m∧e=pF d1 j
theorem Ns {M n:Nat} {f:Nat→Rat}:Am.low M (fL f n)=true:=rfl
theorem EN:y6 Try.prog vp=true:=by kernel_rfl
noncomputable def ZP (n m:Nat) (d:zn) (ρ:List (Nat × ze)) (out:List (List (Nat × AV))) (k:Nat):St :=
 {env:=[(0,.ptr 1015 0),(2,iv (n+m:Nat)),(23,.us 1987 1 0 m),(24,iv m),(25,iv k)],sto:=ρ++tL n m d,out:=out,base:=4500}
noncomputable def Mq (n m i:Nat) (d:zn) (ρ:List (Nat × ze)) (out:List (List (Nat × AV))) (k:Nat):St :=
 {env:=[(0,.ptr 1015 0),(2,iv (n+m:Nat)),(3,iv i),(39,fL (d.a i) d.c),(40,iv d.c),(41,iv k)],sto:=ρ++tL n m d,out:=out,base:=4500}
noncomputable def Uk (n m:Nat) (d:zn) (ρ:List (Nat × ze)) (out:List (List (Nat × AV))) (k:Nat):St :=
 {env:=[(0,.ptr 1015 0),(2,iv (n+m:Nat)),(58,.us 2029 1 0 d.c),(59,iv d.c),(60,iv k)],sto:=ρ++tL n m d,out:=out,base:=4500}
noncomputable def sR (d:zn) (j k m:Nat):List (List AV):=mR (fun i=>if i<k then [fL (fun l=>d.a i (sk j l)) (d.c-1)] else [fL (d.a i) d.c]) m
theorem aaV {d:zn} {j k m l:Nat}:zX l (sR d j k m)=sR d j k m:=tD fun i=>by split<;>simp
@[simp] theorem ai3 {d:zn} {j k m l:Nat}:xo l (sR d j k m)=false:=Tp fun i=>by split<;>simp
@[simp] theorem ai2 {d:zn} {j k m:Nat}:(sR d j k m).length=m:=n9
noncomputable def tS (n m j k:Nat) (d:zn):List (Nat × ze) :=
 [(1015,.var (tC n m d)),(1961,.uarr 1 (sR d j k m)),(1972,.uarr 3 (fR d.b m)),(1987,.uarr 1 (nR d.bas m)),(2029,.uarr 1 (nR d.fre d.c))]
noncomputable def GP (n m j:Nat) (d:zn) (ρ:List (Nat × ze)) (out:List (List (Nat × AV))) (k:Nat):St :=
 {env:=[(0,.ptr 1015 0),(7,iv j),(71,.us 1961 1 0 m),(72,iv m),(73,iv k)],sto:=ρ++tS n m j k d,out:=out,base:=4500}
@[simp] theorem afj {a':Nat→Nat→Rat} {cl:Nat→Nat} {n a b:Nat}:((cR a' cl n).map fun r=>r.map (rn a b))=cR a' cl n:=tD fun _=>by simp[rn,rn1]
noncomputable def tW (n m j:Nat) (d:zn):List (Nat × ze) :=
 [(1015,.var [iv n,iv m,.us 1961 1 0 m,.us 1972 3 0 m,.list 3 (.own 4622) (fR (fun k=>d.cst (sk j k)) (d.c-1)),f0 d.v,f1 d.v,f2 d.v,.us 1987 1 0 m,.us 4603 1 0 (d.c-1)]),
  (1961,.uarr 1 (sR d j m m)),(1972,.uarr 3 (fR d.b m)),(1987,.uarr 1 (nR d.bas m)),(2029,.uarr 1 (nR d.fre d.c)),(4603,.uarr 1 (nR (fun k=>d.fre (sk j k)) (d.c-1)))]
theorem acG {d:zn} {j m:Nat}:sR d j m m=cR (fun i k=>d.a i (sk j k)) (fun _=>d.c-1) m:=uU fun _i hi=>if_pos hi
theorem aeY {n m j:Nat} {d:zn} {ρ:List (Nat × ze)} {env:List (Nat × AV)} {out:List (List (Nat × AV))} {base:Nat} (hρ:rest ρ) (hE:xf 2000 env) (hO:yq 2000 out) :
  St.imp ⟨env,ρ++tW n m j d,out,base⟩ ⟨env,ρ++tL n m (pF d j),out,base⟩:=by
 refine St.imp.trans (St.imp_cell_weak (k:=1015) (j:=4) (y:=fL (fun k=>d.cst (sk j k)) (d.c-1)) (by simp[tW,rlk hρ,far]; rfl) (by simp; rfl) vn.list) ?_
 simp[tW,rpt hρ,far]
 refine St.imp.trans (St.impW_drop (l:=2029) (by simp[rlk hρ,far]; exact ⟨rfl,rfl⟩)).imp ?_
 simp[wB hρ,far]
 refine St.imp.trans (St.imp_rn 4603 2029) ?_
 have hr0:=AE (k:=4603) (l:=2029) hρ rfl rfl
 have he:=Yo (k:=4603) (by omega) (j:=2029) (by omega) hE
 have ho:=SI (k:=4603) (by omega) (j:=2029) (by omega) hO
 simp only[St.rn,List.map_append,hr0,he,ho]
 simp only[List.map_cons,List.map_nil,SY,X9,Gt,N3,Ua,J3,aaG,afj,acG,JE,JF,JG,sw,Nat.reduceEqDiff,if_true,if_false]
 exact St.imp.refl
theorem acv {n m:Nat} {d:zn} {ρ:List (Nat × ze)} {env:List (Nat × AV)} {out:List (List (Nat × AV))} {base:Nat} {K:AV→St→Prop} (hρ:rest ρ) (hE:xf 2000 env) (hO:yq 2000 out) (hm:m<1000000) (_hn:n<1000000) (hc:d.c<1000000)
  {j0:Nat} (hj0:j0<d.c) (hf0:d.fre j0=n+m) (hmin:∀ k,k<j0→¬ d.fre k=n+m) (h:K (.tuple []) ⟨env,ρ++tW n m j0 d,out,base⟩) :
  awp Try.prog (.loop wt) (Uk n m d ρ (env::out) 0) (vb 4 (X8 tG base K)):=by
 refine zl (Uk n m d ρ (env::out)) (fun _=>True) j0 (by simp[Uk]) trivial (fun k hk _=>?_) (fun _=>?_)
 ·have e:(k:Int)<d.c:=by omega
  have hkc:k<d.c:=by omega
  have w:=zq (k:=k) (by omega)
  have hne:¬ d.fre k=n+m:=hmin k hk
  have hne':¬ (d.fre k:Int)=(n:Int)+m:=by omega
  simp[wt,Uk,tL,e,hkc,rlk hρ,far,hne',w,rJ]
 ·have e:(j0:Int)<d.c:=by omega
  have hf0':(d.fre j0:Int)=(n:Int)+m:=by omega
  simp[wt,Uk,tL,e,hj0,rlk hρ,far,hf0']
  have hj1:(j0:Int)≤d.c:=by omega
  have hj2:j0≤d.c:=by omega
  have wj:IntKind.i64.wrap ((j0:Int)+1)=((j0+1:Nat):Int):=zq (by omega)
  have hj3:(j0:Int)+1≤d.c:=by omega
  have hj5:(0:Int)≤(j0:Int)+1:=by omega
  have hj4:j0+1≤d.c:=by omega
  refine mG (GP n m j0 d ρ (env::out)) (fun _=>True) m ?_ trivial (fun k hk _=>?_) (fun _=>?_)
  ·exact St.imp_of (by simp[GP,tS,sR,cR])
  ·have e:(k:Int)<m:=by omega
   have w:=zq (k:=k) (by omega)
   have g:(sR d j0 k m)[k]?=some [fL (d.a k) d.c]:=by unfold sR; rw[rY hk,if_neg (by omega)]
   have gE:∀ h,(sR d j0 k m)[k]'h=[fL (d.a k) d.c]:=fun h=>(List.getElem?_eq_some_iff.1 g).2
   simp[v6,GP,tS,e,hk,gE,rlk hρ,rpt hρ,wB hρ,far,mf hρ,edg hE,odg hO,-dgE,vu,wO,aaV,w,hj1,hj2,wj,hj3,hj5]
   refine ⟨by omega,by omega,by omega,by omega,?_⟩
   rw[Ki hj0]
   have hset:(sR d j0 k m).set k [fL (fun l=>d.a k (sk j0 l)) (d.c-1)]=sR d j0 (k+1) m:=by
    unfold sR
    rw[Tq]
    refine uU fun i _=>?_
    unfold upd
    by_cases ei:i=k
    ·subst ei; rw[if_pos rfl,if_pos (by omega)]
    ·rw[if_neg ei]
     dsimp only
     by_cases ei2:i<k
     ·rw[if_pos ei2,if_pos (by omega)]
     ·rw[if_neg ei2,if_neg (by omega)]
   refine St.imp.trans (St.imp_uarr (l:=1961) (sz:=1) (rows':=sR d j0 (k+1) m) (by simp[rlk hρ,far]; rfl) (by simp) fun i r r' hr hr'=>?_) ?_
   ·rw[← hset] at hr'
    rw[List.getElem?_set] at hr hr'
    by_cases ei:k=i
    ·subst ei
     rw[if_pos rfl] at hr hr'
     split at hr
     ·rename_i h1
      rw[if_pos h1] at hr'
      simp only[Option.some.injEq] at hr hr'
      subst hr hr'
      exact ⟨rfl,fun j c c' hj hj'=>by
       cases j with
       | zero=>simp only[List.getElem?_cons_zero,Option.some.injEq] at hj hj'; subst hj hj'; exact vn.list
       | succ j=>simp at hj⟩
     ·cases hr
    ·rw[if_neg ei] at hr hr'
     rw[hr] at hr'
     cases hr'
     exact ⟨rfl,fun j c c' hj hj'=>by rw[hj] at hj'; cases hj'; exact vn.refl⟩
   ·simp[rpt hρ,far]
    exact St.imp.refl
  ·simp[v6,GP,tS,rlk hρ,rpt hρ,wB hρ,far,mf hρ,edg hE,odg hO,-dgE,vu,wO,aaV,rI,tG,abZ,abX,ab0,abY hj0,Ki hj0,TG,hj1,hj2,wj,hj3,hj4,hj5]
   rw[show j0+(d.c-(j0+1))=d.c-1 by omega]
   exact ⟨by omega,by omega,by omega,by omega,by omega,by omega,by omega,by omega,h⟩
theorem acw {n m L:Nat} {d d1:zn} {ρ:List (Nat × ze)} {s:St} {K:AV→St→Prop} (hs:s.sto=ρ++tL n m d) (hρ:rest ρ) (hE:xf 2000 s.env) (hO:yq 2000 s.out) (hm:m<1000000) (hn:n<1000000) (hc:d.c<1000000) (hr:d.r=m)
  (hL:L≤10000000000) (hsz:szD L d)
  (h1:(d1=d∧∀ i,i<m→d.bas i≠n+m)∨∃ i q,i<m∧q<d.c∧d.bas i=n+m∧(∀ k,k<i→d.bas k≠n+m)∧d.a i q≠0∧(∀ k,k<q→d.a i k=0)∧d1=pivot d i q)
  {j0:Nat} (hj0:j0<d1.c) (hf0:d1.fre j0=n+m) (hmin:∀ k,k<j0→¬ d1.fre k=n+m) (h:K (.tuple []) ⟨s.env,ρ++tL n m (pF d1 j0),s.out,s.base⟩) :
  yc Try.prog vp [.ptr 1015 0] s K:=by
 obtain ⟨env,σ,out,base⟩:=s
 simp only at hs hE hO h
 subst hs
 have hO2:yq 2000 (env::out):=l7.2 ⟨hE,hO⟩
 have wnm:IntKind.i64.wrap ((n:Int)+m)=(n:Int)+m:=by rw[wrap64]<;>omega
 refine yc.post (K:=fun r s'=>r=.tuple []∧s'=⟨env,ρ++tW n m j0 d1,out,base⟩) ?_ fun r s' ⟨e1,e2⟩=>.inr ⟨e1,⟨env,ρ++tL n m (pF d1 j0),out,base⟩,by subst e2; exact aeY hρ hE hO,by subst e1; exact h⟩
 refine vF 4500 dI (by simp) ?_
 have k7:=acv (n:=n) (m:=m) (d:=d1) (K:=fun r s'=>r=.tuple []∧s'=⟨env,ρ++tW n m j0 d1,out,base⟩) (base:=base) hρ hE hO hm hn (by rcases h1 with ⟨rfl,_⟩ | ⟨i,q,_,_,_,_,_,_,rfl⟩<;>exact hc) hj0 hf0 hmin ⟨rfl,rfl⟩
 rcases h1 with ⟨rfl,hno⟩ | ⟨i0,q0,hi0,hq0,hb0,hbmin,ha0,hamin,rfl⟩
 ·simp[tk,tL,rlk hρ,far,wnm]
  refine zl (ZP n m d1 ρ (env::out)) (fun _=>True) m (by simp[ZP,tL]) trivial (fun k hk _=>?_) (fun _=>?_)
  ·have e:(k:Int)<m:=by omega
   have w:=zq (k:=k) (by omega)
   have hne:¬ (d1.bas k:Int)=(n:Int)+m:=by have:=hno k hk; omega
   simp[xz,ZP,tL,e,hk,rlk hρ,far,hne,w,v3]
  ·simp[xz,ZP,tL,rlk hρ,far,v4]
   simpa [Uk,tL] using k7
 ·simp[tk,tL,rlk hρ,far,wnm]
  refine zl (ZP n m d ρ (env::out)) (fun _=>True) i0 (by simp[ZP,tL]) trivial (fun k hk _=>?_) (fun _=>?_)
  ·have hkm:k<m:=by omega
   have e:(k:Int)<m:=by omega
   have w:=zq (k:=k) (by omega)
   have hne:¬ (d.bas k:Int)=(n:Int)+m:=by have:=hbmin k hk; omega
   simp[xz,ZP,tL,e,hkm,rlk hρ,far,hne,w,v3]
  ·have e:(i0:Int)<m:=by omega
   have heq:(d.bas i0:Int)=(n:Int)+m:=by omega
   simp[xz,ZP,tL,e,hi0,rlk hρ,far,heq]
   refine zl (Mq n m i0 d ρ (env::out)) (fun _=>True) q0 (by simp[Mq,tL]) trivial (fun k hk _=>?_) (fun _=>?_)
   ·have hkc:k<d.c:=by omega
    have e2:(k:Int)<d.c:=by omega
    have w:=zq (k:=k) (by omega)
    have g:=vi (q:=d.a i0 k)
    have z:yA (d.a i0 k)=0:=wH.2 (hamin k hk)
    simp[v5,Mq,tL,e2,hkc,rlk hρ,rpt hρ,far]
    refine za g (by simp) (by simp) ?_
    simp[z,w,Mq,tL,rlk hρ,wB hρ,y7 hρ,eno hE,ono hO,far]
   ·have e2:(q0:Int)<d.c:=by omega
    have g:=vi (q:=d.a i0 q0)
    have z:¬ yA (d.a i0 q0)=0:=fun h=>ha0 (wH.1 h)
    simp[v5,Mq,tL,e2,hq0,rlk hρ,rpt hρ,far]
    refine za g (by simp) (by simp) ?_
    simp[z,cM,rlk hρ,wB hρ,y7 hρ,eno hE,ono hO,far]
    refine yb (NR (s:=⟨_,ρ++tL n m d,env::out,4500⟩) (d:=d) (ρ:=ρ) (n:=n) (m:=m) (L:=L) rfl hρ ?_ hO2 hm hc hr hi0 hq0 hL hsz ha0 ?_)
    ·simp[yI,xg,l8,rX,xR,Ns]
    simp[rH,v4,tL,rlk hρ,far]
    simpa [Uk,tL] using k7
end Go.Proofs.Ytfmcplfbnkoglaa
