/- What the proof rests on, part 9: N13 N14 F1 F3f F5 FR N3 N4 N20 N21 N22 N23 N24 N25 N26 N27 N28 N29 N30 F2 F3 F4 F6 F7 F8 F9 F10 F12 LP LP2 LP3 LP4 F13 F14 F15 WJ WK WL WM WN WO WP. -/
import Derived.Test.YtpnliopaifpimaaGreatP8
set_option maxRecDepth 100000
set_option maxHeartbeats 4000000
namespace Go.Proofs.YtpnliopaifpimaaGreat
open Go Go.Am Go.Dig
def T1 (Q R n m N Y k:Nat):St :=
 {env:=[(4,.sl 72 1 0 (m+1)),(5,.sl 99 1 0 (n+2)),(9,zS N),(10,.sl 1011 1 0 (n+2+m+1)),(100,iv ((n:Int)+2)),(101,iv k)],
  sto:=[(72,.arr 1 (zH (zu (m+1) Q))),(1011,.arr 1 (zH (zu (n+2+m+1) Y))),(99,.arr 1 (zH (vG (n+2) k R)))]}
theorem B6 {R N i:Nat} (hN:N<32):∃ a c d,R*2^N/B^i%B/2^N=a∧(R*2^N/B^(i+1)%B)*2^(32-N)%B=c∧R/B^i%B=d∧a ||| c=d∧a<B∧c<B∧d<B∧(N=0→a=d):=by
 obtain ⟨h1,h2⟩:=aaY (X:=R*2^N) (i:=i) hN
 have hP:0<2^N:=Nat.pow_pos (by omega)
 rw[Nat.mul_div_cancel _ hP] at h1
 refine ⟨_,_,_,rfl,rfl,rfl,by rw[h2,← h1],Nat.lt_of_le_of_lt (Nat.div_le_self _ _) (Nat.mod_lt _ z6),Nat.mod_lt _ z6,Nat.mod_lt _ z6,fun h0=>?_⟩
 subst h0
 rw[Nat.pow_zero,Nat.mul_one,Nat.div_one]
theorem akT {a c d:Nat} (ha:a<B) (hc:c<B) (h:a ||| c=d) (hd:d<B):rP .or .u32 (a:Int) (c:Int)=(d:Int):=by
 have:=adG (c:=a) (x:=c) ha hc (by rw[h]; exact hd)
 rw[h] at this
 exact this
theorem afQ {A D n m N X V:Nat} (hn:n+m<274877906944) (hD:(zh D).length=n+2) (h:L3 A D n m N X V) :
  ∀ q y,q=76→awp Tryz.prog s8 {(mq A D n m N X V (m+1)) with env:=(mq A D n m N X V (m+1)).env++[(q,y)]} (Y5 pe (YB A D)):=by
 intro q y hq
 subst hq
 have hN:=h.N32
 have hY:rst X V 0=A%D*2^N:=by rw[aeb,h.r]
 have hDlt:D<B^(n+2):=zI.1 (Nat.le_of_eq hD)
 have hD0:0<D:=by
  rcases Nat.eq_zero_or_pos D with h0 | h0
  ·subst h0; simp[yF] at hD
  ·exact h0
 have hRlt:A%D<B^(n+2):=Nat.lt_trans (Nat.mod_lt _ hD0) hDlt
 have hQlt:A/D<B^(m+1):=by
  rw[← h.q]
  apply Nat.div_lt_of_lt_mul
  have h1:=Nat.lt_mul_div_succ X (tf (m+1))
  have h2:B^(m+1)*(X/B^(m+1)+1)≤B^(m+1)*V:=Nat.mul_le_mul_left _ h.top
  rw[Nat.mul_comm V]
  exact Nat.lt_of_lt_of_le h1 h2
 have w1:((n:Int)+2).toNat=n+2:=by omega
 have kq:=xI (m:=.plain) (a:=zu (m+1) (A/D)) yU (by rw[zG]; omega)
 have kr:=xI (m:=.plain) (a:=zu (n+2) (A%D)) yU (by rw[zG]; omega)
 rw[yA hQlt] at kq
 rw[yA hRlt] at kr
 have lp:∀ s,Zg s (T1 (A/D) (A%D) n m N (A%D*2^N) 0)→awp Tryz.prog (.loop px) s (wj 4 (qM Tryz.prog ee (Y5 pe (YB A D)))):=by
  intro s hs
  refine zw (T1 (A/D) (A%D) n m N (A%D*2^N)) (fun _=>True) (n+2) hs trivial (fun i hi _=>?_) (fun _=>?_)
  ·obtain ⟨a,c,d,h1,h2,h3,h4,h5,h6,h7,h8⟩:=B6 (R:=A%D) (i:=i) hN
   have hL:=zG (n:=n+2+m+1) (x:=A%D*2^N)
   have i1:i<(zu (n+2+m+1) (A%D*2^N)).length:=by omega
   have i2:i+1<(zu (n+2+m+1) (A%D*2^N)).length:=by omega
   have g1:=tc i1
   have g2:=tc i2
   have hset:=b8 (S:=A%D) hi
   rw[h3] at hset
   have hfl:=bZ (n:=n+2) (k:=i) (S:=A%D) (by omega)
   have i3:i<(vG (n+2) i (A%D)).length:=by omega
   have hor:=akT h5 h6 h4 h7
   have hmin:min N IntKind.u32.bits=N:=by
    have:IntKind.u32.bits=32:=rfl
    omega
   have hmin2:min (32-N) IntKind.u32.bits=32-N:=by
    have:IntKind.u32.bits=32:=rfl
    omega
   have i4:i+1<n+2+m+1:=by omega
   have s1:∀ y0 a:Nat,y0/2^N=a→(y0:Int).fdiv (2^N)=(a:Int):=fun y0 a h=>by
    rw[show (2:Int)^N=((2^N:Nat):Int) by simp,← Int.ofNat_fdiv,h]
   have s2:∀ y1 c:Nat,y1*2^(32-N)%B=c→IntKind.u32.wrap ((y1:Int)*2^(32-N))=(c:Int):=fun y1 c h=>by
    rw[show (y1:Int)*2^(32-N)=((y1*2^(32-N):Nat):Int) by simp,w32,h]
   have s1':=s1 _ _ h1
   have s2':=s2 _ _ h2
   clear s1 s2 h1 h2
   rw[← g1] at s1'
   rw[← g2] at s2'
   clear g1 g2
   generalize A%D*2^N=Y at *
   generalize A%D=R at *
   generalize hy0:(zu (n+2+m+1) Y)[i]=y0 at *
   generalize hy1:(zu (n+2+m+1) Y)[i+1]=y1 at *
   have hset':(zH (vG (n+2) i R)).set i [uv d]=zH (vG (n+2) (i+1) R):=by rw[xV,hset]
   have e:(i:Int)<(n:Int)+2:=by omega
   have e2:(i:Int)<(n:Int)+2+m+1:=by omega
   have e3:(i:Int)+1<(n:Int)+2+m+1:=by omega
   have e4:((i:Int)+1).toNat=i+1:=by omega
   have e5:(0:Int)≤(i:Int)+1:=by omega
   have w2:IntKind.i64.wrap ((i:Int)+1)=(i:Int)+1:=by rw[wrap64]<;>omega
   have w3:IntKind.u64.wrap ((32:Int)-N)=32-N:=va (by omega) (by omega)
   have w4:((32:Int)-N).toNat=32-N:=by omega
   have w5:¬ ((32:Int)-N<0):=by omega
   rcases Nat.eq_zero_or_pos N with hN0 | hN0
   ·have ha:=h8 hN0
    have hN1:¬ 0<N:=by omega
    subst ha
    simp[px,T1,e,e2,hy0,i1,i3,wZ,hmin,s1',hN1,splice,hset',w2]
   ·simp[px,T1,e,e2,e3,e4,e5,hy0,hy1,i1,i2,i3,wZ,xr,hmin,hmin2,s1',s2',hN0,splice,hset',w2,w3,w4,w5,hor]
  ·have l1:∀ k z,k≤(zu k z).length:=fun k z=>Nat.le_of_eq zG.symm
   have l2:∀ k z,List.take k (zH (zu k z))=zH (zu k z):=fun k z=>List.take_of_length_le (by rw[List.length_map,zG]; exact Nat.le_refl _)
   simp[px,T1,Uk,ee,pC,qy,l1,l2]
   refine zb kq (by simp) (by simp) ?_
   simp
   refine zb kr (by simp) (by simp) ?_
   simp[pe]
   exact AV.imp.refl
 simp[s8,mq,Pu,hY,eMk,w1]
 refine ⟨by omega,by omega,by omega,?_⟩
 refine lp _ ?_
 simp[T1,eY,lY]
theorem cw {m1 m2:Am.Mode} {a c:List Nat} (ha:ok a) (hc:ok c) (hna:a.length<137438953472) (hnc:c.length<137438953472) (f1:stm m1=m1) (f2:stm m2=m2) (hD:val c≠0) :
  ze Tryz.prog nX [nl m1 a,nl m2 c] (YB (val a) (val c)):=by
 refine B7 ha hc (by omega) (by omega) f1 f2 hD fun n m h1 h2 hle=>?_
 have hla:=vi ha
 have hn:n+m<274877906944:=by omega
 have h:=ajY h2 h1
 exact acr (_m:=m) h1 (by omega) fun q y hq=>by
  subst hq
  exact afR h2 h1 hn h (acs hn h (afQ hn h1 h))
def eu:Nat→Nat→Nat→Nat × Nat
 | a,b,0=>(a,b)
 | a,b,k+1=>eu b (a%b) k
theorem Ni:∀ (k a b:Nat),eu a b (k+1)=((eu a b k).2,(eu a b k).1%(eu a b k).2)
 | 0,_,_=>rfl
 | k+1,a,b=>by rw[eu,Ni k b (a%b)]; rfl
theorem Ai:∀ (b a:Nat),∃ N,(∀ k,k<N→(eu a b k).2≠0)∧eu a b N=(Nat.gcd a b,0):=by
 intro b
 induction b using Nat.strongRecOn with
 | ind b ih =>
  intro a
  rcases Nat.eq_zero_or_pos b with h | h
  ·subst h
   exact ⟨0,fun k hk=>absurd hk (Nat.not_lt_zero _),by rw[eu,Nat.gcd_zero_right]⟩
  ·obtain ⟨N,h1,h2⟩:=ih (a%b) (Nat.mod_lt _ h) b
   refine ⟨N+1,fun k hk=>?_,?_⟩
   ·match k with
    | 0=>exact Nat.ne_of_gt h
    | k+1=>exact h1 k (by omega)
   ·rw[eu,h2,Nat.gcd_comm b,← Nat.gcd_rec,Nat.gcd_comm]
theorem Ch {M:Nat}:∀ (k a b:Nat),a<M→b<M→(eu a b k).1<M∧(eu a b k).2<M
 | 0,_,_,h1,h2=>⟨h1,h2⟩
 | k+1,a,b,h1,h2=>Ch k b (a%b) h2 (Nat.lt_of_le_of_lt (Nat.mod_le _ _) h1)
def stG (p:Nat × Nat):St:={env:=[(0,nD p.1),(1,nD p.2)],sto:=[]}
theorem MV {m1 m2:Am.Mode} {a c:List Nat} (ha:ok a) (hc:ok c) (hna:a.length<137438953472) (hnc:c.length<137438953472) (f1:stm m1=m1) (f2:stm m2=m2) :
  ze Tryz.prog Tn [nl m1 a,nl m2 c] (nD (Nat.gcd (val a) (val c))):=by
 have k1:=bA (m1:=m1) (m2:=.plain) (b:=[]) ha Gb (by omega) (by simp)
 have k2:=bA (m1:=m2) (m2:=.plain) (b:=[]) hc Gb (by omega) (by simp)
 obtain ⟨N,h1,h2⟩:=Ai (val c) (val a)
 obtain ⟨L,hL⟩:∃ L,L=137438953471:=⟨_,rfl⟩
 have hL1:val a<B^L:=y5 ha (by omega)
 have hL2:val c<B^L:=y5 hc (by omega)
 have hb:=fun k=>Ch k (val a) (val c) hL1 hL2
 generalize hM:B^L=M at *
 have hlen:∀ x,x<M→(zh x).length<137438953472:=fun x hx=>by
  rw[← hM] at hx
  exact Nat.lt_of_le_of_lt (zI.2 hx) (by omega)
 clear hM
 have v0:val []=0:=rfl
 rw[v0,Nat.add_zero] at k1 k2
 generalize val a=A at *
 generalize val c=D at *
 refine zn ahy (by simp) ?_
 simp[Ez]
 refine zb (gC k1 (AV.imp_nil (sz:=0) rfl)) (by simp[f1]) (by simp) ?_
 simp
 refine zb (gC k2 (AV.imp_nil (sz:=0) rfl)) (by simp[f2]) (by simp) ?_
 simp
 refine zw (fun k=>stG (eu A D k)) (fun _=>True) N (by simp[stG,eu]) trivial (fun k hk _=>?_) (fun _=>?_)
 ·have hne:=h1 k hk
  obtain ⟨b1,b2⟩:=hb k
  have b1':=hlen _ b1
  have b2':=hlen _ b2
  have hs:=Ni k A D
  obtain ⟨x,hx⟩:∃ x,(eu A D k).1=x:=⟨_,rfl⟩
  obtain ⟨y,hy⟩:∃ y,(eu A D k).2=y:=⟨_,rfl⟩
  rw[hx,hy] at hs
  rw[hx] at b1'
  rw[hy] at b2' hne
  have kd:=cw (m1:=.plain) (m2:=.plain) (zC x) (zC y) b1' b2' rfl rfl (by rw[zM]; exact hne)
  rw[zM,zM] at kd
  have hl0:0<(zh y).length:=by
   rcases Nat.eq_zero_or_pos (zh y).length with h | h
   ·rw[List.length_eq_zero_iff,xA] at h; exact absurd h hne
   ·exact h
  simp[Yp,stG,hl0,hx,hy]
  refine zb kd (by simp) (by simp) ?_
  simp[hs]
 ·simp only[h2]
  simp[Yp,Qv,Dw,stG,yF]
def wL (neg:Bool) (N D:Nat):AV:=.agg [bv (neg&&decide (N≠0)),nD (N/Nat.gcd N D),nD (D/Nat.gcd N D)]
theorem JB {N D:Nat} (hD:D≠0):Nat.gcd N D≠0∧(N/Nat.gcd N D=0↔N=0)∧Nat.gcd N D≤D:=by
 have hg:0<Nat.gcd N D:=Nat.gcd_pos_of_pos_right _ (by omega)
 refine ⟨by omega,?_,Nat.gcd_le_right _ (by omega)⟩
 constructor
 ·intro h
  have:=Nat.div_mul_cancel (Nat.gcd_dvd_left N D)
  rw[h,Nat.zero_mul] at this
  exact this.symm
 ·intro h
  rw[h,Nat.zero_div]
theorem Cv {neg:Bool} {N D:Nat} (hN:(zh N).length<68719476736) (hD:(zh D).length<68719476736) (h0:D≠0) :
  ze Tryz.prog SU [bv neg,nD N,nD D] (.tuple [wL neg N D,iv 0]):=by
 obtain ⟨g0,g1,g2⟩:=JB (N:=N) h0
 have kg:=MV (m1:=.plain) (m2:=.plain) (zC N) (zC D) (by omega) (by omega) rfl rfl
 rw[zM,zM] at kg
 have hgl:(zh (Nat.gcd N D)).length<68719476736:=by
  have h1:D<B^(zh D).length:=zI.1 (Nat.le_refl _)
  exact Nat.lt_of_le_of_lt (zI.2 (Nat.lt_of_le_of_lt g2 h1)) hD
 have hl0:¬ (zh D).length=0:=by rw[List.length_eq_zero_iff,xA]; exact h0
 have hl1:¬ zh D=[]:=by rw[xA]; exact h0
 unfold wL
 have hz:(zh (N/Nat.gcd N D)).length=0↔N=0:=by rw[List.length_eq_zero_iff,xA]; exact g1
 generalize Nat.gcd N D=g at *
 have kn:=cw (m1:=.plain) (m2:=.plain) (zC N) (zC g) (by omega) (by omega) rfl rfl (by rw[zM]; exact g0)
 have kd:=cw (m1:=.plain) (m2:=.plain) (zC D) (zC g) (by omega) (by omega) rfl rfl (by rw[zM]; exact g0)
 simp only[zM] at kn kd
 refine zn aeO (by simp) ?_
 simp[KI,hl0]
 refine zb kg (by simp) (by simp) ?_
 simp
 refine zb kn (by simp) (by simp) ?_
 simp
 refine zb kd (by simp) (by simp) ?_
 cases neg
 ·simp[Y0]
 ·by_cases hN0:N=0
  ·have:=hz.2 hN0
   simp[Y0,hN0,yF]
  ·have:0<(zh (N/g)).length:=by omega
   simp[Y0,this,hN0]
theorem mi {neg:Bool} {N D:Nat} (hN:(zh N).length<68719476736) (hD:(zh D).length<68719476736) (h0:D≠0) :
  ze Tryz.prog nf [bv neg,nD N,nD D] (wL neg N D):=by
 have k:=Cv (neg:=neg) hN hD h0
 unfold wL at *
 generalize N/Nat.gcd N D=n at *
 generalize D/Nat.gcd N D=d at *
 refine zn aeQ (by simp) ?_
 simp[KJ]
 refine zb k (by simp) (by simp) ?_
 simp[Gl]
theorem J1 {P:Program} {k:IntKind} {a:Int}:zt P (Op.unary .neg (Value.int k a))=some (Value.int k (k.wrap (-a))):=by
 simp[zt,Op.unary,Op.intArith,pure]
theorem agz {k:IntKind} {a:Int}:ofV (Value.int k a)=.val (.int k a):=rfl
theorem eS {x:Nat} (h:x<18446744073709551616):(zh x).length≤2:=zI.2 (by
 have:B^2=18446744073709551616:=by decide
 omega)
theorem LN {n:Int} (h1:-9223372036854775808≤n) (h2:n<9223372036854775808):ze Tryz.prog SV [iv n] (nD n.natAbs):=by
 obtain ⟨x,hx⟩:∃ x,n.natAbs=x:=⟨_,rfl⟩
 have hxl:x<18446744073709551616:=by omega
 have k:=mg (x:=x) hxl
 rw[hx]
 refine zn aeR (by simp) ?_
 by_cases h:n<0
 ·have w1:IntKind.i64.wrap (n+1)=n+1:=by rw[wrap64]<;>omega
  have w2:IntKind.i64.wrap (-(n+1))=(x:Int)-1:=by rw[wrap64]<;>omega
  have w2':IntKind.i64.wrap (-1+-n)=(x:Int)-1:=by rw[wrap64]<;>omega
  have w3:IntKind.u64.wrap ((x:Int)-1)=(x:Int)-1:=by rw[va]<;>omega
  have w4:IntKind.u64.wrap (x:Int)=x:=w64 hxl
  simp[S1,h,w1,J1,w2,w3,w4]
  refine zb k (by simp) (by simp) ?_
  simp[RH]
 ·have w4:IntKind.u64.wrap n=(x:Int):=by rw[va]<;>omega
  simp[S1,h,w4]
  refine zb k (by simp) (by simp) ?_
  simp[RH]
theorem LI {n:Int} (h1:-9223372036854775808≤n) (h2:n<9223372036854775808):ze Tryz.prog vv [iv n] (wL (decide (n<0)) n.natAbs 1):=by
 have k1:=LN h1 h2
 have k2:=mg (x:=1) (by omega)
 have l1:=eS (x:=n.natAbs) (by omega)
 have l2:=eS (x:=1) (by omega)
 have k3:=mi (neg:=decide (n<0)) (N:=n.natAbs) (D:=1) (by omega) (by omega) (by omega)
 unfold wL at *
 generalize n.natAbs/Nat.gcd n.natAbs 1=p at *
 generalize 1/Nat.gcd n.natAbs 1=q at *
 refine zn Ef (by simp) ?_
 simp[Sk]
 refine zb k1 (by simp) (by simp) ?_
 simp
 refine zb k2 (by simp) (by simp) ?_
 simp
 refine zb k3 (by simp) (by simp) ?_
 simp[SI]
abbrev frA (s:Bool) (N D:Nat):AV:=.agg [bv s,nD N,nD D]
abbrev xe (q:Rat):AV:=frA (decide (q.num<0)) q.num.natAbs q.den
def sg (s:Bool) (N:Nat):Int:=if s then -(N:Int) else N
theorem kV {s:Bool} {N D:Nat} (h:D≠0):wL s N D=xe (mkRat (sg s N) D):=by
 have hab:(sg s N).natAbs=N:=by unfold sg; split<;>omega
 have hm:mkRat (sg s N) D=Rat.normalize (sg s N) D h:=by simp[mkRat,h]
 rw[hm,Rat.normalize_eq]
 unfold wL xe
 simp only[hab]
 have hg:0<Nat.gcd N D:=Nat.gcd_pos_of_pos_right _ (by omega)
 obtain ⟨c,hc⟩:=Nat.gcd_dvd_left N D
 generalize Nat.gcd N D=g at *
 subst hc
 have e1:(sg s (g*c))/(g:Int)=sg s c:=by
  unfold sg
  split
  ·rw[show -((g*c:Nat):Int)=(g:Int)*(-(c:Int)) by rw[Int.natCast_mul,Int.mul_neg]]
   exact Int.mul_ediv_cancel_left _ (by omega)
  ·rw[Int.natCast_mul]
   exact Int.mul_ediv_cancel_left _ (by omega)
 have e2:g*c/g=c:=Nat.mul_div_cancel_left _ hg
 rw[e1,e2]
 have e3:(sg s c).natAbs=c:=by unfold sg; split<;>omega
 have e4:(s&&decide (g*c≠0))=decide (sg s c<0):=by
  have hg0:¬ g=0:=by omega
  unfold sg
  rcases Nat.eq_zero_or_pos c with h0 | h0
  ·subst h0; cases s<;>simp
  ·have hc0:¬ c=0:=by omega
   have hcl:0<c:=h0
   have hng:¬ (c:Int)<0:=by omega
   have hneg:-(c:Int)<0:=by omega
   have hgc:¬ g*c=0:=Nat.mul_ne_zero hg0 hc0
   cases s<;>simp[hng,hgc,hcl]
 rw[e3,e4]
theorem cX (n:Int):sg (decide (n<0)) n.natAbs=n:=by
 unfold sg
 by_cases h:n<0
 ·simp[h]; omega
 ·simp[h]; omega
theorem E4 (n:Int):wL (decide (n<0)) n.natAbs 1=xe (n:Rat):=by
 rw[kV (by decide),cX]
 congr 1
 rw[← Rat.mkRat_self (n:Rat)]; rfl
theorem Jt {n:Int} (h1:-9223372036854775808≤n) (h2:n<9223372036854775808):ze Tryz.prog vv [iv n] (xe n):=by
 rw[← E4]; exact LI h1 h2
theorem lc (x:AV):∃ y:AV,y=x:=⟨_,rfl⟩
noncomputable def f0 (q:Rat):AV:=Classical.choose (lc (bv (decide (q.num<0))))
noncomputable def f1 (q:Rat):AV:=Classical.choose (lc (nD q.num.natAbs))
noncomputable def f2 (q:Rat):AV:=Classical.choose (lc (nD q.den))
theorem eU (q:Rat):f0 q=bv (decide (q.num<0)):=Classical.choose_spec (lc _)
theorem eV (q:Rat):f1 q=nD q.num.natAbs:=Classical.choose_spec (lc _)
theorem eW (q:Rat):f2 q=nD q.den:=Classical.choose_spec (lc _)
noncomputable def fr (q:Rat):List AV:=[f0 q,f1 q,f2 q]
@[simp] theorem TD (q:Rat):[f0 q,f1 q,f2 q]=fr q:=rfl
theorem jG (q:Rat):fr q=[bv (decide (q.num<0)),nD q.num.natAbs,nD q.den]:=by unfold fr; rw[eU,eV,eW]
noncomputable abbrev fq (q:Rat):AV:=.agg (fr q)
theorem re (q:Rat):xe q=fq q:=by unfold fq; rw[jG]
abbrev zz:List AV:=[.val (.bool false),.list 0 .full [],.list 0 .full []]
@[simp] theorem anS (q:Rat):rf (f0 q)=true:=by rw[eU]; rfl
@[simp] theorem al8 (q:Rat):strip (f0 q)=f0 q:=by rw[eU]; rfl
@[simp] theorem anR (q:Rat) (l:Nat):dg l (f0 q)=f0 q:=by rw[eU]; simp
@[simp] theorem am9 (q:Rat) (l:Nat) (e:zg):frz l e (f0 q)=f0 q:=by rw[eU]; rfl
@[simp] theorem ana (q:Rat) (M:Nat):Am.low M (f0 q)=true:=by rw[eU]; rfl
@[simp] theorem amH (q:Rat) (k:Nat):zV k (f0 q)=false:=by rw[eU]; rfl
@[simp] theorem anb (q:Rat) (k:Nat):l0 k (f0 q)=false:=by rw[eU]; rfl
@[simp] theorem anU (q:Rat):rf (f1 q)=true:=by rw[eV]; rfl
@[simp] theorem al9 (q:Rat):strip (f1 q)=f1 q:=by rw[eV]; rfl
@[simp] theorem anT (q:Rat) (l:Nat):dg l (f1 q)=f1 q:=by rw[eV]; simp
@[simp] theorem ane (q:Rat) (l:Nat) (e:zg):frz l e (f1 q)=f1 q:=by rw[eV]; rfl
@[simp] theorem anf (q:Rat) (M:Nat):Am.low M (f1 q)=true:=by rw[eV]; rfl
@[simp] theorem amI (q:Rat) (k:Nat):zV k (f1 q)=false:=by rw[eV]; rfl
@[simp] theorem ang (q:Rat) (k:Nat):l0 k (f1 q)=false:=by rw[eV]; rfl
@[simp] theorem anW (q:Rat):rf (f2 q)=true:=by rw[eW]; rfl
@[simp] theorem ama (q:Rat):strip (f2 q)=f2 q:=by rw[eW]; rfl
@[simp] theorem anV (q:Rat) (l:Nat):dg l (f2 q)=f2 q:=by rw[eW]; simp
@[simp] theorem anh (q:Rat) (l:Nat) (e:zg):frz l e (f2 q)=f2 q:=by rw[eW]; rfl
@[simp] theorem ani (q:Rat) (M:Nat):Am.low M (f2 q)=true:=by rw[eW]; rfl
@[simp] theorem amJ (q:Rat) (k:Nat):zV k (f2 q)=false:=by rw[eW]; rfl
@[simp] theorem anj (q:Rat) (k:Nat):l0 k (f2 q)=false:=by rw[eW]; rfl
@[simp] theorem aiy {q:Rat}:(fr q).length=3:=by simp[jG]
@[simp] theorem Ck {q:Rat}:(fr q).all rf=true:=by rw[jG]; simp
@[simp] theorem Rf {q:Rat}:(fr q).map strip=fr q:=by rw[jG]; simp
@[simp] theorem aj2 {q:Rat} {l:Nat}:(fr q).map (dg l)=fr q:=by rw[jG]; simp
@[simp] theorem aix {q:Rat} {l:Nat} {e:zg}:(fr q).map (frz l e)=fr q:=by rw[jG]; rfl
@[simp] theorem aiz {q:Rat} {M:Nat}:(fr q).all (Am.low M)=true:=by rw[jG]; rfl
@[simp] theorem aiA {q:Rat} {k:Nat}:wQ k (fr q)=false:=by rw[jG]; simp
@[simp] theorem anp {q:Rat} {k:Nat}:(fr q).any (l0 k)=false:=by rw[jG]; rfl
@[simp] theorem aly {q:Rat}:zK (fr q) 0 (some 3)=some (fq q):=by
 rw[rD aiy Ck,Rf]
@[simp] theorem alO {q:Rat} {a b c:AV}:splice [a,b,c] 0 (fr q)=fr q:=by rw[jG]; simp[splice]
@[simp] theorem alc {p q:Rat}:splice (fr p) 0 (fr q)=fr q:=by simp[splice]
@[simp] theorem ald {q:Rat} {a b c d e x y z g h:AV}:splice [a,b,c,d,e,x,y,z,g,h] 5 (fr q)=[a,b,c,d,e,f0 q,f1 q,f2 q,g,h]:=by unfold fr; simp[splice,-TD]
@[simp] theorem amM {q:Rat}:(fr q).drop 3=[]:=by rw[jG]; rfl
theorem kW {n:Int} (h1:-9223372036854775808≤n) (h2:n<9223372036854775808):ze Tryz.prog vv [iv n] (fq n):=by rw[← re]; exact Jt h1 h2
def PF (x y:Nat) (k:Nat):St :=
 {env:=[(0,nD x),(1,nD y),(6,.sl 20 1 0 (zh x).length),(7,zS (bor x y k)),(22,iv (zh x).length),(23,iv k)],sto:=[(20,.arr 1 (zH (vG (zh x).length k (x-y))))]}
theorem Lz {m1 m2:Am.Mode} {a b:List Nat} (ha:ok a) (hb:ok b) (hna:a.length<1099511627776) (hnb:b.length<1099511627776) :
  ze Tryz.prog To [nl m1 a,nl m2 b] (if val a<val b then .tuple [.list 0 .full [],bv false] else .tuple [nD (val a-val b),bv true]):=by
 refine wN ahA (by simp) ?_
 simp[EB]
 refine zb (xI (m:=stm m1) ha hna) (by simp[mu]) (by simp) ?_
 simp
 refine zb (xI (m:=stm m2) hb hnb) (by simp[mu]) (by simp) ?_
 simp
 have lx:=vi ha
 have ly:=vi hb
 have key:=fF (m1:=.plain) (m2:=.plain) (zC (val a)) (zC (val b)) (by omega) (by omega)
 rw[zM,zM] at key
 refine zb key (by simp) (by simp) ?_
 generalize val a=x at *
 generalize val b=y at *
 by_cases hlt:x<y
 ·simp[xB,hlt,NL]
  exact AV.imp.refl
 ·have hle:y≤x:=by omega
  have hly:(zh y).length≤(zh x).length:=by
   apply Nat.le_of_not_lt
   intro h
   have:=ak h
   omega
  have hS:x-y<B^(zh x).length:=by
   have:=zI.1 (Nat.le_refl (zh x).length)
   omega
  have hc:¬ xB x y<0:=by
   simp only[xB,hlt,if_false]
   split<;>omega
  simp[hc,hlt,eMk]
  refine ⟨by omega,by omega,?_⟩
  refine zw (PF x y) (fun _=>True) (zh x).length (by simp[PF,Ym,eY]) trivial (fun k hk _=>?_) (fun _=>?_)
  ·have e:(k:Int)<(zh x).length:=by omega
   have hak:=xK (zC x) hk
   have hb1:=Qj (x:=x) (y:=y) (k:=k)
   have hfl:=bZ (n:=(zh x).length) (k:=k) (S:=x-y) (by omega)
   have hfk:k<(vG (zh x).length k (x-y)).length:=by omega
   have hset:=b8 (n:=(zh x).length) (k:=k) (S:=x-y) (by omega)
   have hsd:=aJ (k:=k) hle
   have hbs:=Yl (x:=x) (y:=y) (k:=k)
   rw[← lO hk] at hsd hbs
   obtain ⟨d,hd⟩:∃ d,(x-y)/B^k%B=d:=⟨_,rfl⟩
   rw[hd] at hset hsd
   have hset':(zH (vG (zh x).length k (x-y))).set k [uv d]=zH (vG (zh x).length (k+1) (x-y)):=by rw[xV,hset]
   have e1:IntKind.u64.wrap (((zh x)[k]:Nat):Int)=((zh x)[k]:Nat):=w64 (by rw[yc] at hak; omega)
   rw[yc] at hak
   by_cases hkb:k<(zh y).length
   ·have e2:(k:Int)<(zh y).length:=by omega
    have hbk:=xK (zC y) hkb
    rw[yc] at hbk
    rw[← lO hkb] at hsd hbs
    have e3:IntKind.u64.wrap (((zh y)[k]:Nat):Int)=((zh y)[k]:Nat):=w64 (by omega)
    have e5:=ae5 (((zh x)[k]:Nat)-(bor x y k:Nat):Int) ((zh y)[k]:Nat)
    have e6:=Ks (((zh x)[k]:Nat)-(bor x y k:Nat)-((zh y)[k]:Nat):Int)
    have e7:=Ko (u:=(((zh x)[k]:Nat)-(bor x y k:Nat)-((zh y)[k]:Nat):Int)) (by omega) (by omega)
    have e8:(((zh x)[k]:Nat)-(bor x y k:Nat)-((zh y)[k]:Nat):Int)%4294967296=(d:Int):=by omega
    rw[e8] at e6
    have e9:(if (((zh x)[k]:Nat)-(bor x y k:Nat)-((zh y)[k]:Nat):Int)<0 then (1:Int) else 0)=(bor x y (k+1):Int):=by
     rw[hbs]
     split<;>split<;>omega
    rw[e9] at e7
    simp[eN,PF,e,e2,hk,hkb,e1,e3,e5,e6,e7,wZ,hfk,splice,hset',zl (show k<4611686018427387904 by omega)]
   ·have e2:¬ (k:Int)<(zh y).length:=by omega
    have hy0:y/B^k%B=0:=by rw[← AD,List.getElem?_eq_none (by omega)]; rfl
    rw[hy0] at hsd hbs
    have e6:=Ks (((zh x)[k]:Nat)-(bor x y k:Nat):Int)
    have e7:=Ko (u:=(((zh x)[k]:Nat)-(bor x y k:Nat):Int)) (by omega) (by omega)
    have e8:(((zh x)[k]:Nat)-(bor x y k:Nat):Int)%4294967296=(d:Int):=by omega
    rw[e8] at e6
    have e9:(if (((zh x)[k]:Nat)-(bor x y k:Nat):Int)<0 then (1:Int) else 0)=(bor x y (k+1):Int):=by
     rw[hbs]
     split<;>split<;>omega
    rw[e9] at e7
    simp[eN,PF,e,e2,hk,e1,e6,e7,wZ,hfk,splice,hset',zl (show k<4611686018427387904 by omega)]
  ·have htk:(zH (zu (zh x).length (x-y))).take (zh x).length=zH (zu (zh x).length (x-y)):=List.take_of_length_le (by rw[List.length_map,zG]; exact Nat.le_refl _)
   have hle2:(zh x).length≤(zu (zh x).length (x-y)).length:=by rw[zG]; exact Nat.le_refl _
   have key:=xI (m:=.plain) (a:=zu (zh x).length (x-y)) yU (by rw[zG]; omega)
   rw[yA hS] at key
   simp[eN,PF,Uk,Qz,pC,qy,htk,hle2]
   refine zb key (by simp) (by simp) ?_
   simp[NL]
   exact AV.imp.refl
def PA (m1 m2:Am.Mode) (a b:List Nat) (i k:Nat):St :=
 {env:=[(0,nl m1 a),(1,nl m2 b),(5,.sl 15 1 0 (a.length+b.length)),(17,iv a.length),(18,iv i),(6,iv i),(7,zS (w9 a b i k).2),(22,iv b.length),(23,iv k)],sto:=[(15,.arr 1 (zH (w9 a b i k).1))]}
def UX (m1 m2:Am.Mode) (a b:List Nat) (i:Nat):St :=
 {env:=[(0,nl m1 a),(1,nl m2 b),(5,.sl 15 1 0 (a.length+b.length)),(17,iv a.length),(18,iv i)],sto:=[(15,.arr 1 (zH (pO a b i)))]}
theorem fM {m1 m2:Am.Mode} {a b:List Nat} (ha:ok a) (hb:ok b) (hna:a.length<1099511627776) (hnb:b.length<1099511627776) (hs:a.length+b.length<1099511627776) (f1:stm m1=m1) (f2:stm m2=m2) :
  ze Tryz.prog gd [nl m1 a,nl m2 b] (nD (val a*val b)):=by
 refine wN ahz (by simp) ?_
 have w:IntKind.i64.wrap ((a.length:Int)+b.length)=(a.length:Int)+b.length:=wrap64 (by omega) (by omega)
 have e1:((a.length:Int)+b.length).toNat=a.length+b.length:=by omega
 simp[EA,w,eMk,e1]
 refine ⟨by omega,by omega,by omega,?_⟩
 refine zw (UX m1 m2 a b) (fun _=>True) a.length (by simp[UX,pO]) trivial (fun i hi _=>?_) (fun _=>?_)
 ·have hO:=Uw ha hb i (by omega)
  have ei:(i:Int)<a.length:=by omega
  simp[Yr,UX,ei]
  refine zw (PA m1 m2 a b i) (fun _=>True) b.length (by simp[PA,A3]) trivial (fun k hk _=>?_) (fun _=>?_)
  ·have hI:=an ha hb hi hO k (by omega)
   have ek:(k:Int)<b.length:=by omega
   have hst:=M2 (a:=a) (b:=b) (i:=i) (k:=k)
   have hlen:=hI.len
   have hik:i+k<(w9 a b i k).1.length:=by omega
   have eik:((i:Int)+k)<(w9 a b i k).1.length:=by omega
   have wik:IntKind.i64.wrap ((i:Int)+k)=((i+k:Nat):Int):=by rw[wrap64]<;>omega
   have hbd:=am (sh ha i) (sh hb k) (sh hI.ok (i+k)) hI.lt
   have g1:=xK ha hi
   have g2:=xK hb hk
   have g3:=xK hI.ok hik
   have g4:=hI.lt
   simp only[gH] at hst
   have q1:a.getD i 0=a[i]:=by simp[hi]
   have q2:b.getD k 0=b[k]:=by simp[hk]
   have q3:(w9 a b i k).1.getD (i+k) 0=(w9 a b i k).1[i+k]:=by simp[hik]
   rw[q1,q2,q3] at hst hbd
   obtain ⟨t,ht⟩:∃ t,a[i]*b[k]+(w9 a b i k).1[i+k]+(w9 a b i k).2=t:=⟨_,rfl⟩
   obtain ⟨p,hp⟩:∃ p,a[i]*b[k]=p:=⟨_,rfl⟩
   rw[ht] at hst hbd
   rw[hp] at ht
   obtain ⟨d,hd⟩:∃ d,t%B=d:=⟨_,rfl⟩
   obtain ⟨q,hq⟩:∃ q,t/B=q:=⟨_,rfl⟩
   rw[hd,hq] at hst
   have f1:IntKind.u32.wrap (t:Int)=(d:Int):=by rw[w32,hd]
   have f2:(t:Int).fdiv (2^min 32 IntKind.u64.bits)=(q:Int):=by rw[Xa,hq]
   have hBB:B*B=18446744073709551616:=by decide
   rw[hBB] at hbd
   rw[yc] at g1 g2 g3 g4
   have u1:IntKind.u64.wrap ((a[i]:Nat):Int)=(a[i]:Nat):=w64 (by omega)
   have u2:IntKind.u64.wrap ((b[k]:Nat):Int)=(b[k]:Nat):=w64 (by omega)
   have u3:IntKind.u64.wrap (((w9 a b i k).1[i+k]:Nat):Int)=((w9 a b i k).1[i+k]:Nat):=w64 (by omega)
   have u4:IntKind.u64.wrap ((a[i]:Int)*(b[k]:Int))=(p:Int):=by
    rw[show (a[i]:Int)*(b[k]:Int)=((a[i]*b[k]:Nat):Int) by simp,hp]; exact w64 (by omega)
   have u5:IntKind.u64.wrap ((p:Int)+((w9 a b i k).1[i+k]:Nat))=(p:Int)+((w9 a b i k).1[i+k]:Nat):=by rw[va]<;>omega
   have u6:IntKind.u64.wrap ((p:Int)+((w9 a b i k).1[i+k]:Nat)+((w9 a b i k).2:Nat))=(t:Int):=by rw[va]<;>omega
   have hset:(zH (w9 a b i k).1).set (i+k) [uv d]=zH (w9 a b i (k+1)).1:=by rw[xV,hst]
   have hq2:(w9 a b i (k+1)).2=q:=by rw[hst]
   have en:((i:Int)+k).toNat=i+k:=by omega
   have e0:(0:Int)≤(i:Int)+k:=by omega
   have elt:(i:Int)+k<(a.length:Int)+b.length:=by omega
   simp only[Int.natCast_add] at wik
   simp[Yq,PA,ek,hi,hk,ei,wik,en,e0,elt,hik,u1,u2,u3,u4,u5,u6,wZ,splice,f1,f2,hset,hq2,zl (show k<4611686018427387904 by omega)]
  ·have hI:=an ha hb hi hO b.length (Nat.le_refl _)
   have hlen:=hI.len
   have hik:i+b.length<(w9 a b i b.length).1.length:=by omega
   have wik:IntKind.i64.wrap ((i:Int)+b.length)=(i:Int)+b.length:=by rw[wrap64]<;>omega
   have en:((i:Int)+b.length).toNat=i+b.length:=by omega
   have e0:(0:Int)≤(i:Int)+b.length:=by omega
   have hset:(zH (w9 a b i b.length).1).set (i+b.length) [uv (w9 a b i b.length).2]=zH (pO a b (i+1)):=by rw[M3]; exact xV
   have g4:=hI.lt
   rw[yc] at g4
   have f1:IntKind.u32.wrap ((w9 a b i b.length).2:Int)=((w9 a b i b.length).2:Int):=IntWalk.u32_in _ (by omega)
   simp[Yq,PA,UX,Qw,Qx,wik,en,e0,hik,f1,splice,hset,ei,zl (show i<4611686018427387904 by omega)]
 ·obtain ⟨h1,h2,h3⟩:=agn ha hb
  have htk:(zH (pO a b a.length)).take (a.length+b.length)=zH (pO a b a.length):=List.take_of_length_le (by rw[List.length_map,h2]; exact Nat.le_refl _)
  have hle2:a.length+b.length≤(pO a b a.length).length:=by rw[h2]; exact Nat.le_refl _
  have key:=xI (m:=.plain) h1 (by rw[h2]; omega)
  rw[h3] at key
  simp[Yr,UX,Qy,pC,Rg f1,Rg f2,qy,htk,hle2]
  refine zb key (by simp) (by simp) ?_
  simp[Dx]
  exact AV.imp.refl
theorem t9 {m:Am.Mode} {a:List Nat} {i:Nat} (ha:ok a) (_hn:a.length<1099511627776) (_hi:i<1099511627776):ze Tryz.prog wJ [nl m a,iv i] (zS (a.getD i 0)):=by
 refine zn abD (by simp) ?_
 by_cases h:i<a.length
 ·have hg:a.getD i 0=a[i]:=by simp[h]
  have hB:=xK ha h
  rw[hg]
  generalize ha2:a[i]=x at *
  rw[yc] at hB
  have w:IntKind.u64.wrap (x:Int)=x:=w64 (by omega)
  have h':(i:Int)<a.length:=by omega
  simp[X6,h,h',ha2,w,UM]
 ·have hg:a.getD i 0=0:=by simp[List.getD,List.getElem?_eq_none (Nat.le_of_not_lt h)]
  have h':¬ (i:Int)<a.length:=by omega
  rw[hg]
  simp[X6,h',UM]
theorem aO {m:Am.Mode} {a:List Nat} (ha:ok a) (hn:a.length<1099511627776):ze Tryz.prog kh [nl m a] (bv (decide (a=zh (val a)))):=by
 refine zn abC (by simp) ?_
 rcases Nat.eq_zero_or_pos a.length with h | h
 ·rw[List.length_eq_zero_iff] at h
  subst h
  simp[X5,UL,val,yF]
 ·obtain ⟨k,hk⟩:∃ k,a.length=k+1:=⟨a.length-1,by omega⟩
  have hl:(a.length:Int)=(k:Int)+1:=by omega
  have w:IntKind.i64.wrap (k:Int)=(k:Int):=by rw[wrap64]<;>omega
  have hkl:k<a.length:=by omega
  have hne:¬ a.length=0:=by omega
  have hnil:¬ a=[]:=fun e=>by subst e; simp at h
  have hv:(a=zh (val a))↔a[k]≠0:=by
   constructor
   ·intro e h0
    have h1:=bX (x:=val a) (by rw[← e]; exact h)
    simp only[← e,hk,Nat.add_sub_cancel] at h1
    exact h1 h0
   ·intro h0
    refine (ER ha fun _=>?_).symm
    simp only[hk,Nat.add_sub_cancel]
    exact h0
  have hd:decide (a=zh (val a))=!decide (a[k]=0):=by
   by_cases h0:a[k]=0
   ·have:¬ a=zh (val a):=fun e=>hv.1 e h0
    simp[this,h0]
   ·have:a=zh (val a):=hv.2 h0
    rw[decide_eq_true this,decide_eq_false h0]; rfl
  rw[hd]
  generalize ha2:a[k]=x at *
  have hk0:¬ ((k:Int)+1=0):=by omega
  have p1:(k:Int)<(k:Int)+1:=by omega
  simp[X5,UL,hl,w,hkl,ha2,hk0,p1]
def U2 (m:Am.Mode) (a:List Nat) (k:Nat):St:={env:=[(0,nl (if k=0 then m else .plain) (a.take (a.length-k)))],sto:=[]}
theorem l7 {m:Am.Mode} {a:List Nat} (ha:ok a) (hn:a.length<1099511627776):ze Tryz.prog qQ [nl m a] (nD (val a)):=by
 obtain ⟨h1,h2,h3,h4⟩:=Ur ha
 refine wN ae0 (by simp) ?_
 simp[KQ]
 generalize hT:(zh (val a)).length=T at h1 h2 h3 h4
 refine zw (U2 m a) (fun _=>True) (a.length-T) (by simp[U2]) trivial (fun k hk _=>?_) (fun _=>?_)
 ·obtain ⟨c,hc⟩:∃ c,a.take (a.length-k)=c:=⟨_,rfl⟩
  obtain ⟨L,hL⟩:∃ L,a.length-k=L+1:=⟨a.length-k-1,by omega⟩
  have hL2:a.length-(k+1)=L:=by omega
  have hcl:c.length=L+1:=by rw[← hc]; simp; omega
  have hLl:L<c.length:=by omega
  have hz:c[L]=0:=by
   have:=h2 L (by omega) (by omega)
   subst hc
   simpa using this
  have hc2:a.take L=c.take L:=by rw[← hc,List.take_take]; congr 1; omega
  have hcz:(c.length:Int)=(L:Int)+1:=by omega
  have w:IntKind.i64.wrap (L:Int)=(L:Int):=by rw[wrap64]<;>omega
  have hg:∃ r,zH (c.take L)=r:=⟨_,rfl⟩
  have hst:U2 m a (k+1)={env:=[(0,.list 1 .plain (List.take L (zH c)))],sto:=[]}:=by
   rw[U2,hL2,hc2]; simp[List.map_take]
  obtain ⟨m',hst0⟩:∃ m',U2 m a k={env:=[(0,nl m' c)],sto:=[]}:=⟨_,by rw[U2,hc]⟩
  have p3:(L:Int)<(L:Int)+1:=by omega
  have p1:(0:Int)<(L:Int)+1:=by omega
  have p2:(L:Int)≤(L:Int)+1:=by omega
  rw[hst0]
  simp[fb,hcl,w,hz,hst,p1,p2,p3]
 ·have e:a.length-(a.length-T)=T:=by omega
  obtain ⟨m',hst⟩:∃ m',U2 m a (a.length-T)={env:=[(0,nl m' (zh (val a)))],sto:=[]}:=⟨_,by rw[U2,e,h4]⟩
  rw[hst]
  clear hst
  generalize hcE:zh (val a)=c at *
  rcases T with _ | L
  ·have hc0:c=[]:=List.length_eq_zero_iff.1 hT
   subst hc0
   simp[fb,Zb,RL]
   rw[nD,hcE]
   exact AV.imp.refl
  ·have hLl:L<c.length:=by omega
   have hcz:(c.length:Int)=(L:Int)+1:=by omega
   have w:IntKind.i64.wrap (L:Int)=(L:Int):=by rw[wrap64]<;>omega
   have hz:¬ c[L]=0:=by
    have:=bX (x:=val a) (by rw[hcE]; omega)
    simp only[hcE,hT,Nat.add_sub_cancel] at this
    exact this
   have p1:(0:Int)<(L:Int)+1:=by omega
   simp[fb,hT,w,hz,p1,Zb,RL]
   rw[nD,hcE]
   exact ⟨by omega,by omega,by omega,AV.imp.refl⟩
theorem cA {x:Nat} (h:x<18446744073709551616):ze Tryz.prog qe [zS x] (nD x):=by
 have hq2:x/B<B:=by rw[yc]; omega
 have e1:=Nat.mod_add_div x B
 have hm2:x%B<B:=Nat.mod_lt _ z6
 have t1:(x:Int).tmod 4294967296=((x%B:Nat):Int):=by
  rw[yc,show (4294967296:Int)=((4294967296:Nat):Int) from rfl,← Int.ofNat_tmod]
 have t2:IntKind.u64.wrap ((x:Int)/4294967296)=((x/B:Nat):Int):=by
  rw[show (x:Int)/4294967296=((x/B:Nat):Int) by rw[yc]; omega]
  exact w64 (Nat.lt_of_le_of_lt (Nat.div_le_self _ _) h)
 obtain ⟨d0,h0⟩:∃ d,x%B=d:=⟨_,rfl⟩
 obtain ⟨d1,h1⟩:∃ q,x/B=q:=⟨_,rfl⟩
 rw[h0] at t1 e1 hm2
 rw[h1] at t2 e1 hq2
 have hok:ok [d0,d1]:=by
  intro d hd
  simp at hd
  rcases hd with rfl | rfl
  ·exact hm2
  ·exact hq2
 have hv:val [d0,d1]=x:=by
  simp only[val,Nat.mul_zero,Nat.add_zero]
  exact e1
 have key:=l7 (m:=.full) (a:=[d0,d1]) hok (by simp)
 rw[hv] at key
 rw[yc] at hm2 hq2
 have f1:IntKind.u32.wrap (d0:Int)=d0:=IntWalk.u32_in _ (by omega)
 have f2:IntKind.u32.wrap (d1:Int)=d1:=IntWalk.u32_in _ (by omega)
 refine zn G6 (by simp) ?_
 simp[X4,sy,tJ,t1,t2,f1,f2,xH]
 refine zb key (by simp) (by simp) ?_
 simp[UK]
theorem q8 {a:List Nat} (ha:ok a) (i:Nat):a.getD i 0=val a/B^i%B:=by
 rcases Nat.lt_or_ge i a.length with h | h
 ·rw[← gB ha h]; simp[h]
 ·have h1:val a<B^i:=y5 ha h
  rw[Nat.div_eq_of_lt h1,Nat.zero_mod]
  simp[List.getD,List.getElem?_eq_none h]
theorem aD (x j:Nat):x/B^j=B*(x/B^(j+1))+x/B^j%B:=by
 rw[Nat.pow_succ,← Nat.div_div_eq_div_mul]
 exact (Nat.div_add_mod _ _).symm
theorem KX {x y j:Nat} (h:x/B^(j+1)=y/B^(j+1)) (hlt:x/B^j%B<y/B^j%B):x<y:=by
 have h1:=aD x j
 have h2:=aD y j
 rw[h] at h1
 apply Nat.lt_of_not_le
 intro hle
 have h3:y/B^j≤x/B^j:=Nat.div_le_div_right hle
 generalize x/B^j%B=p at *
 generalize y/B^j%B=q at *
 omega
theorem cmp_eq {x y j:Nat} (h:x/B^(j+1)=y/B^(j+1)) (he:x/B^j%B=y/B^j%B):x/B^j=y/B^j:=by
 rw[aD x j,aD y j,h,he]
def NY (m1 m2:Am.Mode) (a b:List Nat) (M k:Nat):St:={env:=[(0,nl m1 a),(1,nl m2 b),(5,iv ((M:Int)-1-k))],sto:=[]}
theorem EO {m1 m2:Am.Mode} {a b:List Nat} (ha:ok a) (hb:ok b) (hna:a.length<1099511627776) (hnb:b.length<1099511627776) (f1:stm m1=m1) (f2:stm m2=m2) :
  ze Tryz.prog Tt [nl m1 a,nl m2 b] (iv (xB (val a) (val b))):=by
 refine zn ahJ (by simp) ?_
 obtain ⟨M,hM⟩:∃ M,max a.length b.length=M:=⟨_,rfl⟩
 have hMz:max (a.length:Int) (b.length:Int)=(M:Int):=by omega
 have w0:IntKind.i64.wrap ((M:Int)-1)=(M:Int)-1:=by rw[wrap64]<;>omega
 simp[EI,hMz,w0]
 refine zw (NY m1 m2 a b M) (fun k=>val a/B^(M-k)=val b/B^(M-k)) M (by simp[NY]) ?_ (fun k hk hi=>?_) (fun hi=>?_)
 ·rw[Nat.sub_zero,Nat.div_eq_of_lt (y5 ha (by omega)),Nat.div_eq_of_lt (y5 hb (by omega))]
 ·obtain ⟨j,hj⟩:∃ j,M-1-k=j:=⟨_,rfl⟩
  have hj2:M-k=j+1:=by omega
  have hj3:M-(k+1)=j:=by omega
  have hjz:(M:Int)-1-k=(j:Int):=by omega
  have d1:=t9 (m:=m1) (i:=j) ha hna (by omega)
  have d2:=t9 (m:=m2) (i:=j) hb hnb (by omega)
  rw[hj2] at hi
  rw[q8 ha] at d1
  rw[q8 hb] at d2
  have c1:=fun h=>KX (x:=val a) (y:=val b) (j:=j) hi h
  have c2:=fun h=>KX (x:=val b) (y:=val a) (j:=j) hi.symm h
  have c3:=fun h=>cmp_eq (x:=val a) (y:=val b) (j:=j) hi h
  generalize val a/B^j%B=p at *
  generalize val b/B^j%B=q at *
  have e0:(0:Int)≤(j:Int):=by omega
  have w1:IntKind.i64.wrap ((j:Int)-1)=(j:Int)-1:=by rw[wrap64]<;>omega
  have hst:NY m1 m2 a b M (k+1)={env:=[(0,nl m1 a),(1,nl m2 b),(5,iv ((j:Int)-1))],sto:=[]}:=by
   rw[NY,show (M:Int)-1-((k+1:Nat):Int)=(j:Int)-1 by omega]
  rw[NY,hjz]
  simp[Yu]
  refine zb d1 (by simp[f1]) (by simp) ?_
  simp
  refine zb d2 (by simp[f2]) (by simp) ?_
  by_cases h:p<q
  ·have hc:xB (val a) (val b)=-1:=by simp[xB,c1 h]
   simp[h,TU,hc]
  ·simp[h]
   refine zb d1 (by simp[f1]) (by simp) ?_
   simp
   refine zb d2 (by simp[f2]) (by simp) ?_
   by_cases h2:q<p
   ·have hc:xB (val a) (val b)=1:=by
     have:¬ val a<val b:=by have:=c2 h2; omega
     simp[xB,c2 h2,this]
    simp[h2,TU,hc]
   ·have he:=c3 (by omega)
    simp[h2,w1,hst,hj3,he]
 ·have hxy:val a=val b:=by simpa using hi
  have hc:xB (val a) (val b)=0:=by simp[xB,hxy]
  have e0:¬ (0:Int)≤(M:Int)-1-M:=by omega
  have e1:¬ (M:Int)≤(M:Int)-1:=by omega
  simp[Yu,NY,e1,QB,TU,hc]
def cry (x y k:Nat):Nat:=(x%B^k+y%B^k)/B^k
theorem acl {x y:Nat}:cry x y 0=0:=by simp[cry,Nat.mod_one]
theorem aih {x y k:Nat}:cry x y k≤1:=by
 unfold cry
 have h1:=Nat.mod_lt x (tf k)
 have h2:=Nat.mod_lt y (tf k)
 have:(x%B^k+y%B^k)/B^k<2:=Nat.div_lt_of_lt_mul (by omega)
 omega
theorem Bx {x y k:Nat}:(x+y)/B^k%B=(x/B^k%B+y/B^k%B+cry x y k)%B∧cry x y (k+1)=(x/B^k%B+y/B^k%B+cry x y k)/B:=by
 have m1:x%B^(k+1)=x%B^k+B^k*(x/B^k%B):=by rw[Nat.pow_succ,Nat.mod_mul]
 have m2:y%B^(k+1)=y%B^k+B^k*(y/B^k%B):=by rw[Nat.pow_succ,Nat.mod_mul]
 have d1:=Nat.mod_add_div x (B^(k+1))
 have d2:=Nat.mod_add_div y (B^(k+1))
 have hs:x+y=(x%B^k+y%B^k)+B^k*(x/B^k%B+y/B^k%B)+B^(k+1)*(x/B^(k+1)+y/B^(k+1)):=by
  rw[Nat.mul_add,Nat.mul_add]
  omega
 constructor
 ·rw[hs,bW]
  unfold cry
  congr 1
  omega
 ·unfold cry
  rw[m1,m2,show x%B^k+B^k*(x/B^k%B)+(y%B^k+B^k*(y/B^k%B))=(x%B^k+y%B^k)+B^k*(x/B^k%B+y/B^k%B) by rw[Nat.mul_add]; omega,bV]
  congr 1
  omega
theorem cq {m:Am.Mode} {l:Nat} {a:List Nat} (h:stm m=m):dg l (nl m a)=nl m a:=by
 cases m with
 | plain=>simp
 | full=>simp
 | own d=>simp at h
def NV (m1 m2:Am.Mode) (a b:List Nat) (k:Nat):St :=
 {env:=[(0,nl m1 a),(1,nl m2 b),(5,yq 1 32 (zH (zu k (val a+val b)))),(6,zS (cry (val a) (val b) k)),(7,iv k)],sto:=[]}
theorem dq {m1 m2:Am.Mode} {a b:List Nat} (ha:ok a) (hb:ok b) (hna:a.length<1099511627775) (hnb:b.length<1099511627775) (f1:stm m1=m1) (f2:stm m2=m2) :
  ze Tryz.prog nZ [nl m1 a,nl m2 b] (nD (val a+val b)):=by
 refine zn ahH (by simp) ?_
 obtain ⟨M,hM⟩:∃ M,max a.length b.length=M:=⟨_,rfl⟩
 have hMz:max (a.length:Int) (b.length:Int)=(M:Int):=by omega
 have hxM:val a<B^M:=y5 ha (by omega)
 have hyM:val b<B^M:=y5 hb (by omega)
 simp[EG]
 refine zw (NV m1 m2 a b) (fun _=>True) (M+1) (by simp[NV,acl,zu]) trivial (fun k hk _=>?_) (fun _=>?_)
 ·have d1:=t9 (m:=m1) (i:=k) ha (by omega) (by omega)
  have d2:=t9 (m:=m2) (i:=k) hb (by omega) (by omega)
  rw[q8 ha] at d1
  rw[q8 hb] at d2
  obtain ⟨g1,g2⟩:=Bx (x:=val a) (y:=val b) (k:=k)
  have hsucc:=qY (n:=k) (x:=val a+val b)
  have hpB:val a/B^k%B<B:=Nat.mod_lt _ z6
  have hqB:val b/B^k%B<B:=Nat.mod_lt _ z6
  have hc:=aih (x:=val a) (y:=val b) (k:=k)
  have hdl:=zG (n:=k) (x:=val a+val b)
  rw[g1] at hsucc
  have hst:NV m1 m2 a b (k+1)={env:=[(0,nl m1 a),(1,nl m2 b),(5,yq 1 32 (zH (zu (k+1) (val a+val b)))),(6,zS (cry (val a) (val b) (k+1))),(7,iv ((k:Int)+1))],sto:=[]}:=by
   rw[NV]; rfl
  rw[hsucc,g2] at hst
  rw[NV]
  clear g1 g2 hsucc
  generalize val a/B^k%B=p at *
  generalize val b/B^k%B=q at *
  generalize cry (val a) (val b) k=c at *
  generalize zu k (val a+val b)=D at *
  obtain ⟨t,ht⟩:∃ t,p+q+c=t:=⟨_,rfl⟩
  obtain ⟨d,hd⟩:∃ d,t%B=d:=⟨_,rfl⟩
  obtain ⟨e,he⟩:∃ e,t/B=e:=⟨_,rfl⟩
  rw[ht,hd,he] at hst
  have hdB:d<B:=by rw[← hd]; exact Nat.mod_lt _ z6
  have heB:e≤t:=by rw[← he]; exact Nat.div_le_self _ _
  rw[yc] at hpB hqB hdB
  have t1:(t:Int).tmod 4294967296=(d:Int):=by
   rw[← hd,yc,show (4294967296:Int)=((4294967296:Nat):Int) from rfl,← Int.ofNat_tmod]
  have t2:IntKind.u64.wrap ((t:Int)/4294967296)=(e:Int):=by
   rw[show (t:Int)/4294967296=(e:Int) by rw[← he,yc]; omega]
   exact w64 (by omega)
  clear hd he
  have w1:IntKind.u64.wrap ((p:Int)+q)=(p:Int)+q:=va (by omega) (by omega)
  have w2:IntKind.u64.wrap ((p:Int)+q+c)=(t:Int):=by rw[va]<;>omega
  have w3:IntKind.u32.wrap (d:Int)=d:=IntWalk.u32_in _ (by omega)
  have w4:IntKind.i64.wrap ((k:Int)+1)=(k:Int)+1:=wrap64 (by omega) (by omega)
  have hkM:(k:Int)≤(M:Int):=by omega
  simp[Yt,hMz,hkM]
  refine zb d1 (by simp[f1]) (by simp) ?_
  simp
  refine zb d2 (by simp[f2]) (by simp) ?_
  simp[w1,w2,sy,tJ,t1,t2,w3,w4,hdl,hst,cq f1,cq f2]
  omega
 ·have hlt:val a+val b<B^(M+1):=by
   rw[Nat.pow_succ]
   have:B^M*2≤B^M*B:=Nat.mul_le_mul_left _ (by decide)
   omega
  have kt:=l7 (m:=.plain) (a:=zu (M+1) (val a+val b)) yU (by rw[zG]; omega)
  rw[yA hlt] at kt
  have hne:¬ zu (M+1) (val a+val b)=[]:=fun h=>by
   have:=congrArg List.length h
   rw[zG] at this
   simp at this
  have hkM:¬ (M:Int)+1≤(M:Int):=by omega
  simp[Yt,NV,hMz,hkM,QA,DC]
  refine zb kt (by simp[hne]) (.inl rfl) ?_
  simp
theorem Rj {f:FuncId} {x x' r:AV} (h:ze Tryz.prog f [x'] r) (hy:AV.imp x x'):ze Tryz.prog f [x] r:=fun I vs w h1 h2 h3 =>
 h I vs w h1 h2 fun i a hi=>by
  match i,hi with
  | 0,hi=>simp at hi; subst hi; exact hy _ _ _ (h3 0 x rfl)
  | i+1,hi=>simp at hi
theorem LQ {x y k p q c:Nat} (h:y≤x) (hp:x/B^k%B=p) (hq:y/B^k%B=q) (hc:bor x y k=c) (_hpB:p<B) (_hqB:q<B) (hc1:c≤1) :
  ∃ s,4294967296+p-q-c=s∧s<8589934592∧q+c≤4294967296+p∧(x-y)/B^k%B=s%B∧bor x y (k+1)=1-s/B∧s/B≤1:=by
 have h1:=aJ (k:=k) h
 have h2:=Yl (x:=x) (y:=y) (k:=k)
 rw[hp,hq,hc] at h1 h2
 have hdB:(x-y)/B^k%B<B:=Nat.mod_lt _ z6
 generalize (x-y)/B^k%B=d at *
 rw[yc] at *
 refine ⟨_,rfl,by omega,by omega,by omega,?_,by omega⟩
 rw[h2]
 split<;>omega
def Mf (m1 m2:Am.Mode) (a b:List Nat) (k:Nat):St :=
 {env:=[(0,nl m1 a),(1,nl m2 b),(6,yq 1 35 (zH (zu k (val a-val b)))),(7,zS (bor (val a) (val b) k)),(8,iv k)],sto:=[]}
theorem Mq {m1 m2:Am.Mode} {a b:List Nat} (ha:ok a) (hb:ok b) (hna:a.length<1099511627775) (hnb:b.length<1099511627775) (f1:stm m1=m1) (f2:stm m2=m2) :
  ze Tryz.prog Zx [nl m1 a,nl m2 b] (.tuple [nD (val a-val b),bv (decide (val b≤val a))]):=by
 have kc:=EO (m1:=m1) (m2:=m2) ha hb (by omega) (by omega) f1 f2
 refine wN ahM (by simp) ?_
 simp[EL]
 refine zb kc (by simp[f1,f2]) (by simp) ?_
 by_cases hlt:val a<val b
 ·have hc1:xB (val a) (val b)=-1:=by simp[xB,hlt]
  have hd:decide (val b≤val a)=false:=by simp; omega
  have h0:val a-val b=0:=by omega
  simp[hc1,NN]
  rw[hd,h0]
  exact AV.imp_tuple2 pm
 ·have hc1:¬ xB (val a) (val b)<0:=by simp only[xB,if_neg hlt]; split<;>omega
  have hle:val b≤val a:=by omega
  have hd:decide (val b≤val a)=true:=by simp[hle]
  rw[hd]
  simp[hc1]
  refine zw (Mf m1 m2 a b) (fun _=>True) a.length (by simp[Mf,Ym,zu]) trivial (fun k hk _=>?_) (fun _=>?_)
  ·have d1:=t9 (m:=m1) (i:=k) ha (by omega) (by omega)
   have d2:=t9 (m:=m2) (i:=k) hb (by omega) (by omega)
   rw[q8 ha] at d1
   rw[q8 hb] at d2
   have hpB:val a/B^k%B<B:=Nat.mod_lt _ z6
   have hqB:val b/B^k%B<B:=Nat.mod_lt _ z6
   have hc:=Qj (x:=val a) (y:=val b) (k:=k)
   obtain ⟨s,g0,gs,gle,g1,g2,g3⟩:=LQ (k:=k) hle rfl rfl rfl hpB hqB hc
   have hsucc:=qY (n:=k) (x:=val a-val b)
   have hdl:=zG (n:=k) (x:=val a-val b)
   rw[g1] at hsucc
   have hst:Mf m1 m2 a b (k+1)={env:=[(0,nl m1 a),(1,nl m2 b),(6,yq 1 35 (zH (zu (k+1) (val a-val b)))),(7,zS (bor (val a) (val b) (k+1))),(8,iv ((k:Int)+1))],sto:=[]}:=by
    rw[Mf]; rfl
   rw[hsucc,g2] at hst
   rw[Mf]
   clear g1 g2 hsucc
   generalize val a/B^k%B=p at *
   generalize val b/B^k%B=q at *
   generalize bor (val a) (val b) k=c at *
   generalize zu k (val a-val b)=D at *
   obtain ⟨d,hd⟩:∃ d,s%B=d:=⟨_,rfl⟩
   obtain ⟨e,he⟩:∃ e,s/B=e:=⟨_,rfl⟩
   rw[hd,he] at hst
   rw[he] at g3
   have hdB:d<B:=by rw[← hd]; exact Nat.mod_lt _ z6
   rw[yc] at hpB hqB hdB
   have t1:(s:Int).tmod 4294967296=(d:Int):=by
    rw[← hd,yc,show (4294967296:Int)=((4294967296:Nat):Int) from rfl,← Int.ofNat_tmod]
   have t2:IntKind.u64.wrap ((s:Int)/4294967296)=(e:Int):=by
    rw[show (s:Int)/4294967296=(e:Int) by rw[← he,yc]; omega]
    exact w64 (by omega)
   clear hd he
   have w1:IntKind.u64.wrap ((4294967296:Int)+p)=(4294967296:Int)+p:=va (by omega) (by omega)
   have w2:IntKind.u64.wrap ((4294967296:Int)+p-q)=(4294967296:Int)+p-q:=va (by omega) (by omega)
   have w2':IntKind.u64.wrap ((4294967296:Int)+p-q-c)=(s:Int):=by rw[va]<;>omega
   have w3:IntKind.u32.wrap (d:Int)=d:=IntWalk.u32_in _ (by omega)
   have w5:IntKind.u64.wrap (1-(e:Int))=((1-e:Nat):Int):=by rw[va]<;>omega
   have w4:IntKind.i64.wrap ((k:Int)+1)=(k:Int)+1:=wrap64 (by omega) (by omega)
   have hkM:(k:Int)<(a.length:Int):=by omega
   simp[Yx,hkM]
   refine zb d1 (by simp[f1]) (by simp) ?_
   simp[w1]
   refine zb d2 (by simp[f2]) (by simp) ?_
   simp[w2,w2',w5,sy,tJ,t1,t2,w3,w4,hdl,hst,cq f1,cq f2]
   omega
  ·have hlt2:val a-val b<B^a.length:=Nat.lt_of_le_of_lt (Nat.sub_le _ _) (tj ha)
   have kt:=l7 (m:=.plain) (a:=zu a.length (val a-val b)) yU (by rw[zG]; omega)
   rw[yA hlt2] at kt
   simp[Yx,Mf,QE,NN]
   refine zb (Rj kt lP) (by simp) (.inl rfl) ?_
   simp
   exact AV.imp.refl
def cs (x d k:Nat):Nat:=x%B^k*d/B^k
theorem afH {x d:Nat}:cs x d 0=0:=by simp[cs,Nat.mod_one]
theorem ajS {x d k:Nat} (hd:d<B):cs x d k<B:=by
 unfold cs
 apply Nat.div_lt_of_lt_mul
 have h1:=Nat.mod_lt x (tf k)
 exact Nat.mul_lt_mul_of_lt_of_lt h1 hd
theorem F5 {x d k:Nat}:x*d/B^k%B=(x/B^k%B*d+cs x d k)%B∧cs x d (k+1)=(x/B^k%B*d+cs x d k)/B:=by
 have m1:x%B^(k+1)=x%B^k+B^k*(x/B^k%B):=by rw[Nat.pow_succ,Nat.mod_mul]
 have d1:=Nat.mod_add_div x (B^(k+1))
 have hs:x*d=(x%B^k*d)+B^k*(x/B^k%B*d)+B^(k+1)*(x/B^(k+1)*d):=by
  have h:x*d=(x%B^k+B^k*(x/B^k%B)+B^(k+1)*(x/B^(k+1)))*d:=by rw[← m1,d1]
  rw[h,Nat.add_mul,Nat.add_mul,Nat.mul_assoc,Nat.mul_assoc]
 constructor
 ·rw[hs,bW]
  unfold cs
  congr 1
  omega
 ·unfold cs
  rw[m1,Nat.add_mul,Nat.mul_assoc,bV]
  congr 1
  omega
def Mh (m1:Am.Mode) (a:List Nat) (d k:Nat):St :=
 {env:=[(0,nl m1 a),(1,zS d),(5,yq 1 27 (zH (zu k (val a*d)))),(6,zS (cs (val a) d k)),(7,iv k)],sto:=[]}
theorem aaR {m1:Am.Mode} {a:List Nat} {d:Nat} (ha:ok a) (hna:a.length<1099511627775) (hd:d<B) (f1:stm m1=m1) :
  ze Tryz.prog XR [nl m1 a,zS d] (nD (val a*d)):=by
 refine zn abE (by simp) ?_
 simp[MM]
 refine zw (Mh m1 a d) (fun _=>True) (a.length+1) (by simp[Mh,afH,zu]) trivial (fun k hk _=>?_) (fun _=>?_)
 ·have d1:=t9 (m:=m1) (i:=k) ha (by omega) (by omega)
  rw[q8 ha] at d1
  obtain ⟨g1,g2⟩:=F5 (x:=val a) (d:=d) (k:=k)
  have hsucc:=qY (n:=k) (x:=val a*d)
  have hpB:val a/B^k%B<B:=Nat.mod_lt _ z6
  have hc:=ajS (x:=val a) (k:=k) hd
  have hdl:=zG (n:=k) (x:=val a*d)
  rw[g1] at hsucc
  have hst:Mh m1 a d (k+1)={env:=[(0,nl m1 a),(1,zS d),(5,yq 1 27 (zH (zu (k+1) (val a*d)))),(6,zS (cs (val a) d (k+1))),(7,iv ((k:Int)+1))],sto:=[]}:=by
   rw[Mh]; rfl
  rw[hsucc,g2] at hst
  rw[Mh]
  clear g1 g2 hsucc
  generalize val a/B^k%B=p at *
  generalize cs (val a) d k=c at *
  generalize zu k (val a*d)=D at *
  have hm:=am hpB hd hc z6
  obtain ⟨pd,hpd⟩:∃ pd,p*d=pd:=⟨_,rfl⟩
  rw[hpd] at hst hm
  obtain ⟨t,ht⟩:∃ t,pd+c=t:=⟨_,rfl⟩
  obtain ⟨y,hy⟩:∃ y,t%B=y:=⟨_,rfl⟩
  obtain ⟨e,he⟩:∃ e,t/B=e:=⟨_,rfl⟩
  rw[ht,hy,he] at hst
  have hBB:B*B=18446744073709551616:=by decide
  rw[hBB] at hm
  have hyB:y<B:=by rw[← hy]; exact Nat.mod_lt _ z6
  have heB:e≤t:=by rw[← he]; exact Nat.div_le_self _ _
  rw[yc] at hpB hyB
  have t1:(t:Int).tmod 4294967296=(y:Int):=by
   rw[← hy,yc,show (4294967296:Int)=((4294967296:Nat):Int) from rfl,← Int.ofNat_tmod]
  have t2:IntKind.u64.wrap ((t:Int)/4294967296)=(e:Int):=by
   rw[show (t:Int)/4294967296=(e:Int) by rw[← he,yc]; omega]
   exact w64 (by omega)
  clear hy he
  have w1:IntKind.u64.wrap ((p:Int)*d)=(pd:Int):=by
   rw[show (p:Int)*(d:Int)=((p*d:Nat):Int) by simp,hpd]; exact w64 (by omega)
  have w2:IntKind.u64.wrap ((pd:Int)+c)=(t:Int):=by rw[va]<;>omega
  have w3:IntKind.u32.wrap (y:Int)=y:=IntWalk.u32_in _ (by omega)
  have w4:IntKind.i64.wrap ((k:Int)+1)=(k:Int)+1:=wrap64 (by omega) (by omega)
  have hkM:(k:Int)≤(a.length:Int):=by omega
  have hkM2:k≤a.length:=by omega
  simp[dW,hkM]
  refine zb d1 (by simp[f1]) (by simp) ?_
  simp[w1,w2,sy,tJ,t1,t2,w3,w4,hdl,hst,cq f1]
  omega
 ·have hlt:val a*d<B^(a.length+1):=by
   rw[Nat.pow_succ]
   exact Nat.mul_lt_mul_of_lt_of_lt (tj ha) hd
  have kt:=l7 (m:=.plain) (a:=zu (a.length+1) (val a*d)) yU (by rw[zG]; omega)
  rw[yA hlt] at kt
  have hkM:¬ (a.length:Int)+1≤(a.length:Int):=by omega
  simp[dW,Mh,hkM,X7,Ll]
  refine zb (Rj kt lP) (by simp) (.inl rfl) ?_
  simp
def T3 (m1:Am.Mode) (a:List Nat) (n k:Nat):St :=
 {env:=[(0,nl m1 a),(1,iv n),(5,yq 1 14 (zH (List.replicate k 0))),(6,iv k)],sto:=[]}
theorem aaX {m1:Am.Mode} {a:List Nat} {n:Nat} (ha:ok a) (hna:a.length<137438953472) (hn:n<137438953472) (f1:stm m1=m1) :
  ze Tryz.prog XS [nl m1 a,iv n] (nD (val a*B^n)):=by
 refine zn abF (by simp) ?_
 simp[MN]
 refine zw (T3 m1 a n) (fun _=>True) n (by simp[T3]) trivial (fun k hk _=>?_) (fun _=>?_)
 ·have hst:T3 m1 a n (k+1)={env:=[(0,nl m1 a),(1,iv n),(5,yq 1 14 (zH (List.replicate k 0++[0]))),(6,iv ((k:Int)+1))],sto:=[]}:=by
   rw[T3,List.replicate_succ']; rfl
  have hl:(List.replicate k 0).length=k:=List.length_replicate
  rw[T3]
  generalize List.replicate k 0=D at *
  have w4:IntKind.i64.wrap ((k:Int)+1)=(k:Int)+1:=wrap64 (by omega) (by omega)
  have hkn:(k:Int)<(n:Int):=by omega
  simp[dX,hkn,w4,hl,hst,cq f1]
  exact ⟨by omega,by omega,rfl⟩
 ·have hl:(List.replicate n 0).length=n:=List.length_replicate
  have hv:val (List.replicate n 0++a)=val a*B^n:=by rw[val_append,Sb,hl,Nat.zero_add,Nat.mul_comm]
  have kt:=l7 (m:=.plain) (a:=List.replicate n 0++a) (UA.2 ⟨Gc n,ha⟩) (by rw[List.length_append,hl]; omega)
  rw[hv] at kt
  rw[T3]
  generalize List.replicate n 0=D at *
  simp[dX,X8]
  refine XG (by simp) (.inr rfl) (by simp) (by simp) (by simp; omega) (by simp; omega) fun t ht=>?_
  simp
  refine zb kt (by simp) (.inl rfl) ?_
  simp[Lm]
theorem aa {f:FuncId} {x x' y r:AV} (h:ze Tryz.prog f [x',y] r) (hy:AV.imp x x'):ze Tryz.prog f [x,y] r:=fun I vs w h1 h2 h3 =>
 h I vs w h1 h2 fun i a hi=>by
  match i,hi with
  | 0,hi=>simp at hi; subst hi; exact hy _ _ _ (h3 0 x rfl)
  | 1,hi=>exact h3 1 a hi
  | i+2,hi=>simp at hi
def RV (m1 m2:Am.Mode) (a b:List Nat) (k:Nat):St :=
 {env:=[(0,nl m1 a),(1,nl m2 b),(5,if k=0 then .list 0 .full [] else nD (val a*val (b.take k))),(6,iv k)],sto:=[]}
theorem A4 {a b:List Nat} {k:Nat} (hk:k<b.length):val a*val (b.take (k+1))=val a*val (b.take k)+val a*b[k]*B^k:=by
 rw[ww hk,Nat.mul_add,Nat.mul_comm (B^k),Nat.mul_assoc]
theorem ZZ {m1 m2:Am.Mode} {a b:List Nat} (ha:ok a) (hb:ok b) (hs:a.length+b.length<68719476736) (f1:stm m1=m1) (_f2:stm m2=m2) :
  ze Tryz.prog gf [nl m1 a,nl m2 b] (nD (val a*val b)):=by
 refine wN ahL (by simp) ?_
 simp[EK]
 refine zw (RV m1 m2 a b) (fun _=>True) b.length (by simp[RV]) trivial (fun k hk _=>?_) (fun _=>?_)
 ·have hbk:=xK hb hk
  have hg:∃ x,b[k]=x:=⟨_,rfl⟩
  have hsucc:=A4 (a:=a) hk
  have haB:=tj ha
  have hbB:val (b.take k)<B^k:=y5 (ri hb k) (by simp; omega)
  generalize hx:b[k]=x at *
  have k1:=aaR (m1:=m1) (d:=x) ha (by omega) hbk f1
  have hl1:(zh (val a*x)).length≤a.length+1:=zI.2 (by rw[Nat.pow_succ]; exact Nat.mul_lt_mul_of_lt_of_lt haB hbk)
  have k2:=aaX (m1:=.plain) (n:=k) (zC (val a*x)) (by omega) (by omega) rfl
  rw[zM] at k2
  have hl2:(zh (val a*x*B^k)).length≤a.length+1+k:=zI.2 (by
   rw[Nat.pow_add,Nat.pow_succ]
   exact Nat.mul_lt_mul_of_pos_right (Nat.mul_lt_mul_of_lt_of_lt haB hbk) (tf k))
  have hl3:(zh (val a*val (b.take k))).length≤a.length+k:=zI.2 (by
   rw[Nat.pow_add]; exact Nat.mul_lt_mul_of_lt_of_lt haB hbB)
  have k3:=dq (m1:=.plain) (m2:=.plain) (zC (val a*val (b.take k))) (zC (val a*x*B^k)) (by omega) (by omega) rfl rfl
  rw[zM,zM] at k3
  rw[← hsucc] at k3
  rw[yc] at hbk
  have w1:IntKind.u64.wrap (x:Int)=x:=w64 (by omega)
  have w4:IntKind.i64.wrap ((k:Int)+1)=(k:Int)+1:=wrap64 (by omega) (by omega)
  have hkb:(k:Int)<(b.length:Int):=by omega
  obtain ⟨o,ho⟩:∃ o,(if k=0 then AV.list 0 .full [] else nD (val a*val (b.take k)))=o:=⟨_,rfl⟩
  simp[eO,hkb,hk,RV,hx,w1]
  refine zb k1 (by simp[f1]) (by simp) ?_
  simp
  refine zb k2 (by simp) (by simp) ?_
  rcases Nat.eq_zero_or_pos k with h0 | h0
  ·subst h0
   have e0:nl .plain (zh (val a*val (b.take 0)))=nD 0:=by simp[val]
   rw[e0] at k3
   simp
   refine zb (aa k3 (pm (sz:=0))) (by simp) (by simp) ?_
   have w0:IntKind.i64.wrap 1=1:=by decide
   simp[w0,RV]
  ·have hk0:¬ k=0:=by omega
   simp[hk0]
   refine zb k3 (by simp) (by simp) ?_
   simp[w4,RV]
 ·rcases Nat.eq_zero_or_pos b.length with h0 | h0
  ·have hb0:b=[]:=List.length_eq_zero_iff.1 h0
   subst hb0
   simp[eO,RV,Yw,NM,val]
   exact pm
  ·have hk0:¬ b.length=0:=by omega
   have hbn:¬ b=[]:=fun e=>by subst e; simp at h0
   simp[eO,RV,Yw,NM,hk0]
   exact AV.imp.refl
theorem fo (q:Nat):B^q=2^(32*q):=by rw[Nat.pow_mul]; rfl
theorem BJ {x i:Nat}:x/B^(i/32)%B/2^(i%32)%2=x/2^i%2:=by
 have hi:2^i=B^(i/32)*2^(i%32):=by rw[fo,← Nat.pow_add]; congr 1; omega
 rw[hi,← Nat.div_div_eq_div_mul]
 generalize x/B^(i/32)=y
 have hr:i%32<32:=Nat.mod_lt _ (by omega)
 generalize i%32=r at *
 have hB:B=2^r*2^(32-r):=by
  rw[← Nat.pow_add,Nat.add_sub_cancel' (by omega)]; rfl
 rw[hB,Nat.mod_mul_right_div_self]
 exact Nat.mod_mod_of_dvd _ ⟨2^(31-r),by rw[show 32-r=(31-r)+1 by omega,Nat.pow_succ,Nat.mul_comm]⟩
theorem P2 {m:Am.Mode} {a:List Nat} {i:Nat} (ha:ok a) (hn:a.length<1099511627776) (hi:i<35184372088832) (f1:stm m=m):ze Tryz.prog Ts [nl m a,iv i] (zS (val a/2^i%2)):=by
 have d1:=t9 (m:=m) (i:=i/32) ha hn (by omega)
 rw[q8 ha] at d1
 have hp:=BJ (x:=val a) (i:=i)
 have hpB:val a/B^(i/32)%B<B:=Nat.mod_lt _ z6
 rw[← hp]
 clear hp
 generalize val a/B^(i/32)%B=p at *
 have q1:IntKind.i64.wrap ((i:Int)/32)=((i/32:Nat):Int):=by rw[wrap64]<;>omega
 have q2:(i:Int).tmod 32=((i%32:Nat):Int):=by
  rw[show (32:Int)=((32:Nat):Int) from rfl,← Int.ofNat_tmod]
 have hr:i%32<32:=Nat.mod_lt _ (by omega)
 obtain ⟨q,hq⟩:∃ q,i/32=q:=⟨_,rfl⟩
 obtain ⟨r,hr2⟩:∃ r,i%32=r:=⟨_,rfl⟩
 rw[hq] at q1 d1
 rw[hr2] at q2 hr
 rw[hr2]
 clear hq hr2
 have hP:0<2^r:=Nat.pow_pos (by omega)
 have hPB:=cL hr
 have hmin:min r IntKind.u64.bits=r:=by
  have:IntKind.u64.bits=64:=rfl
  omega
 obtain ⟨P,hPe⟩:∃ P,2^r=P:=⟨_,rfl⟩
 rw[hPe] at hP hPB
 rw[hPe]
 have u1:IntKind.u64.wrap ((2:Int)^r)=(P:Int):=by
  rw[show (2:Int)^r=((2^r:Nat):Int) by simp,hPe]; exact w64 (by rw[yc] at hPB; omega)
 have hne:¬ P=0:=by omega
 have u2:IntKind.u64.wrap ((p:Int)/(P:Int))=((p/P:Nat):Int):=by
  rw[← Int.natCast_ediv]; exact w64 (Nat.lt_of_le_of_lt (Nat.div_le_self _ _) (by rw[yc] at hpB; omega))
 obtain ⟨z,hz⟩:∃ z,p/P=z:=⟨_,rfl⟩
 rw[hz] at u2
 rw[hz]
 have u3:(z:Int).tmod 2=((z%2:Nat):Int):=by
  rw[show (2:Int)=((2:Nat):Int) from rfl,← Int.ofNat_tmod]
 clear hz hPe
 refine zn ahI (by simp) ?_
 simp[EH,sy,q1]
 refine zb d1 (by simp[f1]) (by simp) ?_
 simp[sy,tJ,xr,q2,hmin,u1,hne,u2,u3,DD]
def bl (x:Nat):Nat:=if x=0 then 0 else Nat.log2 x+1
theorem ae6 (x:Nat):x<2^bl x:=by
 unfold bl
 split
 ·subst x; decide
 ·exact Nat.lt_log2_self
theorem ah4 {x:Nat} (h:0<bl x):x/2^(bl x-1)%2=1:=by
 unfold bl at *
 split at h
 ·exact absurd h (Nat.lt_irrefl _)
 ·rename_i h0
  rw[if_neg h0,Nat.add_sub_cancel]
  have h1:=Nat.log2_self_le h0
  have h2:x<2^(Nat.log2 x+1):=Nat.lt_log2_self
  have h3:x/2^Nat.log2 x=1:=by
   rw[Nat.div_eq_iff (Nat.pow_pos (by omega))]
   rw[Nat.pow_succ] at h2
   omega
  rw[h3]
theorem DZ {x n:Nat} (h:x<2^n):bl x≤n:=by
 unfold bl
 split
 ·omega
 ·rename_i h0
  exact (Nat.log2_lt h0).2 h
def stB (m:Am.Mode) (a:List Nat) (k:Nat):St:={env:=[(0,nl m a),(3,iv ((32*a.length-k:Nat):Int))],sto:=[]}
theorem KF {m:Am.Mode} {a:List Nat} (ha:ok a) (hn:a.length<137438953472) (f1:stm m=m):ze Tryz.prog Yh [nl m a] (iv (bl (val a))):=by
 refine zn aeX (by simp) ?_
 have hlt:val a<2^(32*a.length):=by rw[← fo]; exact tj ha
 have hle:=DZ hlt
 have w0:IntKind.i64.wrap (32*(a.length:Int))=((32*a.length:Nat):Int):=by rw[wrap64]<;>omega
 simp[KO,w0]
 refine zw (stB m a) (fun _=>True) (32*a.length-bl (val a)) (by simp[stB]) trivial (fun k hk _=>?_) (fun _=>?_)
 ·obtain ⟨j,hj⟩:∃ j,32*a.length-k=j+1:=⟨32*a.length-k-1,by omega⟩
  have hj2:32*a.length-(k+1)=j:=by omega
  have hb:=P2 (m:=m) (i:=j) ha (by omega) (by omega) f1
  have hz:val a/2^j%2=0:=by
   rw[Nat.div_eq_of_lt]
   exact Nat.lt_of_lt_of_le (ae6 _) (Nat.pow_le_pow_right (by omega) (by omega))
  rw[hz] at hb
  have hst:stB m a (k+1)={env:=[(0,nl m a),(3,iv j)],sto:=[]}:=by rw[stB,hj2]
  have hst0:stB m a k={env:=[(0,nl m a),(3,iv ((j:Int)+1))],sto:=[]}:=by rw[stB,hj]; rfl
  have w1:IntKind.i64.wrap (j:Int)=(j:Int):=by rw[wrap64]<;>omega
  have p1:(0:Int)<(j:Int)+1:=by omega
  rw[hst0]
  simp[fa,p1,w1]
  refine zb hb (by simp[f1]) (by simp) ?_
  simp[w1,hst]
 ·have e:32*a.length-(32*a.length-bl (val a))=bl (val a):=by omega
  have ht:=fun h=>ah4 (x:=val a) h
  have hb:=fun i h=>P2 (m:=m) (i:=i) ha (by omega) h f1
  rw[stB,e]
  generalize bl (val a)=L at *
  rcases L with _ | j
  ·simp[fa,a8,RK]
  ·have hb:=hb j (by omega)
   have ht:=ht (by omega)
   rw[Nat.add_sub_cancel] at ht
   rw[ht] at hb
   have w1:IntKind.i64.wrap (j:Int)=(j:Int):=by rw[wrap64]<;>omega
   have p1:(0:Int)<(j:Int)+1:=by omega
   simp[fa,p1,w1]
   refine zb hb (by simp[f1]) (by simp) ?_
   simp[a8,RK]
theorem Cq {Y r:Nat} (hr:r<32):(Y%B+Y/B%B*B)/2^r%B=Y/2^r%B:=by
 have h1:Y%B+Y/B%B*B=Y%(2^r*2^(64-r)):=by
  have:2^r*2^(64-r)=B*B:=by
   rw[← Nat.pow_add,Nat.add_sub_cancel' (by omega)]; rfl
  rw[this,Nat.mod_mul,Nat.mul_comm]
 rw[h1,Nat.mod_mul_right_div_self]
 refine Nat.mod_mod_of_dvd _ ⟨2^(32-r),?_⟩
 rw[show 64-r=32+(32-r) by omega,Nat.pow_add]; rfl
theorem Cp {x k t:Nat}:x/2^k/B^t%B=(x/B^(k/32+t)%B+x/B^(k/32+t+1)%B*B)/2^(k%32)%B:=by
 have h1:x/B^(k/32+t+1)=x/B^(k/32+t)/B:=by rw[Nat.pow_succ,Nat.div_div_eq_div_mul]
 rw[h1,Cq (Nat.mod_lt _ (by omega)),Nat.div_div_eq_div_mul,Nat.div_div_eq_div_mul]
 have:2^k*B^t=B^(k/32+t)*2^(k%32):=by
  rw[fo,fo,← Nat.pow_add,← Nat.pow_add]; congr 1; omega
 rw[this]
def stH (m:Am.Mode) (a:List Nat) (k t:Nat):St :=
 {env:=[(0,nl m a),(1,iv k),(5,yq 1 34 (zH (zu t (val a/2^k)))),(6,iv ((k/32+t:Nat):Int))],sto:=[]}
theorem acR {m:Am.Mode} {a:List Nat} {k:Nat} (ha:ok a) (hn:a.length<137438953472) (hk:k<35184372088832) (f1:stm m=m):ze Tryz.prog SY [nl m a,iv k] (nD (val a/2^k)):=by
 refine zn aeZ (by simp) ?_
 have q0:IntKind.i64.wrap ((k:Int)/32)=((k/32:Nat):Int):=by rw[wrap64]<;>omega
 have q2:(k:Int).tmod 32=((k%32:Nat):Int):=by
  rw[show (32:Int)=((32:Nat):Int) from rfl,← Int.ofNat_tmod]
 simp[KP,sy,q0]
 refine zw (stH m a k) (fun _=>True) (a.length-k/32) (by simp[stH,zu]) trivial (fun t ht _=>?_) (fun _=>?_)
 ·have d1:=t9 (m:=m) (i:=k/32+t) ha (by omega) (by omega)
  have d2:=t9 (m:=m) (i:=k/32+t+1) ha (by omega) (by omega)
  rw[q8 ha] at d1 d2
  have hd:=Cp (x:=val a) (k:=k) (t:=t)
  have hsucc:=qY (n:=t) (x:=val a/2^k)
  have hdl:=zG (n:=t) (x:=val a/2^k)
  rw[hd] at hsucc
  have hst:stH m a k (t+1)={env:=[(0,nl m a),(1,iv k),(5,yq 1 34 (zH (zu (t+1) (val a/2^k)))),(6,iv ((k/32+t:Nat)+1:Int))],sto:=[]}:=by
   rw[stH]; rfl
  rw[hsucc] at hst
  rw[stH]
  clear hd hsucc
  have hpB:val a/B^(k/32+t)%B<B:=Nat.mod_lt _ z6
  have hqB:val a/B^(k/32+t+1)%B<B:=Nat.mod_lt _ z6
  generalize val a/B^(k/32+t)%B=p at *
  generalize val a/B^(k/32+t+1)%B=q at *
  generalize zu t (val a/2^k)=D at *
  have hr:k%32<32:=Nat.mod_lt _ (by omega)
  obtain ⟨i,hi⟩:∃ i,k/32+t=i:=⟨_,rfl⟩
  obtain ⟨r,hr2⟩:∃ r,k%32=r:=⟨_,rfl⟩
  have hil:i<a.length:=by omega
  rw[hi] at d1 d2 hst
  rw[hi]
  rw[hr2] at hst q2 hr
  have htb:t<a.length:=by omega
  clear hi hr2 ht q0
  have hP:0<2^r:=Nat.pow_pos (by omega)
  have hPB:=cL hr
  have hmin:min r IntKind.u64.bits=r:=by
   have:IntKind.u64.bits=64:=rfl
   omega
  obtain ⟨P,hPe⟩:∃ P,2^r=P:=⟨_,rfl⟩
  rw[hPe] at hP hPB hst
  have u1:IntKind.u64.wrap ((2:Int)^r)=(P:Int):=by
   rw[show (2:Int)^r=((2^r:Nat):Int) by simp,hPe]; exact w64 (by rw[yc] at hPB; omega)
  have hne:¬ P=0:=by omega
  clear hPe
  have hs:=PS hqB hpB
  obtain ⟨s,hse⟩:∃ s,p+q*B=s:=⟨_,rfl⟩
  have hsB:s<18446744073709551616:=by rw[← hse,Nat.add_comm]; exact hs
  rw[hse] at hst
  obtain ⟨qb,hqb⟩:∃ qb,q*B=qb:=⟨_,rfl⟩
  rw[hqb] at hse
  have w1:IntKind.u64.wrap ((q:Int)*4294967296)=(qb:Int):=by
   rw[show (q:Int)*4294967296=((q*B:Nat):Int) by rw[yc]; simp,hqb]; exact w64 (by omega)
  have w2:IntKind.u64.wrap ((p:Int)+qb)=(s:Int):=by rw[va]<;>omega
  have u2:IntKind.u64.wrap ((s:Int)/(P:Int))=((s/P:Nat):Int):=by
   rw[← Int.natCast_ediv]; exact w64 (Nat.lt_of_le_of_lt (Nat.div_le_self _ _) hsB)
  obtain ⟨z,hz⟩:∃ z,s/P=z:=⟨_,rfl⟩
  rw[hz] at u2 hst
  obtain ⟨d,hd⟩:∃ d,z%B=d:=⟨_,rfl⟩
  rw[hd] at hst
  have u3:(z:Int).tmod 4294967296=(d:Int):=by
   rw[← hd,yc,show (4294967296:Int)=((4294967296:Nat):Int) from rfl,← Int.ofNat_tmod]
  have hdB:d<B:=by rw[← hd]; exact Nat.mod_lt _ z6
  clear hz hd hqb hs
  rw[yc] at hdB
  have w3:IntKind.u32.wrap (d:Int)=d:=IntWalk.u32_in _ (by omega)
  have w4:IntKind.i64.wrap ((i:Int)+1)=(i:Int)+1:=wrap64 (by omega) (by omega)
  have hil':(i:Int)<(a.length:Int):=by omega
  simp[Za,hil']
  refine zb d1 (by simp[f1]) (by simp) ?_
  simp[w4]
  refine zb d2 (by simp[f1]) (by simp) ?_
  simp[sy,tJ,xr,w1,w2,q2,hmin,u1,hne,u2,u3,w3,w4,hst,cq f1]
  omega
 ·have hlt:val a/2^k<B^(a.length-k/32):=by
   apply Nat.div_lt_of_lt_mul
   have h1:=tj ha
   have h2:B^a.length≤2^k*B^(a.length-k/32):=by
    rw[fo,fo,← Nat.pow_add]
    exact Nat.pow_le_pow_right (by omega) (by omega)
   exact Nat.lt_of_lt_of_le h1 h2
  have kt:=l7 (m:=.plain) (a:=zu (a.length-k/32) (val a/2^k)) yU (by rw[zG]; omega)
  rw[yA hlt] at kt
  rw[stH]
  generalize val a/2^k=y at *
  have hge:¬ ((k/32+(a.length-k/32):Nat):Int)<(a.length:Int):=by omega
  generalize k/32+(a.length-k/32)=i at *
  generalize a.length-k/32=n at *
  have hge':¬ i<a.length:=by omega
  simp[Za,hge',Sp,Gn]
  refine zb (Rj kt lP) (by simp) (.inl rfl) ?_
  simp
theorem ab6 {x y j:Nat} (hy:0<y) :
  let r:=2*(x/2^(j+1)%y)+x/2^j%2
  (r<y→x/2^j/y=2*(x/2^(j+1)/y)∧x/2^j%y=r)∧(y≤r→x/2^j/y=2*(x/2^(j+1)/y)+1∧x/2^j%y=r-y):=by
 intro r
 have hX:x/2^j=2*(x/2^(j+1))+x/2^j%2:=by
  have:x/2^(j+1)=x/2^j/2:=by rw[Nat.pow_succ,Nat.div_div_eq_div_mul]
  rw[this]; omega
 have hb:x/2^j%2<2:=Nat.mod_lt _ (by omega)
 have hd:=Nat.div_add_mod (x/2^(j+1)) y
 have hm:=Nat.mod_lt (x/2^(j+1)) hy
 have hr:r=2*(x/2^(j+1)%y)+x/2^j%2:=rfl
 generalize x/2^j%2=b at *
 generalize x/2^(j+1)/y=q at *
 generalize x/2^(j+1)%y=m at *
 generalize x/2^(j+1)=X at *
 generalize x/2^j=Z at *
 have hZ:Z=y*(2*q)+r:=by
  rw[show y*(2*q)=2*(y*q) by rw[Nat.mul_left_comm]]; omega
 clear hX hd
 constructor
 ·intro h
  rw[hZ]
  exact ⟨by rw[Nat.mul_add_div hy,Nat.div_eq_of_lt h,Nat.add_zero],by rw[Nat.mul_add_mod,Nat.mod_eq_of_lt h]⟩
 ·intro h
  have h2:Z=y*(2*q+1)+(r-y):=by rw[Nat.mul_add,Nat.mul_one]; omega
  have h3:r-y<y:=by omega
  rw[h2]
  exact ⟨by rw[Nat.mul_add_div hy,Nat.div_eq_of_lt h3,Nat.add_zero],by rw[Nat.mul_add_mod,Nat.mod_eq_of_lt h3]⟩
theorem BI {x y:Nat} (hy:0<y):x/2^(bl x+1-bl y)<y∧0<bl y:=by
 have h1:=ae6 x
 have hne:y≠0:=by omega
 have hb:bl y=Nat.log2 y+1:=by unfold bl; rw[if_neg hne]
 have h2:=Nat.log2_self_le hne
 refine ⟨Nat.lt_of_lt_of_le ?_ h2,by omega⟩
 apply Nat.div_lt_of_lt_mul
 rw[← Nat.pow_add]
 exact Nat.lt_of_lt_of_le h1 (Nat.pow_le_pow_right (by omega) (by omega))
def qA (t Q:Nat):AV:=if t=0 then .list 0 .full [] else nD Q
def N0 (m1 m2:Am.Mode) (a c:List Nat) (k t:Nat):St :=
 {env:=[(0,nl m1 a),(1,nl m2 c),(8,qA t (val a/2^(k-t)/val c)),(9,nD (val a/2^(k-t)%val c)),(10,iv ((k:Int)-1-t))],sto:=[]}
theorem YA {m1 m2:Am.Mode} {a c:List Nat} (ha:ok a) (hc:ok c) (hna:a.length<68719476736) (hnc:c.length<68719476736) (f1:stm m1=m1) (f2:stm m2=m2) (hD:val c≠0) :
  ze Tryz.prog jl [nl m1 a,nl m2 c] (YB (val a) (val c)):=by
 have hy:0<val c:=by omega
 obtain ⟨s1,s2⟩:=BI (x:=val a) hy
 have b1:=KF ha (by omega) f1
 have b2:=KF hc (by omega) f2
 have hl1:bl (val a)≤32*a.length:=DZ (by rw[← fo]; exact tj ha)
 have hl2:bl (val c)≤32*c.length:=DZ (by rw[← fo]; exact tj hc)
 obtain ⟨k,hk⟩:∃ k,bl (val a)+1-bl (val c)=k:=⟨_,rfl⟩
 have hk2:k≤32*a.length:=by omega
 have hh:=acR (k:=k) ha (by omega) (by omega) f1
 have hcl:¬ c.length=0:=fun h=>by
  rw[List.length_eq_zero_iff] at h
  subst h
  exact hD rfl
 have hcn:¬ c=[]:=fun h=>hcl (by rw[h]; rfl)
 rw[hk] at s1
 have m0:max (1:Int) (bl (val c):Int)=(bl (val c):Int):=by omega
 have w0:IntKind.i64.wrap ((bl (val a):Int)-(bl (val c):Int))=(bl (val a):Int)-(bl (val c):Int):=by rw[wrap64]<;>omega
 have w1:IntKind.i64.wrap ((bl (val a):Int)-(bl (val c):Int)+1)=(bl (val a):Int)-(bl (val c):Int)+1:=by rw[wrap64]<;>omega
 have m1':max (0:Int) ((bl (val a):Int)-(bl (val c):Int)+1)=(k:Int):=by omega
 have w2:IntKind.i64.wrap ((k:Int)-1)=(k:Int)-1:=by rw[wrap64]<;>omega
 refine wN Bq (by simp) ?_
 simp[QC,hcl]
 refine zb b1 (by simp[f1]) (by simp) ?_
 simp
 refine zb b2 (by simp[f2]) (by simp) ?_
 simp[m0,w0,w1,m1']
 refine zb hh (by simp[f1]) (by simp) ?_
 simp[w2]
 have r0:val a/2^k%val c=val a/2^k:=Nat.mod_eq_of_lt s1
 refine zw (N0 m1 m2 a c k) (fun _=>True) k (by simp[N0,qA,r0]) trivial (fun t ht _=>?_) (fun _=>?_)
 ·obtain ⟨j,hj⟩:∃ j,k-1-t=j:=⟨_,rfl⟩
  have hj1:k-t=j+1:=by omega
  have hj2:k-(t+1)=j:=by omega
  have hjz:(k:Int)-1-t=(j:Int):=by omega
  obtain ⟨p1,p2⟩:=ab6 (x:=val a) (j:=j) hy
  have hb:=P2 (m:=m1) (i:=j) ha (by omega) (by omega) f1
  have hQ:val a/2^(j+1)/val c<B^a.length:=Nat.lt_of_le_of_lt (Nat.le_trans (Nat.div_le_self _ _) (Nat.div_le_self _ _)) (tj ha)
  have hR:val a/2^(j+1)%val c<B^c.length:=Nat.lt_trans (Nat.mod_lt _ hy) (tj hc)
  have hbt:val a/2^j%2<2:=Nat.mod_lt _ (by omega)
  have hst:N0 m1 m2 a c k (t+1)={env:=[(0,nl m1 a),(1,nl m2 c),(8,nD (val a/2^j/val c)),(9,nD (val a/2^j%val c)),(10,iv ((j:Int)-1))],sto:=[]}:=by
   rw[N0,hj2,qA,if_neg (by omega),show (k:Int)-1-((t+1:Nat):Int)=(j:Int)-1 by omega]
  rw[N0,hj1,hjz]
  have h2:∀ {z n:Nat},z<B^n→z+z<B^(n+1)∧z+z+1<B^(n+1):=fun {z n} h=>by
   rw[Nat.pow_succ]
   have:B^n*2≤B^n*B:=Nat.mul_le_mul_left _ (by decide)
   omega
  have q0:t=0→val a/2^(j+1)/val c=0:=fun h=>by
   have:j+1=k:=by omega
   rw[this]; exact Nat.div_eq_of_lt s1
  generalize val a/2^(j+1)/val c=Q at *
  generalize val a/2^(j+1)%val c=R at *
  generalize val a/2^j%2=d at *
  have lQ:=zI.2 hQ
  have lR:=zI.2 hR
  have lQQ:=zI.2 (h2 hQ).1
  have lRR:=zI.2 (h2 hR).1
  have lRR1:(zh (R+R+d)).length≤c.length+1:=zI.2 (by have:=h2 hR; omega)
  have ld:(zh d).length≤1:=zI.2 (by rw[Nat.pow_one,yc]; omega)
  have kq:=dq (m1:=.plain) (m2:=.plain) (zC Q) (zC Q) (by omega) (by omega) rfl rfl
  have kr:=dq (m1:=.plain) (m2:=.plain) (zC R) (zC R) (by omega) (by omega) rfl rfl
  have kf:=cA (x:=d) (by omega)
  have kr2:=dq (m1:=.plain) (m2:=.plain) (zC (R+R)) (zC d) (by omega) (by omega) rfl rfl
  have kc:=EO (m1:=.plain) (m2:=m2) (zC (R+R+d)) hc (by omega) (by omega) rfl f2
  have ks:=Mq (m1:=.plain) (m2:=m2) (zC (R+R+d)) hc (by omega) (by omega) rfl f2
  have kf1:=cA (x:=1) (by omega)
  have l1:(zh 1).length≤1:=zI.2 (by decide)
  have kq1:=dq (m1:=.plain) (m2:=.plain) (zC (Q+Q)) (zC 1) (by omega) (by omega) rfl rfl
  simp only[zM] at kq kr kr2 kc ks kq1
  have w3:IntKind.i64.wrap ((j:Int)-1)=(j:Int)-1:=by rw[wrap64]<;>omega
  have kq':ze Tryz.prog nZ [qA t Q,qA t Q] (nD (Q+Q))∧qA t Q=(if t=0 then .list 0 .full [] else nD Q):=by
   refine ⟨?_,rfl⟩
   unfold qA
   split
   ·rename_i h0
    have hq0:=q0 h0
    subst hq0
    exact aa (gC kq (pm (sz:=0))) (pm (sz:=0))
   ·exact kq
  have hsn:vM (fun _=>none) (qA t Q)=some (qA t Q):=by unfold qA; split<;>simp
  have hrf:([qA t Q,qA t Q]:List AV).any fH=false:=by unfold qA; split<;>simp
  simp[eg]
  refine zb kq'.1 (by simp[hsn]) (.inl hrf) ?_
  simp
  refine zb kr (by simp) (by simp) ?_
  simp
  refine zb hb (by simp[f1]) (by simp) ?_
  simp
  refine zb kf (by simp) (by simp) ?_
  simp
  refine zb kr2 (by simp) (by simp) ?_
  simp
  refine zb kc (by simp[f2]) (by simp) ?_
  have e2:R+R+d=2*R+d:=by omega
  have e3:Q+Q=2*Q:=by omega
  by_cases hlt:R+R+d<val c
  ·have hcm:¬ (0:Int)≤xB (R+R+d) (val c):=by simp[xB,hlt]
   obtain ⟨g1,g2⟩:=p1 (by omega)
   rw[g1,g2,← e2,← e3] at hst
   simp[hcm,w3,hst]
  ·have hcm:(0:Int)≤xB (R+R+d) (val c):=by simp only[xB,if_neg hlt]; split<;>omega
   obtain ⟨g1,g2⟩:=p2 (by omega)
   rw[g1,g2,← e2,← e3] at hst
   simp[hcm]
   refine zb ks (by simp[f2]) (by simp) ?_
   simp
   refine zb kf1 (by simp) (by simp) ?_
   simp
   refine zb kq1 (by simp) (by simp) ?_
   simp[w3,hst]
 ·have hkk:¬ (k:Int)≤(k:Int)-1:=by omega
  have e0:¬ (0:Int)≤(k:Int)-1-k:=by omega
  simp[eg,N0,hkk,Xx,Pl]
  rcases Nat.eq_zero_or_pos k with h0 | h0
  ·subst h0
   have hz:val a/val c=0:=by rw[Nat.pow_zero,Nat.div_one] at s1; exact Nat.div_eq_of_lt s1
   simp[qA]
   rw[YB,hz]
   exact JG pm AV.imp.refl AV.imp.refl
  ·have hk0:¬ k=0:=by omega
   simp[qA,hk0]
   exact AV.imp.refl
theorem Nn {A D:Nat} (hna:(zh A).length<68719476736) (hnc:(zh D).length<68719476736) :
  ze Tryz.prog ge [nD A,nD D] (nD (Nat.gcd A D)):=by
 obtain ⟨N,h1,h2⟩:=Ai D A
 obtain ⟨L,hL⟩:∃ L,L=68719476735:=⟨_,rfl⟩
 have hL1:A<B^L:=zI.1 (by omega)
 have hL2:D<B^L:=zI.1 (by omega)
 have hb:=fun k=>Ch k A D hL1 hL2
 have hlen:∀ x,x<B^L→(zh x).length<68719476736:=fun x hx=>Nat.lt_of_le_of_lt (zI.2 hx) (by omega)
 have hg:=hlen _ (show Nat.gcd A D<B^L by have:=(hb N).1; rw[h2] at this; exact this)
 refine zn ahK (by simp) ?_
 simp[EJ]
 refine zw (fun k=>stG (eu A D k)) (fun _=>True) N (by simp[stG,eu]) trivial (fun k hk _=>?_) (fun _=>?_)
 ·have hne:=h1 k hk
  obtain ⟨b1,b2⟩:=hb k
  have b1':=hlen _ b1
  have b2':=hlen _ b2
  have hs:=Ni k A D
  obtain ⟨x,hx⟩:∃ x,(eu A D k).1=x:=⟨_,rfl⟩
  obtain ⟨y,hy⟩:∃ y,(eu A D k).2=y:=⟨_,rfl⟩
  rw[hx,hy] at hs
  rw[hx] at b1'
  rw[hy] at b2' hne
  have kd:=YA (m1:=.plain) (m2:=.plain) (zC x) (zC y) b1' b2' rfl rfl (by rw[zM]; exact hne)
  rw[zM,zM] at kd
  have hl0:0<(zh y).length:=by
   rcases Nat.eq_zero_or_pos (zh y).length with h | h
   ·rw[List.length_eq_zero_iff,xA] at h; exact absurd h hne
   ·exact h
  simp[Yv,stG,hl0,hx,hy]
  refine zb kd (by simp) (by simp) ?_
  simp[hs]
 ·simp only[h2]
  have kt:=l7 (m:=.plain) (zC (Nat.gcd A D)) (by omega)
  rw[zM] at kt
  simp[Yv,QD,DE,stG,yF]
  refine zb kt (by simp) (by simp) ?_
  simp
theorem cG {neg:Bool} {N D:Nat} (hN:(zh N).length<68719476736) (hD:(zh D).length<68719476736) (h0:D≠0) :
  ze Tryz.prog lr [bv neg,nD N,nD D] (.tuple [wL neg N D,iv 0]):=by
 obtain ⟨g0,g1,g2⟩:=JB (N:=N) h0
 have kg:=Nn hN hD
 have hgl:(zh (Nat.gcd N D)).length<68719476736:=by
  have h1:D<B^(zh D).length:=zI.1 (Nat.le_refl _)
  exact Nat.lt_of_le_of_lt (zI.2 (Nat.lt_of_le_of_lt g2 h1)) hD
 have hl0:¬ (zh D).length=0:=by rw[List.length_eq_zero_iff,xA]; exact h0
 have hl1:¬ zh D=[]:=by rw[xA]; exact h0
 unfold wL
 have hz:(zh (N/Nat.gcd N D)).length=0↔N=0:=by rw[List.length_eq_zero_iff,xA]; exact g1
 generalize Nat.gcd N D=g at *
 have kn:=YA (m1:=.plain) (m2:=.plain) (zC N) (zC g) (by omega) (by omega) rfl rfl (by rw[zM]; exact g0)
 have kd:=YA (m1:=.plain) (m2:=.plain) (zC D) (zC g) (by omega) (by omega) rfl rfl (by rw[zM]; exact g0)
 simp only[zM] at kn kd
 refine zn aeT (by simp) ?_
 simp[KN,hl0]
 refine zb kg (by simp) (by simp) ?_
 simp
 refine zb kn (by simp) (by simp) ?_
 simp
 refine zb kd (by simp) (by simp) ?_
 cases neg
 ·simp[Y2]
 ·by_cases hN0:N=0
  ·subst hN0
   simp[Y2,yF]
  ·have:0<(zh N).length:=by
    rcases Nat.eq_zero_or_pos (zh N).length with h | h
    ·rw[List.length_eq_zero_iff,xA] at h; exact absurd h hN0
    ·exact h
   simp[Y2,this,hN0]
theorem Pt {n:Int} (h1:-9223372036854775808≤n) (h2:n<9223372036854775808):ze Tryz.prog Yg [iv n] (nD n.natAbs):=by
 obtain ⟨x,hx⟩:∃ x,n.natAbs=x:=⟨_,rfl⟩
 have hxl:x<18446744073709551616:=by omega
 have k:=cA (x:=x) hxl
 rw[hx]
 refine zn aeW (by simp) ?_
 by_cases h:n<0
 ·have w1:IntKind.i64.wrap (n+1)=n+1:=by rw[wrap64]<;>omega
  have w2:IntKind.i64.wrap (-(n+1))=(x:Int)-1:=by rw[wrap64]<;>omega
  have w2':IntKind.i64.wrap (-1+-n)=(x:Int)-1:=by rw[wrap64]<;>omega
  have w3:IntKind.u64.wrap ((x:Int)-1)=(x:Int)-1:=by rw[va]<;>omega
  have w4:IntKind.u64.wrap (x:Int)=x:=w64 hxl
  simp[S2,h,w1,J1,w2,w3,w4]
  refine zb k (by simp) (by simp) ?_
  simp[RJ]
 ·have w4:IntKind.u64.wrap n=(x:Int):=by rw[va]<;>omega
  simp[S2,h,w4]
  refine zb k (by simp) (by simp) ?_
  simp[RJ]
theorem ags {n d:Int} (h1:-9223372036854775808≤n) (h2:n<9223372036854775808) (h3:-9223372036854775808≤d) (h4:d<9223372036854775808) (h0:d≠0) :
  ze Tryz.prog PW [iv n,iv d] (.tuple [wL (decide (n<0) != decide (d<0)) n.natAbs d.natAbs,iv 0]):=by
 have k1:=Pt h1 h2
 have k2:=Pt h3 h4
 have l1:=eS (x:=n.natAbs) (by omega)
 have l2:=eS (x:=d.natAbs) (by omega)
 have k3:=cG (neg:=decide (n<0) != decide (d<0)) (N:=n.natAbs) (D:=d.natAbs) (by omega) (by omega) (by omega)
 unfold wL at *
 generalize n.natAbs/Nat.gcd n.natAbs d.natAbs=p at *
 generalize d.natAbs/Nat.gcd n.natAbs d.natAbs=q at *
 generalize hb:(decide (n<0) != decide (d<0))=b at *
 refine zn ahF (by simp) ?_
 have hu:Tryz.prog.underlying mI=some .bool:=by first | exact un_T_bool | rfl | kernel_rfl
 have hb':(!(decide (n<0) == decide (d<0)))=b:=hb
 simp[EE,wV hu]
 rw[hb']
 refine zb k1 (by simp) (by simp) ?_
 simp
 refine zb k2 (by simp) (by simp) ?_
 simp
 refine zb k3 (by simp) (by simp) ?_
 simp[DA]
theorem FJ {n:Int} (h1:-9223372036854775808≤n) (h2:n<9223372036854775808):ze Tryz.prog xz [iv n] (wL (decide (n<0)) n.natAbs 1):=by
 have k:=ags (n:=n) (d:=1) h1 h2 (by decide) (by decide) (by decide)
 have e:(decide (n<0) != decide ((1:Int)<0))=decide (n<0):=by simp
 rw[e,show (1:Int).natAbs=1 from rfl] at k
 unfold wL at *
 generalize n.natAbs/Nat.gcd n.natAbs 1=p at *
 generalize 1/Nat.gcd n.natAbs 1=q at *
 refine zn Ei (by simp) ?_
 simp[Sl]
 refine zb k (by simp) (by simp) ?_
 simp[SJ]
theorem A8 {s:Bool} {N D:Nat} (hN:(zh N).length<68719476736) (hD:(zh D).length<68719476736) (h0:D≠0):ze Tryz.prog Tl [frA s N D] (wL (!s) N D):=by
 have k:=mi (neg:=!s) hN hD h0
 unfold wL at *
 generalize N/Nat.gcd N D=p at *
 generalize D/Nat.gcd N D=q at *
 refine zn ahu (by simp) ?_
 simp[Ew]
 refine zb k (by simp) (by simp) ?_
 simp[Du]
theorem rh {x y n m:Nat} (hx:(zh x).length≤n) (hy:(zh y).length≤m):(zh (x*y)).length≤n+m:=zI.2 (by
 rw[Nat.pow_add]; exact Nat.mul_lt_mul_of_lt_of_lt (zI.1 hx) (zI.1 hy))
theorem Cw {s t:Bool} {N D M E:Nat} (hN:(zh N).length<17179869184) (hD:(zh D).length<17179869184) (hM:(zh M).length<17179869184) (hE:(zh E).length<17179869184) (h0:D≠0) (h1:E≠0) :
  ze Tryz.prog dk [frA s N D,frA t M E] (wL (!(s == t)) (N*M) (D*E)):=by
 have l1:=rh (Nat.le_refl (zh N).length) (Nat.le_refl (zh M).length)
 have l2:=rh (Nat.le_refl (zh D).length) (Nat.le_refl (zh E).length)
 have h2:D*E≠0:=Nat.mul_ne_zero h0 h1
 have k1:=fM (m1:=.plain) (m2:=.plain) (zC N) (zC M) (by omega) (by omega) (by omega) rfl rfl
 have k2:=fM (m1:=.plain) (m2:=.plain) (zC D) (zC E) (by omega) (by omega) (by omega) rfl rfl
 simp only[zM] at k1 k2
 have k:=mi (neg:=!(s == t)) (N:=N*M) (D:=D*E) (by omega) (by omega) h2
 unfold wL at *
 generalize N*M/Nat.gcd (N*M) (D*E)=p at *
 generalize D*E/Nat.gcd (N*M) (D*E)=q at *
 refine zn aht (by simp) ?_
 simp[Ev,wV rn]
 refine zb k1 (by simp) (by simp) ?_
 simp
 refine zb k2 (by simp) (by simp) ?_
 simp
 refine zb k (by simp) (by simp) ?_
 simp[Dt]
theorem Ss {s t:Bool} {N D M E:Nat} (hN:(zh N).length<17179869184) (hD:(zh D).length<17179869184) (hM:(zh M).length<17179869184) (hE:(zh E).length<17179869184) :
  ze Tryz.prog bu [frA s N D,frA t M E] (.tuple [nD (N*E),nD (M*D)]):=by
 have k1:=fM (m1:=.plain) (m2:=.plain) (zC N) (zC E) (by omega) (by omega) (by omega) rfl rfl
 have k2:=fM (m1:=.plain) (m2:=.plain) (zC M) (zC D) (by omega) (by omega) (by omega) rfl rfl
 simp only[zM] at k1 k2
 refine zn abx (by simp) ?_
 simp[MH]
 refine zb k1 (by simp) (by simp) ?_
 simp
 refine zb k2 (by simp) (by simp) ?_
 simp[Lh]
def PY (s:Bool) (N D:Nat) (t:Bool) (M E:Nat):AV :=
 if s=t then wL s (N*E+M*D) (D*E) else if N*E<M*D then wL t (M*D-N*E) (D*E) else wL s (N*E-M*D) (D*E)
theorem Eo {x y n:Nat} (hx:(zh x).length≤n) (hy:(zh y).length≤n):(zh (x+y)).length≤n+1:=zI.2 (by
 have h1:=zI.1 hx
 have h2:=zI.1 hy
 rw[Nat.pow_succ]
 have:B^n*2≤B^n*B:=Nat.mul_le_mul_left _ (by decide)
 omega)
theorem T5 {x y n:Nat} (hx:(zh x).length≤n):(zh (x-y)).length≤n:=zI.2 (Nat.lt_of_le_of_lt (Nat.sub_le _ _) (zI.1 hx))
theorem lN (s:Bool) (N D:Nat):∃ b p q,wL s N D=.agg [bv b,nD p,nD q]:=⟨_,_,_,rfl⟩
theorem DV {s t:Bool} {N D M E:Nat} (hN:(zh N).length<17179869184) (hD:(zh D).length<17179869184) (hM:(zh M).length<17179869184) (hE:(zh E).length<17179869184) (h0:D≠0) (h1:E≠0) :
  ze Tryz.prog l8 [frA s N D,frA t M E] (PY s N D t M E):=by
 have l1:=rh (Nat.le_refl (zh N).length) (Nat.le_refl (zh E).length)
 have l2:=rh (Nat.le_refl (zh M).length) (Nat.le_refl (zh D).length)
 have l3:=rh (Nat.le_refl (zh D).length) (Nat.le_refl (zh E).length)
 have h2:D*E≠0:=Nat.mul_ne_zero h0 h1
 have kx:=Ss (s:=s) (t:=t) hN hD hM hE
 have kd:=fM (m1:=.plain) (m2:=.plain) (zC D) (zC E) (by omega) (by omega) (by omega) rfl rfl
 simp only[zM] at kd
 have l4:=Eo (n:=34359738368) (show (zh (N*E)).length≤34359738368 by omega) (show (zh (M*D)).length≤34359738368 by omega)
 have l5:=T5 (y:=M*D) l1
 have l6:=T5 (y:=N*E) l2
 have ka:=bA (m1:=.plain) (m2:=.plain) (zC (N*E)) (zC (M*D)) (by omega) (by omega)
 have ks:=Lz (m1:=.plain) (m2:=.plain) (zC (N*E)) (zC (M*D)) (by omega) (by omega)
 have ks2:=Lz (m1:=.plain) (m2:=.plain) (zC (M*D)) (zC (N*E)) (by omega) (by omega)
 simp only[zM] at ka ks ks2
 have m1:=mi (neg:=s) (N:=N*E+M*D) (D:=D*E) (by omega) (by omega) h2
 have m2:=mi (neg:=s) (N:=N*E-M*D) (D:=D*E) (by omega) (by omega) h2
 have m3:=mi (neg:=t) (N:=M*D-N*E) (D:=D*E) (by omega) (by omega) h2
 unfold PY
 refine zn ahr (by simp) ?_
 generalize N*E=x at *
 generalize M*D=y at *
 generalize D*E=d at *
 by_cases hst:s=t
 ·have e:(s == t)=true:=by simp[hst]
  obtain ⟨b,p,q,hf⟩:=lN s (x+y) d
  rw[if_pos hst,hf]
  rw[hf] at m1
  simp[P3]
  refine zb kx (by simp) (by simp) ?_
  simp
  refine zb kd (by simp) (by simp) ?_
  simp[lb rn,e]
  refine zb ka (by simp) (by simp) ?_
  simp
  refine zb m1 (by simp) (by simp) ?_
  simp[TQ]
 ·have e:(s == t)=false:=by simp[hst]
  rw[if_neg hst]
  simp[P3]
  refine zb kx (by simp) (by simp) ?_
  simp
  refine zb kd (by simp) (by simp) ?_
  simp[lb rn,e]
  refine zb ks (by simp) (by simp) ?_
  by_cases hlt:x<y
  ·obtain ⟨b,p,q,hf⟩:=lN t (y-x) d
   rw[if_pos hlt,hf]
   rw[hf] at m3
   have hge:¬ y<x:=by omega
   rw[if_neg hge] at ks2
   simp[hlt]
   refine zb ks2 (by simp) (by simp) ?_
   simp
   refine zb m3 (by simp) (by simp) ?_
   simp[TQ]
  ·obtain ⟨b,p,q,hf⟩:=lN s (x-y) d
   rw[if_neg hlt,hf]
   rw[hf] at m2
   simp[hlt]
   refine zb m2 (by simp) (by simp) ?_
   simp[TQ]
theorem agq {s:Bool} {N D:Nat} (hN:(zh N).length<68719476736) (_hD:(zh D).length<68719476736):ze Tryz.prog Tq [frA s N D] (frA (!s&&decide (N≠0)) N D):=by
 refine zn ahE (by simp) ?_
 cases s
 ·by_cases h0:N=0
  ·subst h0
   simp[Tx,TT,yF]
  ·have:0<(zh N).length:=by
    rcases Nat.eq_zero_or_pos (zh N).length with h | h
    ·rw[List.length_eq_zero_iff,xA] at h; exact absurd h h0
    ·exact h
   simp[Tx,TT,this,h0]
 ·simp[Tx,TT]
theorem ac4 {s t:Bool} {N D M E:Nat} (hN:(zh N).length<17179869184) (hD:(zh D).length<17179869184) (hM:(zh M).length<17179869184) (hE:(zh E).length<17179869184) (h0:D≠0) (h1:E≠0) :
  ze Tryz.prog dm [frA s N D,frA t M E] (wL (!(s == t)) (N*M) (D*E)):=by
 have l1:=rh (Nat.le_refl (zh N).length) (Nat.le_refl (zh M).length)
 have l2:=rh (Nat.le_refl (zh D).length) (Nat.le_refl (zh E).length)
 have h2:D*E≠0:=Nat.mul_ne_zero h0 h1
 have k1:=ZZ (m1:=.plain) (m2:=.plain) (zC N) (zC M) (by omega) rfl rfl
 have k2:=ZZ (m1:=.plain) (m2:=.plain) (zC D) (zC E) (by omega) rfl rfl
 simp only[zM] at k1 k2
 have k:=cG (neg:=!(s == t)) (N:=N*M) (D:=D*E) (by omega) (by omega) h2
 obtain ⟨b,p,q,hf⟩:=lN (!(s == t)) (N*M) (D*E)
 rw[hf] at k ⊢
 refine zn ahD (by simp) ?_
 simp[ED,wV rn]
 refine zb k1 (by simp) (by simp) ?_
 simp
 refine zb k2 (by simp) (by simp) ?_
 simp
 refine zb k (by simp) (by simp) ?_
 simp[Dz]
theorem abT {s t:Bool} {N D M E:Nat} (hN:(zh N).length<17179869184) (hD:(zh D).length<17179869184) (hM:(zh M).length<17179869184) (hE:(zh E).length<17179869184) (h0:D≠0) (h1:E≠0) :
  ze Tryz.prog nY [frA s N D,frA t M E] (PY s N D t M E):=by
 have l1:=rh (Nat.le_refl (zh N).length) (Nat.le_refl (zh E).length)
 have l2:=rh (Nat.le_refl (zh M).length) (Nat.le_refl (zh D).length)
 have l3:=rh (Nat.le_refl (zh D).length) (Nat.le_refl (zh E).length)
 have h2:D*E≠0:=Nat.mul_ne_zero h0 h1
 have kx:=ZZ (m1:=.plain) (m2:=.plain) (zC N) (zC E) (by omega) rfl rfl
 have ky:=ZZ (m1:=.plain) (m2:=.plain) (zC M) (zC D) (by omega) rfl rfl
 have kd:=ZZ (m1:=.plain) (m2:=.plain) (zC D) (zC E) (by omega) rfl rfl
 simp only[zM] at kd kx ky
 have l4:=Eo (n:=34359738368) (show (zh (N*E)).length≤34359738368 by omega) (show (zh (M*D)).length≤34359738368 by omega)
 have l5:=T5 (y:=M*D) l1
 have l6:=T5 (y:=N*E) l2
 have ka:=dq (m1:=.plain) (m2:=.plain) (zC (N*E)) (zC (M*D)) (by omega) (by omega) rfl rfl
 have ks:=Mq (m1:=.plain) (m2:=.plain) (zC (N*E)) (zC (M*D)) (by omega) (by omega) rfl rfl
 have ks2:=Mq (m1:=.plain) (m2:=.plain) (zC (M*D)) (zC (N*E)) (by omega) (by omega) rfl rfl
 simp only[zM] at ka ks ks2
 have m1:=cG (neg:=s) (N:=N*E+M*D) (D:=D*E) (by omega) (by omega) h2
 have m2:=cG (neg:=s) (N:=N*E-M*D) (D:=D*E) (by omega) (by omega) h2
 have m3:=cG (neg:=t) (N:=M*D-N*E) (D:=D*E) (by omega) (by omega) h2
 unfold PY
 refine zn ahB (by simp) ?_
 generalize N*E=x at *
 generalize M*D=y at *
 generalize D*E=d at *
 by_cases hst:s=t
 ·have e:(s == t)=true:=by simp[hst]
  obtain ⟨b,p,q,hf⟩:=lN s (x+y) d
  rw[if_pos hst,hf]
  rw[hf] at m1
  simp[P6]
  refine zb kx (by simp) (by simp) ?_
  simp
  refine zb ky (by simp) (by simp) ?_
  simp
  refine zb kd (by simp) (by simp) ?_
  simp[lb rn,e]
  refine zb ka (by simp) (by simp) ?_
  simp
  refine zb m1 (by simp) (by simp) ?_
  simp[TS]
 ·have e:(s == t)=false:=by simp[hst]
  rw[if_neg hst]
  simp[P6]
  refine zb kx (by simp) (by simp) ?_
  simp
  refine zb ky (by simp) (by simp) ?_
  simp
  refine zb kd (by simp) (by simp) ?_
  simp[lb rn,e]
  refine zb ks (by simp) (by simp) ?_
  by_cases hlt:x<y
  ·obtain ⟨b,p,q,hf⟩:=lN t (y-x) d
   rw[if_pos hlt,hf]
   rw[hf] at m3
   have hge:¬ y≤x:=by omega
   simp[hge]
   refine zb ks2 (by simp) (by simp) ?_
   simp
   refine zb m3 (by simp) (by simp) ?_
   simp[TS]
  ·obtain ⟨b,p,q,hf⟩:=lN s (x-y) d
   rw[if_neg hlt,hf]
   rw[hf] at m2
   have hle:y≤x:=by omega
   simp[hle]
   refine zb m2 (by simp) (by simp) ?_
   simp[TS]
theorem Df (p q:Rat):wL (!(decide (p.num<0) == decide (q.num<0))) (p.num.natAbs*q.num.natAbs) (p.den*q.den)=xe (p*q):=by
 have h:p.den*q.den≠0:=Nat.mul_ne_zero p.den_nz q.den_nz
 rw[kV h,Rat.mul_def']
 congr 2
 have e1:=cX p.num
 have e2:=cX q.num
 generalize p.num.natAbs=x at *
 generalize q.num.natAbs=y at *
 generalize decide (p.num<0)=s at *
 generalize decide (q.num<0)=t at *
 rw[← e1,← e2]
 cases s<;>cases t<;>simp[sg,Int.neg_mul,Int.mul_neg]
theorem Ep (p q:Rat):PY (decide (p.num<0)) p.num.natAbs p.den (decide (q.num<0)) q.num.natAbs q.den=xe (p+q):=by
 have h:p.den*q.den≠0:=Nat.mul_ne_zero p.den_nz q.den_nz
 have e1:=cX p.num
 have e2:=cX q.num
 unfold PY
 rw[kV h,kV h,kV h,Rat.add_def']
 generalize p.num.natAbs=x at *
 generalize q.num.natAbs=y at *
 generalize decide (p.num<0)=s at *
 generalize decide (q.num<0)=t at *
 rw[← e1,← e2]
 have a1:((x*q.den:Nat):Int)=(x:Int)*q.den:=Int.natCast_mul _ _
 have a2:((y*p.den:Nat):Int)=(y:Int)*p.den:=Int.natCast_mul _ _
 generalize hX:x*q.den=X at *
 generalize hY:y*p.den=Y at *
 cases s<;>cases t
 ·simp only[if_true]; congr 2; simp[sg]; omega
 ·simp only[Bool.false_eq_true,if_false]
  split<;>(congr 2; simp only[sg,if_true,Bool.false_eq_true,if_false,Int.neg_mul]; omega)
 ·simp only[Bool.true_eq_false,if_false]
  split<;>(congr 2; simp only[sg,if_true,Bool.false_eq_true,if_false,Int.neg_mul]; omega)
 ·simp only[if_true]; congr 2; simp only[sg,if_true,Int.neg_mul]; omega
end Go.Proofs.YtpnliopaifpimaaGreat

namespace Go.LP
def zx:Nat→(Nat→Rat)→Rat
 | 0,_=>0
 | n+1,f=>zx n f+f n
theorem yg {n:Nat} {f g:Nat→Rat} (h:∀ i,i<n→f i=g i):zx n f=zx n g:=by
 induction n with
 | zero=>rfl
 | succ n ih=>simp only[zx]; rw[ih fun i hi=>h i (by omega),h n (by omega)]
theorem xg {n:Nat} {f:Nat→Rat} (h:∀ i,i<n→f i=0):zx n f=0:=by
 induction n with
 | zero=>rfl
 | succ n ih=>simp only[zx]; rw[ih fun i hi=>h i (by omega),h n (by omega)]; grind
theorem RY {n:Nat} {f g:Nat→Rat}:zx n (fun i=>f i+g i)=zx n f+zx n g:=by
 induction n with
 | zero=>simp only[zx]; grind
 | succ n ih=>simp only[zx]; rw[ih]; grind
theorem c9 {n:Nat} {f:Nat→Rat} {k:Rat}:zx n (fun i=>k*f i)=k*zx n f:=by
 induction n with
 | zero=>simp only[zx]; grind
 | succ n ih=>simp only[zx]; rw[ih]; grind
theorem U7 {n:Nat} {f:Nat→Rat} {k:Rat}:zx n (fun i=>f i*k)=zx n f*k:=by
 induction n with
 | zero=>simp only[zx]; grind
 | succ n ih=>simp only[zx]; rw[ih]; grind
theorem ba {n:Nat} {f g:Nat→Rat}:zx n (fun i=>f i-g i)=zx n f-zx n g:=by
 induction n with
 | zero=>simp only[zx]; grind
 | succ n ih=>simp only[zx]; rw[ih]; grind
theorem U6 {n m:Nat} {f:Nat→Nat→Rat}:zx n (fun i=>zx m (f i))=zx m (fun j=>zx n fun i=>f i j):=by
 induction n with
 | zero=>simp only[zx]; exact (xg fun _ _=>rfl).symm
 | succ n ih=>simp only[zx]; rw[ih,← RY]
theorem fk {n:Nat} {f:Nat→Rat} (h:∀ i,i<n→0≤f i):0≤zx n f:=by
 induction n with
 | zero=>simp only[zx]; grind
 | succ n ih=>simp only[zx]; have:=ih fun i hi=>h i (by omega); have:=h n (by omega); grind
theorem Z3 {n:Nat} {f g:Nat→Rat} (h:∀ i,i<n→f i≤g i):zx n f≤zx n g:=by
 induction n with
 | zero=>simp only[zx]; grind
 | succ n ih=>simp only[zx]; have:=ih fun i hi=>h i (by omega); have:=h n (by omega); grind
theorem yP {n q:Nat} {f:Nat→Rat} (hq:q<n):zx n f=f q+zx n (fun j=>if j=q then 0 else f j):=by
 induction n with
 | zero=>omega
 | succ n ih =>
  simp only[zx]
  by_cases h:q=n
  ·subst h
   rw[if_pos rfl,yg (f:=fun j=>if j=q then 0 else f j) (g:=f) fun i hi=>if_neg (by omega)]
   grind
  ·rw[ih (by omega),if_neg (fun e=>h e.symm)]
   grind
theorem pn {n q:Nat} {f:Nat→Rat} (hq:q<n) (h:∀ i,i<n→i≠q→f i=0):zx n f=f q:=by
 rw[yP hq,xg (f:=fun j=>if j=q then 0 else f j) fun i hi=>by
  by_cases e:i=q
  ·exact if_pos e
  ·rw[if_neg e]; exact h i hi e]
 grind
theorem PH {n:Nat} {f:Nat→Rat} (h:zx n f<0):∃ i,i<n∧f i<0:=by
 induction n with
 | zero=>simp only[zx] at h; grind
 | succ n ih =>
  simp only[zx] at h
  by_cases h1:zx n f<0
  ·obtain ⟨i,hi,hf⟩:=ih h1; exact ⟨i,by omega,hf⟩
  ·exact ⟨n,by omega,by grind⟩
structure yI where
 r:Nat
 c:Nat
 a:Nat→Nat→Rat
 b:Nat→Rat
 cst:Nat→Rat
 v:Rat
 bas:Nat→Nat
 fre:Nat→Nat
def sol (d:yI) (x:Nat→Rat):Prop:=∀ i,i<d.r→x (d.bas i)=d.b i-zx d.c fun j=>d.a i j*x (d.fre j)
def obj (d:yI) (x:Nat→Rat):Rat:=d.v+zx d.c fun j=>d.cst j*x (d.fre j)
def Bij (d:yI) (N:Nat):Prop:=∀ g:Nat→Rat,zx N g=zx d.c (fun j=>g (d.fre j))+zx d.r (fun i=>g (d.bas i))
def upd {α:Type} (f:Nat→α) (p:Nat) (x:α):Nat→α:=fun i=>if i=p then x else f i
def pivot (d:yI) (p q:Nat):yI where
 r:=d.r
 c:=d.c
 a:=fun i j=>if i=p then (if j=q then 1/d.a p q else d.a p j*(1/d.a p q)) else (if j=q then -(d.a i q*(1/d.a p q)) else d.a i j-d.a i q*(d.a p j*(1/d.a p q)))
 b:=fun i=>if i=p then d.b p*(1/d.a p q) else d.b i-d.a i q*(d.b p*(1/d.a p q))
 cst:=fun j=>if j=q then -(d.cst q*(1/d.a p q)) else d.cst j-d.cst q*(d.a p j*(1/d.a p q))
 v:=d.v+d.cst q*(d.b p*(1/d.a p q))
 bas:=upd d.bas p (d.fre q)
 fre:=upd d.fre q (d.bas p)
theorem SG {d:yI} {p q:Nat} (h:d.a p q≠0):pivot (pivot d p q) p q=d:=by
 cases d with
 | mk r c a b cst v bas fre =>
  simp only at h
  simp only[pivot,yI.mk.injEq,upd,if_true,true_and]
  refine ⟨?_,?_,?_,?_,?_,?_⟩
  ·funext i j
   by_cases hi:i=p<;>by_cases hj:j=q<;>simp only[hi,hj,if_true,if_false]<;>grind
  ·funext i
   by_cases hi:i=p<;>simp only[hi,if_true,if_false]<;>grind
  ·funext j
   by_cases hj:j=q<;>simp only[hj,if_true,if_false]<;>grind
  ·grind
  ·funext i; by_cases hi:i=p<;>simp[upd,hi]
  ·funext i; by_cases hi:i=q<;>simp[upd,hi]
theorem Lf {d:yI} {p q N:Nat} (hp:p<d.r) (hq:q<d.c) (h:Bij d N):Bij (pivot d p q) N:=by
 intro g
 rw[h g]
 simp only[pivot]
 rw[yP (f:=fun j=>g (d.fre j)) hq,yP (f:=fun j=>g (d.bas j)) hp,yP (f:=fun j=>g (upd d.fre q (d.bas p) j)) hq,
  yP (f:=fun j=>g (upd d.bas p (d.fre q) j)) hp]
 have e1:zx d.c (fun j=>if j=q then 0 else g (upd d.fre q (d.bas p) j))=zx d.c (fun j=>if j=q then 0 else g (d.fre j)):=yg fun i _=>by
  by_cases e:i=q<;>simp[e,upd]
 have e2:zx d.r (fun j=>if j=p then 0 else g (upd d.bas p (d.fre q) j))=zx d.r (fun j=>if j=p then 0 else g (d.bas j)):=yg fun i _=>by
  by_cases e:i=p<;>simp[e,upd]
 rw[e1,e2]
 simp only[upd,if_true]
 grind
theorem Lx {d:yI} {p q:Nat} (hp:p<d.r) (hq:q<d.c) (h:d.a p q≠0) {x:Nat→Rat} (hs:sol d x):sol (pivot d p q) x:=by
 have e0:=hs p hp
 rw[yP hq] at e0
 have k1:∀ (k:Rat),zx d.c (fun j=>if j=q then 0 else k*d.a p j*x (d.fre j))=k*zx d.c (fun j=>if j=q then 0 else d.a p j*x (d.fre j)):=fun k=>by
  rw[← c9]
  exact yg fun j _=>by by_cases e:j=q<;>simp[e]; grind
 intro i hi
 simp only[pivot] at hi ⊢
 rw[yP hq]
 by_cases hip:i=p
 ·subst hip
  have e1:zx d.c (fun j=>if j=q then 0 else (if i=i then (if j=q then 1/d.a i q else d.a i j*(1/d.a i q)) else (if j=q then -(d.a i q*(1/d.a i q)) else d.a i j-d.a i q*(d.a i j*(1/d.a i q))))*x (upd d.fre q (d.bas i) j))
    = (1/d.a i q)*zx d.c (fun j=>if j=q then 0 else d.a i j*x (d.fre j)):=by
   rw[← k1]
   exact yg fun j _=>by by_cases e:j=q<;>simp[e,upd]; grind
  rw[e1]
  simp only[upd,if_true]
  grind
 ·have e2:=hs i hi
  rw[yP hq] at e2
  have e1:zx d.c (fun j=>if j=q then 0 else (if i=p then (if j=q then 1/d.a p q else d.a p j*(1/d.a p q)) else (if j=q then -(d.a i q*(1/d.a p q)) else d.a i j-d.a i q*(d.a p j*(1/d.a p q))))*x (upd d.fre q (d.bas p) j))
    = zx d.c (fun j=>if j=q then 0 else d.a i j*x (d.fre j))-(d.a i q*(1/d.a p q))*zx d.c (fun j=>if j=q then 0 else d.a p j*x (d.fre j)):=by
   rw[← k1,← ba]
   exact yg fun j _=>by by_cases e:j=q<;>simp[e,upd,hip]<;>grind
  rw[e1]
  simp only[upd,if_true,if_neg hip]
  grind
theorem ey {d:yI} {p q:Nat} (hp:p<d.r) (hq:q<d.c) (h:d.a p q≠0) {x:Nat→Rat}:sol (pivot d p q) x↔sol d x:=by
 constructor
 ·intro hs
  have h2:(pivot d p q).a p q≠0:=by simp only[pivot,if_true]; grind
  have:=Lx (d:=pivot d p q) hp hq h2 hs
  rwa [SG h] at this
 ·exact Lx hp hq h
theorem Lb {d:yI} {p q:Nat} (hp:p<d.r) (hq:q<d.c) (h:d.a p q≠0) {x:Nat→Rat} (hs:sol d x):obj (pivot d p q) x=obj d x:=by
 have e0:=hs p hp
 rw[yP hq] at e0
 have k1:∀ (k:Rat),zx d.c (fun j=>if j=q then 0 else k*d.a p j*x (d.fre j))=k*zx d.c (fun j=>if j=q then 0 else d.a p j*x (d.fre j)):=fun k=>by
  rw[← c9]
  exact yg fun j _=>by by_cases e:j=q<;>simp[e]; grind
 simp only[obj,pivot]
 rw[yP hq,yP (f:=fun j=>d.cst j*x (d.fre j)) hq]
 have e1:zx d.c (fun j=>if j=q then 0 else (if j=q then -(d.cst q*(1/d.a p q)) else d.cst j-d.cst q*(d.a p j*(1/d.a p q)))*x (upd d.fre q (d.bas p) j))
    = zx d.c (fun j=>if j=q then 0 else d.cst j*x (d.fre j))-(d.cst q*(1/d.a p q))*zx d.c (fun j=>if j=q then 0 else d.a p j*x (d.fre j)):=by
  rw[← k1,← ba]
  exact yg fun j _=>by by_cases e:j=q<;>simp[e,upd]<;>grind
 rw[e1]
 simp only[upd,if_true]
 grind
section
variable {d:yI} {N:Nat} (hb:Bij d N)
include hb
theorem bE {k:Nat} (hk:k<N):zx d.c (fun j=>if d.fre j=k then 1 else 0)+zx d.r (fun i=>if d.bas i=k then 1 else 0)=1:=by
 have:=hb fun x=>if x=k then 1 else 0
 rw[pn hk (fun i _ hne=>if_neg hne),if_pos rfl] at this
 exact this.symm
theorem Qg {k:Nat} (hk:N≤k):zx d.c (fun j=>if d.fre j=k then 1 else 0)+zx d.r (fun i=>if d.bas i=k then 1 else 0)=0:=by
 have:=hb fun x=>if x=k then 1 else 0
 rw[xg (fun i hi=>if_neg (by omega))] at this
 exact this.symm
omit hb in
theorem db {n:Nat} {f:Nat→Nat} {k:Nat}:0≤zx n (fun j=>if f j=k then 1 else 0):=fk fun i _=>by split<;>grind
omit hb in
theorem TH {n j:Nat} {f:Nat→Nat} (hj:j<n):1≤zx n (fun i=>if f i=f j then 1 else 0):=by
 rw[yP hj]
 simp only[if_true]
 have:0≤zx n (fun i=>if i=j then 0 else if f i=f j then (1:Rat) else 0):=fk fun i _=>by split<;>(try split)<;>grind
 grind
omit hb in
theorem E3 {n i j:Nat} {f:Nat→Nat} (hi:i<n) (hj:j<n) (hne:i≠j) (he:f i=f j):2≤zx n (fun l=>if f l=f j then 1 else 0):=by
 rw[yP hj,yP (f:=fun l=>if l=j then 0 else if f l=f j then (1:Rat) else 0) hi]
 simp only[if_true,if_neg hne,he]
 have:0≤zx n (fun l=>if l=i then 0 else if l=j then 0 else if f l=f j then (1:Rat) else 0):=fk fun i _=>by split<;>(try split)<;>(try split)<;>grind
 grind
theorem ZR {j:Nat} (hj:j<d.c):d.fre j<N:=by
 rcases Nat.lt_or_ge (d.fre j) N with h | h
 ·exact h
 ·have h1:=Qg hb h
  have h2:=TH (f:=d.fre) hj
  have h3:=db (n:=d.r) (f:=d.bas) (k:=d.fre j)
  grind
theorem dL {i:Nat} (hi:i<d.r):d.bas i<N:=by
 rcases Nat.lt_or_ge (d.bas i) N with h | h
 ·exact h
 ·have h1:=Qg hb h
  have h2:=TH (f:=d.bas) hi
  have h3:=db (n:=d.c) (f:=d.fre) (k:=d.bas i)
  grind
theorem TE {i j:Nat} (hi:i<d.c) (hj:j<d.c) (h:d.fre i=d.fre j):i=j:=by
 by_cases e:i=j
 ·exact e
 ·have h1:=bE hb (ZR hb hj)
  have h2:=E3 (f:=d.fre) hi hj e h
  have h3:=db (n:=d.r) (f:=d.bas) (k:=d.fre j)
  grind
theorem Tw {i j:Nat} (hi:i<d.r) (hj:j<d.r) (h:d.bas i=d.bas j):i=j:=by
 by_cases e:i=j
 ·exact e
 ·have h1:=bE hb (dL hb hj)
  have h2:=E3 (f:=d.bas) hi hj e h
  have h3:=db (n:=d.c) (f:=d.fre) (k:=d.bas j)
  grind
theorem jH {i j:Nat} (hi:i<d.r) (hj:j<d.c):d.fre j≠d.bas i:=fun e=>by
 have h1:=bE hb (dL hb hi)
 have h2:=TH (f:=d.bas) hi
 have h3:=TH (f:=d.fre) hj
 rw[e] at h3
 grind
omit hb in
theorem JI {n k:Nat} {f:Nat→Nat} (h:∀ j,j<n→f j≠k):zx n (fun j=>if f j=k then (1:Rat) else 0)=0:=xg fun i hi=>if_neg (h i hi)
theorem LH {k:Nat} (hk:k<N):(∃ j,j<d.c∧d.fre j=k)∨∃ i,i<d.r∧d.bas i=k:=by
 apply Classical.byContradiction
 intro h
 have h1:=bE hb hk
 rw[JI fun j hj e=>h (.inl ⟨j,hj,e⟩),JI fun j hj e=>h (.inr ⟨j,hj,e⟩)] at h1
 grind
end
def inB (d:yI) (k:Nat):Prop:=∃ i,i<d.r∧d.bas i=k
def vl (d:yI) (k:Nat):Rat:=zx d.r fun i=>if d.bas i=k then d.b i else 0
def cv (d:yI) (k:Nat):Rat:=zx d.c fun j=>if d.fre j=k then d.cst j else 0
section
variable {d:yI} {N:Nat} (hb:Bij d N)
include hb
theorem Fp {i:Nat} (hi:i<d.r):vl d (d.bas i)=d.b i:=by
 unfold vl
 rw[pn hi fun k hk hne=>if_neg fun e=>hne (Tw hb hk hi e),if_pos rfl]
omit hb in
theorem Yd {k:Nat} (h:¬ inB d k):vl d k=0:=xg fun i hi=>if_neg fun e=>h ⟨i,hi,e⟩
theorem KZ {j:Nat} (hj:j<d.c):cv d (d.fre j)=d.cst j:=by
 unfold cv
 rw[pn hj fun k hk hne=>if_neg fun e=>hne (TE hb hk hj e),if_pos rfl]
theorem KY {k:Nat} (h:inB d k):cv d k=0:=by
 obtain ⟨i,hi,rfl⟩:=h
 exact xg fun j hj=>if_neg fun e=>jH hb hi hj e
theorem vx {j:Nat} (hj:j<d.c):¬ inB d (d.fre j):=fun ⟨_,hi,e⟩=>jH hb hi hj e.symm
theorem dv {k:Nat} (hk:k<N) (h:¬ inB d k):∃ j,j<d.c∧d.fre j=k:=(LH hb hk).resolve_right h
def ptq (d:yI) (q:Nat) (y:Rat) (k:Nat):Rat:=zx d.r (fun i=>if d.bas i=k then d.b i-d.a i q*y else 0)+(if d.fre q=k then y else 0)
theorem NJ {q i:Nat} {y:Rat} (hq:q<d.c) (hi:i<d.r):ptq d q y (d.bas i)=d.b i-d.a i q*y:=by
 unfold ptq
 rw[pn hi fun k hk hne=>if_neg fun e=>hne (Tw hb hk hi e),if_pos rfl,if_neg (jH hb hi hq)]
 grind
theorem tC {q j:Nat} {y:Rat} (hq:q<d.c) (hj:j<d.c):ptq d q y (d.fre j)=if j=q then y else 0:=by
 unfold ptq
 rw[xg fun i hi=>if_neg fun e=>jH hb hi hj e.symm]
 by_cases e:j=q
 ·subst e; simp; grind
 ·rw[if_neg e,if_neg fun h=>e (TE hb hj hq h.symm)]; grind
theorem TP {q:Nat} {y:Rat} (hq:q<d.c):sol d (ptq d q y):=by
 intro i hi
 rw[NJ hb hq hi,pn hq (fun j hj hne=>by rw[tC hb hq hj,if_neg hne]; grind),tC hb hq hq,if_pos rfl]
theorem Dr {q:Nat} {y:Rat} (hq:q<d.c):obj d (ptq d q y)=d.v+d.cst q*y:=by
 unfold obj
 rw[pn hq (fun j hj hne=>by rw[tC hb hq hj,if_neg hne]; grind),tC hb hq hq,if_pos rfl]
theorem abQ:sol d (vl d):=by
 intro i hi
 rw[Fp hb hi,xg fun j hj=>by rw[Yd (vx hb hj)]; grind]
 grind
theorem abP:obj d (vl d)=d.v:=by
 unfold obj
 rw[xg fun j hj=>by rw[Yd (vx hb hj)]; grind]
 grind
theorem aiT {x:Nat→Rat}:obj d x=d.v+zx N fun k=>cv d k*x k:=by
 have:=hb fun k=>cv d k*x k
 rw[this,xg (n:=d.r) fun i hi=>by rw[KY hb ⟨i,hi,rfl⟩]; grind]
 unfold obj
 rw[yg (g:=fun j=>cv d (d.fre j)*x (d.fre j)) fun j hj=>by rw[KZ hb hj]]
 grind
end
theorem Rt (a b:Rat):a<b∨b≤a:=by
 by_cases h:a<b
 ·exact .inl h
 ·exact .inr (by grind)
theorem Rl {a:Rat} (h:0<a):0<1/a:=by
 have h1:a*(1/a)=1:=by grind
 rcases Rt 0 (1/a) with h2 | h2
 ·exact h2
 ·exfalso
  have:0≤a*(-(1/a)):=Rat.mul_nonneg (by grind) (by grind)
  grind
def bt (d:yI) (p q:Nat):Prop:=p<d.r∧q<d.c∧0<d.cst q∧(∀ j,j<d.c→0<d.cst j→d.fre q≤d.fre j)∧0<d.a p q ∧
 ∀ i,i<d.r→0<d.a i q→d.b p*d.a i q≤d.b i*d.a p q∧(d.b p*d.a i q=d.b i*d.a p q→d.bas p≤d.bas i)
def feas (d:yI):Prop:=∀ i,i<d.r→0≤d.b i
theorem CM {d:yI} {p q:Nat} (hp:p<d.r) (hf:feas d) (ha:0<d.a p q) (hr:∀ i,i<d.r→0<d.a i q→d.b p*d.a i q≤d.b i*d.a p q):feas (pivot d p q):=by
 have hi:=Rl ha
 intro i hir
 simp only[pivot] at hir ⊢
 by_cases e:i=p
 ·rw[if_pos e]; exact Rat.mul_nonneg (hf p hp) (by grind)
 ·rw[if_neg e]
  have h0:0≤d.b p*(1/d.a p q):=Rat.mul_nonneg (hf p hp) (by grind)
  by_cases h:0<d.a i q
  ·have h1:=hr i hir h
   have h2:0≤(d.b i*d.a p q-d.b p*d.a i q)*(1/d.a p q):=Rat.mul_nonneg (by grind) (by grind)
   have h3:(d.b i*d.a p q-d.b p*d.a i q)*(1/d.a p q)=d.b i-d.a i q*(d.b p*(1/d.a p q)):=by grind
   rwa [h3] at h2
  ·have h1:0≤(- d.a i q)*(d.b p*(1/d.a p q)):=Rat.mul_nonneg (by grind) h0
   have:=hf i hir
   grind
theorem bt.feas {d:yI} {p q:Nat} (h:bt d p q) (hf:feas d):feas (pivot d p q) :=
 CM h.1 hf h.2.2.2.2.1 fun i hi ha=>(h.2.2.2.2.2 i hi ha).1
theorem bt.v_le {d:yI} {p q:Nat} (h:bt d p q) (hf:LP.feas d):d.v≤(pivot d p q).v:=by
 have hi:=Rl h.2.2.2.2.1
 have h0:0≤d.cst q*(d.b p*(1/d.a p q)):=Rat.mul_nonneg (by have:=h.2.2.1; grind) (Rat.mul_nonneg (hf p h.1) (by grind))
 simp only[pivot]
 grind
theorem bt.v_eq {d:yI} {p q:Nat} (h:bt d p q) (hv:(pivot d p q).v=d.v):d.b p=0:=by
 have hi:=Rl h.2.2.2.2.1
 have hc:=h.2.2.1
 simp only[pivot] at hv
 have e:d.cst q*(d.b p*(1/d.a p q))=0:=by grind
 have h1:d.b p*(1/d.a p q)=0:=by grind
 grind
theorem ajz {d:yI} {p q:Nat} (h:d.b p=0) (k:Nat):vl (pivot d p q) k=vl d k:=by
 unfold vl
 simp only[pivot]
 refine yg fun i _=>?_
 by_cases e:i=p
 ·subst e
  simp only[h,upd,if_true]
  have:(0:Rat)*(1/d.a i q)=0:=by grind
  rw[this]
  split<;>split<;>rfl
 ·simp only[h,upd,if_neg e]
  have:d.b i-d.a i q*(0*(1/d.a p q))=d.b i:=by grind
  rw[this]
theorem core {d d':yI} {N p q q':Nat} (hb:Bij d N) (hb':Bij d' N) (ho:∀ x,sol d x→obj d x=obj d' x) (hv:d.v=d'.v) (hB:bt d p q)
  (hq':q'<d'.c) (ht:d'.fre q'=d.bas p) (hc':0<d'.cst q') (hm':∀ j,j<d'.c→0<d'.cst j→d'.fre q'≤d'.fre j)
  (hs:d.fre q<d.bas p) (hr:∀ k,inB d k→¬ inB d' k→k≤d.bas p∧vl d k=0) (hp0:d.b p=0) (_hf:feas d):False:=by
 obtain ⟨hp,hq,hc,hmin,ha,hrat⟩:=hB
 have key:∀ y:Rat,d.cst q*y=cv d' (d.fre q)*y+(zx d.r (fun i=>cv d' (d.bas i)*d.b i)-zx d.r (fun i=>cv d' (d.bas i)*d.a i q)*y):=fun y=>by
  have h1:=ho _ (TP hb hq (y:=y))
  rw[Dr hb hq,aiT hb',hb (fun k=>cv d' k*ptq d q y k)] at h1
  rw[pn hq (fun j hj hne=>by rw[tC hb hq hj,if_neg hne]; grind),tC hb hq hq,if_pos rfl] at h1
  rw[yg (g:=fun i=>cv d' (d.bas i)*d.b i-cv d' (d.bas i)*d.a i q*y) fun i hi=>by rw[NJ hb hq hi]; grind] at h1
  rw[ba,U7] at h1
  grind
 have k0:=key 0
 have k1:=key 1
 have neg_of:∀ {k:Nat},k<d.bas p→k<N→cv d' k≤0:=fun {k} hk hkN=>by
  rcases Rt 0 (cv d' k) with h | h
  ·exfalso
   by_cases hin:inB d' k
   ·rw[KY hb' hin] at h; grind
   ·obtain ⟨j,hj,rfl⟩:=dv hb' hkN hin
    rw[KZ hb' hj] at h
    have:=hm' j hj h
    omega
  ·exact h
 have c1:=neg_of hs (ZR hb hq)
 have c2:zx d.r (fun i=>cv d' (d.bas i)*d.a i q)<0:=by grind
 obtain ⟨i,hi,hneg⟩:=PH c2
 have hnin:¬ inB d' (d.bas i):=fun h=>by rw[KY hb' h] at hneg; grind
 obtain ⟨h1,h2⟩:=hr _ ⟨i,hi,rfl⟩ hnin
 rw[Fp hb hi] at h2
 have hne:d.bas i≠d.bas p:=fun e=>by
  have e2:=Tw hb hi hp e
  subst e2
  rw[← ht,KZ hb' hq'] at hneg
  have:0<d'.cst q'*d.a i q:=Rat.mul_pos hc' ha
  grind
 have hlt:d.bas i<d.bas p:=by omega
 have c3:=neg_of hlt (dL hb hi)
 have c4:0<d.a i q:=by
  rcases Rt 0 (d.a i q) with h | h
  ·exact h
  ·exfalso
   have:0≤(- cv d' (d.bas i))*(- d.a i q):=Rat.mul_nonneg (by grind) (by grind)
   grind
 have:=(hrat i hi c4).2 (by rw[h2,hp0]; grind)
 omega
structure Run (D:Nat→yI) (pp qq:Nat→Nat) (K N:Nat):Prop where
 bij:Bij (D 0) N
 feas:feas (D 0)
 step:∀ k,k<K→bt (D k) (pp k) (qq k)∧D (k+1)=pivot (D k) (pp k) (qq k)
section
variable {D:Nat→yI} {pp qq:Nat→Nat} {K N:Nat} (h:Run D pp qq K N)
include h
theorem Run.bijs:∀ k,k≤K→Bij (D k) N
 | 0,_=>h.bij
 | k+1,hk=>by
  obtain ⟨h1,h2⟩:=h.step k (by omega)
  rw[h2]
  exact Lf h1.1 h1.2.1 (Run.bijs k (by omega))
theorem Run.feass:∀ k,k≤K→LP.feas (D k)
 | 0,_=>h.feas
 | k+1,hk=>by
  obtain ⟨h1,h2⟩:=h.step k (by omega)
  rw[h2]
  exact h1.feas (Run.feass k (by omega))
theorem Run.same {i:Nat} {x:Nat→Rat}:∀ j,i≤j→j≤K→((sol (D i) x↔sol (D j) x)∧(sol (D i) x→obj (D i) x=obj (D j) x)):=by
 intro j hij
 induction j with
 | zero =>
   intro _; have:i=0:=by omega
   subst this; exact ⟨Iff.rfl,fun _=>rfl⟩
 | succ j ih =>
  intro hj
  by_cases e:i=j+1
  ·subst e; exact ⟨Iff.rfl,fun _=>rfl⟩
  ·obtain ⟨g1,g2⟩:=ih (by omega) (by omega)
   obtain ⟨h1,h2⟩:=h.step j (by omega)
   have ha:(D j).a (pp j) (qq j)≠0:=by have:=h1.2.2.2.2.1; grind
   rw[h2]
   exact ⟨g1.trans (ey h1.1 h1.2.1 ha).symm,fun hx=>(g2 hx).trans (Lb h1.1 h1.2.1 ha (g1.1 hx)).symm⟩
theorem Run.v_le {i:Nat}:∀ j,i≤j→j≤K→(D i).v≤(D j).v:=by
 intro j hij
 induction j with
 | zero =>
   intro _; have:i=0:=by omega
   subst this; grind
 | succ j ih =>
  intro hj
  by_cases e:i=j+1
  ·subst e; grind
  ·have g:=ih (by omega) (by omega)
   obtain ⟨h1,h2⟩:=h.step j (by omega)
   have:=h1.v_le (h.feass j (by omega))
   rw[← h2] at this
   grind
abbrev en (D:Nat→yI) (qq:Nat→Nat) (m:Nat):Nat:=(D m).fre (qq m)
abbrev lv (D:Nat→yI) (pp:Nat→Nat) (m:Nat):Nat:=(D m).bas (pp m)
theorem Run.next {m k:Nat} (hm:m<K):inB (D (m+1)) k↔(k=en D qq m∨(inB (D m) k∧k≠lv D pp m)):=by
 obtain ⟨h1,h2⟩:=h.step m hm
 have hb:=h.bijs m (by omega)
 rw[h2]
 constructor
 ·rintro ⟨i,hi,e⟩
  simp only[pivot,upd] at hi e
  by_cases hip:i=pp m
  ·rw[if_pos hip] at e; exact .inl e.symm
  ·rw[if_neg hip] at e
   refine .inr ⟨⟨i,hi,e⟩,fun e2=>hip (Tw hb hi h1.1 (e.trans e2))⟩
 ·rintro (rfl | ⟨⟨i,hi,rfl⟩,hne⟩)
  ·exact ⟨pp m,h1.1,by simp[pivot,upd]⟩
  ·refine ⟨i,hi,?_⟩
   have:i≠pp m:=fun e=>hne (by rw[e])
   simp[pivot,upd,this]
theorem Run.en_free {m:Nat} (hm:m<K):¬ inB (D m) (en D qq m):=vx (h.bijs m (by omega)) (h.step m hm).1.2.1
omit h in
theorem Run.lv_basic {m:Nat} (h:Run D pp qq K N) (hm:m<K):inB (D m) (lv D pp m):=⟨pp m,(h.step m hm).1.1,rfl⟩
theorem Run.stay_free {k i j:Nat} (hj:j≤K) (hne:∀ m,i≤m→m<j→en D qq m≠k):∀ x y,i≤x→x≤y→y≤j→¬ inB (D x) k→¬ inB (D y) k:=by
 intro x y hx hxy
 induction y with
 | zero =>
   intro _ hf; have:x=0:=by omega
   subst this; exact hf
 | succ y ih =>
  intro hy hf
  by_cases e:x=y+1
  ·subst e; exact hf
  ·have g:=ih (by omega) (by omega) hf
   rw[h.next (by omega)]
   rintro (e2 | ⟨e2,_⟩)
   ·exact hne y (by omega) (by omega) e2.symm
   ·exact g e2
theorem Run.stay_basic {k i j:Nat} (hj:j≤K) (hne:∀ m,i≤m→m<j→lv D pp m≠k):∀ x y,i≤x→x≤y→y≤j→inB (D x) k→inB (D y) k:=by
 intro x y hx hxy
 induction y with
 | zero =>
   intro _ hf; have:x=0:=by omega
   subst this; exact hf
 | succ y ih =>
  intro hy hf
  by_cases e:x=y+1
  ·subst e; exact hf
  ·have g:=ih (by omega) (by omega) hf
   rw[h.next (by omega)]
   exact .inr ⟨g,fun e2=>hne y (by omega) (by omega) e2.symm⟩
theorem Run.enters {k i j x y:Nat} (hj:j≤K) (hij:inB (D i) k↔inB (D j) k) (hx:i≤x∧x≤j) (hy:i≤y∧y≤j) (h1:inB (D x) k) (h2:¬ inB (D y) k):∃ m,i≤m∧m<j∧en D qq m=k:=by
 apply Classical.byContradiction
 intro hno
 have hne:∀ m,i≤m→m<j→en D qq m≠k:=fun m a b e=>hno ⟨m,a,b,e⟩
 have f1:=h.stay_free hj hne y j hy.1 hy.2 (Nat.le_refl _) h2
 have f2:¬ inB (D i) k:=fun e=>f1 (hij.1 e)
 exact h.stay_free hj hne i x (Nat.le_refl _) hx.1 hx.2 f2 h1
theorem Run.leaves {k i j x y:Nat} (hj:j≤K) (hij:inB (D i) k↔inB (D j) k) (hx:i≤x∧x≤j) (hy:i≤y∧y≤j) (h1:inB (D x) k) (h2:¬ inB (D y) k):∃ m,i≤m∧m<j∧lv D pp m=k:=by
 apply Classical.byContradiction
 intro hno
 have hne:∀ m,i≤m→m<j→lv D pp m≠k:=fun m a b e=>hno ⟨m,a,b,e⟩
 have f1:=h.stay_basic hj hne x j hx.1 hx.2 (Nat.le_refl _) h1
 have f2:inB (D i) k:=hij.2 f1
 exact h2 (h.stay_basic hj hne i y (Nat.le_refl _) hy.1 hy.2 f2)
omit h in
theorem Ci (f:Nat→Nat) (i:Nat):∀ j,i<j→∃ m,i≤m∧m<j∧∀ m',i≤m'→m'<j→f m'≤f m:=by
 intro j
 induction j with
 | zero=>intro hj; omega
 | succ j ih =>
  intro hj
  by_cases e:i=j
  ·subst e; exact ⟨i,Nat.le_refl _,by omega,fun m' a b=>by
    have:m'=i:=by omega
    rw[this]
    exact Nat.le_refl _⟩
  ·obtain ⟨m,a,b,g⟩:=ih (by omega)
   by_cases hlt:f m≤f j
   ·refine ⟨j,by omega,by omega,fun m' a' b'=>?_⟩
    by_cases e2:m'=j
    ·rw[e2]; exact Nat.le_refl _
    ·exact Nat.le_trans (g m' a' (by omega)) hlt
   ·refine ⟨m,a,by omega,fun m' a' b'=>?_⟩
    by_cases e2:m'=j
    ·rw[e2]; omega
    ·exact g m' a' (by omega)
theorem Run.no_repeat {i j:Nat} (hij:i<j) (hj:j≤K) (hB:∀ k,inB (D i) k↔inB (D j) k):False:=by
 have bi:=h.bijs i (by omega)
 have bj:=h.bijs j hj
 have hvij:(D i).v=(D j).v:=by
  have s1:=abQ bi
  have s2:=(h.same j (by omega) hj (i:=i)).2 s1
  rw[abP bi] at s2
  rw[s2]
  unfold obj
  rw[xg fun l hl=>by rw[Yd fun e=>vx bj hl ((hB _).1 e)]; grind]
  grind
 have hv:∀ m,i≤m→m≤j→(D m).v=(D i).v:=fun m a b=>by
  have g1:=h.v_le m a (by omega)
  have g2:=h.v_le j b hj
  grind
 have hdeg:∀ m,i≤m→m<j→(D m).b (pp m)=0:=fun m a b=>by
  obtain ⟨h1,h2⟩:=h.step m (by omega)
  apply h1.v_eq
  rw[← h2,hv (m+1) (by omega) (by omega),hv m a (by omega)]
 have hvl:∀ k m,i≤m→m≤j→vl (D m) k=vl (D i) k:=fun k m a=>by
  induction m with
  | zero =>
    intro _; have:i=0:=by omega
    rw[this]
  | succ m ih =>
   intro b
   by_cases e:i=m+1
   ·rw[e]
   ·rw[(h.step m (by omega)).2,ajz (hdeg m (by omega) (by omega)),ih (by omega) (by omega)]
 obtain ⟨e,e1,e2,emax⟩:=Ci (en D qq) i j hij
 have hfr:=h.en_free (m:=e) (by omega)
 have hin:inB (D (e+1)) (en D qq e):=(h.next (by omega)).2 (.inl rfl)
 obtain ⟨l,l1,l2,hl⟩:=h.leaves hj (hB (en D qq e)) (x:=e+1) (y:=e) ⟨by omega,by omega⟩ ⟨by omega,by omega⟩ hin hfr
 have hBl:=(h.step l (by omega)).1
 have hBe:=(h.step e (by omega)).1
 have hobj:∀ x,sol (D l) x→obj (D l) x=obj (D e) x:=fun x hx=>by
  rcases Nat.le_total l e with hle | hle
  ·exact (h.same e hle (by omega) (i:=l)).2 hx
  ·exact ((h.same l hle (by omega) (i:=e)).2 ((h.same l hle (by omega) (i:=e)).1.2 hx)).symm
 refine core (h.bijs l (by omega)) (h.bijs e (by omega)) hobj (by rw[hv l l1 (by omega),hv e e1 (by omega)]) hBl hBe.2.1 hl.symm hBe.2.2.1 hBe.2.2.2.1 ?_ ?_ (hdeg l l1 l2) (h.feass l (by omega))
 ·have g:=emax l l1 l2
  have hne:en D qq l≠en D qq e:=fun e3=>by
   have:=h.en_free (m:=l) (by omega)
   rw[e3,← hl] at this
   exact this (h.lv_basic (by omega))
  rw[show (D l).bas (pp l)=en D qq e from hl]
  simp only[en] at g hne ⊢
  omega
 ·intro k hk1 hk2
  obtain ⟨m,m1,m2,rfl⟩:=h.enters hj (hB k) (x:=l) (y:=e) ⟨l1,by omega⟩ ⟨e1,by omega⟩ hk1 hk2
  rw[show (D l).bas (pp l)=en D qq e from hl]
  refine ⟨emax m m1 m2,?_⟩
  rw[hvl _ l l1 (by omega),← hvl _ e e1 (by omega)]
  exact Yd hk2
end
def code (d:yI):Nat→Nat
 | 0=>0
 | n+1=>2*code d n+(if (List.range d.r).any (fun i=>d.bas i == n)=true then 1 else 0)
theorem dr {d:yI} {n:Nat}:(List.range d.r).any (fun i=>d.bas i == n)=true↔inB d n:=by
 simp[inB]
theorem EP {d:yI}:∀ n,code d n<2^n
 | 0=>by simp[code]
 | n+1=>by have:=EP (d:=d) n; simp only[code,Nat.pow_succ]; split<;>omega
theorem code_inj {d d':yI}:∀ n,code d n=code d' n→∀ k,k<n→(inB d k↔inB d' k)
 | 0,_,k,hk=>by omega
 | n+1,he,k,hk=>by
  simp only[code] at he
  have h1:code d n=code d' n:=by split at he<;>split at he<;>omega
  by_cases e:k=n
  ·subst e
   rw[← dr,← dr]
   rw[h1] at he
   cases h2:(List.range d.r).any (fun i=>d.bas i == k)<;>cases h3:(List.range d'.r).any (fun i=>d'.bas i == k)<;>simp only[h2,h3,Bool.false_eq_true,if_true,if_false] at he ⊢<;>omega
  ·exact code_inj n h1 k (by omega)
theorem ai2:∀ (M K:Nat) (f:Nat→Nat),(∀ k,k<K→f k<M)→(∀ i j,i<j→j<K→f i≠f j)→K≤M:=by
 intro M
 induction M with
 | zero=>intro K f h _; rcases K with _ | K; exact Nat.le_refl _; exact absurd (h 0 (by omega)) (by omega)
 | succ M ih =>
  intro K f h hne
  rcases K with _ | K
  ·omega
  ·-- the last one is moved out of the way
   have:K≤M:=by
    refine ih K (fun k=>if f k=M then f K else f k) (fun k hk=>?_) (fun i j hij hj=>?_)
    ·have h1:=h k (by omega)
     have h2:=h K (by omega)
     have h3:=hne k K hk (by omega)
     by_cases e:f k=M
     ·simp only[e,if_true]; omega
     ·simp only[e,if_false]; omega
    ·have g1:=hne i j hij (by omega)
     have g2:=hne i K (by omega) (by omega)
     have g3:=hne j K hj (by omega)
     by_cases e1:f i=M<;>by_cases e2:f j=M<;>simp only[e1,e2,if_true,if_false]<;>omega
   omega
theorem Run.le {D:Nat→yI} {pp qq:Nat→Nat} {K N:Nat} (h:Run D pp qq K N):K<2^N:=by
 have:=ai2 (2^N) (K+1) (fun k=>code (D k) N) (fun k _=>EP N) (fun i j hij hj e=>by
  refine h.no_repeat hij (by omega) fun k=>?_
  by_cases hk:k<N
  ·exact code_inj N e k hk
  ·constructor
   ·rintro ⟨i',hi',rfl⟩; exact absurd (dL (h.bijs i (by omega)) hi') hk
   ·rintro ⟨i',hi',rfl⟩; exact absurd (dL (h.bijs j (by omega)) hi') hk)
 omega
def sz (K:Nat) (q:Rat):Prop:=q.num.natAbs≤2^K∧q.den≤2^K
theorem zY {K L:Nat} {q:Rat} (h:sz K q) (hl:K≤L):sz L q :=
 ⟨Nat.le_trans h.1 (Nat.pow_le_pow_right (by omega) hl),Nat.le_trans h.2 (Nat.pow_le_pow_right (by omega) hl)⟩
theorem Mr {K:Nat} {n:Int} {d:Nat} (hd:d≠0) (h1:n.natAbs≤2^K) (h2:d≤2^K):sz K (Rat.normalize n d hd):=by
 rw[Rat.normalize_eq]
 exact ⟨Nat.le_trans (Int.natAbs_ediv_le_natAbs _ _) h1,Nat.le_trans (Nat.div_le_self _ _) h2⟩
theorem Ms {K:Nat}:sz K 0:=⟨Nat.zero_le _,Nat.pow_pos (by omega)⟩
theorem ue {K L:Nat} {a b:Rat} (ha:sz K a) (hb:sz L b):sz (K+L) (a*b):=by
 rw[Rat.mul_def]
 refine Mr _ ?_ ?_
 ·rw[Int.natAbs_mul,Nat.pow_add]; exact Nat.mul_le_mul ha.1 hb.1
 ·rw[Nat.pow_add]; exact Nat.mul_le_mul ha.2 hb.2
theorem jZ {K L:Nat} {a b:Rat} (ha:sz K a) (hb:sz L b):sz (K+L+1) (a+b):=by
 rw[Rat.add_def]
 refine Mr _ ?_ ?_
 ·refine Nat.le_trans (Int.natAbs_add_le _ _) ?_
  rw[Int.natAbs_mul,Int.natAbs_mul,Nat.pow_succ,Nat.pow_add]
  have h1:=Nat.mul_le_mul ha.1 hb.2
  have h2:=Nat.mul_le_mul hb.1 ha.2
  rw[Nat.mul_comm (2^L)] at h2
  simp only[Int.natAbs_natCast]
  omega
 ·rw[Nat.pow_succ,Nat.pow_add]
  have:=Nat.mul_le_mul ha.2 hb.2
  omega
theorem U8 {K:Nat} {a:Rat} (ha:sz K a):sz K (-a):=by
 unfold sz
 rw[Rat.neg_num,Rat.neg_den,Int.natAbs_neg]
 exact ha
theorem PJ {K L:Nat} {a b:Rat} (ha:sz K a) (hb:sz L b):sz (K+L+1) (a-b):=by
 rw[Rat.sub_eq_add_neg]; exact jZ ha (U8 hb)
theorem ajp {K:Nat} {a:Rat} (ha:sz K a):sz K (1/a):=by
 have:1/a=a⁻¹:=by grind
 rw[this]
 unfold sz
 rw[Rat.num_inv,Rat.den_inv]
 constructor
 ·rw[Int.natAbs_mul,Int.natAbs_natCast,Int.natAbs_sign]
  have:=ha.2
  split<;>omega
 ·split
  ·exact Nat.pow_pos (by omega)
  ·exact ha.1
structure szD (K:Nat) (d:yI):Prop where
 a:∀ i j,i<d.r→j<d.c→sz K (d.a i j)
 b:∀ i,i<d.r→sz K (d.b i)
 cst:∀ j,j<d.c→sz K (d.cst j)
 v:sz K d.v
theorem aeN {K L:Nat} {d:yI} (h:szD K d) (hl:K≤L):szD L d :=
 ⟨fun i j hi hj=>zY (h.a i j hi hj) hl,fun i hi=>zY (h.b i hi) hl,fun j hj=>zY (h.cst j hj) hl,zY h.v hl⟩
theorem abv {K:Nat} {d:yI} {p q:Nat} (hp:p<d.r) (hq:q<d.c) (h:szD K d):szD (4*K+1) (pivot d p q):=by
 have hi:=ajp (h.a p q hp hq)
 constructor
 ·intro i j hir hjc
  simp only[pivot] at hir hjc ⊢
  split<;>split
  ·exact zY hi (by omega)
  ·exact zY (ue (h.a p j hp hjc) hi) (by omega)
  ·exact zY (U8 (ue (h.a i q hir hq) hi)) (by omega)
  ·exact zY (PJ (h.a i j hir hjc) (ue (h.a i q hir hq) (ue (h.a p j hp hjc) hi))) (by omega)
 ·intro i hir
  simp only[pivot] at hir ⊢
  split
  ·exact zY (ue (h.b p hp) hi) (by omega)
  ·exact zY (PJ (h.b i hir) (ue (h.a i q hir hq) (ue (h.b p hp) hi))) (by omega)
 ·intro j hjc
  simp only[pivot] at hjc ⊢
  split
  ·exact zY (U8 (ue (h.cst q hq) hi)) (by omega)
  ·exact zY (PJ (h.cst j hjc) (ue (h.cst q hq) (ue (h.a p j hp hjc) hi))) (by omega)
 ·simp only[pivot]
  exact zY (jZ h.v (ue (h.cst q hq) (ue (h.b p hp) hi))) (by omega)
structure Same (d e:yI) (N:Nat):Prop where
 bd:Bij d N
 be:Bij e N
 sol:∀ x,sol d x↔sol e x
 obj:∀ x,LP.sol d x→obj d x=obj e x
theorem Same.refl {d:yI} {N:Nat} (h:Bij d N):Same d d N:=⟨h,h,fun _=>Iff.rfl,fun _ _=>rfl⟩
theorem Same.symm {d e:yI} {N:Nat} (h:Same d e N):Same e d N:=⟨h.be,h.bd,fun x=>(h.sol x).symm,fun x hx=>(h.obj x ((h.sol x).2 hx)).symm⟩
theorem Same.trans {d e f:yI} {N:Nat} (h:Same d e N) (k:Same e f N):Same d f N :=
 ⟨h.bd,k.be,fun x=>(h.sol x).trans (k.sol x),fun x hx=>(h.obj x hx).trans (k.obj x ((h.sol x).1 hx))⟩
theorem Same.pivot {d:yI} {N p q:Nat} (h:Bij d N) (hp:p<d.r) (hq:q<d.c) (ha:d.a p q≠0):Same (pivot d p q) d N :=
 ⟨Lf hp hq h,h,fun _=>ey hp hq ha,fun _ hx=>Lb hp hq ha ((ey hp hq ha).1 hx)⟩
def far (d:yI) (f:Nat→Nat):Nat→Nat
 | 0=>0
 | n+1=>far d f n+(if (List.range d.r).any (fun i=>d.bas i == f n)=true then 0 else 1)
theorem Jq {d:yI} {f:Nat→Nat}:∀ n,far d f n=0→∀ i,i<n→inB d (f i)
 | 0,_,i,hi=>by omega
 | n+1,h,i,hi=>by
  simp only[far] at h
  by_cases e:i=n
  ·subst e
   apply dr.1
   cases h2:(List.range d.r).any (fun j=>d.bas j == f i)
   ·rw[h2] at h; simp at h
   ·rfl
  ·exact Jq n (by omega) i (by omega)
theorem EZ {d:yI} {f:Nat→Nat}:∀ n,far d f n≠0→∃ i,i<n∧¬ inB d (f i)
 | 0,h=>absurd rfl h
 | n+1,h=>by
  by_cases e:inB d (f n)
  ·have h2:=dr.2 e
   simp only[far,h2,if_true] at h
   obtain ⟨i,hi,hf⟩:=EZ n (by omega)
   exact ⟨i,by omega,hf⟩
  ·exact ⟨n,by omega,e⟩
theorem E0 {d:yI} {f:Nat→Nat} {p k:Nat} (hk:inB d k) (hp:¬ inB d (f p)):∀ n,far d (upd f p k) n+(if p<n then 1 else 0)=far d f n
 | 0=>by simp[far]
 | n+1=>by
  have ih:=E0 (d:=d) (f:=f) (p:=p) (k:=k) hk hp n
  by_cases e:p=n
  ·subst e
   have h1:=dr.2 hk
   have h2:(List.range d.r).any (fun i=>d.bas i == f p)=false:=by
    cases h:(List.range d.r).any (fun i=>d.bas i == f p)
    ·rfl
    ·exact absurd (dr.1 h) hp
   simp only[far,upd,if_true,h1,h2,Bool.false_eq_true,if_false] at ih ⊢
   have:(upd f p k)=fun i=>if i=p then k else f i:=rfl
   simp only[Nat.lt_irrefl,if_false] at ih
   have e2:¬ p<p:=by omega
   simp only[show p<p+1 by omega,if_true]
   omega
  ·have e3:upd f p k n=f n:=by simp[upd,Ne.symm e]
   simp only[far,e3]
   have:(p<n+1)↔(p<n):=by omega
   simp only[this]
   omega
section
variable {d e:yI} {N:Nat} (h:Same d e N)
include h
theorem Same.entries {K:Nat} (hB:∀ k,inB e k→inB d k) (hB2:∀ k,inB d k→inB e k) (hs:szD K d):szD K e:=by
 have hF:∀ j,j<e.c→∃ j',j'<d.c∧d.fre j'=e.fre j:=fun j hj=>dv h.bd (ZR h.be hj) fun hin=>vx h.be hj (hB2 _ hin)
 have hR:∀ i,i<e.r→∃ i',i'<d.r∧d.bas i'=e.bas i:=fun i hi=>hB _ ⟨i,hi,rfl⟩
 have hpt:∀ j j' y,j<e.c→j'<d.c→d.fre j'=e.fre j→∀ k,k<N→¬ inB d k→ptq e j y k=ptq d j' y k:=fun j j' y hj hj' ejj k hk hnk=>by
  obtain ⟨l,hl,rfl⟩:=dv h.bd hk hnk
  obtain ⟨l',hl',el⟩:=dv h.be hk fun hin=>hnk (hB _ hin)
  rw[tC h.bd hj' hl,← el,tC h.be hj hl']
  by_cases e1:l'=j
  ·subst e1
   rw[if_pos rfl,if_pos (TE h.bd hl hj' (by rw[ejj,el]))]
  ·rw[if_neg e1,if_neg fun e2=>e1 (by subst e2; exact TE h.be hl' hj (by rw[el,ejj]))]
 -- the point of 'e' is the point of 'd'
 have key:∀ j j' y i i',j<e.c→j'<d.c→d.fre j'=e.fre j→i<e.r→i'<d.r→d.bas i'=e.bas i→e.b i-e.a i j*y=d.b i'-d.a i' j'*y:=fun j j' y i i' hj hj' ejj hi hi' eii=>by
  have s1:=(h.sol _).2 (TP h.be hj (y:=y))
  have s2:=s1 i' hi'
  rw[eii,NJ h.be hj hi] at s2
  rw[s2]
  rw[yg (g:=fun l=>d.a i' l*ptq d j' y (d.fre l)) fun l hl=>by rw[hpt j j' y hj hj' ejj _ (ZR h.bd hl) (vx h.bd hl)]]
  rw[pn hj' (fun l hl hne=>by rw[tC h.bd hj' hl,if_neg hne]; grind),tC h.bd hj' hj',if_pos rfl]
 have keyo:∀ j j' y,j<e.c→j'<d.c→d.fre j'=e.fre j→e.v+e.cst j*y=d.v+d.cst j'*y:=fun j j' y hj hj' ejj=>by
  have s1:=(h.sol _).2 (TP h.be hj (y:=y))
  have s2:=h.obj _ s1
  rw[Dr h.be hj] at s2
  rw[← s2]
  unfold LP.obj
  rw[yg (g:=fun l=>d.cst l*ptq d j' y (d.fre l)) fun l hl=>by rw[hpt j j' y hj hj' ejj _ (ZR h.bd hl) (vx h.bd hl)]]
  rw[pn hj' (fun l hl hne=>by rw[tC h.bd hj' hl,if_neg hne]; grind),tC h.bd hj' hj',if_pos rfl]
 have hvl:∀ k,k<N→vl e k=0∨inB d k:=fun k hk=>by
  by_cases hin:inB e k
  ·exact .inr (hB _ hin)
  ·exact .inl (Yd hin)
 have svl:=(h.sol _).2 (abQ h.be)
 have z:∀ l,l<d.c→vl e (d.fre l)=0:=fun l hl=>Yd fun hin=>vx h.bd hl (hB _ hin)
 constructor
 ·intro i j hi hj
  obtain ⟨i',hi',ei⟩:=hR i hi
  obtain ⟨j',hj',ej⟩:=hF j hj
  have k0:=key j j' 0 i i' hj hj' ej hi hi' ei
  have k1:=key j j' 1 i i' hj hj' ej hi hi' ei
  have:e.a i j=d.a i' j':=by grind
  rw[this]; exact hs.a i' j' hi' hj'
 ·intro i hi
  obtain ⟨i',hi',ei⟩:=hR i hi
  have s2:=svl i' hi'
  rw[ei,Fp h.be hi,xg fun l hl=>by rw[z l hl]; grind] at s2
  have:e.b i=d.b i':=by grind
  rw[this]; exact hs.b i' hi'
 ·intro j hj
  obtain ⟨j',hj',ej⟩:=hF j hj
  have k0:=keyo j j' 0 hj hj' ej
  have k1:=keyo j j' 1 hj hj' ej
  have:e.cst j=d.cst j':=by grind
  rw[this]; exact hs.cst j' hj'
 ·have s2:=h.obj _ svl
  rw[abP h.be] at s2
  unfold LP.obj at s2
  rw[xg fun l hl=>by rw[z l hl]; grind] at s2
  have:e.v=d.v:=by grind
  rw[this]; exact hs.v
theorem Same.exchange {i:Nat} (hi:i<e.r) (hn:¬ inB d (e.bas i)):∃ j,j<e.c∧e.a i j≠0∧inB d (e.fre j):=by
 apply Classical.byContradiction
 intro hno
 obtain ⟨q,hq,eq⟩:=dv h.bd (dL h.be hi) hn
 have key:∀ y:Rat,y=e.b i:=fun y=>by
  have s1:=(h.sol _).1 (TP h.bd hq (y:=y)) i hi
  rw[← eq,tC h.bd hq hq,if_pos rfl] at s1
  rw[xg fun j hj=>?_] at s1
  ·grind
  ·by_cases ha:e.a i j=0
   ·rw[ha]; grind
   ·have hnf:¬ inB d (e.fre j):=fun hin=>hno ⟨j,hj,ha,hin⟩
    obtain ⟨l,hl,el⟩:=dv h.bd (ZR h.be hj) hnf
    rw[← el,tC h.bd hq hl,if_neg fun e2=>jH h.be hi hj (by rw[← el,e2,eq])]
    grind
 have k0:=key 0
 have k1:=key 1
 grind
end
def grow (K:Nat):Nat→Nat
 | 0=>K
 | n+1=>4*grow K n+1
theorem AE {K:Nat} {m n:Nat} (h:m≤n):grow K m≤grow K n:=by
 induction n with
 | zero =>
   have:m=0:=by omega
   rw[this]; exact Nat.le_refl _
 | succ n ih =>
  by_cases e:m=n+1
  ·rw[e]; exact Nat.le_refl _
  ·have:=ih (by omega)
   simp only[grow]; omega
theorem Same.size {d:yI} {N K:Nat} (hs:szD K d):∀ n (e:yI),Same d e N→e.r=d.r→e.c=d.c→far d e.bas e.r≤n→szD (grow K n) e:=by
 intro n
 induction n with
 | zero =>
  intro e h hr hc hn
  have hB:∀ k,inB e k→inB d k:=fun k ⟨i,hi,ek⟩=>by
   have:=Jq _ (Nat.le_zero.1 hn) i hi
   rwa [ek] at this
  refine h.entries hB (fun k hk=>?_) hs
  -- as many basic variables in both
  classical
  apply Classical.byContradiction
  intro hnk
  have hkN:k<N:=by obtain ⟨i,hi,rfl⟩:=hk; exact dL h.bd hi
  have c1:zx N (fun x=>if inB d x then (1:Rat) else 0)=zx d.r (fun _=>1):=by
   rw[h.bd fun x=>if inB d x then (1:Rat) else 0,xg fun j hj=>if_neg (vx h.bd hj),yg (n:=d.r) (g:=fun _=>1) fun i hi=>if_pos ⟨i,hi,rfl⟩]
   grind
  have c2:zx N (fun x=>if inB e x then (1:Rat) else 0)=zx e.r (fun _=>1):=by
   rw[h.be fun x=>if inB e x then (1:Rat) else 0,xg fun j hj=>if_neg (vx h.be hj),yg (n:=e.r) (g:=fun _=>1) fun i hi=>if_pos ⟨i,hi,rfl⟩]
   grind
  rw[hr,← c1] at c2
  rw[yP hkN,yP (f:=fun x=>if inB d x then (1:Rat) else 0) hkN,if_neg hnk,if_pos hk] at c2
  have:zx N (fun j=>if j=k then 0 else if inB e j then (1:Rat) else 0)≤zx N (fun j=>if j=k then 0 else if inB d j then (1:Rat) else 0):=Z3 fun j _=>by
   by_cases e1:j=k
   ·rw[if_pos e1,if_pos e1]; grind
   ·rw[if_neg e1,if_neg e1]
    by_cases e2:inB e j
    ·rw[if_pos e2,if_pos (hB _ e2)]; grind
    ·rw[if_neg e2]; split<;>grind
  grind
 | succ n ih =>
  intro e h hr hc hn
  by_cases h0:far d e.bas e.r≤n
  ·exact aeN (ih e h hr hc h0) (AE (by omega))
  ·obtain ⟨i,hi,hni⟩:=EZ e.r (by omega:far d e.bas e.r≠0)
   obtain ⟨j,hj,ha,hin⟩:=h.exchange hi hni
   have hS:=h.trans (Same.pivot h.be hi hj ha).symm
   have hfar:=E0 (f:=e.bas) hin hni e.r
   rw[if_pos hi] at hfar
   have:=ih (LP.pivot e i j) hS hr hc (by simp only[LP.pivot]; omega)
   have h2:=abv (p:=i) (q:=j) (d:=LP.pivot e i j) hi hj this
   rwa [SG ha] at h2
open Classical in
open Classical in
section
variable {n m:Nat} {A:Nat→Nat→Rat} {bb gg:Nat→Rat}
theorem Xr {x y:Nat→Rat} (hx:∀ j,j<n→0≤x j) (hr:∀ i,i<m→zx n (fun j=>A i j*x j)≤bb i) (hy:∀ i,i<m→0≤y i) (hc:∀ j,j<n→gg j≤zx m (fun i=>y i*A i j)) :
  zx n (fun j=>gg j*x j)≤zx m (fun i=>y i*bb i):=by
 have h1:zx n (fun j=>gg j*x j)≤zx n (fun j=>zx m (fun i=>y i*A i j)*x j):=Z3 fun j hj=>by
  have:=Rat.mul_nonneg (show 0≤zx m (fun i=>y i*A i j)-gg j by have:=hc j hj; grind) (hx j hj)
  grind
 have h2:zx m (fun i=>y i*zx n (fun j=>A i j*x j))≤zx m (fun i=>y i*bb i):=Z3 fun i hi=>by
  have:=Rat.mul_nonneg (hy i hi) (show 0≤bb i-zx n (fun j=>A i j*x j) by have:=hr i hi; grind)
  grind
 have h3:zx n (fun j=>zx m (fun i=>y i*A i j)*x j)=zx m (fun i=>y i*zx n (fun j=>A i j*x j)):=by
  rw[yg (n:=n) (g:=fun j=>zx m (fun i=>y i*A i j*x j)) fun j _=>by rw[U7],U6]
  exact yg fun i _=>by rw[← c9]; exact yg fun j _=>by grind
 grind
end
end Go.LP

namespace Go.Proofs.YtpnliopaifpimaaGreat
open Go Go.Am Go.Dig Go.LP
theorem AN {K x:Nat} (h:x≤2^K):(zh x).length≤K/32+1:=zI.2 (by
 have:B^(K/32+1)=2^(32*(K/32+1)):=by rw[show B=2^32 from rfl,← Nat.pow_mul]
 rw[this]
 exact Nat.lt_of_le_of_lt h (Nat.pow_lt_pow_right (by omega) (by omega)))
theorem pB {K:Nat} {q:Rat} (h:sz K q):(zh q.num.natAbs).length≤K/32+1∧(zh q.den).length≤K/32+1:=⟨AN h.1,AN h.2⟩
theorem aje (s:Bool) (N:Nat):sg (!s) N=-sg s N:=by cases s<;>simp[sg]
theorem acK (q:Rat):mkRat (sg (decide (q.num<0)) q.num.natAbs) q.den=q:=by rw[cX,Rat.mkRat_self]
theorem agp (q:Rat):wL (!decide (q.num<0)) q.num.natAbs q.den=xe (-q):=by
 rw[kV q.den_nz,aje,← Rat.neg_mkRat,acK]
section
variable {K:Nat} {p q:Rat} (hK:K≤137438953472) (hp:sz K p) (hq:sz K q)
include hK hp
theorem ac9:ze Tryz.prog Tl [xe p] (xe (-p)):=by
 have h1:=pB hp
 rw[← agp]
 exact A8 (by omega) (by omega) p.den_nz
include hq
theorem ac5:ze Tryz.prog dk [xe p,xe q] (xe (p*q)):=by
 have h1:=pB hp
 have h2:=pB hq
 rw[← Df]
 exact Cw (by omega) (by omega) (by omega) (by omega) p.den_nz q.den_nz
theorem Ky:ze Tryz.prog l8 [xe p,xe q] (xe (p+q)):=by
 have h1:=pB hp
 have h2:=pB hq
 rw[← Ep]
 exact DV (by omega) (by omega) (by omega) (by omega) p.den_nz q.den_nz
theorem aeM:ze Tryz.prog Tm [xe p,xe q] (xe (p-q)):=by
 have k1:=ac9 hK hq
 have k2:=Ky hK hp (U8 hq)
 rw[Rat.sub_eq_add_neg]
 obtain ⟨a,ha⟩:∃ a,a=p+-q:=⟨_,rfl⟩
 obtain ⟨b,hb⟩:∃ b,b=-q:=⟨_,rfl⟩
 rw[← ha] at k2 ⊢
 rw[← hb] at k1 k2
 refine zn ahv (by simp) ?_
 simp[Ex]
 refine zb k1 (by simp) (by simp) ?_
 simp
 refine zb k2 (by simp) (by simp) ?_
 simp[Dv]
end
def eo (p q:Rat):Int:=if p<q then -1 else if q<p then 1 else 0
def pj (q:Rat):Int:=if q=0 then 0 else if q<0 then -1 else 1
theorem mU {q:Rat}:q.num<0↔q<0:=by
 have:=Rat.lt_iff q 0
 simpa using this.symm
theorem afE (p q:Rat):eo p q=if p.num*q.den<q.num*p.den then -1 else if q.num*p.den<p.num*q.den then 1 else 0:=by
 unfold eo
 simp only[Rat.lt_iff]
theorem afF (p q:Rat):(if decide (p.num<0)=decide (q.num<0) then (if decide (p.num<0)=true then xB (q.num.natAbs*p.den) (p.num.natAbs*q.den) else xB (p.num.natAbs*q.den) (q.num.natAbs*p.den))
  else if decide (p.num<0)=true then -1 else 1)=eo p q:=by
 have d1:(0:Int)<p.den:=by have:=p.den_pos; omega
 have d2:(0:Int)<q.den:=by have:=q.den_pos; omega
 rw[afE]
 unfold xB
 have a1:((p.num.natAbs*q.den:Nat):Int)=(p.num.natAbs:Int)*q.den:=Int.natCast_mul _ _
 have a2:((q.num.natAbs*p.den:Nat):Int)=(q.num.natAbs:Int)*p.den:=Int.natCast_mul _ _
 by_cases h1:p.num<0<;>by_cases h2:q.num<0
 ·have e1:(p.num.natAbs:Int)=-p.num:=by omega
  have e2:(q.num.natAbs:Int)=-q.num:=by omega
  rw[e1,Int.neg_mul] at a1
  rw[e2,Int.neg_mul] at a2
  simp only[h1,h2,if_true,decide_true]
  generalize p.num*q.den=x at *
  generalize q.num*p.den=y at *
  repeat' split
  all_goals first | rfl | omega
 ·have m1:p.num*q.den<0:=Int.mul_neg_of_neg_of_pos h1 d2
  have m2:0≤q.num*p.den:=Int.mul_nonneg (by omega) (by omega)
  simp only[h1,h2,decide_true,decide_false,Bool.true_eq_false,if_false,if_true]
  rw[if_pos (by omega)]
 ·have m1:0≤p.num*q.den:=Int.mul_nonneg (by omega) (by omega)
  have m2:q.num*p.den<0:=Int.mul_neg_of_neg_of_pos h2 d1
  simp only[h1,h2,decide_true,decide_false,Bool.false_eq_true,if_false]
  rw[if_neg (by omega),if_pos (by omega)]
 ·have e1:(p.num.natAbs:Int)=p.num:=by omega
  have e2:(q.num.natAbs:Int)=q.num:=by omega
  rw[e1] at a1
  rw[e2] at a2
  simp only[h1,h2,decide_false,if_true,Bool.false_eq_true,if_false]
  generalize p.num*q.den=x at *
  generalize q.num*p.den=y at *
  repeat' split
  all_goals first | rfl | omega
theorem aaZ {q:Rat}:ze Tryz.prog gc [xe q] (iv (pj q)):=by
 unfold pj xe
 refine zn aeP (by simp) ?_
 by_cases h0:q=0
 ·subst h0
  simp[Yn,Y1,yF]
 ·have hn:q.num.natAbs≠0:=fun e=>h0 (Rat.num_eq_zero.1 (by omega))
  have hl0:¬ zh q.num.natAbs=[]:=by rw[xA]; exact hn
  have hl:¬ (zh q.num.natAbs).length=0:=by rw[List.length_eq_zero_iff]; exact hl0
  have hli:¬ ((zh q.num.natAbs).length:Int)=0:=by omega
  by_cases h1:q<0
  ·have h2:=mU.2 h1
   simp[Yn,Y1,h0,h1,hl,h2]
  ·have h2:¬ q.num<0:=fun h=>h1 (mU.1 h)
   simp[Yn,Y1,h0,h1,hl,h2]
theorem acj {K:Nat} {p q:Rat} (hK:K≤137438953472) (hp:sz K p) (hq:sz K q):ze Tryz.prog Tk [xe p,xe q] (iv (eo p q)):=by
 have h1:=pB hp
 have h2:=pB hq
 rw[← afF]
 have l1:=rh h1.1 h2.2
 have l2:=rh h2.1 h1.2
 have kx:=Ss (s:=decide (p.num<0)) (t:=decide (q.num<0)) (N:=p.num.natAbs) (D:=p.den) (M:=q.num.natAbs) (E:=q.den) (by omega) (by omega) (by omega) (by omega)
 have k1:=fF (m1:=.plain) (m2:=.plain) (zC (p.num.natAbs*q.den)) (zC (q.num.natAbs*p.den)) (by omega) (by omega)
 have k2:=fF (m1:=.plain) (m2:=.plain) (zC (q.num.natAbs*p.den)) (zC (p.num.natAbs*q.den)) (by omega) (by omega)
 simp only[zM] at k1 k2
 unfold xe
 generalize p.num.natAbs*q.den=x at *
 generalize q.num.natAbs*p.den=y at *
 generalize decide (p.num<0)=s at *
 generalize decide (q.num<0)=t at *
 refine zn ahs (by simp) ?_
 by_cases hst:s=t
 ·have e:(s == t)=true:=by simp[hst]
  rw[if_pos hst]
  simp[P4,wV rn,e]
  refine zb kx (by simp) (by simp) ?_
  cases s
  ·simp
   refine zb k1 (by simp) (by simp) ?_
   simp[TR]
  ·simp
   refine zb k2 (by simp) (by simp) ?_
   simp[TR]
 ·have e:(s == t)=false:=by simp[hst]
  rw[if_neg hst]
  cases s<;>simp[P4,wV rn,e,TR]
def vfr (s:Bool) (a c:List Nat):Bool :=
 decide (a=zh (val a))&&decide (c=zh (val c))&&!decide (c=[])&&!(s&&decide (a=[]))&&(Nat.gcd (val a) (val c) == 1)
theorem ahW {s:Bool} {a c:List Nat} (h:vfr s a c=true):∃ q:Rat,s=decide (q.num<0)∧a=zh q.num.natAbs∧c=zh q.den:=by
 simp only[vfr,Bool.and_eq_true,beq_iff_eq,decide_eq_true_eq,Bool.not_eq_true',decide_eq_false_iff_not,Bool.and_eq_false_iff] at h
 obtain ⟨⟨⟨⟨h1,h2⟩,h3⟩,h4⟩,h5⟩:=h
 have hc:val c≠0:=fun e=>h3 (by rw[h2,e,yF])
 have hs:(sg s (val a)).natAbs=val a:=by unfold sg; split<;>omega
 refine ⟨⟨sg s (val a),val c,hc,by rw[hs]; exact h5⟩,?_,?_,h2⟩
 ·show s=decide (sg s (val a)<0)
  cases s
  ·simp[sg]
  ·have:val a≠0:=fun e=>by
    rcases h4 with h4 | h4
    ·cases h4
    ·exact h4 (by rw[h1,e,yF])
   simp[sg]; omega
 ·show a=zh (sg s (val a)).natAbs
  rw[hs]; exact h1
theorem aiq {ox oy:Operand} {s b:Bool} {K:AV→Option zg→Prop} :
  yj Tryz.prog .eql rt ox oy [.agg [bv s,bv b],.agg [bv true,bv true]] K=K (bv (s&&b)) none:=by
 rw[Jd Ro Rh S0 (xs:=[.bool s,.bool b]) (ys:=[.bool true,.bool true]) rfl rfl rfl rfl]
 cases s<;>cases b<;>rfl
theorem dj {s:Bool} {a c:List Nat} {m1 m2:Am.Mode} (ha:ok a) (hc:ok c) (hna:a.length<17179869184) (hnc:c.length<17179869184) (f1:stm m1=m1) (f2:stm m2=m2) :
  ze Tryz.prog l9 [.agg [bv s,nl m1 a,nl m2 c]] (bv (vfr s a c)):=by
 have k1:=SS (m:=m1) ha (by omega)
 have k2:=SS (m:=m2) hc (by omega)
 have kg:=MV (m1:=m1) (m2:=m2) ha hc (by omega) (by omega) f1 f2
 have kf:=mg (x:=1) (by decide)
 have hvc:c≠[]→c=zh (val c)→val c≠0:=fun h e h0=>h (by rw[e,h0,yF])
 have hgl:c≠[]→c=zh (val c)→(zh (Nat.gcd (val a) (val c))).length<17179869184:=fun h e=>by
  have h1:val c<B^c.length:=by
   have:=zI (x:=val c) (n:=c.length)
   rw[← this,← e]; exact Nat.le_refl _
  exact Nat.lt_of_le_of_lt (zI.2 (Nat.lt_of_le_of_lt (Nat.gcd_le_right _ (Nat.pos_of_ne_zero (hvc h e))) h1)) hnc
 have kc:(zh (Nat.gcd (val a) (val c))).length<17179869184→ze Tryz.prog aoR [nD (Nat.gcd (val a) (val c)),nD 1] (iv (xB (Nat.gcd (val a) (val c)) 1)):=fun h=>by
  have:=fF (m1:=.plain) (m2:=.plain) (zC (Nat.gcd (val a) (val c))) (zC 1) (by omega) (by rw[show zh 1=[1] by decide +kernel]; decide)
  simp only[zM] at this
  exact this
 unfold vfr
 generalize Nat.gcd (val a) (val c)=g at *
 generalize val a=x at *
 generalize hy:val c=y at *
 have hkk:ze Tryz.prog Yf [.agg [bv s,nl m1 a,nl m2 c]] (.agg [bv s,bv (decide (a=[]))]):=by
  refine zn Bo (by simp) ?_
  simp[Qn,Pk]
 have hcl:c=[]→c.length=0:=fun h=>by rw[h]; rfl
 have hcl':c≠[]→¬ c.length=0:=fun h h'=>h (List.length_eq_zero_iff.1 h')
 generalize d1:decide (a=zh x)=b1 at *
 generalize d2:decide (c=zh y)=b2 at *
 refine zn abw (by simp) ?_
 simp[MG]
 refine zb k1 (by simp[f1]) (by simp) ?_
 cases b1
 ·simp[fP]
 simp
 refine zb k2 (by simp[f2]) (by simp) ?_
 cases b2
 ·simp[fP]
 by_cases e3:c=[]
 ·simp[e3,fP]
 simp[e3]
 refine zb hkk (by simp[f1,f2]) (by simp) ?_
 have hg:=hgl e3 (of_decide_eq_true d2)
 have hfin:decide (xB g 1=0)=(g == 1):=by
  have h2:xB g 1=0↔g=1:=by unfold xB; split<;>(try split)<;>omega
  simp only[h2]
  by_cases h1:g=1<;>simp[h1]
 generalize decide (a=[])=z at *
 cases s<;>cases z
 all_goals simp[aiq,fP]
 all_goals
  refine zb kg (by simp[f1,f2]) (by simp) ?_
  simp
  refine zb kf (by simp) (by simp) ?_
  simp
  refine zb (kc hg) (by simp) (by simp) ?_
  simp[← hfin]
theorem ada (q:Rat):frA (!decide (q.num<0)&&decide (q.num.natAbs≠0)) q.num.natAbs q.den=xe (-q):=by
 unfold xe
 rw[Rat.neg_num,Rat.neg_den,Int.natAbs_neg]
 have:(!decide (q.num<0)&&decide (q.num.natAbs≠0))=decide (-q.num<0):=by
  by_cases h:q.num<0
  ·have h2:¬ -q.num<0:=by omega
   simp[h]; omega
  ·by_cases h0:q.num.natAbs=0
   ·have h2:¬ -q.num<0:=by omega
    simp[h0]; omega
   ·have h2:-q.num<0:=by omega
    simp[h,h0]; omega
 rw[this]
theorem Ju {n:Int} (h1:-9223372036854775808≤n) (h2:n<9223372036854775808):ze Tryz.prog xz [iv n] (xe n):=by
 rw[← E4]; exact FJ h1 h2
theorem aci (p q:Rat):pj (p-q)=eo p q:=by
 unfold pj eo
 by_cases h1:p<q
 ·have:¬ p-q=0:=by grind
  have h2:p-q<0:=by grind
  simp[h1,this,h2]
 ·by_cases h3:q<p
  ·have:¬ p-q=0:=by grind
   have h2:¬ p-q<0:=by grind
   simp[h1,h3,this,h2]
  ·have:p-q=0:=by grind
   simp[h1,h3,this]
theorem Lt {q:Rat}:ze Tryz.prog dG [xe q] (iv (pj q)):=by
 unfold pj xe
 refine zn aeV (by simp) ?_
 by_cases h0:q=0
 ·subst h0
  simp[Ys,Y3,yF]
 ·have hn:q.num.natAbs≠0:=fun e=>h0 (Rat.num_eq_zero.1 (by omega))
  have hl0:¬ zh q.num.natAbs=[]:=by rw[xA]; exact hn
  have hl:¬ (zh q.num.natAbs).length=0:=by rw[List.length_eq_zero_iff]; exact hl0
  have hli:¬ ((zh q.num.natAbs).length:Int)=0:=by omega
  by_cases h1:q<0
  ·have h2:=mU.2 h1
   simp[Ys,Y3,h0,h1,h2]
  ·have h2:¬ q.num<0:=fun h=>h1 (mU.1 h)
   simp[Ys,Y3,h0,h1,hl,h2]
section
variable {K:Nat} {p q:Rat} (hK:K≤137438953472) (hp:sz K p) (hq:sz K q)
include hK hp
theorem adb:ze Tryz.prog Tq [xe p] (xe (-p)):=by
 have h1:=pB hp
 rw[← ada]
 exact agq (by omega) (by omega)
include hq
theorem ac6:ze Tryz.prog dm [xe p,xe q] (xe (p*q)):=by
 have h1:=pB hp
 have h2:=pB hq
 rw[← Df]
 exact ac4 (by omega) (by omega) (by omega) (by omega) p.den_nz q.den_nz
theorem KA:ze Tryz.prog nY [xe p,xe q] (xe (p+q)):=by
 have h1:=pB hp
 have h2:=pB hq
 rw[← Ep]
 exact abT (by omega) (by omega) (by omega) (by omega) p.den_nz q.den_nz
theorem G0:ze Tryz.prog Zw [xe p,xe q] (xe (p-q)):=by
 have k1:=adb hK hq
 have k2:=KA hK hp (U8 hq)
 rw[Rat.sub_eq_add_neg]
 obtain ⟨a,ha⟩:∃ a,a=p+-q:=⟨_,rfl⟩
 obtain ⟨b,hb⟩:∃ b,b=-q:=⟨_,rfl⟩
 rw[← ha] at k2 ⊢
 rw[← hb] at k1 k2
 refine zn ahG (by simp) ?_
 simp[EF]
 refine zb k1 (by simp) (by simp) ?_
 simp
 refine zb k2 (by simp) (by simp) ?_
 simp[DB]
theorem ack:ze Tryz.prog Tp [xe p,xe q] (iv (eo p q)):=by
 have k1:=G0 hK hp hq
 have k2:=Lt (q:=p-q)
 rw[aci] at k2
 generalize eo p q=c at *
 obtain ⟨a,ha⟩:∃ a,a=p-q:=⟨_,rfl⟩
 rw[← ha] at k1 k2
 refine zn ahC (by simp) ?_
 simp[EC]
 refine zb k1 (by simp) (by simp) ?_
 simp
 refine zb k2 (by simp) (by simp) ?_
 simp[Dy]
end
theorem ct:zh 1=[1]:=by decide +kernel
theorem Xq {s:Bool} {a c:List Nat} {m1 m2:Am.Mode} (ha:ok a) (hc:ok c) (hna:a.length<17179869184) (hnc:c.length<17179869184) (f1:stm m1=m1) (f2:stm m2=m2) :
  ze Tryz.prog fp [.agg [bv s,nl m1 a,nl m2 c]] (bv (vfr s a c)):=by
 have k1:=aO (m:=m1) ha (by omega)
 have k2:=aO (m:=m2) hc (by omega)
 have kg:a=zh (val a)→c=zh (val c)→ze Tryz.prog ge [nl m1 a,nl m2 c] (nD (Nat.gcd (val a) (val c))):=fun h1 h2=>by
  have:=Nn (A:=val a) (D:=val c) (by rw[← h1]; omega) (by rw[← h2]; omega)
  unfold nD at this
  rw[← h1,← h2] at this
  exact gC (aa this (fI f1)) (fI f2)
 have ha0:a=[]→val a=0:=fun h=>by rw[h]; rfl
 have hc1:c=zh (val c)→((val c == 1)=decide (c=[1])):=fun h=>by
  by_cases h1:val c=1
  ·rw[h1,ct] at h; rw[h1,decide_eq_true h]; rfl
  ·have:¬ c=[1]:=fun e=>h1 (by rw[e]; rfl)
   simp[h1,this]
 have hgd:∀ g,(g == 1)=decide (zh g=[1]):=fun g=>by
  by_cases h1:g=1
  ·subst h1; simp[ct]
  ·have:¬ zh g=[1]:=fun e=>h1 (S8 (by rw[e,ct]))
   simp[h1,this]
 have hone:∀ l:List Nat,(decide (l=[1]))=(decide (l.length=1)&&decide (l[0]?=some 1)):=fun l=>by
  match l with
  | []=>rfl
  | [z]=>simp
  | _::_::_=>simp
 unfold vfr
 generalize hx:val a=x at *
 generalize hy:val c=y at *
 generalize hg:Nat.gcd x y=g at *
 have hcl':c≠[]→¬ c.length=0:=fun h h'=>h (List.length_eq_zero_iff.1 h')
 generalize d1:decide (a=zh x)=b1 at *
 generalize d2:decide (c=zh y)=b2 at *
 refine zn abB (by simp) ?_
 simp[ML]
 refine zb k1 (by simp[f1]) (by simp) ?_
 cases b1
 ·simp[vV]
 simp
 refine zb k2 (by simp[f2]) (by simp) ?_
 cases b2
 ·simp[vV]
 by_cases e3:c=[]
 ·simp[e3,vV]
 by_cases e4:a=[]
 ·have hx0:=ha0 e4
  rw[hx0,Nat.gcd_zero_left] at hg
  have hg1:=hc1 (of_decide_eq_true d2)
  rw[hg] at hg1
  rw[hg1]
  match c,e3 with
  | [z],_ =>
   cases s
   ·by_cases hz:z=1
    ·subst hz; simp[e4,vV]
    ·have hz':¬ (z:Int)=1:=by omega
     simp[e4,hz,hz',vV]
   ·simp[e4,vV]
  | z::z2::l,_ =>
   have hl:¬ ((l.length:Int)+1+1=1):=by omega
   have hl2:¬ ((l.length:Int)+1+1=0):=by omega
   cases s<;>simp[e4,hl,hl2,vV]
 ·have kg':=kg (of_decide_eq_true d1) (of_decide_eq_true d2)
  rw[hgd g]
  have hl0:¬ (a.length:Int)=0:=by
   have:a.length≠0:=fun h=>e4 (List.length_eq_zero_iff.1 h)
   omega
  simp[e3,e4]
  refine zb kg' (by simp[f1,f2]) (by simp) ?_
  match hl:zh g with
  | []=>simp[hl,vV]
  | [z] =>
   by_cases hz:z=1
   ·subst hz; simp[hl,vV]
   ·have hz':¬ (z:Int)=1:=by omega
    simp[hl,hz,hz',vV]
  | z::z2::l =>
   have hl2:¬ ((l.length:Int)+1+1=1):=by omega
   simp[hl,hl2,vV]
end Go.Proofs.YtpnliopaifpimaaGreat

namespace Go.Wr
open Go.Dig
def zE (q:Rd):(Bool × List Nat × List Nat) × Rd :=
 if (xc (xc (zr 1 q).2).2).2.1=0 then
  (if Go.Proofs.YtpnliopaifpimaaGreat.vfr (decide ((zr 1 q).1=1)) (xc (zr 1 q).2).1 (xc (xc (zr 1 q).2).2).1=true then
   ((decide ((zr 1 q).1=1),(xc (zr 1 q).2).1,(xc (xc (zr 1 q).2).2).1),(xc (xc (zr 1 q).2).2).2)
  else ((false,[],[]),(2,[])))
 else ((false,[],[]),(xc (xc (zr 1 q).2).2).2)
end Go.Wr
namespace Go.Proofs.YtpnliopaifpimaaGreat
open Go Go.Am Go.Wr Go.Dig
abbrev fAV (x:Bool × List Nat × List Nat):AV:=.agg [bv x.1,nl .plain x.2.1,nl .plain x.2.2]
abbrev zAV:AV:=.agg [bv false,.list 0 .full [],.list 0 .full []]
def acH (x:Bool × List Nat × List Nat) (r:AV):Prop:=r=fAV x∨(x=(false,[],[])∧r=zAV)
theorem Jk {x:Bool × List Nat × List Nat} {r:AV} (h:acH x r):∃ c c',r=.agg c∧AV.imp (.agg c) (.agg c')∧fAV x=.agg c':=by
 rcases h with h | ⟨h1,h⟩
 ·exact ⟨_,_,h,AV.imp.refl,rfl⟩
 ·subst h1
  exact ⟨_,_,h,TF (zW AV.imp.refl (zW (AV.imp_nil rfl) (zW (AV.imp_nil rfl) ut))),rfl⟩
theorem ZO {q:Rd}:ok (xc q).1:=fun d hd=>by
 have:=ND (most:=4294967295) d hd
 rw[yc]; omega
theorem cr {q:Rd}:(xc q).1.length≤2000:=Nat.le_trans Ry wP.1
theorem pc:yv Tryz.prog ye=true:=by kernel_rfl
theorem Dp:yv Tryz.prog wy=true:=by kernel_rfl
section
variable {s:St} {n m:Nat} {b:ByteArray} {q:Rd} {K:AV→St→Prop} {env:List (Nat × AV)} {out:List (List (Nat × AV))} {σ:List (Nat × zg)} {B base:Nat}
def T4 (n m B:Nat) (q:Rd) (env:List (Nat × AV)) (σ:List (Nat × zg)) (out:List (List (Nat × AV))) (k:Nat) (b:ByteArray):St :=
 {env:=[(0,.ptr m 0),(2,yq 1 (B+19) (zH (numK q k).1)),(3,zS ((zr 2000 q).1-k))],sto:=pt σ n (rdE b (numK q k).2.1),out:=env::out,base:=B}
theorem afo (hs:s=⟨env,σ,out,base⟩) (hρ:yr B σ) (hE:tZ B env) (hO:t0 B out) (hn:n<B) (hl:lk σ n=some (rdE b q.1)) (hlm:lk σ m=some (.var [.ptr n 0])) (hm:yG q b)
  (hK:∀ b',yG (xc q).2 b'→K (nl .plain (xc q).1) ⟨env,pt σ n (rdE b' (xc q).2.1),out,base⟩):yw Tryz.prog wy [.ptr m 0] s K:=by
 subst hs
 have hmn:¬ n=m:=fun e=>by subst e; rw[hl] at hlm; cases hlm
 have hlow:∀ b' e,yr B (pt σ n (rdE b' e)):=fun b' e=>k6 hρ hn rfl
 have hpm:∀ b' e,lk (pt σ n (rdE b' e)) m=some (.var [.ptr n 0]):=fun b' e=>by rw[uL,if_neg hmn]; exact hlm
 refine MO (vT B gT (by simp) ?_)
 simp[qi,pc,hlm]
 refine zT (jT (b:=b) (q:=q) (most:=2000) (by exact hl) hm (by decide) fun b1 hb1=>?_)
 simp
 obtain ⟨L,g1,g2,g3,g4⟩:=M5 (q:=q)
 have h2k:(zr 2000 q).1≤2000:=wP.1
 refine gm (T4 n m B q env σ out) (fun k b'=>yG (numK q k).2 b') L b1 ?_ hb1 (fun k b' hk hi=>?_) (fun b' hi=>?_)
 ·refine St.imp_of ?_
  simp[T4,fN,nr]
 ·have hq:=g2 k hk
  have hkN:k<(zr 2000 q).1:=by omega
  have hz:=numK_succ hq
  obtain ⟨N1,hN1⟩:∃ N1,(zr 2000 q).1-k=N1+1:=⟨(zr 2000 q).1-k-1,by omega⟩
  have hN2:(zr 2000 q).1-(k+1)=N1:=by omega
  have hst:∀ b2,T4 n m B q env σ out (k+1) b2={env:=[(0,.ptr m 0),(2,yq 1 (B+19) (zH (numK q k).1++[[uv (zr 4294967295 (numK q k).2).1]])),(3,zS N1)],sto:=pt σ n (rdE b2 (zr 4294967295 (numK q k).2).2.1),out:=env::out,base:=B}:=fun b2=>by
   rw[T4,hz,hN2]; simp
  have hI:yG (numK q (k+1)).2=yG (zr 4294967295 (numK q k).2).2:=by rw[hz]
  have hle:(zr 4294967295 (numK q k).2).1≤4294967295:=wP.1
  have hlen:=M4 hq
  rw[T4,hN1]
  rw[hq]
  obtain ⟨Q,hQ⟩:∃ Q,numK q k=Q:=⟨_,rfl⟩
  rw[hQ] at hst hI hle hi hq hlen ⊢
  obtain ⟨A,q1⟩:=Q
  simp only at hst hI hle hi hq hlen ⊢
  have w1:IntKind.u64.wrap ((N1:Int)+1-1)=(N1:Int):=by rw[va]<;>omega
  have hp:(0:Int)<(N1:Int)+1:=by omega
  have hlm1:=hpm b' 0
  have hln1:lk (pt σ n (rdE b' 0)) n=some (rdE b' 0):=yt
  have pp:∀ b2 e,pt (pt σ n (rdE b' 0)) n (rdE b2 e)=pt σ n (rdE b2 e):=fun _ _=>xk
  generalize pt σ n (rdE b' 0)=σ1 at *
  simp[xQ,hp,hlm1]
  refine zb (aA (b:=b') (e:=0)) (by simp[hln1]) (.inr rfl) ?_
  simp[pc,hlm1]
  refine zT (jT (b:=b') (q:=q1) (most:=4294967295) (by simp[hq,hln1]) hi (by decide) fun b2 hb2=>?_)
  generalize zr 4294967295 q1=r at *
  obtain ⟨x,q2⟩:=r
  simp only at hst hI hle hb2 ⊢
  have w2:IntKind.u32.wrap (x:Int)=(x:Int):=by rw[w32,yc,Nat.mod_eq_of_lt (by omega)]
  have hlw:=hlow b2 q2.1
  have hf:=fK hlw (Nat.le_add_right B 19)
  have hd:=kdg hlw (Nat.le_add_right B 19)
  have he:=ZV (Nat.le_add_right B 19) hE
  have ho:=TN (Nat.le_add_right B 19) hO
  unfold dgE at hd
  have wx:(N1:Int)+1-1=N1:=by omega
  have w3:IntKind.u64.wrap (N1:Int)=(N1:Int):=w64 (by omega)
  simp[wx,w3,w2,pp,xH,vF,hf,hlen,hst,hd,he,ho]
  exact ⟨by omega,by omega,b2,St.imp.refl,by rw[hI]; exact hb2⟩
 ·have hlen:=numK_len (q:=q) (k:=L)
  rw[g4] at hK
  rw[T4]
  obtain ⟨Q,hQ⟩:∃ Q,numK q L=Q:=⟨_,rfl⟩
  rw[hQ] at g3 hK hi hlen ⊢
  obtain ⟨A,q1⟩:=Q
  simp only at g3 hK hi hlen ⊢
  generalize (zr 2000 q).1=N at *
  have hfin:=hK b' hi
  have hlm1:=hpm b' q1.1
  have hln1:lk (pt σ n (rdE b' q1.1)) n=some (rdE b' q1.1):=yt
  generalize pt σ n (rdE b' q1.1)=σ1 at *
  by_cases h1:L<N
  ·obtain ⟨N1,hN1⟩:∃ N1,N-L=N1+1:=⟨N-L-1,by omega⟩
   have hp:(0:Int)<(N1:Int)+1:=by omega
   have hq:¬ q1.1=0:=g3.resolve_left (by omega)
   rw[hN1]
   simp[xQ,hp,hlm1]
   refine zb (aA (b:=b') (e:=q1.1)) (by simp[hln1]) (.inr rfl) ?_
   simp[hq,vr,ux]
   exact ⟨zH A,⟨by simp,by simp,rfl⟩,hfin⟩
  ·have hN0:N-L=0:=by omega
   rw[hN0]
   simp[xQ,vr,ux]
   exact ⟨zH A,⟨by simp,by simp,rfl⟩,hfin⟩
end
section
variable {s:St} {n m:Nat} {b:ByteArray} {q:Rd} {K:AV→St→Prop} {env:List (Nat × AV)} {out:List (List (Nat × AV))} {σ:List (Nat × zg)} {B base:Nat}
theorem ajA (hs:s=⟨env,σ,out,base⟩) (hρ:yr B σ) (hE:tZ B env) (hO:t0 B out) (hn:n<B) (hl:lk σ n=some (rdE b q.1)) (hm:yG q b)
  (hK:∀ b',yG (zE q).2 b'→K (fAV (zE q).1) ⟨env,pt σ n (rdE b' (zE q).2.1),out,base⟩):yw Tryz.prog wU [.ptr n 0] s K:=by
 subst hs
 have hlow:∀ b' e,yr B (pt σ n (rdE b' e)):=fun b' e=>k6 hρ hn rfl
 refine bU (eP (B:=B) 2 hE hO (K1:=fun r s'=>∃ b' c,yG (zE q).2 b'∧acH (zE q).1 r∧s'=⟨env,pt σ n (rdE b' (zE q).2.1)++[(B+2,c)],out,base⟩) ?_ (fun r s' ⟨b',c,h1,h2,h3⟩ =>
  ⟨c,_,hlow b' _,h3,by rcases h2 with h2 | ⟨_,h2⟩<;>rw[h2]<;>rfl,by rcases h2 with h2 | ⟨_,h2⟩<;>rw[h2]<;>rfl,by
   obtain ⟨c1,c2,h4,h5,h6⟩:=Jk h2
   exact ⟨c1,c2,h4,h5,h6▸hK b' h1⟩⟩))
 refine vT B ez (by simp) ?_
 have low3:t0 (B+100) (env::out):=aj (Nat.le_add_right _ _) (ai.2 ⟨hE,hO⟩)
 simp[pr,No hρ,Np hρ,glk hρ,gpt hρ,pc]
 refine zT (jT (b:=b) (q:=q) (most:=1) (by exact vY hl) hm (by decide) fun b1 hb1=>?_)
 rw[sX hl]
 unfold zE
 obtain ⟨u,q1,e1⟩:∃ u q1,zr 1 q=(u,q1):=⟨_,_,rfl⟩
 rw[e1] at hb1 ⊢
 simp only at hb1 ⊢
 have hl1:lk (pt σ n (rdE b1 q1.1)) n=some (rdE b1 q1.1):=by rw[yt]
 have hρ1:=hlow b1 q1.1
 have pp:∀ b' e',pt (pt σ n (rdE b1 q1.1)) n (rdE b' e')=pt σ n (rdE b' e'):=fun b' e'=>xk
 have hg:decide ((u:Int)=1)=decide (u=1):=by rw[decide_eq_decide]; omega
 generalize hg2:decide (u=1)=g at *
 generalize pt σ n (rdE b1 q1.1)=σ1 at *
 simp[hg,Dp,glk hρ1,gpt hρ1]
 have m0:yr (B+100) (σ1++[(B+1,.var [.ptr n 0]),(B+2,.var [AV.val (Value.bool false),AV.list 0 Mode.full [],AV.list 0 Mode.full []]),(B+4,.var [bv g,AV.list 0 Mode.full [],AV.list 0 Mode.full []])]) :=
  gF.2 ⟨nI (by omega) hρ1,xW.2 ⟨⟨by omega,by simp[nG,k7]; omega⟩,xW.2 ⟨⟨by omega,rfl⟩,xW.2 ⟨⟨by omega,rfl⟩,sD⟩⟩⟩⟩
 refine zT (afo (n:=n) (B:=B+100) (b:=b1) (q:=q1) rfl m0 ?_ low3 (by omega) (by exact vY hl1) (by rw[glk hρ1]; simp[lk]) hb1 fun b2 hb2=>?_)
 ·simp[qP,nH,Am.low,ws]
 rw[sX hl1,pp]
 obtain ⟨A,q2,e2⟩:∃ A q2,xc q1=(A,q2):=⟨_,_,rfl⟩
 rw[e2] at hb2 ⊢
 simp only at hb2 ⊢
 have hl2:lk (pt σ n (rdE b2 q2.1)) n=some (rdE b2 q2.1):=by rw[yt]
 have hρ2:=hlow b2 q2.1
 have pp2:∀ b' e',pt (pt σ n (rdE b2 q2.1)) n (rdE b' e')=pt σ n (rdE b' e'):=fun b' e'=>xk
 generalize pt σ n (rdE b2 q2.1)=σ2 at *
 simp[glk hρ2,gpt hρ2,Dp]
 have m1:yr (B+100) (σ2++[(B+1,.var [.ptr n 0]),(B+2,.var [AV.val (Value.bool false),AV.list 0 Mode.full [],AV.list 0 Mode.full []]),(B+4,.var [bv g,nl .plain A,AV.list 0 Mode.full []])]) :=
  gF.2 ⟨nI (by omega) hρ2,xW.2 ⟨⟨by omega,by simp[nG,k7]; omega⟩,xW.2 ⟨⟨by omega,rfl⟩,xW.2 ⟨⟨by omega,rfl⟩,sD⟩⟩⟩⟩
 refine zT (afo (n:=n) (B:=B+100) (b:=b2) (q:=q2) rfl m1 ?_ low3 (by omega) (by exact vY hl2) (by rw[glk hρ2]; simp[lk]) hb2 fun b3 hb3=>?_)
 ·simp[qP,nH,Am.low,ws]
 rw[sX hl2,pp2]
 obtain ⟨C,q3,e3⟩:∃ C q3,xc q2=(C,q3):=⟨_,_,rfl⟩
 rw[e3] at hb3 ⊢
 simp only at hb3 ⊢
 have hl3:lk (pt σ n (rdE b3 q3.1)) n=some (rdE b3 q3.1):=by rw[yt]
 have hρ3:=hlow b3 q3.1
 have pp3:∀ b' e',pt (pt σ n (rdE b3 q3.1)) n (rdE b' e')=pt σ n (rdE b' e'):=fun b' e'=>xk
 have hlx:∀ l,lk (pt σ n (rdE b3 q3.1)++l) n=some (rdE b3 q3.1):=fun l=>vY hl3
 have hpx:∀ l e,pt (pt σ n (rdE b3 q3.1)++l) n e=pt (pt σ n (rdE b3 q3.1)) n e++l:=fun l e=>sX hl3
 generalize hσ3:pt σ n (rdE b3 q3.1)=σ3 at *
 have hA:ok A:=by have:=ZO (q:=q1); rw[e2] at this; exact this
 have hC:ok C:=by have:=ZO (q:=q2); rw[e3] at this; exact this
 have hAl:A.length≤2000:=by have:=cr (q:=q1); rw[e2] at this; exact this
 have hCl:C.length≤2000:=by have:=cr (q:=q2); rw[e3] at this; exact this
 have kl:=dj (s:=g) (m1:=.plain) (m2:=.plain) hA hC (by omega) (by omega) rfl rfl
 simp[glk hρ3,gpt hρ3]
 refine zb (aA (b:=b3) (e:=q3.1)) (by simp[hlx]) (.inr rfl) ?_
 by_cases hq:q3.1=0
 ·simp[glk hρ3,hq]
  refine zb kl (by simp) (by simp) ?_
  by_cases hv:vfr g A C=true
  ·rw[hv]
   simp[glk hρ3,hq]
   refine zb (aA (b:=b3) (e:=0)) (by simp[hlx,hq]) (.inr rfl) ?_
   simp[glk hρ3,gpt hρ3,qz hρ3,gno hρ3,pM hE,pN hO,wX]
   exact ⟨b3,hb3,.inl rfl,by rw[← hσ3,hq]⟩
  ·rw[Bool.not_eq_true] at hv
   rw[hv]
   obtain ⟨τ,hτ⟩:∃ τ,pt σ3 n (rdE b3 2)=τ:=⟨_,rfl⟩
   have hp4:yr B τ:=by have:=hlow b3 2; rw[← pp3] at this; rw[← hτ]; exact this
   have hl4:∀ l,lk (τ++l) n=some (rdE b3 2):=fun l=>by rw[← hτ]; exact vY yt
   have ht:τ=pt σ n (rdE b3 2):=by rw[← pp3,← hτ]
   have hpx':∀ l,pt (σ3++l) n (rdE b3 2)=τ++l:=fun l=>by rw[← hτ]; exact hpx l _
   simp[glk hρ3,ja]
   refine zT (jS (b:=b3) (e:=0) (c:=2) (by simp[hlx,hq]) (fun _=>?_) (fun h=>absurd rfl h))
   rw[hpx']
   simp[glk hp4]
   refine zb (aA (b:=b3) (e:=2)) (by simp[hl4]) (.inr rfl) ?_
   simp[glk hp4,gpt hp4,qz hp4,gno hp4,pM hE,pN hO,wX]
   exact ⟨b3,⟨fun h=>absurd h (by decide),hb3.2⟩,.inr ⟨rfl,rfl⟩,ht⟩
 ·simp[glk hρ3,hq]
  refine zb (aA (b:=b3) (e:=q3.1)) (by simp[hlx]) (.inr rfl) ?_
  simp[glk hρ3,gpt hρ3,hq,qz hρ3,gno hρ3,pM hE,pN hO,wX]
  exact ⟨b3,hb3,.inr ⟨rfl,rfl⟩,hσ3.symm⟩
end
end Go.Proofs.YtpnliopaifpimaaGreat

namespace Go.Wr
abbrev Fr:=Bool × List Nat × List Nat
structure Nd where
 K:Nat
 O:Nat
 U:Nat
 I:Nat
 P:List Fr
def zB {α:Type} (f:Rd→α × Rd):Nat→Rd→List α × Rd
 | 0,s=>([],s)
 | k+1,s=>if (zB f k s).2.1≠0 then zB f k s else ((zB f k s).1++[(f (zB f k s).2).1],(f (zB f k s).2).2)
theorem gR {α:Type} {f:Rd→α × Rd}:∀ {k:Nat} {s:Rd},(zB f k s).1.length≤k
 | 0,_=>Nat.le_refl _
 | k+1,s=>by
  have:=gR (f:=f) (k:=k) (s:=s)
  unfold zB
  split
  ·omega
  ·simp; omega
end Go.Wr
namespace Go.Proofs.YtpnliopaifpimaaGreat
open Go Go.Am Go.Wr Go.Dig
abbrev Cm (x:Fr):List AV:=[bv x.1,nl .plain x.2.1,nl .plain x.2.2]
abbrev wW (P:List Fr):List (List AV):=P.map Cm
abbrev ac8 (N:Nd):AV:=.agg [iv N.K,iv N.O,iv N.U,iv N.I,.list 3 .plain (wW N.P)]
section
variable {s:St} {n m:Nat} {b:ByteArray} {q:Rd} {K:AV→St→Prop} {env:List (Nat × AV)} {out:List (List (Nat × AV))} {σ:List (Nat × zg)} {B base:Nat}
theorem gG {M sz d:Nat} {rows:List (List AV)} (h:d<M):Am.low M (yq sz d rows)=true:=by
 unfold yq
 split<;>simp[Am.low,ws,h]
theorem eQ {cs:List AV}:cellsOf (.agg cs)=some cs:=rfl
theorem QH {sz d:Nat} {rows:List (List AV)}:cellsOf (yq sz d rows)=some [yq sz d rows]:=by
 unfold yq
 split<;>rfl
end
end Go.Proofs.YtpnliopaifpimaaGreat

namespace Go.Wr
def jF (c:Nat) (q:Rd):Rd:=if q.1=0 then (c,[]) else q
end Go.Wr
namespace Go.Proofs.YtpnliopaifpimaaGreat
open Go Go.Am Go.Wr Go.Dig
abbrev ndO (N:Nd):AV:=.agg [iv N.K,iv N.O,iv N.U,iv N.I,Zi 3 (wW N.P)]
theorem Dh {N:Nd}:AV.imp (ndO N) (ac8 N):=TF (zW AV.imp.refl (zW AV.imp.refl (zW AV.imp.refl (zW AV.imp.refl (zW lP ut)))))
section
variable {s:St} {n m:Nat} {b:ByteArray} {q:Rd} {K:AV→St→Prop} {env:List (Nat × AV)} {out:List (List (Nat × AV))} {σ:List (Nat × zg)} {B base:Nat}
abbrev zN:zg:=.var [iv 0,iv 0,iv 0,iv 0,.list 0 .full []]
end
end Go.Proofs.YtpnliopaifpimaaGreat

namespace Go.Wr
theorem Lq {α:Type} {f:Rd→α × Rd} {k:Nat} {s:Rd} (h:(zB f k s).2.1≠0):∀ j,zB f (k+j) s=zB f k s
 | 0=>rfl
 | j+1=>by
  have:=Lq h j
  rw[← Nat.add_assoc,zB,this,if_pos h]
theorem aC {α:Type} {f:Rd→α × Rd} {s:Rd}:∀ N,∃ L,L≤N∧(∀ k,k<L→(zB f k s).2.1=0)∧(L=N∨(zB f L s).2.1≠0)∧zB f N s=zB f L s
 | 0=>⟨0,Nat.le_refl _,fun k hk=>absurd hk (Nat.not_lt_zero k),.inl rfl,rfl⟩
 | N+1=>by
  obtain ⟨L,h1,h2,h3,h4⟩:=aC (f:=f) (s:=s) N
  by_cases h:(zB f L s).2.1=0
  ·have hL:L=N:=h3.resolve_right (fun h'=>h' h)
   subst hL
   exact ⟨L+1,Nat.le_refl _,fun k hk=>by
    by_cases hk2:k=L
    ·subst hk2; exact h
    ·exact h2 k (by omega),.inl rfl,rfl⟩
  ·refine ⟨L,by omega,h2,.inr h,?_⟩
   have:=Lq h (N+1-L)
   rwa [show L+(N+1-L)=N+1 by omega] at this
def zP (q:Rd):Nd × Rd :=
 if (zr 3 q).1=0 then (⟨0,0,0,0,[]⟩,jF 2 (zr 3 q).2)
 else if (zr 3 q).1=2 then
  (⟨2,(zr 65536 (zr 3 q).2).1,(zr 65536 (zr 65536 (zr 3 q).2).2).1,(zr 65536 (zr 65536 (zr 65536 (zr 3 q).2).2).2).1,[]⟩,(zr 65536 (zr 65536 (zr 65536 (zr 3 q).2).2).2).2)
 else if (zr 3 q).1=1 then (⟨1,0,0,0,(zB zE (zr 40 (zr 3 q).2).1 (zr 40 (zr 3 q).2).2).1⟩,(zB zE (zr 40 (zr 3 q).2).1 (zr 40 (zr 3 q).2).2).2)
 else (⟨(zr 3 q).1,0,0,0,[]⟩,(zr 3 q).2)
end Go.Wr
namespace Go.Proofs.YtpnliopaifpimaaGreat
open Go Go.Am Go.Wr Go.Dig
theorem adt:yv Tryz.prog wU=true:=by kernel_rfl
section
variable {s:St} {n m:Nat} {b:ByteArray} {q:Rd} {K:AV→St→Prop} {env:List (Nat × AV)} {out:List (List (Nat × AV))} {σ:List (Nat × zg)} {B base:Nat}
noncomputable def U3 (n B N:Nat) (z:zg) (q:Rd) (env:List (Nat × AV)) (σ:List (Nat × zg)) (out:List (List (Nat × AV))) (k:Nat) (b:ByteArray):St :=
 {env:=[(0,.ptr n 0),(2,.ptr (B+2) 0),(3,.ptr (B+3) 0),(4,iv N),(5,iv k)],sto:=pt σ n (rdE b (zB zE k q).2.1)++[(B+2,z),(B+3,.var [iv 1,iv 0,iv 0,iv 0,yq 3 (B+46) (wW (zB zE k q).1)])],out:=env::out,base:=B}
theorem Bu {N L:Nat} {z:zg} {KK:Exit→St→Prop} (hρ:yr B σ) (hE:tZ B env) (hO:t0 B out) (hn:n<B) (hz:nG (B+3) z=true) (hN:N≤40) (hm:yG q b)
  (hL:L≤N) (g2:∀ k,k<L→(zB zE k q).2.1=0)
  (hK:∀ b',yG (zB zE L q).2 b'→awp Tryz.prog xa (U3 n B N z q env σ out L b') (uK KK)) :
  awp Tryz.prog (.loop xa) (U3 n B N z q env σ out 0 b) KK:=by
 have hlow:∀ b' e,yr B (pt σ n (rdE b' e)):=fun b' e=>k6 hρ hn rfl
 refine gm (U3 n B N z q env σ out) (fun k b'=>yG (zB zE k q).2 b') L b St.imp.refl hm (fun k b' hk hi=>?_) (fun b' hi=>hK b' hi)
 have hq:=g2 k hk
 have hse:zB zE (k+1) q=((zB zE k q).1++[(zE (zB zE k q).2).1],(zE (zB zE k q).2).2):=by rw[zB,if_neg (fun hne=>hne hq)]
 have hst:∀ b2,U3 n B N z q env σ out (k+1) b2={env:=[(0,.ptr n 0),(2,.ptr (B+2) 0),(3,.ptr (B+3) 0),(4,iv N),(5,iv ((k:Int)+1))],sto:=pt σ n (rdE b2 (zE (zB zE k q).2).2.1)++[(B+2,z),(B+3,.var [iv 1,iv 0,iv 0,iv 0,yq 3 (B+46) (wW (zB zE k q).1++[Cm (zE (zB zE k q).2).1])])],out:=env::out,base:=B}:=fun b2=>by
  rw[U3,hse]; simp
 have hI:yG (zB zE (k+1) q).2=yG (zE (zB zE k q).2).2:=by rw[hse]
 have hlen:=gR (f:=zE) (k:=k) (s:=q)
 have w1:=zl (k:=k) (by omega)
 rw[U3]
 obtain ⟨Q,hQ⟩:∃ Q,zB zE k q=Q:=⟨_,rfl⟩
 rw[hQ] at hst hI hi hlen hq ⊢
 obtain ⟨A,q1⟩:=Q
 simp only at hst hI hi hlen hq ⊢
 have hl1:lk (pt σ n (rdE b' q1.1)) n=some (rdE b' q1.1):=yt
 have hρ1:=hlow b' q1.1
 have pp:∀ b2 e,pt (pt σ n (rdE b' q1.1)) n (rdE b2 e)=pt σ n (rdE b2 e):=fun _ _=>xk
 generalize pt σ n (rdE b' q1.1)=σ1 at *
 have hk':(k:Int)<N:=by omega
 have hlx:∀ l,lk (σ1++l) n=some (rdE b' q1.1):=fun l=>vY hl1
 simp[xa,hk']
 refine zb (cV (b:=b') (e:=q1.1)) (by simp[hlx]) (.inr rfl) ?_
 simp[hq,glk hρ1,adt,tV]
 have low3:t0 (B+100) (env::out):=aj (Nat.le_add_right _ _) (ai.2 ⟨hE,hO⟩)
 have m0:yr (B+100) (σ1++[(B+2,z),(B+3,.var [iv 1,iv 0,iv 0,iv 0,yq 3 (B+46) (wW A)])]) :=
  gF.2 ⟨nI (by omega) hρ1,xW.2 ⟨⟨by omega,Us (by omega) hz⟩,xW.2 ⟨⟨by omega,by simp[nG,ZW,gG]⟩,sD⟩⟩⟩
 refine ⟨by simp[tV,glk hρ1],fun D=>ajA (n:=n) (B:=B+100) (b:=b') (q:=q1) rfl m0 (JP ?_) low3 (by omega) (by exact vY hl1) hi fun b2 hb2=>?_⟩
 ·simp[qP,nH,Ut,ZW,k7,gG]
  omega
 rw[sX hl1,pp]
 generalize zE q1=r at *
 obtain ⟨x,q2⟩:=r
 simp only at hst hI hb2 ⊢
 have hρ2:=hlow b2 q2.1
 have hl2:lk (pt σ n (rdE b2 q2.1)) n=some (rdE b2 q2.1):=yt
 refine ⟨⟨_,pt σ n (rdE b2 q2.1)++[(B+2,z),(B+3,.var [iv 1,iv 0,iv 0,iv 0,yq 3 (B+46) (wW A)])],env::out,B⟩,rfl,rfl,by simp[tV,glk hρ2],?_⟩
 have hf:=fK hρ2 (Nat.le_add_right B 46)
 have hd:=kdg hρ2 (Nat.le_add_right B 46)
 have he:=ZV (Nat.le_add_right B 46) hE
 have ho:=TN (Nat.le_add_right B 46) hO
 generalize hσ2:pt σ n (rdE b2 q2.1)=σ2 at *
 have hzd:dgE (B+46) z=z:=Nx (M:=B+3) (by omega) hz
 unfold dgE at hd hzd
 simp[-cellsOf,QH,eQ,glk hρ2,gpt hρ2,qz hρ2,xH,vF,hd,he,ho,hzd,w1,hst]
 exact ⟨by omega,by omega,b2,by rw[hσ2]; exact St.imp.refl,by rw[hI]; exact hb2⟩
end
section
variable {s:St} {n m:Nat} {b:ByteArray} {q:Rd} {K:AV→St→Prop} {env:List (Nat × AV)} {out:List (List (Nat × AV))} {σ:List (Nat × zg)} {B base:Nat}
theorem ajB (hs:s=⟨env,σ,out,base⟩) (hρ:yr B σ) (hE:tZ B env) (hO:t0 B out) (hn:n<B) (hl:lk σ n=some (rdE b q.1)) (hm:yG q b)
  (hK:∀ b',yG (zP q).2 b'→K (ac8 (zP q).1) ⟨env,pt σ n (rdE b' (zP q).2.1),out,base⟩):yw Tryz.prog uF [.ptr n 0] s K:=by
 subst hs
 have hlow:∀ b' e,yr B (pt σ n (rdE b' e)):=fun b' e=>k6 hρ hn rfl
 refine bU (eP (B:=B) 2 hE hO (K1:=fun r s'=>∃ b' c,yG (zP q).2 b'∧r=ndO (zP q).1∧s'=⟨env,pt σ n (rdE b' (zP q).2.1)++[(B+2,c)],out,base⟩) ?_ (fun r s' ⟨b',c,h1,h2,h3⟩ =>
  ⟨c,_,hlow b' _,h3,by rw[h2]; rfl,by rw[h2]; rfl,_,_,h2,Dh,hK b' h1⟩))
 refine vT B Zv (by simp) ?_
 simp[mO,No hρ,Np hρ,pc]
 refine zT (jT (b:=b) (q:=q) (most:=3) (by exact vY hl) hm (by decide) fun b1 hb1=>?_)
 rw[sX hl]
 unfold zP
 have hu3:=(wP (most:=3) (s:=q)).1
 obtain ⟨u,q1,e1⟩:∃ u q1,zr 3 q=(u,q1):=⟨_,_,rfl⟩
 rw[e1] at hb1 hu3 ⊢
 simp only at hb1 hu3 ⊢
 have hl1:lk (pt σ n (rdE b1 q1.1)) n=some (rdE b1 q1.1):=by rw[yt]
 have hρ1:=hlow b1 q1.1
 have pp:∀ b' e',pt (pt σ n (rdE b1 q1.1)) n (rdE b' e')=pt σ n (rdE b' e'):=fun b' e'=>xk
 generalize hσ1:pt σ n (rdE b1 q1.1)=σ1 at *
 have wu:IntKind.i64.wrap (u:Int)=(u:Int):=by rw[wrap64]<;>omega
 have k0:IntKind.i64.wrap 0=0:=by decide
 have k1:IntKind.i64.wrap 1=1:=by decide
 have k2:IntKind.i64.wrap 2=2:=by decide
 have k3:IntKind.i64.wrap 3=3:=by decide
 have hcase:u=0∨u=1∨u=2∨u=3:=by omega
 rcases hcase with rfl | rfl | rfl | rfl
 ·simp[k0,glk hρ1,gpt hρ1,ja]
  by_cases hq:q1.1=0
  ·refine zT (jS (b:=b1) (e:=q1.1) (c:=2) (by exact vY hl1) (fun _=>?_) (fun h=>absurd hq h))
   have hp4:=hlow b1 2
   rw[sX hl1,pp]
   have hf:jF 2 q1=(2,[]):=by unfold jF; rw[if_pos hq]
   rw[hf]
   generalize hτ:pt σ n (rdE b1 2)=τ at *
   simp[yx,glk hp4,gpt hp4,qz hp4,gno hp4,pM hE,pN hO,yM]
   exact ⟨b1,⟨fun h=>absurd h (by decide),hb1.2⟩,hτ.symm⟩
  ·refine zT (jS (b:=b1) (e:=q1.1) (c:=2) (by exact vY hl1) (fun h=>absurd h hq) (fun _=>?_))
   have hf:jF 2 q1=q1:=by unfold jF; rw[if_neg hq]
   rw[hf]
   simp[yx,glk hρ1,gpt hρ1,qz hρ1,gno hρ1,pM hE,pN hO,yM]
   exact ⟨b1,hb1,hσ1.symm⟩
 ·simp[k1,glk hρ1,gpt hρ1,pc]
  refine zT (jT (b:=b1) (q:=q1) (most:=40) (by exact vY hl1) hb1 (by decide) fun b2 hb2=>?_)
  rw[sX hl1,pp]
  have hu40:=(wP (most:=40) (s:=q1)).1
  generalize zr 40 q1=r at *
  obtain ⟨v,q2⟩:=r
  simp only at hb2 hu40 ⊢
  have wv:IntKind.i64.wrap (v:Int)=(v:Int):=by rw[wrap64]<;>omega
  simp[wv]
  obtain ⟨L,g1,g2,g3,g4⟩:=aC (f:=zE) (s:=q2) v
  rw[g4]
  have h:=Bu (n:=n) (B:=B) (N:=v) (L:=L) (z:=zN) (σ:=σ) (env:=env) (out:=out) (q:=q2) (b:=b2) (KK:=wj 1 (wj 0 (qM Tryz.prog yx (Zm yM base fun r s'=>∃ b' c,yG (zB zE L q2).2 b'∧r=ndO ⟨1,0,0,0,(zB zE L q2).1⟩∧s'=⟨env,pt σ n (rdE b' (zB zE L q2).2.1)++[(B+2,c)],out,base⟩)))) hρ hE hO hn rfl hu40 hb2 g1 g2 (fun b3 hb3=>by
   have hρ3:=hlow b3 (zB zE L q2).2.1
   have hl3:lk (pt σ n (rdE b3 (zB zE L q2).2.1)) n=some (rdE b3 (zB zE L q2).2.1):=yt
   rw[U3]
   generalize hσ3:pt σ n (rdE b3 (zB zE L q2).2.1)=σ3 at *
   have hlx:∀ l,lk (σ3++l) n=some (rdE b3 (zB zE L q2).2.1):=fun l=>vY hl3
   by_cases hLv:L<v
   ·have hLv':(L:Int)<v:=by omega
    have hq:¬ (zB zE L q2).2.1=0:=g3.resolve_left (by omega)
    generalize zB zE L q2=R at *
    simp[xa,hLv']
    refine zb (cV (b:=b3) (e:=R.2.1)) (by simp[hlx]) (.inr rfl) ?_
    simp[hq,yx,glk hρ3,gpt hρ3,qz hρ3,gno hρ3,pM hE,pN hO,yM,mr]
    exact ⟨b3,hb3,hσ3.symm⟩
   ·have hLv':¬ (L:Int)<v:=by omega
    generalize zB zE L q2=R at *
    simp[xa,hLv',yx,glk hρ3,gpt hρ3,qz hρ3,gno hρ3,pM hE,pN hO,yM,mr]
    exact ⟨b3,hb3,hσ3.symm⟩)
  rw[U3] at h
  simp[zB,nr] at h
  exact h
 ·simp[k2,glk hρ1,gpt hρ1,pc]
  refine zT (jT (b:=b1) (q:=q1) (most:=65536) (by exact vY hl1) hb1 (by decide) fun b2 hb2=>?_)
  rw[sX hl1,pp]
  have hu2:=(wP (most:=65536) (s:=q1)).1
  generalize zr 65536 q1=r2 at *
  obtain ⟨v2,q2⟩:=r2
  simp only at hb2 hu2 ⊢
  have wv2:IntKind.i64.wrap (v2:Int)=(v2:Int):=by rw[wrap64]<;>omega
  have hl2:lk (pt σ n (rdE b2 q2.1)) n=some (rdE b2 q2.1):=by rw[yt]
  have hρ2:=hlow b2 q2.1
  have pp2:∀ b' e',pt (pt σ n (rdE b2 q2.1)) n (rdE b' e')=pt σ n (rdE b' e'):=fun b' e'=>xk
  generalize pt σ n (rdE b2 q2.1)=σ2 at *
  simp[wv2,pc]
  refine zT (jT (b:=b2) (q:=q2) (most:=65536) (by exact vY hl2) hb2 (by decide) fun b3 hb3=>?_)
  rw[sX hl2,pp2]
  have hu3:=(wP (most:=65536) (s:=q2)).1
  generalize zr 65536 q2=r3 at *
  obtain ⟨v3,q3⟩:=r3
  simp only at hb3 hu3 ⊢
  have wv3:IntKind.i64.wrap (v3:Int)=(v3:Int):=by rw[wrap64]<;>omega
  have hl3:lk (pt σ n (rdE b3 q3.1)) n=some (rdE b3 q3.1):=by rw[yt]
  have hρ3:=hlow b3 q3.1
  have pp3:∀ b' e',pt (pt σ n (rdE b3 q3.1)) n (rdE b' e')=pt σ n (rdE b' e'):=fun b' e'=>xk
  generalize pt σ n (rdE b3 q3.1)=σ3 at *
  simp[wv3,pc]
  refine zT (jT (b:=b3) (q:=q3) (most:=65536) (by exact vY hl3) hb3 (by decide) fun b4 hb4=>?_)
  rw[sX hl3,pp3]
  have hu4:=(wP (most:=65536) (s:=q3)).1
  generalize zr 65536 q3=r4 at *
  obtain ⟨v4,q4⟩:=r4
  simp only at hb4 hu4 ⊢
  have wv4:IntKind.i64.wrap (v4:Int)=(v4:Int):=by rw[wrap64]<;>omega
  have hρ4:=hlow b4 q4.1
  generalize hσ4:pt σ n (rdE b4 q4.1)=σ4 at *
  simp[wv4,yx,glk hρ4,gpt hρ4,qz hρ4,gno hρ4,pM hE,pN hO,yM]
  exact ⟨b4,hb4,hσ4.symm⟩
 ·simp[k3,yx,glk hρ1,gpt hρ1,qz hρ1,gno hρ1,pM hE,pN hO,yM]
  exact ⟨b1,hb1,hσ1.symm⟩
end
end Go.Proofs.YtpnliopaifpimaaGreat
