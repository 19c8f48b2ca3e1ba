/- What the proof rests on, part 9: N20 N21 N22 N23 N24 N25 N26 N27 N28 N29 N30 F2 F3 F4 F6 F7 F8 F12 LP LP2 LP3 LP4 F13 F14 F15 WJ WK WL WM WN WO WP WQ WS WT WU WC WD WV PT PT2 PT3 PT4 VF X0 MR. -/
import Derived.Test.YtpnliopaifpimaaGreatP8
set_option maxRecDepth 100000
set_option maxHeartbeats 4000000
namespace Go.Proofs.YtpnliopaifpimaaGreat
open Go Go.Am Go.Dig
theorem tz {m:Am.Mode} {a:List Nat} {i:Nat} (ha:ok a) (_hn:a.length<1099511627776) (_hi:i<1099511627776):ze Tryz.prog wm [nl m a,iv i] (zU (a.getD i 0)):=by
 refine zn AR (by simp) ?_
 by_cases h:i<a.length
 ·have hg:a.getD i 0=a[i]:=by simp[h]
  have hB:=xv ha h
  rw[hg]
  generalize ha2:a[i]=x at *
  rw[z9] at hB
  have w:IntKind.u64.wrap (x:Int)=x:=w64 (by omega)
  have h':(i:Int)<a.length:=by omega
  simp[YB,h,h',ha2,w,Xh]
 ·have hg:a.getD i 0=0:=by simp[List.getD,List.getElem?_eq_none (Nat.le_of_not_lt h)]
  have h':¬ (i:Int)<a.length:=by omega
  rw[hg]
  simp[YB,h',Xh]
def Xx (m:Am.Mode) (a:List Nat) (k:Nat):St:={env:=[(0,nl (if k=0 then m else .plain) (a.take (a.length-k)))],sto:=[]}
theorem mQ {m:Am.Mode} {a:List Nat} (ha:ok a) (hn:a.length<1099511627776):ze Tryz.prog r9 [nl m a] (nD (val a)):=by
 obtain ⟨h1,h2,h3,h4⟩:=YX ha
 refine wW adf (by simp) ?_
 simp[M5]
 generalize hT:(zh (val a)).length=T at h1 h2 h3 h4
 refine zw (Xx m a) (fun _=>True) (a.length-T) (by simp[Xx]) trivial (fun k hk _=>?_) (fun _=>?_)
 ·obtain ⟨c,hc⟩:∃ c,a.take (a.length-k)=c:=⟨_,rfl⟩
  obtain ⟨L,hL⟩:∃ L,a.length-k=L+1:=⟨a.length-k-1,by omega⟩
  have hL2:a.length-(k+1)=L:=by omega
  have hcl:c.length=L+1:=by rw[← hc]; simp; omega
  have hLl:L<c.length:=by omega
  have hz:c[L]=0:=by
   have:=h2 L (by omega) (by omega)
   subst hc
   simpa using this
  have hc2:a.take L=c.take L:=by rw[← hc,List.take_take]; congr 1; omega
  have hcz:(c.length:Int)=(L:Int)+1:=by omega
  have w:IntKind.i64.wrap (L:Int)=(L:Int):=by rw[wrap64]<;>omega
  have hg:∃ r,zD (c.take L)=r:=⟨_,rfl⟩
  have hst:Xx m a (k+1)={env:=[(0,.list 1 .plain (List.take L (zD c)))],sto:=[]}:=by
   rw[Xx,hL2,hc2]; simp[List.map_take]
  obtain ⟨m',hst0⟩:∃ m',Xx m a k={env:=[(0,nl m' c)],sto:=[]}:=⟨_,by rw[Xx,hc]⟩
  have p3:(L:Int)<(L:Int)+1:=by omega
  have p1:(0:Int)<(L:Int)+1:=by omega
  have p2:(L:Int)≤(L:Int)+1:=by omega
  rw[hst0]
  simp[jP,hcl,w,hz,hst,p1,p2,p3]
 ·have e:a.length-(a.length-T)=T:=by omega
  obtain ⟨m',hst⟩:∃ m',Xx m a (a.length-T)={env:=[(0,nl m' (zh (val a)))],sto:=[]}:=⟨_,by rw[Xx,e,h4]⟩
  rw[hst]
  clear hst
  generalize hcE:zh (val a)=c at *
  rcases T with _ | L
  ·have hc0:c=[]:=List.length_eq_zero_iff.1 hT
   subst hc0
   simp[jP,cZ,T8]
   rw[nD,hcE]
   exact AV.imp.refl
  ·have hLl:L<c.length:=by omega
   have hcz:(c.length:Int)=(L:Int)+1:=by omega
   have w:IntKind.i64.wrap (L:Int)=(L:Int):=by rw[wrap64]<;>omega
   have hz:¬ c[L]=0:=by
    have:=d6 (x:=val a) (by rw[hcE]; omega)
    simp only[hcE,hT,Nat.add_sub_cancel] at this
    exact this
   have p1:(0:Int)<(L:Int)+1:=by omega
   simp[jP,hT,w,hz,p1,cZ,T8]
   rw[nD,hcE]
   exact ⟨by omega,by omega,by omega,AV.imp.refl⟩
theorem eN {x:Nat} (h:x<18446744073709551616):ze Tryz.prog rt [zU x] (nD x):=by
 have hq2:x/B<B:=by rw[z9]; omega
 have e1:=Nat.mod_add_div x B
 have hm2:x%B<B:=Nat.mod_lt _ zX
 have t1:(x:Int).tmod 4294967296=((x%B:Nat):Int):=by
  rw[z9,show (4294967296:Int)=((4294967296:Nat):Int) from rfl,← Int.ofNat_tmod]
 have t2:IntKind.u64.wrap ((x:Int)/4294967296)=((x/B:Nat):Int):=by
  rw[show (x:Int)/4294967296=((x/B:Nat):Int) by rw[z9]; omega]
  exact w64 (Nat.lt_of_le_of_lt (Nat.div_le_self _ _) h)
 obtain ⟨d0,h0⟩:∃ d,x%B=d:=⟨_,rfl⟩
 obtain ⟨d1,h1⟩:∃ q,x/B=q:=⟨_,rfl⟩
 rw[h0] at t1 e1 hm2
 rw[h1] at t2 e1 hq2
 have hok:ok [d0,d1]:=by
  intro d hd
  simp at hd
  rcases hd with rfl | rfl
  ·exact hm2
  ·exact hq2
 have hv:val [d0,d1]=x:=by
  simp only[val,Nat.mul_zero,Nat.add_zero]
  exact e1
 have key:=mQ (m:=.full) (a:=[d0,d1]) hok (by simp)
 rw[hv] at key
 rw[z9] at hm2 hq2
 have f1:IntKind.u32.wrap (d0:Int)=d0:=IntWalk.u32_in _ (by omega)
 have f2:IntKind.u32.wrap (d1:Int)=d1:=IntWalk.u32_in _ (by omega)
 refine zn Jm (by simp) ?_
 simp[Yz,tR,qk,t1,t2,f1,f2,wt]
 refine za key (by simp) (by simp) ?_
 simp[Xf]
theorem qm {a:List Nat} (ha:ok a) (i:Nat):a.getD i 0=val a/B^i%B:=by
 rcases Nat.lt_or_ge i a.length with h | h
 ·rw[← js ha h]; simp[h]
 ·have h1:val a<B^i:=yS ha h
  rw[Nat.div_eq_of_lt h1,Nat.zero_mod]
  simp[List.getD,List.getElem?_eq_none h]
theorem cA (x j:Nat):x/B^j=B*(x/B^(j+1))+x/B^j%B:=by
 rw[Nat.pow_succ,← Nat.div_div_eq_div_mul]
 exact (Nat.div_add_mod _ _).symm
theorem Lb {x y j:Nat} (h:x/B^(j+1)=y/B^(j+1)) (hlt:x/B^j%B<y/B^j%B):x<y:=by
 have h1:=cA x j
 have h2:=cA y j
 rw[h] at h1
 apply Nat.lt_of_not_le
 intro hle
 have h3:y/B^j≤x/B^j:=Nat.div_le_div_right hle
 generalize x/B^j%B=p at *
 generalize y/B^j%B=q at *
 omega
theorem cmp_eq {x y j:Nat} (h:x/B^(j+1)=y/B^(j+1)) (he:x/B^j%B=y/B^j%B):x/B^j=y/B^j:=by
 rw[cA x j,cA y j,h,he]
def Pj (m1 m2:Am.Mode) (a b:List Nat) (M k:Nat):St:={env:=[(0,nl m1 a),(1,nl m2 b),(5,iv ((M:Int)-1-k))],sto:=[]}
theorem GW {m1 m2:Am.Mode} {a b:List Nat} (ha:ok a) (hb:ok b) (hna:a.length<1099511627776) (hnb:b.length<1099511627776) (f1:stm m1=m1) (f2:stm m2=m2) :
  ze Tryz.prog XX [nl m1 a,nl m2 b] (iv (xk (val a) (val b))):=by
 refine zn afX (by simp) ?_
 obtain ⟨M,hM⟩:∃ M,max a.length b.length=M:=⟨_,rfl⟩
 have hMz:max (a.length:Int) (b.length:Int)=(M:Int):=by omega
 have w0:IntKind.i64.wrap ((M:Int)-1)=(M:Int)-1:=by rw[wrap64]<;>omega
 simp[GQ,hMz,w0]
 refine zw (Pj m1 m2 a b M) (fun k=>val a/B^(M-k)=val b/B^(M-k)) M (by simp[Pj]) ?_ (fun k hk hi=>?_) (fun hi=>?_)
 ·rw[Nat.sub_zero,Nat.div_eq_of_lt (yS ha (by omega)),Nat.div_eq_of_lt (yS hb (by omega))]
 ·obtain ⟨j,hj⟩:∃ j,M-1-k=j:=⟨_,rfl⟩
  have hj2:M-k=j+1:=by omega
  have hj3:M-(k+1)=j:=by omega
  have hjz:(M:Int)-1-k=(j:Int):=by omega
  have d1:=tz (m:=m1) (i:=j) ha hna (by omega)
  have d2:=tz (m:=m2) (i:=j) hb hnb (by omega)
  rw[hj2] at hi
  rw[qm ha] at d1
  rw[qm hb] at d2
  have c1:=fun h=>Lb (x:=val a) (y:=val b) (j:=j) hi h
  have c2:=fun h=>Lb (x:=val b) (y:=val a) (j:=j) hi.symm h
  have c3:=fun h=>cmp_eq (x:=val a) (y:=val b) (j:=j) hi h
  generalize val a/B^j%B=p at *
  generalize val b/B^j%B=q at *
  have e0:(0:Int)≤(j:Int):=by omega
  have w1:IntKind.i64.wrap ((j:Int)-1)=(j:Int)-1:=by rw[wrap64]<;>omega
  have hst:Pj m1 m2 a b M (k+1)={env:=[(0,nl m1 a),(1,nl m2 b),(5,iv ((j:Int)-1))],sto:=[]}:=by
   rw[Pj,show (M:Int)-1-((k+1:Nat):Int)=(j:Int)-1 by omega]
  rw[Pj,hjz]
  simp[aP]
  refine za d1 (by simp[f1]) (by simp) ?_
  simp
  refine za d2 (by simp[f2]) (by simp) ?_
  by_cases h:p<q
  ·have hc:xk (val a) (val b)=-1:=by simp[xk,c1 h]
   simp[h,Un,hc]
  ·simp[h]
   refine za d1 (by simp[f1]) (by simp) ?_
   simp
   refine za d2 (by simp[f2]) (by simp) ?_
   by_cases h2:q<p
   ·have hc:xk (val a) (val b)=1:=by
     have:¬ val a<val b:=by have:=c2 h2; omega
     simp[xk,c2 h2,this]
    simp[h2,Un,hc]
   ·have he:=c3 (by omega)
    simp[h2,w1,hst,hj3,he]
 ·have hxy:val a=val b:=by simpa using hi
  have hc:xk (val a) (val b)=0:=by simp[xk,hxy]
  have e0:¬ (0:Int)≤(M:Int)-1-M:=by omega
  have e1:¬ (M:Int)≤(M:Int)-1:=by omega
  simp[aP,Pj,e1,S0,Un,hc]
def cry (x y k:Nat):Nat:=(x%B^k+y%B^k)/B^k
theorem aaB {x y:Nat}:cry x y 0=0:=by simp[cry,Nat.mod_one]
theorem agw {x y k:Nat}:cry x y k≤1:=by
 unfold cry
 have h1:=Nat.mod_lt x (uy k)
 have h2:=Nat.mod_lt y (uy k)
 have:(x%B^k+y%B^k)/B^k<2:=Nat.div_lt_of_lt_mul (by omega)
 omega
theorem DI {x y k:Nat}:(x+y)/B^k%B=(x/B^k%B+y/B^k%B+cry x y k)%B∧cry x y (k+1)=(x/B^k%B+y/B^k%B+cry x y k)/B:=by
 have m1:x%B^(k+1)=x%B^k+B^k*(x/B^k%B):=by rw[Nat.pow_succ,Nat.mod_mul]
 have m2:y%B^(k+1)=y%B^k+B^k*(y/B^k%B):=by rw[Nat.pow_succ,Nat.mod_mul]
 have d1:=Nat.mod_add_div x (B^(k+1))
 have d2:=Nat.mod_add_div y (B^(k+1))
 have hs:x+y=(x%B^k+y%B^k)+B^k*(x/B^k%B+y/B^k%B)+B^(k+1)*(x/B^(k+1)+y/B^(k+1)):=by
  rw[Nat.mul_add,Nat.mul_add]
  omega
 constructor
 ·rw[hs,dZ]
  unfold cry
  congr 1
  omega
 ·unfold cry
  rw[m1,m2,show x%B^k+B^k*(x/B^k%B)+(y%B^k+B^k*(y/B^k%B))=(x%B^k+y%B^k)+B^k*(x/B^k%B+y/B^k%B) by rw[Nat.mul_add]; omega,dY]
  congr 1
  omega
theorem eI {m:Am.Mode} {l:Nat} {a:List Nat} (h:stm m=m):dg l (nl m a)=nl m a:=by
 cases m with
 | plain=>simp
 | full=>simp
 | own d=>simp at h
def Pg (m1 m2:Am.Mode) (a b:List Nat) (k:Nat):St :=
 {env:=[(0,nl m1 a),(1,nl m2 b),(5,yE 1 32 (zD (zt k (val a+val b)))),(6,zU (cry (val a) (val b) k)),(7,iv k)],sto:=[]}
theorem fB {m1 m2:Am.Mode} {a b:List Nat} (ha:ok a) (hb:ok b) (hna:a.length<1099511627775) (hnb:b.length<1099511627775) (f1:stm m1=m1) (f2:stm m2=m2) :
  ze Tryz.prog pZ [nl m1 a,nl m2 b] (nD (val a+val b)):=by
 refine zn afV (by simp) ?_
 obtain ⟨M,hM⟩:∃ M,max a.length b.length=M:=⟨_,rfl⟩
 have hMz:max (a.length:Int) (b.length:Int)=(M:Int):=by omega
 have hxM:val a<B^M:=yS ha (by omega)
 have hyM:val b<B^M:=yS hb (by omega)
 simp[GO]
 refine zw (Pg m1 m2 a b) (fun _=>True) (M+1) (by simp[Pg,aaB,zt]) trivial (fun k hk _=>?_) (fun _=>?_)
 ·have d1:=tz (m:=m1) (i:=k) ha (by omega) (by omega)
  have d2:=tz (m:=m2) (i:=k) hb (by omega) (by omega)
  rw[qm ha] at d1
  rw[qm hb] at d2
  obtain ⟨g1,g2⟩:=DI (x:=val a) (y:=val b) (k:=k)
  have hsucc:=qi (n:=k) (x:=val a+val b)
  have hpB:val a/B^k%B<B:=Nat.mod_lt _ zX
  have hqB:val b/B^k%B<B:=Nat.mod_lt _ zX
  have hc:=agw (x:=val a) (y:=val b) (k:=k)
  have hdl:=zy (n:=k) (x:=val a+val b)
  rw[g1] at hsucc
  have hst:Pg m1 m2 a b (k+1)={env:=[(0,nl m1 a),(1,nl m2 b),(5,yE 1 32 (zD (zt (k+1) (val a+val b)))),(6,zU (cry (val a) (val b) (k+1))),(7,iv ((k:Int)+1))],sto:=[]}:=by
   rw[Pg]; rfl
  rw[hsucc,g2] at hst
  rw[Pg]
  clear g1 g2 hsucc
  generalize val a/B^k%B=p at *
  generalize val b/B^k%B=q at *
  generalize cry (val a) (val b) k=c at *
  generalize zt k (val a+val b)=D at *
  obtain ⟨t,ht⟩:∃ t,p+q+c=t:=⟨_,rfl⟩
  obtain ⟨d,hd⟩:∃ d,t%B=d:=⟨_,rfl⟩
  obtain ⟨e,he⟩:∃ e,t/B=e:=⟨_,rfl⟩
  rw[ht,hd,he] at hst
  have hdB:d<B:=by rw[← hd]; exact Nat.mod_lt _ zX
  have heB:e≤t:=by rw[← he]; exact Nat.div_le_self _ _
  rw[z9] at hpB hqB hdB
  have t1:(t:Int).tmod 4294967296=(d:Int):=by
   rw[← hd,z9,show (4294967296:Int)=((4294967296:Nat):Int) from rfl,← Int.ofNat_tmod]
  have t2:IntKind.u64.wrap ((t:Int)/4294967296)=(e:Int):=by
   rw[show (t:Int)/4294967296=(e:Int) by rw[← he,z9]; omega]
   exact w64 (by omega)
  clear hd he
  have w1:IntKind.u64.wrap ((p:Int)+q)=(p:Int)+q:=vb (by omega) (by omega)
  have w2:IntKind.u64.wrap ((p:Int)+q+c)=(t:Int):=by rw[vb]<;>omega
  have w3:IntKind.u32.wrap (d:Int)=d:=IntWalk.u32_in _ (by omega)
  have w4:IntKind.i64.wrap ((k:Int)+1)=(k:Int)+1:=wrap64 (by omega) (by omega)
  have hkM:(k:Int)≤(M:Int):=by omega
  simp[aO,hMz,hkM]
  refine za d1 (by simp[f1]) (by simp) ?_
  simp
  refine za d2 (by simp[f2]) (by simp) ?_
  simp[w1,w2,tR,qk,t1,t2,w3,w4,hdl,hst,eI f1,eI f2]
  omega
 ·have hlt:val a+val b<B^(M+1):=by
   rw[Nat.pow_succ]
   have:B^M*2≤B^M*B:=Nat.mul_le_mul_left _ (by decide)
   omega
  have kt:=mQ (m:=.plain) (a:=zt (M+1) (val a+val b)) yM (by rw[zy]; omega)
  rw[yq hlt] at kt
  have hne:¬ zt (M+1) (val a+val b)=[]:=fun h=>by
   have:=congrArg List.length h
   rw[zy] at this
   simp at this
  have hkM:¬ (M:Int)+1≤(M:Int):=by omega
  simp[aO,Pg,hMz,hkM,SZ,FQ]
  refine za kt (by simp[hne]) (.inl rfl) ?_
  simp
theorem TJ {f:FuncId} {x x' r:AV} (h:ze Tryz.prog f [x'] r) (hy:AV.imp x x'):ze Tryz.prog f [x] r:=fun I vs w h1 h2 h3 =>
 h I vs w h1 h2 fun i a hi=>by
  match i,hi with
  | 0,hi=>simp at hi; subst hi; exact hy _ _ _ (h3 0 x rfl)
  | i+1,hi=>simp at hi
theorem N8 {x y k p q c:Nat} (h:y≤x) (hp:x/B^k%B=p) (hq:y/B^k%B=q) (hc:bor x y k=c) (_hpB:p<B) (_hqB:q<B) (hc1:c≤1) :
  ∃ s,4294967296+p-q-c=s∧s<8589934592∧q+c≤4294967296+p∧(x-y)/B^k%B=s%B∧bor x y (k+1)=1-s/B∧s/B≤1:=by
 have h1:=cG (k:=k) h
 have h2:=aG (x:=x) (y:=y) (k:=k)
 rw[hp,hq,hc] at h1 h2
 have hdB:(x-y)/B^k%B<B:=Nat.mod_lt _ zX
 generalize (x-y)/B^k%B=d at *
 rw[z9] at *
 refine ⟨_,rfl,by omega,by omega,by omega,?_,by omega⟩
 rw[h2]
 split<;>omega
def Px (m1 m2:Am.Mode) (a b:List Nat) (k:Nat):St :=
 {env:=[(0,nl m1 a),(1,nl m2 b),(6,yE 1 35 (zD (zt k (val a-val b)))),(7,zU (bor (val a) (val b) k)),(8,iv k)],sto:=[]}
theorem PH {m1 m2:Am.Mode} {a b:List Nat} (ha:ok a) (hb:ok b) (hna:a.length<1099511627775) (hnb:b.length<1099511627775) (f1:stm m1=m1) (f2:stm m2=m2) :
  ze Tryz.prog bF [nl m1 a,nl m2 b] (.tuple [nD (val a-val b),bv (decide (val b≤val a))]):=by
 have kc:=GW (m1:=m1) (m2:=m2) ha hb (by omega) (by omega) f1 f2
 refine wW af0 (by simp) ?_
 simp[GT]
 refine za kc (by simp[f1,f2]) (by simp) ?_
 by_cases hlt:val a<val b
 ·have hc1:xk (val a) (val b)=-1:=by simp[xk,hlt]
  have hd:decide (val b≤val a)=false:=by simp; omega
  have h0:val a-val b=0:=by omega
  simp[hc1,Q7]
  rw[hd,h0]
  exact AV.imp_tuple2 qx
 ·have hc1:¬ xk (val a) (val b)<0:=by simp only[xk,if_neg hlt]; split<;>omega
  have hle:val b≤val a:=by omega
  have hd:decide (val b≤val a)=true:=by simp[hle]
  rw[hd]
  simp[hc1]
  refine zw (Px m1 m2 a b) (fun _=>True) a.length (by simp[Px,aH,zt]) trivial (fun k hk _=>?_) (fun _=>?_)
  ·have d1:=tz (m:=m1) (i:=k) ha (by omega) (by omega)
   have d2:=tz (m:=m2) (i:=k) hb (by omega) (by omega)
   rw[qm ha] at d1
   rw[qm hb] at d2
   have hpB:val a/B^k%B<B:=Nat.mod_lt _ zX
   have hqB:val b/B^k%B<B:=Nat.mod_lt _ zX
   have hc:=SH (x:=val a) (y:=val b) (k:=k)
   obtain ⟨s,g0,gs,gle,g1,g2,g3⟩:=N8 (k:=k) hle rfl rfl rfl hpB hqB hc
   have hsucc:=qi (n:=k) (x:=val a-val b)
   have hdl:=zy (n:=k) (x:=val a-val b)
   rw[g1] at hsucc
   have hst:Px m1 m2 a b (k+1)={env:=[(0,nl m1 a),(1,nl m2 b),(6,yE 1 35 (zD (zt (k+1) (val a-val b)))),(7,zU (bor (val a) (val b) (k+1))),(8,iv ((k:Int)+1))],sto:=[]}:=by
    rw[Px]; rfl
   rw[hsucc,g2] at hst
   rw[Px]
   clear g1 g2 hsucc
   generalize val a/B^k%B=p at *
   generalize val b/B^k%B=q at *
   generalize bor (val a) (val b) k=c at *
   generalize zt k (val a-val b)=D at *
   obtain ⟨d,hd⟩:∃ d,s%B=d:=⟨_,rfl⟩
   obtain ⟨e,he⟩:∃ e,s/B=e:=⟨_,rfl⟩
   rw[hd,he] at hst
   rw[he] at g3
   have hdB:d<B:=by rw[← hd]; exact Nat.mod_lt _ zX
   rw[z9] at hpB hqB hdB
   have t1:(s:Int).tmod 4294967296=(d:Int):=by
    rw[← hd,z9,show (4294967296:Int)=((4294967296:Nat):Int) from rfl,← Int.ofNat_tmod]
   have t2:IntKind.u64.wrap ((s:Int)/4294967296)=(e:Int):=by
    rw[show (s:Int)/4294967296=(e:Int) by rw[← he,z9]; omega]
    exact w64 (by omega)
   clear hd he
   have w1:IntKind.u64.wrap ((4294967296:Int)+p)=(4294967296:Int)+p:=vb (by omega) (by omega)
   have w2:IntKind.u64.wrap ((4294967296:Int)+p-q)=(4294967296:Int)+p-q:=vb (by omega) (by omega)
   have w2':IntKind.u64.wrap ((4294967296:Int)+p-q-c)=(s:Int):=by rw[vb]<;>omega
   have w3:IntKind.u32.wrap (d:Int)=d:=IntWalk.u32_in _ (by omega)
   have w5:IntKind.u64.wrap (1-(e:Int))=((1-e:Nat):Int):=by rw[vb]<;>omega
   have w4:IntKind.i64.wrap ((k:Int)+1)=(k:Int)+1:=wrap64 (by omega) (by omega)
   have hkM:(k:Int)<(a.length:Int):=by omega
   simp[aS,hkM]
   refine za d1 (by simp[f1]) (by simp) ?_
   simp[w1]
   refine za d2 (by simp[f2]) (by simp) ?_
   simp[w2,w2',w5,tR,qk,t1,t2,w3,w4,hdl,hst,eI f1,eI f2]
   omega
  ·have hlt2:val a-val b<B^a.length:=Nat.lt_of_le_of_lt (Nat.sub_le _ _) (uC ha)
   have kt:=mQ (m:=.plain) (a:=zt a.length (val a-val b)) yM (by rw[zy]; omega)
   rw[yq hlt2] at kt
   simp[aS,Px,S3,Q7]
   refine za (TJ kt jt) (by simp) (.inl rfl) ?_
   simp
   exact AV.imp.refl
def cs (x d k:Nat):Nat:=x%B^k*d/B^k
theorem YU {f:FuncId} {x x' y r:AV} (h:ze Tryz.prog f [x',y] r) (hy:AV.imp x x'):ze Tryz.prog f [x,y] r:=fun I vs w h1 h2 h3 =>
 h I vs w h1 h2 fun i a hi=>by
  match i,hi with
  | 0,hi=>simp at hi; subst hi; exact hy _ _ _ (h3 0 x rfl)
  | 1,hi=>exact h3 1 a hi
  | i+2,hi=>simp at hi
theorem jY (q:Nat):B^q=2^(32*q):=by rw[Nat.pow_mul]; rfl
theorem DV {x i:Nat}:x/B^(i/32)%B/2^(i%32)%2=x/2^i%2:=by
 have hi:2^i=B^(i/32)*2^(i%32):=by rw[jY,← Nat.pow_add]; congr 1; omega
 rw[hi,← Nat.div_div_eq_div_mul]
 generalize x/B^(i/32)=y
 have hr:i%32<32:=Nat.mod_lt _ (by omega)
 generalize i%32=r at *
 have hB:B=2^r*2^(32-r):=by
  rw[← Nat.pow_add,Nat.add_sub_cancel' (by omega)]; rfl
 rw[hB,Nat.mod_mul_right_div_self]
 exact Nat.mod_mod_of_dvd _ ⟨2^(31-r),by rw[show 32-r=(31-r)+1 by omega,Nat.pow_succ,Nat.mul_comm]⟩
theorem Qt {m:Am.Mode} {a:List Nat} {i:Nat} (ha:ok a) (hn:a.length<1099511627776) (hi:i<35184372088832) (f1:stm m=m):ze Tryz.prog XW [nl m a,iv i] (zU (val a/2^i%2)):=by
 have d1:=tz (m:=m) (i:=i/32) ha hn (by omega)
 rw[qm ha] at d1
 have hp:=DV (x:=val a) (i:=i)
 have hpB:val a/B^(i/32)%B<B:=Nat.mod_lt _ zX
 rw[← hp]
 clear hp
 generalize val a/B^(i/32)%B=p at *
 have q1:IntKind.i64.wrap ((i:Int)/32)=((i/32:Nat):Int):=by rw[wrap64]<;>omega
 have q2:(i:Int).tmod 32=((i%32:Nat):Int):=by
  rw[show (32:Int)=((32:Nat):Int) from rfl,← Int.ofNat_tmod]
 have hr:i%32<32:=Nat.mod_lt _ (by omega)
 obtain ⟨q,hq⟩:∃ q,i/32=q:=⟨_,rfl⟩
 obtain ⟨r,hr2⟩:∃ r,i%32=r:=⟨_,rfl⟩
 rw[hq] at q1 d1
 rw[hr2] at q2 hr
 rw[hr2]
 clear hq hr2
 have hP:0<2^r:=Nat.pow_pos (by omega)
 have hPB:=eY hr
 have hmin:min r IntKind.u64.bits=r:=by
  have:IntKind.u64.bits=64:=rfl
  omega
 obtain ⟨P,hPe⟩:∃ P,2^r=P:=⟨_,rfl⟩
 rw[hPe] at hP hPB
 rw[hPe]
 have u1:IntKind.u64.wrap ((2:Int)^r)=(P:Int):=by
  rw[show (2:Int)^r=((2^r:Nat):Int) by simp,hPe]; exact w64 (by rw[z9] at hPB; omega)
 have hne:¬ P=0:=by omega
 have u2:IntKind.u64.wrap ((p:Int)/(P:Int))=((p/P:Nat):Int):=by
  rw[← Int.natCast_ediv]; exact w64 (Nat.lt_of_le_of_lt (Nat.div_le_self _ _) (by rw[z9] at hpB; omega))
 obtain ⟨z,hz⟩:∃ z,p/P=z:=⟨_,rfl⟩
 rw[hz] at u2
 rw[hz]
 have u3:(z:Int).tmod 2=((z%2:Nat):Int):=by
  rw[show (2:Int)=((2:Nat):Int) from rfl,← Int.ofNat_tmod]
 clear hz hPe
 refine zn afW (by simp) ?_
 simp[GP,tR,q1]
 refine za d1 (by simp[f1]) (by simp) ?_
 simp[tR,qk,xY,q2,hmin,u1,hne,u2,u3,FR]
def bl (x:Nat):Nat:=if x=0 then 0 else Nat.log2 x+1
theorem adn (x:Nat):x<2^bl x:=by
 unfold bl
 split
 ·subst x; decide
 ·exact Nat.lt_log2_self
theorem agj {x:Nat} (h:0<bl x):x/2^(bl x-1)%2=1:=by
 unfold bl at *
 split at h
 ·exact absurd h (Nat.lt_irrefl _)
 ·rename_i h0
  rw[if_neg h0,Nat.add_sub_cancel]
  have h1:=Nat.log2_self_le h0
  have h2:x<2^(Nat.log2 x+1):=Nat.lt_log2_self
  have h3:x/2^Nat.log2 x=1:=by
   rw[Nat.div_eq_iff (Nat.pow_pos (by omega))]
   rw[Nat.pow_succ] at h2
   omega
  rw[h3]
theorem Eb {x n:Nat} (h:x<2^n):bl x≤n:=by
 unfold bl
 split
 ·omega
 ·rename_i h0
  exact (Nat.log2_lt h0).2 h
def stB (m:Am.Mode) (a:List Nat) (k:Nat):St:={env:=[(0,nl m a),(3,iv ((32*a.length-k:Nat):Int))],sto:=[]}
theorem MV {m:Am.Mode} {a:List Nat} (ha:ok a) (hn:a.length<137438953472) (f1:stm m=m):ze Tryz.prog aC [nl m a] (iv (bl (val a))):=by
 refine zn adc (by simp) ?_
 have hlt:val a<2^(32*a.length):=by rw[← jY]; exact uC ha
 have hle:=Eb hlt
 have w0:IntKind.i64.wrap (32*(a.length:Int))=((32*a.length:Nat):Int):=by rw[wrap64]<;>omega
 simp[M3,w0]
 refine zw (stB m a) (fun _=>True) (32*a.length-bl (val a)) (by simp[stB]) trivial (fun k hk _=>?_) (fun _=>?_)
 ·obtain ⟨j,hj⟩:∃ j,32*a.length-k=j+1:=⟨32*a.length-k-1,by omega⟩
  have hj2:32*a.length-(k+1)=j:=by omega
  have hb:=Qt (m:=m) (i:=j) ha (by omega) (by omega) f1
  have hz:val a/2^j%2=0:=by
   rw[Nat.div_eq_of_lt]
   exact Nat.lt_of_lt_of_le (adn _) (Nat.pow_le_pow_right (by omega) (by omega))
  rw[hz] at hb
  have hst:stB m a (k+1)={env:=[(0,nl m a),(3,iv j)],sto:=[]}:=by rw[stB,hj2]
  have hst0:stB m a k={env:=[(0,nl m a),(3,iv ((j:Int)+1))],sto:=[]}:=by rw[stB,hj]; rfl
  have w1:IntKind.i64.wrap (j:Int)=(j:Int):=by rw[wrap64]<;>omega
  have p1:(0:Int)<(j:Int)+1:=by omega
  rw[hst0]
  simp[jO,p1,w1]
  refine za hb (by simp[f1]) (by simp) ?_
  simp[w1,hst]
 ·have e:32*a.length-(32*a.length-bl (val a))=bl (val a):=by omega
  have ht:=fun h=>agj (x:=val a) h
  have hb:=fun i h=>Qt (m:=m) (i:=i) ha (by omega) h f1
  rw[stB,e]
  generalize bl (val a)=L at *
  rcases L with _ | j
  ·simp[jO,cX,T7]
  ·have hb:=hb j (by omega)
   have ht:=ht (by omega)
   rw[Nat.add_sub_cancel] at ht
   rw[ht] at hb
   have w1:IntKind.i64.wrap (j:Int)=(j:Int):=by rw[wrap64]<;>omega
   have p1:(0:Int)<(j:Int)+1:=by omega
   simp[jO,p1,w1]
   refine za hb (by simp[f1]) (by simp) ?_
   simp[cX,T7]
theorem EB {Y r:Nat} (hr:r<32):(Y%B+Y/B%B*B)/2^r%B=Y/2^r%B:=by
 have h1:Y%B+Y/B%B*B=Y%(2^r*2^(64-r)):=by
  have:2^r*2^(64-r)=B*B:=by
   rw[← Nat.pow_add,Nat.add_sub_cancel' (by omega)]; rfl
  rw[this,Nat.mod_mul,Nat.mul_comm]
 rw[h1,Nat.mod_mul_right_div_self]
 refine Nat.mod_mod_of_dvd _ ⟨2^(32-r),?_⟩
 rw[show 64-r=32+(32-r) by omega,Nat.pow_add]; rfl
theorem EA {x k t:Nat}:x/2^k/B^t%B=(x/B^(k/32+t)%B+x/B^(k/32+t+1)%B*B)/2^(k%32)%B:=by
 have h1:x/B^(k/32+t+1)=x/B^(k/32+t)/B:=by rw[Nat.pow_succ,Nat.div_div_eq_div_mul]
 rw[h1,EB (Nat.mod_lt _ (by omega)),Nat.div_div_eq_div_mul,Nat.div_div_eq_div_mul]
 have:2^k*B^t=B^(k/32+t)*2^(k%32):=by
  rw[jY,jY,← Nat.pow_add,← Nat.pow_add]; congr 1; omega
 rw[this]
def stH (m:Am.Mode) (a:List Nat) (k t:Nat):St :=
 {env:=[(0,nl m a),(1,iv k),(5,yE 1 34 (zD (zt t (val a/2^k)))),(6,iv ((k/32+t:Nat):Int))],sto:=[]}
theorem aba {m:Am.Mode} {a:List Nat} {k:Nat} (ha:ok a) (hn:a.length<137438953472) (hk:k<35184372088832) (f1:stm m=m):ze Tryz.prog Tm [nl m a,iv k] (nD (val a/2^k)):=by
 refine zn ade (by simp) ?_
 have q0:IntKind.i64.wrap ((k:Int)/32)=((k/32:Nat):Int):=by rw[wrap64]<;>omega
 have q2:(k:Int).tmod 32=((k%32:Nat):Int):=by
  rw[show (32:Int)=((32:Nat):Int) from rfl,← Int.ofNat_tmod]
 simp[M4,tR,q0]
 refine zw (stH m a k) (fun _=>True) (a.length-k/32) (by simp[stH,zt]) trivial (fun t ht _=>?_) (fun _=>?_)
 ·have d1:=tz (m:=m) (i:=k/32+t) ha (by omega) (by omega)
  have d2:=tz (m:=m) (i:=k/32+t+1) ha (by omega) (by omega)
  rw[qm ha] at d1 d2
  have hd:=EA (x:=val a) (k:=k) (t:=t)
  have hsucc:=qi (n:=t) (x:=val a/2^k)
  have hdl:=zy (n:=t) (x:=val a/2^k)
  rw[hd] at hsucc
  have hst:stH m a k (t+1)={env:=[(0,nl m a),(1,iv k),(5,yE 1 34 (zD (zt (t+1) (val a/2^k)))),(6,iv ((k/32+t:Nat)+1:Int))],sto:=[]}:=by
   rw[stH]; rfl
  rw[hsucc] at hst
  rw[stH]
  clear hd hsucc
  have hpB:val a/B^(k/32+t)%B<B:=Nat.mod_lt _ zX
  have hqB:val a/B^(k/32+t+1)%B<B:=Nat.mod_lt _ zX
  generalize val a/B^(k/32+t)%B=p at *
  generalize val a/B^(k/32+t+1)%B=q at *
  generalize zt t (val a/2^k)=D at *
  have hr:k%32<32:=Nat.mod_lt _ (by omega)
  obtain ⟨i,hi⟩:∃ i,k/32+t=i:=⟨_,rfl⟩
  obtain ⟨r,hr2⟩:∃ r,k%32=r:=⟨_,rfl⟩
  have hil:i<a.length:=by omega
  rw[hi] at d1 d2 hst
  rw[hi]
  rw[hr2] at hst q2 hr
  have htb:t<a.length:=by omega
  clear hi hr2 ht q0
  have hP:0<2^r:=Nat.pow_pos (by omega)
  have hPB:=eY hr
  have hmin:min r IntKind.u64.bits=r:=by
   have:IntKind.u64.bits=64:=rfl
   omega
  obtain ⟨P,hPe⟩:∃ P,2^r=P:=⟨_,rfl⟩
  rw[hPe] at hP hPB hst
  have u1:IntKind.u64.wrap ((2:Int)^r)=(P:Int):=by
   rw[show (2:Int)^r=((2^r:Nat):Int) by simp,hPe]; exact w64 (by rw[z9] at hPB; omega)
  have hne:¬ P=0:=by omega
  clear hPe
  have hs:=Qk hqB hpB
  obtain ⟨s,hse⟩:∃ s,p+q*B=s:=⟨_,rfl⟩
  have hsB:s<18446744073709551616:=by rw[← hse,Nat.add_comm]; exact hs
  rw[hse] at hst
  obtain ⟨qb,hqb⟩:∃ qb,q*B=qb:=⟨_,rfl⟩
  rw[hqb] at hse
  have w1:IntKind.u64.wrap ((q:Int)*4294967296)=(qb:Int):=by
   rw[show (q:Int)*4294967296=((q*B:Nat):Int) by rw[z9]; simp,hqb]; exact w64 (by omega)
  have w2:IntKind.u64.wrap ((p:Int)+qb)=(s:Int):=by rw[vb]<;>omega
  have u2:IntKind.u64.wrap ((s:Int)/(P:Int))=((s/P:Nat):Int):=by
   rw[← Int.natCast_ediv]; exact w64 (Nat.lt_of_le_of_lt (Nat.div_le_self _ _) hsB)
  obtain ⟨z,hz⟩:∃ z,s/P=z:=⟨_,rfl⟩
  rw[hz] at u2 hst
  obtain ⟨d,hd⟩:∃ d,z%B=d:=⟨_,rfl⟩
  rw[hd] at hst
  have u3:(z:Int).tmod 4294967296=(d:Int):=by
   rw[← hd,z9,show (4294967296:Int)=((4294967296:Nat):Int) from rfl,← Int.ofNat_tmod]
  have hdB:d<B:=by rw[← hd]; exact Nat.mod_lt _ zX
  clear hz hd hqb hs
  rw[z9] at hdB
  have w3:IntKind.u32.wrap (d:Int)=d:=IntWalk.u32_in _ (by omega)
  have w4:IntKind.i64.wrap ((i:Int)+1)=(i:Int)+1:=wrap64 (by omega) (by omega)
  have hil':(i:Int)<(a.length:Int):=by omega
  simp[cY,hil']
  refine za d1 (by simp[f1]) (by simp) ?_
  simp[w4]
  refine za d2 (by simp[f1]) (by simp) ?_
  simp[tR,qk,xY,w1,w2,q2,hmin,u1,hne,u2,u3,w3,w4,hst,eI f1]
  omega
 ·have hlt:val a/2^k<B^(a.length-k/32):=by
   apply Nat.div_lt_of_lt_mul
   have h1:=uC ha
   have h2:B^a.length≤2^k*B^(a.length-k/32):=by
    rw[jY,jY,← Nat.pow_add]
    exact Nat.pow_le_pow_right (by omega) (by omega)
   exact Nat.lt_of_lt_of_le h1 h2
  have kt:=mQ (m:=.plain) (a:=zt (a.length-k/32) (val a/2^k)) yM (by rw[zy]; omega)
  rw[yq hlt] at kt
  rw[stH]
  generalize val a/2^k=y at *
  have hge:¬ ((k/32+(a.length-k/32):Nat):Int)<(a.length:Int):=by omega
  generalize k/32+(a.length-k/32)=i at *
  generalize a.length-k/32=n at *
  have hge':¬ i<a.length:=by omega
  simp[cY,hge',UQ,KF]
  refine za (TJ kt jt) (by simp) (.inl rfl) ?_
  simp
theorem aan {x y j:Nat} (hy:0<y) :
  let r:=2*(x/2^(j+1)%y)+x/2^j%2
  (r<y→x/2^j/y=2*(x/2^(j+1)/y)∧x/2^j%y=r)∧(y≤r→x/2^j/y=2*(x/2^(j+1)/y)+1∧x/2^j%y=r-y):=by
 intro r
 have hX:x/2^j=2*(x/2^(j+1))+x/2^j%2:=by
  have:x/2^(j+1)=x/2^j/2:=by rw[Nat.pow_succ,Nat.div_div_eq_div_mul]
  rw[this]; omega
 have hb:x/2^j%2<2:=Nat.mod_lt _ (by omega)
 have hd:=Nat.div_add_mod (x/2^(j+1)) y
 have hm:=Nat.mod_lt (x/2^(j+1)) hy
 have hr:r=2*(x/2^(j+1)%y)+x/2^j%2:=rfl
 generalize x/2^j%2=b at *
 generalize x/2^(j+1)/y=q at *
 generalize x/2^(j+1)%y=m at *
 generalize x/2^(j+1)=X at *
 generalize x/2^j=Z at *
 have hZ:Z=y*(2*q)+r:=by
  rw[show y*(2*q)=2*(y*q) by rw[Nat.mul_left_comm]]; omega
 clear hX hd
 constructor
 ·intro h
  rw[hZ]
  exact ⟨by rw[Nat.mul_add_div hy,Nat.div_eq_of_lt h,Nat.add_zero],by rw[Nat.mul_add_mod,Nat.mod_eq_of_lt h]⟩
 ·intro h
  have h2:Z=y*(2*q+1)+(r-y):=by rw[Nat.mul_add,Nat.mul_one]; omega
  have h3:r-y<y:=by omega
  rw[h2]
  exact ⟨by rw[Nat.mul_add_div hy,Nat.div_eq_of_lt h3,Nat.add_zero],by rw[Nat.mul_add_mod,Nat.mod_eq_of_lt h3]⟩
theorem DU {x y:Nat} (hy:0<y):x/2^(bl x+1-bl y)<y∧0<bl y:=by
 have h1:=adn x
 have hne:y≠0:=by omega
 have hb:bl y=Nat.log2 y+1:=by unfold bl; rw[if_neg hne]
 have h2:=Nat.log2_self_le hne
 refine ⟨Nat.lt_of_lt_of_le ?_ h2,by omega⟩
 apply Nat.div_lt_of_lt_mul
 rw[← Nat.pow_add]
 exact Nat.lt_of_lt_of_le h1 (Nat.pow_le_pow_right (by omega) (by omega))
def qA (t Q:Nat):AV:=if t=0 then .list 0 .full [] else nD Q
def Pl (m1 m2:Am.Mode) (a c:List Nat) (k t:Nat):St :=
 {env:=[(0,nl m1 a),(1,nl m2 c),(8,qA t (val a/2^(k-t)/val c)),(9,nD (val a/2^(k-t)%val c)),(10,iv ((k:Int)-1-t))],sto:=[]}
theorem aV {m1 m2:Am.Mode} {a c:List Nat} (ha:ok a) (hc:ok c) (hna:a.length<68719476736) (hnc:c.length<68719476736) (f1:stm m1=m1) (f2:stm m2=m2) (hD:val c≠0) :
  ze Tryz.prog lO [nl m1 a,nl m2 c] (aW (val a) (val c)):=by
 have hy:0<val c:=by omega
 obtain ⟨s1,s2⟩:=DU (x:=val a) hy
 have b1:=MV ha (by omega) f1
 have b2:=MV hc (by omega) f2
 have hl1:bl (val a)≤32*a.length:=Eb (by rw[← jY]; exact uC ha)
 have hl2:bl (val c)≤32*c.length:=Eb (by rw[← jY]; exact uC hc)
 obtain ⟨k,hk⟩:∃ k,bl (val a)+1-bl (val c)=k:=⟨_,rfl⟩
 have hk2:k≤32*a.length:=by omega
 have hh:=aba (k:=k) ha (by omega) (by omega) f1
 have hcl:¬ c.length=0:=fun h=>by
  rw[List.length_eq_zero_iff] at h
  subst h
  exact hD rfl
 have hcn:¬ c=[]:=fun h=>hcl (by rw[h]; rfl)
 rw[hk] at s1
 have m0:max (1:Int) (bl (val c):Int)=(bl (val c):Int):=by omega
 have w0:IntKind.i64.wrap ((bl (val a):Int)-(bl (val c):Int))=(bl (val a):Int)-(bl (val c):Int):=by rw[wrap64]<;>omega
 have w1:IntKind.i64.wrap ((bl (val a):Int)-(bl (val c):Int)+1)=(bl (val a):Int)-(bl (val c):Int)+1:=by rw[wrap64]<;>omega
 have m1':max (0:Int) ((bl (val a):Int)-(bl (val c):Int)+1)=(k:Int):=by omega
 have w2:IntKind.i64.wrap ((k:Int)-1)=(k:Int)-1:=by rw[wrap64]<;>omega
 refine wW Dz (by simp) ?_
 simp[S1,hcl]
 refine za b1 (by simp[f1]) (by simp) ?_
 simp
 refine za b2 (by simp[f2]) (by simp) ?_
 simp[m0,w0,w1,m1']
 refine za hh (by simp[f1]) (by simp) ?_
 simp[w2]
 have r0:val a/2^k%val c=val a/2^k:=Nat.mod_eq_of_lt s1
 refine zw (Pl m1 m2 a c k) (fun _=>True) k (by simp[Pl,qA,r0]) trivial (fun t ht _=>?_) (fun _=>?_)
 ·obtain ⟨j,hj⟩:∃ j,k-1-t=j:=⟨_,rfl⟩
  have hj1:k-t=j+1:=by omega
  have hj2:k-(t+1)=j:=by omega
  have hjz:(k:Int)-1-t=(j:Int):=by omega
  obtain ⟨p1,p2⟩:=aan (x:=val a) (j:=j) hy
  have hb:=Qt (m:=m1) (i:=j) ha (by omega) (by omega) f1
  have hQ:val a/2^(j+1)/val c<B^a.length:=Nat.lt_of_le_of_lt (Nat.le_trans (Nat.div_le_self _ _) (Nat.div_le_self _ _)) (uC ha)
  have hR:val a/2^(j+1)%val c<B^c.length:=Nat.lt_trans (Nat.mod_lt _ hy) (uC hc)
  have hbt:val a/2^j%2<2:=Nat.mod_lt _ (by omega)
  have hst:Pl m1 m2 a c k (t+1)={env:=[(0,nl m1 a),(1,nl m2 c),(8,nD (val a/2^j/val c)),(9,nD (val a/2^j%val c)),(10,iv ((j:Int)-1))],sto:=[]}:=by
   rw[Pl,hj2,qA,if_neg (by omega),show (k:Int)-1-((t+1:Nat):Int)=(j:Int)-1 by omega]
  rw[Pl,hj1,hjz]
  have h2:∀ {z n:Nat},z<B^n→z+z<B^(n+1)∧z+z+1<B^(n+1):=fun {z n} h=>by
   rw[Nat.pow_succ]
   have:B^n*2≤B^n*B:=Nat.mul_le_mul_left _ (by decide)
   omega
  have q0:t=0→val a/2^(j+1)/val c=0:=fun h=>by
   have:j+1=k:=by omega
   rw[this]; exact Nat.div_eq_of_lt s1
  generalize val a/2^(j+1)/val c=Q at *
  generalize val a/2^(j+1)%val c=R at *
  generalize val a/2^j%2=d at *
  have lQ:=zE.2 hQ
  have lR:=zE.2 hR
  have lQQ:=zE.2 (h2 hQ).1
  have lRR:=zE.2 (h2 hR).1
  have lRR1:(zh (R+R+d)).length≤c.length+1:=zE.2 (by have:=h2 hR; omega)
  have ld:(zh d).length≤1:=zE.2 (by rw[Nat.pow_one,z9]; omega)
  have kq:=fB (m1:=.plain) (m2:=.plain) (zx Q) (zx Q) (by omega) (by omega) rfl rfl
  have kr:=fB (m1:=.plain) (m2:=.plain) (zx R) (zx R) (by omega) (by omega) rfl rfl
  have kf:=eN (x:=d) (by omega)
  have kr2:=fB (m1:=.plain) (m2:=.plain) (zx (R+R)) (zx d) (by omega) (by omega) rfl rfl
  have kc:=GW (m1:=.plain) (m2:=m2) (zx (R+R+d)) hc (by omega) (by omega) rfl f2
  have ks:=PH (m1:=.plain) (m2:=m2) (zx (R+R+d)) hc (by omega) (by omega) rfl f2
  have kf1:=eN (x:=1) (by omega)
  have l1:(zh 1).length≤1:=zE.2 (by decide)
  have kq1:=fB (m1:=.plain) (m2:=.plain) (zx (Q+Q)) (zx 1) (by omega) (by omega) rfl rfl
  simp only[zJ] at kq kr kr2 kc ks kq1
  have w3:IntKind.i64.wrap ((j:Int)-1)=(j:Int)-1:=by rw[wrap64]<;>omega
  have kq':ze Tryz.prog pZ [qA t Q,qA t Q] (nD (Q+Q))∧qA t Q=(if t=0 then .list 0 .full [] else nD Q):=by
   refine ⟨?_,rfl⟩
   unfold qA
   split
   ·rename_i h0
    have hq0:=q0 h0
    subst hq0
    exact YU (eQ kq (qx (sz:=0))) (qx (sz:=0))
   ·exact kq
  have hsn:vv (fun _=>none) (qA t Q)=some (qA t Q):=by unfold qA; split<;>simp
  have hrf:([qA t Q,qA t Q]:List AV).any gc=false:=by unfold qA; split<;>simp
  simp[gD]
  refine za kq'.1 (by simp[hsn]) (.inl hrf) ?_
  simp
  refine za kr (by simp) (by simp) ?_
  simp
  refine za hb (by simp[f1]) (by simp) ?_
  simp
  refine za kf (by simp) (by simp) ?_
  simp
  refine za kr2 (by simp) (by simp) ?_
  simp
  refine za kc (by simp[f2]) (by simp) ?_
  have e2:R+R+d=2*R+d:=by omega
  have e3:Q+Q=2*Q:=by omega
  by_cases hlt:R+R+d<val c
  ·have hcm:¬ (0:Int)≤xk (R+R+d) (val c):=by simp[xk,hlt]
   obtain ⟨g1,g2⟩:=p1 (by omega)
   rw[g1,g2,← e2,← e3] at hst
   simp[hcm,w3,hst]
  ·have hcm:(0:Int)≤xk (R+R+d) (val c):=by simp only[xk,if_neg hlt]; split<;>omega
   obtain ⟨g1,g2⟩:=p2 (by omega)
   rw[g1,g2,← e2,← e3] at hst
   simp[hcm]
   refine za ks (by simp[f2]) (by simp) ?_
   simp
   refine za kf1 (by simp) (by simp) ?_
   simp
   refine za kq1 (by simp) (by simp) ?_
   simp[w3,hst]
 ·have hkk:¬ (k:Int)≤(k:Int)-1:=by omega
  have e0:¬ (0:Int)≤(k:Int)-1-k:=by omega
  simp[gD,Pl,hkk,Z3,RN]
  rcases Nat.eq_zero_or_pos k with h0 | h0
  ·subst h0
   have hz:val a/val c=0:=by rw[Nat.pow_zero,Nat.div_one] at s1; exact Nat.div_eq_of_lt s1
   simp[qA]
   rw[aW,hz]
   exact LV qx AV.imp.refl AV.imp.refl
  ·have hk0:¬ k=0:=by omega
   simp[qA,hk0]
   exact AV.imp.refl
theorem Fc {A D:Nat} (hna:(zh A).length<68719476736) (hnc:(zh D).length<68719476736) :
  ze Tryz.prog bE [nD A,nD D] (nD (Nat.gcd A D)):=by
 obtain ⟨N,h1,h2⟩:=Cv D A
 obtain ⟨L,hL⟩:∃ L,L=68719476735:=⟨_,rfl⟩
 have hL1:A<B^L:=zE.1 (by omega)
 have hL2:D<B^L:=zE.1 (by omega)
 have hb:=fun k=>Eu k A D hL1 hL2
 have hlen:∀ x,x<B^L→(zh x).length<68719476736:=fun x hx=>Nat.lt_of_le_of_lt (zE.2 hx) (by omega)
 have hg:=hlen _ (show Nat.gcd A D<B^L by have:=(hb N).1; rw[h2] at this; exact this)
 refine zn afY (by simp) ?_
 simp[GR]
 refine zw (fun k=>stG (eu A D k)) (fun _=>True) N (by simp[stG,eu]) trivial (fun k hk _=>?_) (fun _=>?_)
 ·have hne:=h1 k hk
  obtain ⟨b1,b2⟩:=hb k
  have b1':=hlen _ b1
  have b2':=hlen _ b2
  have hs:=QG k A D
  obtain ⟨x,hx⟩:∃ x,(eu A D k).1=x:=⟨_,rfl⟩
  obtain ⟨y,hy⟩:∃ y,(eu A D k).2=y:=⟨_,rfl⟩
  rw[hx,hy] at hs
  rw[hx] at b1'
  rw[hy] at b2' hne
  have kd:=aV (m1:=.plain) (m2:=.plain) (zx x) (zx y) b1' b2' rfl rfl (by rw[zJ]; exact hne)
  rw[zJ,zJ] at kd
  have hl0:0<(zh y).length:=by
   rcases Nat.eq_zero_or_pos (zh y).length with h | h
   ·rw[List.length_eq_zero_iff,xj] at h; exact absurd h hne
   ·exact h
  simp[aQ,stG,hl0,hx,hy]
  refine za kd (by simp) (by simp) ?_
  simp[hs]
 ·simp only[h2]
  have kt:=mQ (m:=.plain) (zx (Nat.gcd A D)) (by omega)
  rw[zJ] at kt
  simp[aQ,S2,FS,stG,yz]
  refine za kt (by simp) (by simp) ?_
  simp
theorem eU {neg:Bool} {N D:Nat} (hN:(zh N).length<68719476736) (hD:(zh D).length<68719476736) (h0:D≠0) :
  ze Tryz.prog mj [bv neg,nD N,nD D] (.tuple [ws neg N D,iv 0]):=by
 obtain ⟨g0,g1,g2⟩:=LO (N:=N) h0
 have kg:=Fc hN hD
 have hgl:(zh (Nat.gcd N D)).length<68719476736:=by
  have h1:D<B^(zh D).length:=zE.1 (Nat.le_refl _)
  exact Nat.lt_of_le_of_lt (zE.2 (Nat.lt_of_le_of_lt g2 h1)) hD
 have hl0:¬ (zh D).length=0:=by rw[List.length_eq_zero_iff,xj]; exact h0
 have hl1:¬ zh D=[]:=by rw[xj]; exact h0
 unfold ws
 have hz:(zh (N/Nat.gcd N D)).length=0↔N=0:=by rw[List.length_eq_zero_iff,xj]; exact g1
 generalize Nat.gcd N D=g at *
 have kn:=aV (m1:=.plain) (m2:=.plain) (zx N) (zx g) (by omega) (by omega) rfl rfl (by rw[zJ]; exact g0)
 have kd:=aV (m1:=.plain) (m2:=.plain) (zx D) (zx g) (by omega) (by omega) rfl rfl (by rw[zJ]; exact g0)
 simp only[zJ] at kn kd
 refine zn ac8 (by simp) ?_
 simp[M2,hl0]
 refine za kg (by simp) (by simp) ?_
 simp
 refine za kn (by simp) (by simp) ?_
 simp
 refine za kd (by simp) (by simp) ?_
 cases neg
 ·simp[Zz]
 ·by_cases hN0:N=0
  ·subst hN0
   simp[Zz,yz]
  ·have:0<(zh N).length:=by
    rcases Nat.eq_zero_or_pos (zh N).length with h | h
    ·rw[List.length_eq_zero_iff,xj] at h; exact absurd h hN0
    ·exact h
   simp[Zz,this,hN0]
theorem RV {n:Int} (h1:-9223372036854775808≤n) (h2:n<9223372036854775808):ze Tryz.prog aB [iv n] (nD n.natAbs):=by
 obtain ⟨x,hx⟩:∃ x,n.natAbs=x:=⟨_,rfl⟩
 have hxl:x<18446744073709551616:=by omega
 have k:=eN (x:=x) hxl
 rw[hx]
 refine zn adb (by simp) ?_
 by_cases h:n<0
 ·have w1:IntKind.i64.wrap (n+1)=n+1:=by rw[wrap64]<;>omega
  have w2:IntKind.i64.wrap (-(n+1))=(x:Int)-1:=by rw[wrap64]<;>omega
  have w2':IntKind.i64.wrap (-1+-n)=(x:Int)-1:=by rw[wrap64]<;>omega
  have w3:IntKind.u64.wrap ((x:Int)-1)=(x:Int)-1:=by rw[vb]<;>omega
  have w4:IntKind.u64.wrap (x:Int)=x:=w64 hxl
  simp[Ts,h,w1,Kh,w2,w3,w4]
  refine za k (by simp) (by simp) ?_
  simp[T6]
 ·have w4:IntKind.u64.wrap n=(x:Int):=by rw[vb]<;>omega
  simp[Ts,h,w4]
  refine za k (by simp) (by simp) ?_
  simp[T6]
theorem aeK {n d:Int} (h1:-9223372036854775808≤n) (h2:n<9223372036854775808) (h3:-9223372036854775808≤d) (h4:d<9223372036854775808) (h0:d≠0) :
  ze Tryz.prog Qn [iv n,iv d] (.tuple [ws (decide (n<0) != decide (d<0)) n.natAbs d.natAbs,iv 0]):=by
 have k1:=RV h1 h2
 have k2:=RV h3 h4
 have l1:=gZ (x:=n.natAbs) (by omega)
 have l2:=gZ (x:=d.natAbs) (by omega)
 have k3:=eU (neg:=decide (n<0) != decide (d<0)) (N:=n.natAbs) (D:=d.natAbs) (by omega) (by omega) (by omega)
 unfold ws at *
 generalize n.natAbs/Nat.gcd n.natAbs d.natAbs=p at *
 generalize d.natAbs/Nat.gcd n.natAbs d.natAbs=q at *
 generalize hb:(decide (n<0) != decide (d<0))=b at *
 refine zn afT (by simp) ?_
 have hu:Tryz.prog.underlying nJ=some .bool:=by first | exact un_T_bool | rfl | kernel_rfl
 have hb':(!(decide (n<0) == decide (d<0)))=b:=hb
 simp[GM,wD hu]
 rw[hb']
 refine za k1 (by simp) (by simp) ?_
 simp
 refine za k2 (by simp) (by simp) ?_
 simp
 refine za k3 (by simp) (by simp) ?_
 simp[FO]
theorem JT {n:Int} (h1:-9223372036854775808≤n) (h2:n<9223372036854775808):ze Tryz.prog xi [iv n] (ws (decide (n<0)) n.natAbs 1):=by
 have k:=aeK (n:=n) (d:=1) h1 h2 (by decide) (by decide) (by decide)
 have e:(decide (n<0) != decide ((1:Int)<0))=decide (n<0):=by simp
 rw[e,show (1:Int).natAbs=1 from rfl] at k
 unfold ws at *
 generalize n.natAbs/Nat.gcd n.natAbs 1=p at *
 generalize 1/Nat.gcd n.natAbs 1=q at *
 refine zn Gr (by simp) ?_
 simp[UN]
 refine za k (by simp) (by simp) ?_
 simp[U9]
theorem Bi {s:Bool} {N D:Nat} (hN:(zh N).length<68719476736) (hD:(zh D).length<68719476736) (h0:D≠0):ze Tryz.prog XQ [frA s N D] (ws (!s) N D):=by
 have k:=nj (neg:=!s) hN hD h0
 unfold ws at *
 generalize N/Nat.gcd N D=p at *
 generalize D/Nat.gcd N D=q at *
 refine zn afI (by simp) ?_
 simp[GE]
 refine za k (by simp) (by simp) ?_
 simp[FH]
theorem sw {x y n m:Nat} (hx:(zh x).length≤n) (hy:(zh y).length≤m):(zh (x*y)).length≤n+m:=zE.2 (by
 rw[Nat.pow_add]; exact Nat.mul_lt_mul_of_lt_of_lt (zE.1 hx) (zE.1 hy))
theorem EH {s t:Bool} {N D M E:Nat} (hN:(zh N).length<17179869184) (hD:(zh D).length<17179869184) (hM:(zh M).length<17179869184) (hE:(zh E).length<17179869184) (h0:D≠0) (h1:E≠0) :
  ze Tryz.prog fu [frA s N D,frA t M E] (ws (!(s == t)) (N*M) (D*E)):=by
 have l1:=sw (Nat.le_refl (zh N).length) (Nat.le_refl (zh M).length)
 have l2:=sw (Nat.le_refl (zh D).length) (Nat.le_refl (zh E).length)
 have h2:D*E≠0:=Nat.mul_ne_zero h0 h1
 have k1:=ge (m1:=.plain) (m2:=.plain) (zx N) (zx M) (by omega) (by omega) (by omega) rfl rfl
 have k2:=ge (m1:=.plain) (m2:=.plain) (zx D) (zx E) (by omega) (by omega) (by omega) rfl rfl
 simp only[zJ] at k1 k2
 have k:=nj (neg:=!(s == t)) (N:=N*M) (D:=D*E) (by omega) (by omega) h2
 unfold ws at *
 generalize N*M/Nat.gcd (N*M) (D*E)=p at *
 generalize D*E/Nat.gcd (N*M) (D*E)=q at *
 refine zn afH (by simp) ?_
 simp[GD,wD sC]
 refine za k1 (by simp) (by simp) ?_
 simp
 refine za k2 (by simp) (by simp) ?_
 simp
 refine za k (by simp) (by simp) ?_
 simp[FG]
theorem UT {s t:Bool} {N D M E:Nat} (hN:(zh N).length<17179869184) (hD:(zh D).length<17179869184) (hM:(zh M).length<17179869184) (hE:(zh E).length<17179869184) :
  ze Tryz.prog dB [frA s N D,frA t M E] (.tuple [nD (N*E),nD (M*D)]):=by
 have k1:=ge (m1:=.plain) (m2:=.plain) (zx N) (zx E) (by omega) (by omega) (by omega) rfl rfl
 have k2:=ge (m1:=.plain) (m2:=.plain) (zx M) (zx D) (by omega) (by omega) (by omega) rfl rfl
 simp only[zJ] at k1 k2
 refine zn AL (by simp) ?_
 simp[PW]
 refine za k1 (by simp) (by simp) ?_
 simp
 refine za k2 (by simp) (by simp) ?_
 simp[NA]
def Qp (s:Bool) (N D:Nat) (t:Bool) (M E:Nat):AV :=
 if s=t then ws s (N*E+M*D) (D*E) else if N*E<M*D then ws t (M*D-N*E) (D*E) else ws s (N*E-M*D) (D*E)
theorem Gx {x y n:Nat} (hx:(zh x).length≤n) (hy:(zh y).length≤n):(zh (x+y)).length≤n+1:=zE.2 (by
 have h1:=zE.1 hx
 have h2:=zE.1 hy
 rw[Nat.pow_succ]
 have:B^n*2≤B^n*B:=Nat.mul_le_mul_left _ (by decide)
 omega)
theorem Uy {x y n:Nat} (hx:(zh x).length≤n):(zh (x-y)).length≤n:=zE.2 (Nat.lt_of_le_of_lt (Nat.sub_le _ _) (zE.1 hx))
theorem mE (s:Bool) (N D:Nat):∃ b p q,ws s N D=.agg [bv b,nD p,nD q]:=⟨_,_,_,rfl⟩
theorem F6 {s t:Bool} {N D M E:Nat} (hN:(zh N).length<17179869184) (hD:(zh D).length<17179869184) (hM:(zh M).length<17179869184) (hE:(zh E).length<17179869184) (h0:D≠0) (h1:E≠0) :
  ze Tryz.prog mS [frA s N D,frA t M E] (Qp s N D t M E):=by
 have l1:=sw (Nat.le_refl (zh N).length) (Nat.le_refl (zh E).length)
 have l2:=sw (Nat.le_refl (zh M).length) (Nat.le_refl (zh D).length)
 have l3:=sw (Nat.le_refl (zh D).length) (Nat.le_refl (zh E).length)
 have h2:D*E≠0:=Nat.mul_ne_zero h0 h1
 have kx:=UT (s:=s) (t:=t) hN hD hM hE
 have kd:=ge (m1:=.plain) (m2:=.plain) (zx D) (zx E) (by omega) (by omega) (by omega) rfl rfl
 simp only[zJ] at kd
 have l4:=Gx (n:=34359738368) (show (zh (N*E)).length≤34359738368 by omega) (show (zh (M*D)).length≤34359738368 by omega)
 have l5:=Uy (y:=M*D) l1
 have l6:=Uy (y:=N*E) l2
 have ka:=dF (m1:=.plain) (m2:=.plain) (zx (N*E)) (zx (M*D)) (by omega) (by omega)
 have ks:=NR (m1:=.plain) (m2:=.plain) (zx (N*E)) (zx (M*D)) (by omega) (by omega)
 have ks2:=NR (m1:=.plain) (m2:=.plain) (zx (M*D)) (zx (N*E)) (by omega) (by omega)
 simp only[zJ] at ka ks ks2
 have m1:=nj (neg:=s) (N:=N*E+M*D) (D:=D*E) (by omega) (by omega) h2
 have m2:=nj (neg:=s) (N:=N*E-M*D) (D:=D*E) (by omega) (by omega) h2
 have m3:=nj (neg:=t) (N:=M*D-N*E) (D:=D*E) (by omega) (by omega) h2
 unfold Qp
 refine zn afF (by simp) ?_
 generalize N*E=x at *
 generalize M*D=y at *
 generalize D*E=d at *
 by_cases hst:s=t
 ·have e:(s == t)=true:=by simp[hst]
  obtain ⟨b,p,q,hf⟩:=mE s (x+y) d
  rw[if_pos hst,hf]
  rw[hf] at m1
  simp[Qu]
  refine za kx (by simp) (by simp) ?_
  simp
  refine za kd (by simp) (by simp) ?_
  simp[n8 sC,e]
  refine za ka (by simp) (by simp) ?_
  simp
  refine za m1 (by simp) (by simp) ?_
  simp[Uj]
 ·have e:(s == t)=false:=by simp[hst]
  rw[if_neg hst]
  simp[Qu]
  refine za kx (by simp) (by simp) ?_
  simp
  refine za kd (by simp) (by simp) ?_
  simp[n8 sC,e]
  refine za ks (by simp) (by simp) ?_
  by_cases hlt:x<y
  ·obtain ⟨b,p,q,hf⟩:=mE t (y-x) d
   rw[if_pos hlt,hf]
   rw[hf] at m3
   have hge:¬ y<x:=by omega
   rw[if_neg hge] at ks2
   simp[hlt]
   refine za ks2 (by simp) (by simp) ?_
   simp
   refine za m3 (by simp) (by simp) ?_
   simp[Uj]
  ·obtain ⟨b,p,q,hf⟩:=mE s (x-y) d
   rw[if_neg hlt,hf]
   rw[hf] at m2
   simp[hlt]
   refine za m2 (by simp) (by simp) ?_
   simp[Uj]
theorem Fv (p q:Rat):ws (!(decide (p.num<0) == decide (q.num<0))) (p.num.natAbs*q.num.natAbs) (p.den*q.den)=y4 (p*q):=by
 have h:p.den*q.den≠0:=Nat.mul_ne_zero p.den_nz q.den_nz
 rw[lu h,Rat.mul_def']
 congr 2
 have e1:=dk p.num
 have e2:=dk q.num
 generalize p.num.natAbs=x at *
 generalize q.num.natAbs=y at *
 generalize decide (p.num<0)=s at *
 generalize decide (q.num<0)=t at *
 rw[← e1,← e2]
 cases s<;>cases t<;>simp[sg,Int.neg_mul,Int.mul_neg]
theorem Gy (p q:Rat):Qp (decide (p.num<0)) p.num.natAbs p.den (decide (q.num<0)) q.num.natAbs q.den=y4 (p+q):=by
 have h:p.den*q.den≠0:=Nat.mul_ne_zero p.den_nz q.den_nz
 have e1:=dk p.num
 have e2:=dk q.num
 unfold Qp
 rw[lu h,lu h,lu h,Rat.add_def']
 generalize p.num.natAbs=x at *
 generalize q.num.natAbs=y at *
 generalize decide (p.num<0)=s at *
 generalize decide (q.num<0)=t at *
 rw[← e1,← e2]
 have a1:((x*q.den:Nat):Int)=(x:Int)*q.den:=Int.natCast_mul _ _
 have a2:((y*p.den:Nat):Int)=(y:Int)*p.den:=Int.natCast_mul _ _
 generalize hX:x*q.den=X at *
 generalize hY:y*p.den=Y at *
 cases s<;>cases t
 ·simp only[if_true]; congr 2; simp[sg]; omega
 ·simp only[Bool.false_eq_true,if_false]
  split<;>(congr 2; simp only[sg,if_true,Bool.false_eq_true,if_false,Int.neg_mul]; omega)
 ·simp only[Bool.true_eq_false,if_false]
  split<;>(congr 2; simp only[sg,if_true,Bool.false_eq_true,if_false,Int.neg_mul]; omega)
 ·simp only[if_true]; congr 2; simp only[sg,if_true,Int.neg_mul]; omega
end Go.Proofs.YtpnliopaifpimaaGreat

namespace Go.LP
def zu:Nat→(Nat→Rat)→Rat
 | 0,_=>0
 | n+1,f=>zu n f+f n
theorem ya {n:Nat} {f g:Nat→Rat} (h:∀ i,i<n→f i=g i):zu n f=zu n g:=by
 induction n with
 | zero=>rfl
 | succ n ih=>simp only[zu]; rw[ih fun i hi=>h i (by omega),h n (by omega)]
theorem y6 {n:Nat} {f:Nat→Rat} (h:∀ i,i<n→f i=0):zu n f=0:=by
 induction n with
 | zero=>rfl
 | succ n ih=>simp only[zu]; rw[ih fun i hi=>h i (by omega),h n (by omega)]; grind
theorem Sm {n:Nat} {f g:Nat→Rat}:zu n (fun i=>f i+g i)=zu n f+zu n g:=by
 induction n with
 | zero=>simp only[zu]; grind
 | succ n ih=>simp only[zu]; rw[ih]; grind
theorem dt {n:Nat} {f:Nat→Rat} {k:Rat}:zu n (fun i=>k*f i)=k*zu n f:=by
 induction n with
 | zero=>simp only[zu]; grind
 | succ n ih=>simp only[zu]; rw[ih]; grind
theorem XC {n:Nat} {f:Nat→Rat} {k:Rat}:zu n (fun i=>f i*k)=zu n f*k:=by
 induction n with
 | zero=>simp only[zu]; grind
 | succ n ih=>simp only[zu]; rw[ih]; grind
theorem du {n:Nat} {f g:Nat→Rat}:zu n (fun i=>f i-g i)=zu n f-zu n g:=by
 induction n with
 | zero=>simp only[zu]; grind
 | succ n ih=>simp only[zu]; rw[ih]; grind
theorem XB {n m:Nat} {f:Nat→Nat→Rat}:zu n (fun i=>zu m (f i))=zu m (fun j=>zu n fun i=>f i j):=by
 induction n with
 | zero=>simp only[zu]; exact (y6 fun _ _=>rfl).symm
 | succ n ih=>simp only[zu]; rw[ih,← Sm]
theorem jW {n:Nat} {f:Nat→Rat} (h:∀ i,i<n→0≤f i):0≤zu n f:=by
 induction n with
 | zero=>simp only[zu]; grind
 | succ n ih=>simp only[zu]; have:=ih fun i hi=>h i (by omega); have:=h n (by omega); grind
theorem af {n:Nat} {f g:Nat→Rat} (h:∀ i,i<n→f i≤g i):zu n f≤zu n g:=by
 induction n with
 | zero=>simp only[zu]; grind
 | succ n ih=>simp only[zu]; have:=ih fun i hi=>h i (by omega); have:=h n (by omega); grind
theorem yF {n q:Nat} {f:Nat→Rat} (hq:q<n):zu n f=f q+zu n (fun j=>if j=q then 0 else f j):=by
 induction n with
 | zero=>omega
 | succ n ih =>
  simp only[zu]
  by_cases h:q=n
  ·subst h
   rw[if_pos rfl,ya (f:=fun j=>if j=q then 0 else f j) (g:=f) fun i hi=>if_neg (by omega)]
   grind
  ·rw[ih (by omega),if_neg (fun e=>h e.symm)]
   grind
theorem qy {n q:Nat} {f:Nat→Rat} (hq:q<n) (h:∀ i,i<n→i≠q→f i=0):zu n f=f q:=by
 rw[yF hq,y6 (f:=fun j=>if j=q then 0 else f j) fun i hi=>by
  by_cases e:i=q
  ·exact if_pos e
  ·rw[if_neg e]; exact h i hi e]
 grind
theorem Qa {n:Nat} {f:Nat→Rat} (h:zu n f<0):∃ i,i<n∧f i<0:=by
 induction n with
 | zero=>simp only[zu] at h; grind
 | succ n ih =>
  simp only[zu] at h
  by_cases h1:zu n f<0
  ·obtain ⟨i,hi,hf⟩:=ih h1; exact ⟨i,by omega,hf⟩
  ·exact ⟨n,by omega,by grind⟩
structure yv where
 r:Nat
 c:Nat
 a:Nat→Nat→Rat
 b:Nat→Rat
 cst:Nat→Rat
 v:Rat
 bas:Nat→Nat
 fre:Nat→Nat
def sol (d:yv) (x:Nat→Rat):Prop:=∀ i,i<d.r→x (d.bas i)=d.b i-zu d.c fun j=>d.a i j*x (d.fre j)
def obj (d:yv) (x:Nat→Rat):Rat:=d.v+zu d.c fun j=>d.cst j*x (d.fre j)
def Bij (d:yv) (N:Nat):Prop:=∀ g:Nat→Rat,zu N g=zu d.c (fun j=>g (d.fre j))+zu d.r (fun i=>g (d.bas i))
def upd {α:Type} (f:Nat→α) (p:Nat) (x:α):Nat→α:=fun i=>if i=p then x else f i
def pivot (d:yv) (p q:Nat):yv where
 r:=d.r
 c:=d.c
 a:=fun i j=>if i=p then (if j=q then 1/d.a p q else d.a p j*(1/d.a p q)) else (if j=q then -(d.a i q*(1/d.a p q)) else d.a i j-d.a i q*(d.a p j*(1/d.a p q)))
 b:=fun i=>if i=p then d.b p*(1/d.a p q) else d.b i-d.a i q*(d.b p*(1/d.a p q))
 cst:=fun j=>if j=q then -(d.cst q*(1/d.a p q)) else d.cst j-d.cst q*(d.a p j*(1/d.a p q))
 v:=d.v+d.cst q*(d.b p*(1/d.a p q))
 bas:=upd d.bas p (d.fre q)
 fre:=upd d.fre q (d.bas p)
theorem U6 {d:yv} {p q:Nat} (h:d.a p q≠0):pivot (pivot d p q) p q=d:=by
 cases d with
 | mk r c a b cst v bas fre =>
  simp only at h
  simp only[pivot,yv.mk.injEq,upd,if_true,true_and]
  refine ⟨?_,?_,?_,?_,?_,?_⟩
  ·funext i j
   by_cases hi:i=p<;>by_cases hj:j=q<;>simp only[hi,hj,if_true,if_false]<;>grind
  ·funext i
   by_cases hi:i=p<;>simp only[hi,if_true,if_false]<;>grind
  ·funext j
   by_cases hj:j=q<;>simp only[hj,if_true,if_false]<;>grind
  ·grind
  ·funext i; by_cases hi:i=p<;>simp[upd,hi]
  ·funext i; by_cases hi:i=q<;>simp[upd,hi]
theorem Nx {d:yv} {p q N:Nat} (hp:p<d.r) (hq:q<d.c) (h:Bij d N):Bij (pivot d p q) N:=by
 intro g
 rw[h g]
 simp only[pivot]
 rw[yF (f:=fun j=>g (d.fre j)) hq,yF (f:=fun j=>g (d.bas j)) hp,yF (f:=fun j=>g (upd d.fre q (d.bas p) j)) hq,
  yF (f:=fun j=>g (upd d.bas p (d.fre q) j)) hp]
 have e1:zu d.c (fun j=>if j=q then 0 else g (upd d.fre q (d.bas p) j))=zu d.c (fun j=>if j=q then 0 else g (d.fre j)):=ya fun i _=>by
  by_cases e:i=q<;>simp[e,upd]
 have e2:zu d.r (fun j=>if j=p then 0 else g (upd d.bas p (d.fre q) j))=zu d.r (fun j=>if j=p then 0 else g (d.bas j)):=ya fun i _=>by
  by_cases e:i=p<;>simp[e,upd]
 rw[e1,e2]
 simp only[upd,if_true]
 grind
theorem NP {d:yv} {p q:Nat} (hp:p<d.r) (hq:q<d.c) (h:d.a p q≠0) {x:Nat→Rat} (hs:sol d x):sol (pivot d p q) x:=by
 have e0:=hs p hp
 rw[yF hq] at e0
 have k1:∀ (k:Rat),zu d.c (fun j=>if j=q then 0 else k*d.a p j*x (d.fre j))=k*zu d.c (fun j=>if j=q then 0 else d.a p j*x (d.fre j)):=fun k=>by
  rw[← dt]
  exact ya fun j _=>by by_cases e:j=q<;>simp[e]; grind
 intro i hi
 simp only[pivot] at hi ⊢
 rw[yF hq]
 by_cases hip:i=p
 ·subst hip
  have e1:zu d.c (fun j=>if j=q then 0 else (if i=i then (if j=q then 1/d.a i q else d.a i j*(1/d.a i q)) else (if j=q then -(d.a i q*(1/d.a i q)) else d.a i j-d.a i q*(d.a i j*(1/d.a i q))))*x (upd d.fre q (d.bas i) j))
    = (1/d.a i q)*zu d.c (fun j=>if j=q then 0 else d.a i j*x (d.fre j)):=by
   rw[← k1]
   exact ya fun j _=>by by_cases e:j=q<;>simp[e,upd]; grind
  rw[e1]
  simp only[upd,if_true]
  grind
 ·have e2:=hs i hi
  rw[yF hq] at e2
  have e1:zu d.c (fun j=>if j=q then 0 else (if i=p then (if j=q then 1/d.a p q else d.a p j*(1/d.a p q)) else (if j=q then -(d.a i q*(1/d.a p q)) else d.a i j-d.a i q*(d.a p j*(1/d.a p q))))*x (upd d.fre q (d.bas p) j))
    = zu d.c (fun j=>if j=q then 0 else d.a i j*x (d.fre j))-(d.a i q*(1/d.a p q))*zu d.c (fun j=>if j=q then 0 else d.a p j*x (d.fre j)):=by
   rw[← k1,← du]
   exact ya fun j _=>by by_cases e:j=q<;>simp[e,upd,hip]<;>grind
  rw[e1]
  simp only[upd,if_true,if_neg hip]
  grind
theorem gL {d:yv} {p q:Nat} (hp:p<d.r) (hq:q<d.c) (h:d.a p q≠0) {x:Nat→Rat}:sol (pivot d p q) x↔sol d x:=by
 constructor
 ·intro hs
  have h2:(pivot d p q).a p q≠0:=by simp only[pivot,if_true]; grind
  have:=NP (d:=pivot d p q) hp hq h2 hs
  rwa [U6 h] at this
 ·exact NP hp hq h
theorem Nu {d:yv} {p q:Nat} (hp:p<d.r) (hq:q<d.c) (h:d.a p q≠0) {x:Nat→Rat} (hs:sol d x):obj (pivot d p q) x=obj d x:=by
 have e0:=hs p hp
 rw[yF hq] at e0
 have k1:∀ (k:Rat),zu d.c (fun j=>if j=q then 0 else k*d.a p j*x (d.fre j))=k*zu d.c (fun j=>if j=q then 0 else d.a p j*x (d.fre j)):=fun k=>by
  rw[← dt]
  exact ya fun j _=>by by_cases e:j=q<;>simp[e]; grind
 simp only[obj,pivot]
 rw[yF hq,yF (f:=fun j=>d.cst j*x (d.fre j)) hq]
 have e1:zu d.c (fun j=>if j=q then 0 else (if j=q then -(d.cst q*(1/d.a p q)) else d.cst j-d.cst q*(d.a p j*(1/d.a p q)))*x (upd d.fre q (d.bas p) j))
    = zu d.c (fun j=>if j=q then 0 else d.cst j*x (d.fre j))-(d.cst q*(1/d.a p q))*zu d.c (fun j=>if j=q then 0 else d.a p j*x (d.fre j)):=by
  rw[← k1,← du]
  exact ya fun j _=>by by_cases e:j=q<;>simp[e,upd]<;>grind
 rw[e1]
 simp only[upd,if_true]
 grind
section
variable {d:yv} {N:Nat} (hb:Bij d N)
include hb
theorem dI {k:Nat} (hk:k<N):zu d.c (fun j=>if d.fre j=k then 1 else 0)+zu d.r (fun i=>if d.bas i=k then 1 else 0)=1:=by
 have:=hb fun x=>if x=k then 1 else 0
 rw[qy hk (fun i _ hne=>if_neg hne),if_pos rfl] at this
 exact this.symm
theorem SE {k:Nat} (hk:N≤k):zu d.c (fun j=>if d.fre j=k then 1 else 0)+zu d.r (fun i=>if d.bas i=k then 1 else 0)=0:=by
 have:=hb fun x=>if x=k then 1 else 0
 rw[y6 (fun i hi=>if_neg (by omega))] at this
 exact this.symm
omit hb in
theorem fi {n:Nat} {f:Nat→Nat} {k:Nat}:0≤zu n (fun j=>if f j=k then 1 else 0):=jW fun i _=>by split<;>grind
omit hb in
theorem Ua {n j:Nat} {f:Nat→Nat} (hj:j<n):1≤zu n (fun i=>if f i=f j then 1 else 0):=by
 rw[yF hj]
 simp only[if_true]
 have:0≤zu n (fun i=>if i=j then 0 else if f i=f j then (1:Rat) else 0):=jW fun i _=>by split<;>(try split)<;>grind
 grind
omit hb in
theorem Fe {n i j:Nat} {f:Nat→Nat} (hi:i<n) (hj:j<n) (hne:i≠j) (he:f i=f j):2≤zu n (fun l=>if f l=f j then 1 else 0):=by
 rw[yF hj,yF (f:=fun l=>if l=j then 0 else if f l=f j then (1:Rat) else 0) hi]
 simp only[if_true,if_neg hne,he]
 have:0≤zu n (fun l=>if l=i then 0 else if l=j then 0 else if f l=f j then (1:Rat) else 0):=jW fun i _=>by split<;>(try split)<;>(try split)<;>grind
 grind
theorem bW {j:Nat} (hj:j<d.c):d.fre j<N:=by
 rcases Nat.lt_or_ge (d.fre j) N with h | h
 ·exact h
 ·have h1:=SE hb h
  have h2:=Ua (f:=d.fre) hj
  have h3:=fi (n:=d.r) (f:=d.bas) (k:=d.fre j)
  grind
theorem fW {i:Nat} (hi:i<d.r):d.bas i<N:=by
 rcases Nat.lt_or_ge (d.bas i) N with h | h
 ·exact h
 ·have h1:=SE hb h
  have h2:=Ua (f:=d.bas) hi
  have h3:=fi (n:=d.c) (f:=d.fre) (k:=d.bas i)
  grind
theorem X7 {i j:Nat} (hi:i<d.c) (hj:j<d.c) (h:d.fre i=d.fre j):i=j:=by
 by_cases e:i=j
 ·exact e
 ·have h1:=dI hb (bW hb hj)
  have h2:=Fe (f:=d.fre) hi hj e h
  have h3:=fi (n:=d.r) (f:=d.bas) (k:=d.fre j)
  grind
theorem X0 {i j:Nat} (hi:i<d.r) (hj:j<d.r) (h:d.bas i=d.bas j):i=j:=by
 by_cases e:i=j
 ·exact e
 ·have h1:=dI hb (fW hb hj)
  have h2:=Fe (f:=d.bas) hi hj e h
  have h3:=fi (n:=d.c) (f:=d.fre) (k:=d.bas j)
  grind
theorem kz {i j:Nat} (hi:i<d.r) (hj:j<d.c):d.fre j≠d.bas i:=fun e=>by
 have h1:=dI hb (fW hb hi)
 have h2:=Ua (f:=d.bas) hi
 have h3:=Ua (f:=d.fre) hj
 rw[e] at h3
 grind
omit hb in
theorem LX {n k:Nat} {f:Nat→Nat} (h:∀ j,j<n→f j≠k):zu n (fun j=>if f j=k then (1:Rat) else 0)=0:=y6 fun i hi=>if_neg (h i hi)
theorem NZ {k:Nat} (hk:k<N):(∃ j,j<d.c∧d.fre j=k)∨∃ i,i<d.r∧d.bas i=k:=by
 apply Classical.byContradiction
 intro h
 have h1:=dI hb hk
 rw[LX fun j hj e=>h (.inl ⟨j,hj,e⟩),LX fun j hj e=>h (.inr ⟨j,hj,e⟩)] at h1
 grind
end
def inB (d:yv) (k:Nat):Prop:=∃ i,i<d.r∧d.bas i=k
def vl (d:yv) (k:Nat):Rat:=zu d.r fun i=>if d.bas i=k then d.b i else 0
def cv (d:yv) (k:Nat):Rat:=zu d.c fun j=>if d.fre j=k then d.cst j else 0
section
variable {d:yv} {N:Nat} (hb:Bij d N)
include hb
theorem JA {i:Nat} (hi:i<d.r):vl d (d.bas i)=d.b i:=by
 unfold vl
 rw[qy hi fun k hk hne=>if_neg fun e=>hne (X0 hb hk hi e),if_pos rfl]
omit hb in
theorem aw {k:Nat} (h:¬ inB d k):vl d k=0:=y6 fun i hi=>if_neg fun e=>h ⟨i,hi,e⟩
theorem Le {j:Nat} (hj:j<d.c):cv d (d.fre j)=d.cst j:=by
 unfold cv
 rw[qy hj fun k hk hne=>if_neg fun e=>hne (X7 hb hk hj e),if_pos rfl]
theorem Lc {k:Nat} (h:inB d k):cv d k=0:=by
 obtain ⟨i,hi,rfl⟩:=h
 exact y6 fun j hj=>if_neg fun e=>kz hb hi hj e
theorem ve {j:Nat} (hj:j<d.c):¬ inB d (d.fre j):=fun ⟨_,hi,e⟩=>kz hb hi hj e.symm
theorem fF {k:Nat} (hk:k<N) (h:¬ inB d k):∃ j,j<d.c∧d.fre j=k:=(NZ hb hk).resolve_right h
def ptq (d:yv) (q:Nat) (y:Rat) (k:Nat):Rat:=zu d.r (fun i=>if d.bas i=k then d.b i-d.a i q*y else 0)+(if d.fre q=k then y else 0)
theorem Q3 {q i:Nat} {y:Rat} (hq:q<d.c) (hi:i<d.r):ptq d q y (d.bas i)=d.b i-d.a i q*y:=by
 unfold ptq
 rw[qy hi fun k hk hne=>if_neg fun e=>hne (X0 hb hk hi e),if_pos rfl,if_neg (kz hb hi hq)]
 grind
theorem uT {q j:Nat} {y:Rat} (hq:q<d.c) (hj:j<d.c):ptq d q y (d.fre j)=if j=q then y else 0:=by
 unfold ptq
 rw[y6 fun i hi=>if_neg fun e=>kz hb hi hj e.symm]
 by_cases e:j=q
 ·subst e; simp; grind
 ·rw[if_neg e,if_neg fun h=>e (X7 hb hj hq h.symm)]; grind
theorem Ui {q:Nat} {y:Rat} (hq:q<d.c):sol d (ptq d q y):=by
 intro i hi
 rw[Q3 hb hq hi,qy hq (fun j hj hne=>by rw[uT hb hq hj,if_neg hne]; grind),uT hb hq hq,if_pos rfl]
theorem FE {q:Nat} {y:Rat} (hq:q<d.c):obj d (ptq d q y)=d.v+d.cst q*y:=by
 unfold obj
 rw[qy hq (fun j hj hne=>by rw[uT hb hq hj,if_neg hne]; grind),uT hb hq hq,if_pos rfl]
theorem A7:sol d (vl d):=by
 intro i hi
 rw[JA hb hi,y6 fun j hj=>by rw[aw (ve hb hj)]; grind]
 grind
theorem A6:obj d (vl d)=d.v:=by
 unfold obj
 rw[y6 fun j hj=>by rw[aw (ve hb hj)]; grind]
 grind
theorem ahc {x:Nat→Rat}:obj d x=d.v+zu N fun k=>cv d k*x k:=by
 have:=hb fun k=>cv d k*x k
 rw[this,y6 (n:=d.r) fun i hi=>by rw[Lc hb ⟨i,hi,rfl⟩]; grind]
 unfold obj
 rw[ya (g:=fun j=>cv d (d.fre j)*x (d.fre j)) fun j hj=>by rw[Le hb hj]]
 grind
end
theorem TT (a b:Rat):a<b∨b≤a:=by
 by_cases h:a<b
 ·exact .inl h
 ·exact .inr (by grind)
theorem TL {a:Rat} (h:0<a):0<1/a:=by
 have h1:a*(1/a)=1:=by grind
 rcases TT 0 (1/a) with h2 | h2
 ·exact h2
 ·exfalso
  have:0≤a*(-(1/a)):=Rat.mul_nonneg (by grind) (by grind)
  grind
def dA (d:yv) (p q:Nat):Prop:=p<d.r∧q<d.c∧0<d.cst q∧(∀ j,j<d.c→0<d.cst j→d.fre q≤d.fre j)∧0<d.a p q ∧
 ∀ i,i<d.r→0<d.a i q→d.b p*d.a i q≤d.b i*d.a p q∧(d.b p*d.a i q=d.b i*d.a p q→d.bas p≤d.bas i)
def feas (d:yv):Prop:=∀ i,i<d.r→0≤d.b i
theorem EW {d:yv} {p q:Nat} (hp:p<d.r) (hf:feas d) (ha:0<d.a p q) (hr:∀ i,i<d.r→0<d.a i q→d.b p*d.a i q≤d.b i*d.a p q):feas (pivot d p q):=by
 have hi:=TL ha
 intro i hir
 simp only[pivot] at hir ⊢
 by_cases e:i=p
 ·rw[if_pos e]; exact Rat.mul_nonneg (hf p hp) (by grind)
 ·rw[if_neg e]
  have h0:0≤d.b p*(1/d.a p q):=Rat.mul_nonneg (hf p hp) (by grind)
  by_cases h:0<d.a i q
  ·have h1:=hr i hir h
   have h2:0≤(d.b i*d.a p q-d.b p*d.a i q)*(1/d.a p q):=Rat.mul_nonneg (by grind) (by grind)
   have h3:(d.b i*d.a p q-d.b p*d.a i q)*(1/d.a p q)=d.b i-d.a i q*(d.b p*(1/d.a p q)):=by grind
   rwa [h3] at h2
  ·have h1:0≤(- d.a i q)*(d.b p*(1/d.a p q)):=Rat.mul_nonneg (by grind) h0
   have:=hf i hir
   grind
theorem dA.feas {d:yv} {p q:Nat} (h:dA d p q) (hf:feas d):feas (pivot d p q) :=
 EW h.1 hf h.2.2.2.2.1 fun i hi ha=>(h.2.2.2.2.2 i hi ha).1
theorem dA.v_le {d:yv} {p q:Nat} (h:dA d p q) (hf:LP.feas d):d.v≤(pivot d p q).v:=by
 have hi:=TL h.2.2.2.2.1
 have h0:0≤d.cst q*(d.b p*(1/d.a p q)):=Rat.mul_nonneg (by have:=h.2.2.1; grind) (Rat.mul_nonneg (hf p h.1) (by grind))
 simp only[pivot]
 grind
theorem dA.v_eq {d:yv} {p q:Nat} (h:dA d p q) (hv:(pivot d p q).v=d.v):d.b p=0:=by
 have hi:=TL h.2.2.2.2.1
 have hc:=h.2.2.1
 simp only[pivot] at hv
 have e:d.cst q*(d.b p*(1/d.a p q))=0:=by grind
 have h1:d.b p*(1/d.a p q)=0:=by grind
 grind
theorem ahO {d:yv} {p q:Nat} (h:d.b p=0) (k:Nat):vl (pivot d p q) k=vl d k:=by
 unfold vl
 simp only[pivot]
 refine ya fun i _=>?_
 by_cases e:i=p
 ·subst e
  simp only[h,upd,if_true]
  have:(0:Rat)*(1/d.a i q)=0:=by grind
  rw[this]
  split<;>split<;>rfl
 ·simp only[h,upd,if_neg e]
  have:d.b i-d.a i q*(0*(1/d.a p q))=d.b i:=by grind
  rw[this]
theorem core {d d':yv} {N p q q':Nat} (hb:Bij d N) (hb':Bij d' N) (ho:∀ x,sol d x→obj d x=obj d' x) (hv:d.v=d'.v) (hB:dA d p q)
  (hq':q'<d'.c) (ht:d'.fre q'=d.bas p) (hc':0<d'.cst q') (hm':∀ j,j<d'.c→0<d'.cst j→d'.fre q'≤d'.fre j)
  (hs:d.fre q<d.bas p) (hr:∀ k,inB d k→¬ inB d' k→k≤d.bas p∧vl d k=0) (hp0:d.b p=0) (_hf:feas d):False:=by
 obtain ⟨hp,hq,hc,hmin,ha,hrat⟩:=hB
 have key:∀ y:Rat,d.cst q*y=cv d' (d.fre q)*y+(zu d.r (fun i=>cv d' (d.bas i)*d.b i)-zu d.r (fun i=>cv d' (d.bas i)*d.a i q)*y):=fun y=>by
  have h1:=ho _ (Ui hb hq (y:=y))
  rw[FE hb hq,ahc hb',hb (fun k=>cv d' k*ptq d q y k)] at h1
  rw[qy hq (fun j hj hne=>by rw[uT hb hq hj,if_neg hne]; grind),uT hb hq hq,if_pos rfl] at h1
  rw[ya (g:=fun i=>cv d' (d.bas i)*d.b i-cv d' (d.bas i)*d.a i q*y) fun i hi=>by rw[Q3 hb hq hi]; grind] at h1
  rw[du,XC] at h1
  grind
 have k0:=key 0
 have k1:=key 1
 have neg_of:∀ {k:Nat},k<d.bas p→k<N→cv d' k≤0:=fun {k} hk hkN=>by
  rcases TT 0 (cv d' k) with h | h
  ·exfalso
   by_cases hin:inB d' k
   ·rw[Lc hb' hin] at h; grind
   ·obtain ⟨j,hj,rfl⟩:=fF hb' hkN hin
    rw[Le hb' hj] at h
    have:=hm' j hj h
    omega
  ·exact h
 have c1:=neg_of hs (bW hb hq)
 have c2:zu d.r (fun i=>cv d' (d.bas i)*d.a i q)<0:=by grind
 obtain ⟨i,hi,hneg⟩:=Qa c2
 have hnin:¬ inB d' (d.bas i):=fun h=>by rw[Lc hb' h] at hneg; grind
 obtain ⟨h1,h2⟩:=hr _ ⟨i,hi,rfl⟩ hnin
 rw[JA hb hi] at h2
 have hne:d.bas i≠d.bas p:=fun e=>by
  have e2:=X0 hb hi hp e
  subst e2
  rw[← ht,Le hb' hq'] at hneg
  have:0<d'.cst q'*d.a i q:=Rat.mul_pos hc' ha
  grind
 have hlt:d.bas i<d.bas p:=by omega
 have c3:=neg_of hlt (fW hb hi)
 have c4:0<d.a i q:=by
  rcases TT 0 (d.a i q) with h | h
  ·exact h
  ·exfalso
   have:0≤(- cv d' (d.bas i))*(- d.a i q):=Rat.mul_nonneg (by grind) (by grind)
   grind
 have:=(hrat i hi c4).2 (by rw[h2,hp0]; grind)
 omega
structure Run (D:Nat→yv) (pp qq:Nat→Nat) (K N:Nat):Prop where
 bij:Bij (D 0) N
 feas:feas (D 0)
 step:∀ k,k<K→dA (D k) (pp k) (qq k)∧D (k+1)=pivot (D k) (pp k) (qq k)
section
variable {D:Nat→yv} {pp qq:Nat→Nat} {K N:Nat} (h:Run D pp qq K N)
include h
theorem Run.bijs:∀ k,k≤K→Bij (D k) N
 | 0,_=>h.bij
 | k+1,hk=>by
  obtain ⟨h1,h2⟩:=h.step k (by omega)
  rw[h2]
  exact Nx h1.1 h1.2.1 (Run.bijs k (by omega))
theorem Run.feass:∀ k,k≤K→LP.feas (D k)
 | 0,_=>h.feas
 | k+1,hk=>by
  obtain ⟨h1,h2⟩:=h.step k (by omega)
  rw[h2]
  exact h1.feas (Run.feass k (by omega))
theorem Run.same {i:Nat} {x:Nat→Rat}:∀ j,i≤j→j≤K→((sol (D i) x↔sol (D j) x)∧(sol (D i) x→obj (D i) x=obj (D j) x)):=by
 intro j hij
 induction j with
 | zero =>
   intro _; have:i=0:=by omega
   subst this; exact ⟨Iff.rfl,fun _=>rfl⟩
 | succ j ih =>
  intro hj
  by_cases e:i=j+1
  ·subst e; exact ⟨Iff.rfl,fun _=>rfl⟩
  ·obtain ⟨g1,g2⟩:=ih (by omega) (by omega)
   obtain ⟨h1,h2⟩:=h.step j (by omega)
   have ha:(D j).a (pp j) (qq j)≠0:=by have:=h1.2.2.2.2.1; grind
   rw[h2]
   exact ⟨g1.trans (gL h1.1 h1.2.1 ha).symm,fun hx=>(g2 hx).trans (Nu h1.1 h1.2.1 ha (g1.1 hx)).symm⟩
theorem Run.v_le {i:Nat}:∀ j,i≤j→j≤K→(D i).v≤(D j).v:=by
 intro j hij
 induction j with
 | zero =>
   intro _; have:i=0:=by omega
   subst this; grind
 | succ j ih =>
  intro hj
  by_cases e:i=j+1
  ·subst e; grind
  ·have g:=ih (by omega) (by omega)
   obtain ⟨h1,h2⟩:=h.step j (by omega)
   have:=h1.v_le (h.feass j (by omega))
   rw[← h2] at this
   grind
abbrev en (D:Nat→yv) (qq:Nat→Nat) (m:Nat):Nat:=(D m).fre (qq m)
abbrev lv (D:Nat→yv) (pp:Nat→Nat) (m:Nat):Nat:=(D m).bas (pp m)
theorem Run.next {m k:Nat} (hm:m<K):inB (D (m+1)) k↔(k=en D qq m∨(inB (D m) k∧k≠lv D pp m)):=by
 obtain ⟨h1,h2⟩:=h.step m hm
 have hb:=h.bijs m (by omega)
 rw[h2]
 constructor
 ·rintro ⟨i,hi,e⟩
  simp only[pivot,upd] at hi e
  by_cases hip:i=pp m
  ·rw[if_pos hip] at e; exact .inl e.symm
  ·rw[if_neg hip] at e
   refine .inr ⟨⟨i,hi,e⟩,fun e2=>hip (X0 hb hi h1.1 (e.trans e2))⟩
 ·rintro (rfl | ⟨⟨i,hi,rfl⟩,hne⟩)
  ·exact ⟨pp m,h1.1,by simp[pivot,upd]⟩
  ·refine ⟨i,hi,?_⟩
   have:i≠pp m:=fun e=>hne (by rw[e])
   simp[pivot,upd,this]
theorem Run.en_free {m:Nat} (hm:m<K):¬ inB (D m) (en D qq m):=ve (h.bijs m (by omega)) (h.step m hm).1.2.1
omit h in
theorem Run.lv_basic {m:Nat} (h:Run D pp qq K N) (hm:m<K):inB (D m) (lv D pp m):=⟨pp m,(h.step m hm).1.1,rfl⟩
theorem Run.stay_free {k i j:Nat} (hj:j≤K) (hne:∀ m,i≤m→m<j→en D qq m≠k):∀ x y,i≤x→x≤y→y≤j→¬ inB (D x) k→¬ inB (D y) k:=by
 intro x y hx hxy
 induction y with
 | zero =>
   intro _ hf; have:x=0:=by omega
   subst this; exact hf
 | succ y ih =>
  intro hy hf
  by_cases e:x=y+1
  ·subst e; exact hf
  ·have g:=ih (by omega) (by omega) hf
   rw[h.next (by omega)]
   rintro (e2 | ⟨e2,_⟩)
   ·exact hne y (by omega) (by omega) e2.symm
   ·exact g e2
theorem Run.stay_basic {k i j:Nat} (hj:j≤K) (hne:∀ m,i≤m→m<j→lv D pp m≠k):∀ x y,i≤x→x≤y→y≤j→inB (D x) k→inB (D y) k:=by
 intro x y hx hxy
 induction y with
 | zero =>
   intro _ hf; have:x=0:=by omega
   subst this; exact hf
 | succ y ih =>
  intro hy hf
  by_cases e:x=y+1
  ·subst e; exact hf
  ·have g:=ih (by omega) (by omega) hf
   rw[h.next (by omega)]
   exact .inr ⟨g,fun e2=>hne y (by omega) (by omega) e2.symm⟩
theorem Run.enters {k i j x y:Nat} (hj:j≤K) (hij:inB (D i) k↔inB (D j) k) (hx:i≤x∧x≤j) (hy:i≤y∧y≤j) (h1:inB (D x) k) (h2:¬ inB (D y) k):∃ m,i≤m∧m<j∧en D qq m=k:=by
 apply Classical.byContradiction
 intro hno
 have hne:∀ m,i≤m→m<j→en D qq m≠k:=fun m a b e=>hno ⟨m,a,b,e⟩
 have f1:=h.stay_free hj hne y j hy.1 hy.2 (Nat.le_refl _) h2
 have f2:¬ inB (D i) k:=fun e=>f1 (hij.1 e)
 exact h.stay_free hj hne i x (Nat.le_refl _) hx.1 hx.2 f2 h1
theorem Run.leaves {k i j x y:Nat} (hj:j≤K) (hij:inB (D i) k↔inB (D j) k) (hx:i≤x∧x≤j) (hy:i≤y∧y≤j) (h1:inB (D x) k) (h2:¬ inB (D y) k):∃ m,i≤m∧m<j∧lv D pp m=k:=by
 apply Classical.byContradiction
 intro hno
 have hne:∀ m,i≤m→m<j→lv D pp m≠k:=fun m a b e=>hno ⟨m,a,b,e⟩
 have f1:=h.stay_basic hj hne x j hx.1 hx.2 (Nat.le_refl _) h1
 have f2:inB (D i) k:=hij.2 f1
 exact h2 (h.stay_basic hj hne i y (Nat.le_refl _) hy.1 hy.2 f2)
omit h in
theorem Ev (f:Nat→Nat) (i:Nat):∀ j,i<j→∃ m,i≤m∧m<j∧∀ m',i≤m'→m'<j→f m'≤f m:=by
 intro j
 induction j with
 | zero=>intro hj; omega
 | succ j ih =>
  intro hj
  by_cases e:i=j
  ·subst e; exact ⟨i,Nat.le_refl _,by omega,fun m' a b=>by
    have:m'=i:=by omega
    rw[this]
    exact Nat.le_refl _⟩
  ·obtain ⟨m,a,b,g⟩:=ih (by omega)
   by_cases hlt:f m≤f j
   ·refine ⟨j,by omega,by omega,fun m' a' b'=>?_⟩
    by_cases e2:m'=j
    ·rw[e2]; exact Nat.le_refl _
    ·exact Nat.le_trans (g m' a' (by omega)) hlt
   ·refine ⟨m,a,by omega,fun m' a' b'=>?_⟩
    by_cases e2:m'=j
    ·rw[e2]; omega
    ·exact g m' a' (by omega)
theorem Run.no_repeat {i j:Nat} (hij:i<j) (hj:j≤K) (hB:∀ k,inB (D i) k↔inB (D j) k):False:=by
 have bi:=h.bijs i (by omega)
 have bj:=h.bijs j hj
 have hvij:(D i).v=(D j).v:=by
  have s1:=A7 bi
  have s2:=(h.same j (by omega) hj (i:=i)).2 s1
  rw[A6 bi] at s2
  rw[s2]
  unfold obj
  rw[y6 fun l hl=>by rw[aw fun e=>ve bj hl ((hB _).1 e)]; grind]
  grind
 have hv:∀ m,i≤m→m≤j→(D m).v=(D i).v:=fun m a b=>by
  have g1:=h.v_le m a (by omega)
  have g2:=h.v_le j b hj
  grind
 have hdeg:∀ m,i≤m→m<j→(D m).b (pp m)=0:=fun m a b=>by
  obtain ⟨h1,h2⟩:=h.step m (by omega)
  apply h1.v_eq
  rw[← h2,hv (m+1) (by omega) (by omega),hv m a (by omega)]
 have hvl:∀ k m,i≤m→m≤j→vl (D m) k=vl (D i) k:=fun k m a=>by
  induction m with
  | zero =>
    intro _; have:i=0:=by omega
    rw[this]
  | succ m ih =>
   intro b
   by_cases e:i=m+1
   ·rw[e]
   ·rw[(h.step m (by omega)).2,ahO (hdeg m (by omega) (by omega)),ih (by omega) (by omega)]
 obtain ⟨e,e1,e2,emax⟩:=Ev (en D qq) i j hij
 have hfr:=h.en_free (m:=e) (by omega)
 have hin:inB (D (e+1)) (en D qq e):=(h.next (by omega)).2 (.inl rfl)
 obtain ⟨l,l1,l2,hl⟩:=h.leaves hj (hB (en D qq e)) (x:=e+1) (y:=e) ⟨by omega,by omega⟩ ⟨by omega,by omega⟩ hin hfr
 have hBl:=(h.step l (by omega)).1
 have hBe:=(h.step e (by omega)).1
 have hobj:∀ x,sol (D l) x→obj (D l) x=obj (D e) x:=fun x hx=>by
  rcases Nat.le_total l e with hle | hle
  ·exact (h.same e hle (by omega) (i:=l)).2 hx
  ·exact ((h.same l hle (by omega) (i:=e)).2 ((h.same l hle (by omega) (i:=e)).1.2 hx)).symm
 refine core (h.bijs l (by omega)) (h.bijs e (by omega)) hobj (by rw[hv l l1 (by omega),hv e e1 (by omega)]) hBl hBe.2.1 hl.symm hBe.2.2.1 hBe.2.2.2.1 ?_ ?_ (hdeg l l1 l2) (h.feass l (by omega))
 ·have g:=emax l l1 l2
  have hne:en D qq l≠en D qq e:=fun e3=>by
   have:=h.en_free (m:=l) (by omega)
   rw[e3,← hl] at this
   exact this (h.lv_basic (by omega))
  rw[show (D l).bas (pp l)=en D qq e from hl]
  simp only[en] at g hne ⊢
  omega
 ·intro k hk1 hk2
  obtain ⟨m,m1,m2,rfl⟩:=h.enters hj (hB k) (x:=l) (y:=e) ⟨l1,by omega⟩ ⟨e1,by omega⟩ hk1 hk2
  rw[show (D l).bas (pp l)=en D qq e from hl]
  refine ⟨emax m m1 m2,?_⟩
  rw[hvl _ l l1 (by omega),← hvl _ e e1 (by omega)]
  exact aw hk2
end
def code (d:yv):Nat→Nat
 | 0=>0
 | n+1=>2*code d n+(if (List.range d.r).any (fun i=>d.bas i == n)=true then 1 else 0)
theorem fC {d:yv} {n:Nat}:(List.range d.r).any (fun i=>d.bas i == n)=true↔inB d n:=by
 simp[inB]
theorem GX {d:yv}:∀ n,code d n<2^n
 | 0=>by simp[code]
 | n+1=>by have:=GX (d:=d) n; simp only[code,Nat.pow_succ]; split<;>omega
theorem code_inj {d d':yv}:∀ n,code d n=code d' n→∀ k,k<n→(inB d k↔inB d' k)
 | 0,_,k,hk=>by omega
 | n+1,he,k,hk=>by
  simp only[code] at he
  have h1:code d n=code d' n:=by split at he<;>split at he<;>omega
  by_cases e:k=n
  ·subst e
   rw[← fC,← fC]
   rw[h1] at he
   cases h2:(List.range d.r).any (fun i=>d.bas i == k)<;>cases h3:(List.range d'.r).any (fun i=>d'.bas i == k)<;>simp only[h2,h3,Bool.false_eq_true,if_true,if_false] at he ⊢<;>omega
  ·exact code_inj n h1 k (by omega)
theorem ahl:∀ (M K:Nat) (f:Nat→Nat),(∀ k,k<K→f k<M)→(∀ i j,i<j→j<K→f i≠f j)→K≤M:=by
 intro M
 induction M with
 | zero=>intro K f h _; rcases K with _ | K; exact Nat.le_refl _; exact absurd (h 0 (by omega)) (by omega)
 | succ M ih =>
  intro K f h hne
  rcases K with _ | K
  ·omega
  ·-- the last one is moved out of the way
   have:K≤M:=by
    refine ih K (fun k=>if f k=M then f K else f k) (fun k hk=>?_) (fun i j hij hj=>?_)
    ·have h1:=h k (by omega)
     have h2:=h K (by omega)
     have h3:=hne k K hk (by omega)
     by_cases e:f k=M
     ·simp only[e,if_true]; omega
     ·simp only[e,if_false]; omega
    ·have g1:=hne i j hij (by omega)
     have g2:=hne i K (by omega) (by omega)
     have g3:=hne j K hj (by omega)
     by_cases e1:f i=M<;>by_cases e2:f j=M<;>simp only[e1,e2,if_true,if_false]<;>omega
   omega
theorem Run.le {D:Nat→yv} {pp qq:Nat→Nat} {K N:Nat} (h:Run D pp qq K N):K<2^N:=by
 have:=ahl (2^N) (K+1) (fun k=>code (D k) N) (fun k _=>GX N) (fun i j hij hj e=>by
  refine h.no_repeat hij (by omega) fun k=>?_
  by_cases hk:k<N
  ·exact code_inj N e k hk
  ·constructor
   ·rintro ⟨i',hi',rfl⟩; exact absurd (fW (h.bijs i (by omega)) hi') hk
   ·rintro ⟨i',hi',rfl⟩; exact absurd (fW (h.bijs j (by omega)) hi') hk)
 omega
def sz (K:Nat) (q:Rat):Prop:=q.num.natAbs≤2^K∧q.den≤2^K
theorem zS {K L:Nat} {q:Rat} (h:sz K q) (hl:K≤L):sz L q :=
 ⟨Nat.le_trans h.1 (Nat.pow_le_pow_right (by omega) hl),Nat.le_trans h.2 (Nat.pow_le_pow_right (by omega) hl)⟩
theorem PJ {K:Nat} {n:Int} {d:Nat} (hd:d≠0) (h1:n.natAbs≤2^K) (h2:d≤2^K):sz K (Rat.normalize n d hd):=by
 rw[Rat.normalize_eq]
 exact ⟨Nat.le_trans (Int.natAbs_ediv_le_natAbs _ _) h1,Nat.le_trans (Nat.div_le_self _ _) h2⟩
theorem PK {K:Nat}:sz K 0:=⟨Nat.zero_le _,Nat.pow_pos (by omega)⟩
theorem vK {K L:Nat} {a b:Rat} (ha:sz K a) (hb:sz L b):sz (K+L) (a*b):=by
 rw[Rat.mul_def]
 refine PJ _ ?_ ?_
 ·rw[Int.natAbs_mul,Nat.pow_add]; exact Nat.mul_le_mul ha.1 hb.1
 ·rw[Nat.pow_add]; exact Nat.mul_le_mul ha.2 hb.2
theorem kU {K L:Nat} {a b:Rat} (ha:sz K a) (hb:sz L b):sz (K+L+1) (a+b):=by
 rw[Rat.add_def]
 refine PJ _ ?_ ?_
 ·refine Nat.le_trans (Int.natAbs_add_le _ _) ?_
  rw[Int.natAbs_mul,Int.natAbs_mul,Nat.pow_succ,Nat.pow_add]
  have h1:=Nat.mul_le_mul ha.1 hb.2
  have h2:=Nat.mul_le_mul hb.1 ha.2
  rw[Nat.mul_comm (2^L)] at h2
  simp only[Int.natAbs_natCast]
  omega
 ·rw[Nat.pow_succ,Nat.pow_add]
  have:=Nat.mul_le_mul ha.2 hb.2
  omega
theorem XD {K:Nat} {a:Rat} (ha:sz K a):sz K (-a):=by
 unfold sz
 rw[Rat.neg_num,Rat.neg_den,Int.natAbs_neg]
 exact ha
theorem Qb {K L:Nat} {a b:Rat} (ha:sz K a) (hb:sz L b):sz (K+L+1) (a-b):=by
 rw[Rat.sub_eq_add_neg]; exact kU ha (XD hb)
theorem ahE {K:Nat} {a:Rat} (ha:sz K a):sz K (1/a):=by
 have:1/a=a⁻¹:=by grind
 rw[this]
 unfold sz
 rw[Rat.num_inv,Rat.den_inv]
 constructor
 ·rw[Int.natAbs_mul,Int.natAbs_natCast,Int.natAbs_sign]
  have:=ha.2
  split<;>omega
 ·split
  ·exact Nat.pow_pos (by omega)
  ·exact ha.1
structure szD (K:Nat) (d:yv):Prop where
 a:∀ i j,i<d.r→j<d.c→sz K (d.a i j)
 b:∀ i,i<d.r→sz K (d.b i)
 cst:∀ j,j<d.c→sz K (d.cst j)
 v:sz K d.v
theorem ac2 {K L:Nat} {d:yv} (h:szD K d) (hl:K≤L):szD L d :=
 ⟨fun i j hi hj=>zS (h.a i j hi hj) hl,fun i hi=>zS (h.b i hi) hl,fun j hj=>zS (h.cst j hj) hl,zS h.v hl⟩
theorem AJ {K:Nat} {d:yv} {p q:Nat} (hp:p<d.r) (hq:q<d.c) (h:szD K d):szD (4*K+1) (pivot d p q):=by
 have hi:=ahE (h.a p q hp hq)
 constructor
 ·intro i j hir hjc
  simp only[pivot] at hir hjc ⊢
  split<;>split
  ·exact zS hi (by omega)
  ·exact zS (vK (h.a p j hp hjc) hi) (by omega)
  ·exact zS (XD (vK (h.a i q hir hq) hi)) (by omega)
  ·exact zS (Qb (h.a i j hir hjc) (vK (h.a i q hir hq) (vK (h.a p j hp hjc) hi))) (by omega)
 ·intro i hir
  simp only[pivot] at hir ⊢
  split
  ·exact zS (vK (h.b p hp) hi) (by omega)
  ·exact zS (Qb (h.b i hir) (vK (h.a i q hir hq) (vK (h.b p hp) hi))) (by omega)
 ·intro j hjc
  simp only[pivot] at hjc ⊢
  split
  ·exact zS (XD (vK (h.cst q hq) hi)) (by omega)
  ·exact zS (Qb (h.cst j hjc) (vK (h.cst q hq) (vK (h.a p j hp hjc) hi))) (by omega)
 ·simp only[pivot]
  exact zS (kU h.v (vK (h.cst q hq) (vK (h.b p hp) hi))) (by omega)
structure Same (d e:yv) (N:Nat):Prop where
 bd:Bij d N
 be:Bij e N
 sol:∀ x,sol d x↔sol e x
 obj:∀ x,LP.sol d x→obj d x=obj e x
theorem Same.refl {d:yv} {N:Nat} (h:Bij d N):Same d d N:=⟨h,h,fun _=>Iff.rfl,fun _ _=>rfl⟩
theorem Same.symm {d e:yv} {N:Nat} (h:Same d e N):Same e d N:=⟨h.be,h.bd,fun x=>(h.sol x).symm,fun x hx=>(h.obj x ((h.sol x).2 hx)).symm⟩
theorem Same.trans {d e f:yv} {N:Nat} (h:Same d e N) (k:Same e f N):Same d f N :=
 ⟨h.bd,k.be,fun x=>(h.sol x).trans (k.sol x),fun x hx=>(h.obj x hx).trans (k.obj x ((h.sol x).1 hx))⟩
theorem Same.pivot {d:yv} {N p q:Nat} (h:Bij d N) (hp:p<d.r) (hq:q<d.c) (ha:d.a p q≠0):Same (pivot d p q) d N :=
 ⟨Nx hp hq h,h,fun _=>gL hp hq ha,fun _ hx=>Nu hp hq ha ((gL hp hq ha).1 hx)⟩
def far (d:yv) (f:Nat→Nat):Nat→Nat
 | 0=>0
 | n+1=>far d f n+(if (List.range d.r).any (fun i=>d.bas i == f n)=true then 0 else 1)
theorem LC {d:yv} {f:Nat→Nat}:∀ n,far d f n=0→∀ i,i<n→inB d (f i)
 | 0,_,i,hi=>by omega
 | n+1,h,i,hi=>by
  simp only[far] at h
  by_cases e:i=n
  ·subst e
   apply fC.1
   cases h2:(List.range d.r).any (fun j=>d.bas j == f i)
   ·rw[h2] at h; simp at h
   ·rfl
  ·exact LC n (by omega) i (by omega)
theorem G8 {d:yv} {f:Nat→Nat}:∀ n,far d f n≠0→∃ i,i<n∧¬ inB d (f i)
 | 0,h=>absurd rfl h
 | n+1,h=>by
  by_cases e:inB d (f n)
  ·have h2:=fC.2 e
   simp only[far,h2,if_true] at h
   obtain ⟨i,hi,hf⟩:=G8 n (by omega)
   exact ⟨i,by omega,hf⟩
  ·exact ⟨n,by omega,e⟩
theorem G9 {d:yv} {f:Nat→Nat} {p k:Nat} (hk:inB d k) (hp:¬ inB d (f p)):∀ n,far d (upd f p k) n+(if p<n then 1 else 0)=far d f n
 | 0=>by simp[far]
 | n+1=>by
  have ih:=G9 (d:=d) (f:=f) (p:=p) (k:=k) hk hp n
  by_cases e:p=n
  ·subst e
   have h1:=fC.2 hk
   have h2:(List.range d.r).any (fun i=>d.bas i == f p)=false:=by
    cases h:(List.range d.r).any (fun i=>d.bas i == f p)
    ·rfl
    ·exact absurd (fC.1 h) hp
   simp only[far,upd,if_true,h1,h2,Bool.false_eq_true,if_false] at ih ⊢
   have:(upd f p k)=fun i=>if i=p then k else f i:=rfl
   simp only[Nat.lt_irrefl,if_false] at ih
   have e2:¬ p<p:=by omega
   simp only[show p<p+1 by omega,if_true]
   omega
  ·have e3:upd f p k n=f n:=by simp[upd,Ne.symm e]
   simp only[far,e3]
   have:(p<n+1)↔(p<n):=by omega
   simp only[this]
   omega
section
variable {d e:yv} {N:Nat} (h:Same d e N)
include h
theorem Same.entries {K:Nat} (hB:∀ k,inB e k→inB d k) (hB2:∀ k,inB d k→inB e k) (hs:szD K d):szD K e:=by
 have hF:∀ j,j<e.c→∃ j',j'<d.c∧d.fre j'=e.fre j:=fun j hj=>fF h.bd (bW h.be hj) fun hin=>ve h.be hj (hB2 _ hin)
 have hR:∀ i,i<e.r→∃ i',i'<d.r∧d.bas i'=e.bas i:=fun i hi=>hB _ ⟨i,hi,rfl⟩
 have hpt:∀ j j' y,j<e.c→j'<d.c→d.fre j'=e.fre j→∀ k,k<N→¬ inB d k→ptq e j y k=ptq d j' y k:=fun j j' y hj hj' ejj k hk hnk=>by
  obtain ⟨l,hl,rfl⟩:=fF h.bd hk hnk
  obtain ⟨l',hl',el⟩:=fF h.be hk fun hin=>hnk (hB _ hin)
  rw[uT h.bd hj' hl,← el,uT h.be hj hl']
  by_cases e1:l'=j
  ·subst e1
   rw[if_pos rfl,if_pos (X7 h.bd hl hj' (by rw[ejj,el]))]
  ·rw[if_neg e1,if_neg fun e2=>e1 (by subst e2; exact X7 h.be hl' hj (by rw[el,ejj]))]
 -- the point of 'e' is the point of 'd'
 have key:∀ j j' y i i',j<e.c→j'<d.c→d.fre j'=e.fre j→i<e.r→i'<d.r→d.bas i'=e.bas i→e.b i-e.a i j*y=d.b i'-d.a i' j'*y:=fun j j' y i i' hj hj' ejj hi hi' eii=>by
  have s1:=(h.sol _).2 (Ui h.be hj (y:=y))
  have s2:=s1 i' hi'
  rw[eii,Q3 h.be hj hi] at s2
  rw[s2]
  rw[ya (g:=fun l=>d.a i' l*ptq d j' y (d.fre l)) fun l hl=>by rw[hpt j j' y hj hj' ejj _ (bW h.bd hl) (ve h.bd hl)]]
  rw[qy hj' (fun l hl hne=>by rw[uT h.bd hj' hl,if_neg hne]; grind),uT h.bd hj' hj',if_pos rfl]
 have keyo:∀ j j' y,j<e.c→j'<d.c→d.fre j'=e.fre j→e.v+e.cst j*y=d.v+d.cst j'*y:=fun j j' y hj hj' ejj=>by
  have s1:=(h.sol _).2 (Ui h.be hj (y:=y))
  have s2:=h.obj _ s1
  rw[FE h.be hj] at s2
  rw[← s2]
  unfold LP.obj
  rw[ya (g:=fun l=>d.cst l*ptq d j' y (d.fre l)) fun l hl=>by rw[hpt j j' y hj hj' ejj _ (bW h.bd hl) (ve h.bd hl)]]
  rw[qy hj' (fun l hl hne=>by rw[uT h.bd hj' hl,if_neg hne]; grind),uT h.bd hj' hj',if_pos rfl]
 have hvl:∀ k,k<N→vl e k=0∨inB d k:=fun k hk=>by
  by_cases hin:inB e k
  ·exact .inr (hB _ hin)
  ·exact .inl (aw hin)
 have svl:=(h.sol _).2 (A7 h.be)
 have z:∀ l,l<d.c→vl e (d.fre l)=0:=fun l hl=>aw fun hin=>ve h.bd hl (hB _ hin)
 constructor
 ·intro i j hi hj
  obtain ⟨i',hi',ei⟩:=hR i hi
  obtain ⟨j',hj',ej⟩:=hF j hj
  have k0:=key j j' 0 i i' hj hj' ej hi hi' ei
  have k1:=key j j' 1 i i' hj hj' ej hi hi' ei
  have:e.a i j=d.a i' j':=by grind
  rw[this]; exact hs.a i' j' hi' hj'
 ·intro i hi
  obtain ⟨i',hi',ei⟩:=hR i hi
  have s2:=svl i' hi'
  rw[ei,JA h.be hi,y6 fun l hl=>by rw[z l hl]; grind] at s2
  have:e.b i=d.b i':=by grind
  rw[this]; exact hs.b i' hi'
 ·intro j hj
  obtain ⟨j',hj',ej⟩:=hF j hj
  have k0:=keyo j j' 0 hj hj' ej
  have k1:=keyo j j' 1 hj hj' ej
  have:e.cst j=d.cst j':=by grind
  rw[this]; exact hs.cst j' hj'
 ·have s2:=h.obj _ svl
  rw[A6 h.be] at s2
  unfold LP.obj at s2
  rw[y6 fun l hl=>by rw[z l hl]; grind] at s2
  have:e.v=d.v:=by grind
  rw[this]; exact hs.v
theorem Same.exchange {i:Nat} (hi:i<e.r) (hn:¬ inB d (e.bas i)):∃ j,j<e.c∧e.a i j≠0∧inB d (e.fre j):=by
 apply Classical.byContradiction
 intro hno
 obtain ⟨q,hq,eq⟩:=fF h.bd (fW h.be hi) hn
 have key:∀ y:Rat,y=e.b i:=fun y=>by
  have s1:=(h.sol _).1 (Ui h.bd hq (y:=y)) i hi
  rw[← eq,uT h.bd hq hq,if_pos rfl] at s1
  rw[y6 fun j hj=>?_] at s1
  ·grind
  ·by_cases ha:e.a i j=0
   ·rw[ha]; grind
   ·have hnf:¬ inB d (e.fre j):=fun hin=>hno ⟨j,hj,ha,hin⟩
    obtain ⟨l,hl,el⟩:=fF h.bd (bW h.be hj) hnf
    rw[← el,uT h.bd hq hl,if_neg fun e2=>kz h.be hi hj (by rw[← el,e2,eq])]
    grind
 have k0:=key 0
 have k1:=key 1
 grind
end
def grow (K:Nat):Nat→Nat
 | 0=>K
 | n+1=>4*grow K n+1
theorem CP {K:Nat} {m n:Nat} (h:m≤n):grow K m≤grow K n:=by
 induction n with
 | zero =>
   have:m=0:=by omega
   rw[this]; exact Nat.le_refl _
 | succ n ih =>
  by_cases e:m=n+1
  ·rw[e]; exact Nat.le_refl _
  ·have:=ih (by omega)
   simp only[grow]; omega
theorem Same.size {d:yv} {N K:Nat} (hs:szD K d):∀ n (e:yv),Same d e N→e.r=d.r→e.c=d.c→far d e.bas e.r≤n→szD (grow K n) e:=by
 intro n
 induction n with
 | zero =>
  intro e h hr hc hn
  have hB:∀ k,inB e k→inB d k:=fun k ⟨i,hi,ek⟩=>by
   have:=LC _ (Nat.le_zero.1 hn) i hi
   rwa [ek] at this
  refine h.entries hB (fun k hk=>?_) hs
  -- as many basic variables in both
  classical
  apply Classical.byContradiction
  intro hnk
  have hkN:k<N:=by obtain ⟨i,hi,rfl⟩:=hk; exact fW h.bd hi
  have c1:zu N (fun x=>if inB d x then (1:Rat) else 0)=zu d.r (fun _=>1):=by
   rw[h.bd fun x=>if inB d x then (1:Rat) else 0,y6 fun j hj=>if_neg (ve h.bd hj),ya (n:=d.r) (g:=fun _=>1) fun i hi=>if_pos ⟨i,hi,rfl⟩]
   grind
  have c2:zu N (fun x=>if inB e x then (1:Rat) else 0)=zu e.r (fun _=>1):=by
   rw[h.be fun x=>if inB e x then (1:Rat) else 0,y6 fun j hj=>if_neg (ve h.be hj),ya (n:=e.r) (g:=fun _=>1) fun i hi=>if_pos ⟨i,hi,rfl⟩]
   grind
  rw[hr,← c1] at c2
  rw[yF hkN,yF (f:=fun x=>if inB d x then (1:Rat) else 0) hkN,if_neg hnk,if_pos hk] at c2
  have:zu N (fun j=>if j=k then 0 else if inB e j then (1:Rat) else 0)≤zu N (fun j=>if j=k then 0 else if inB d j then (1:Rat) else 0):=af fun j _=>by
   by_cases e1:j=k
   ·rw[if_pos e1,if_pos e1]; grind
   ·rw[if_neg e1,if_neg e1]
    by_cases e2:inB e j
    ·rw[if_pos e2,if_pos (hB _ e2)]; grind
    ·rw[if_neg e2]; split<;>grind
  grind
 | succ n ih =>
  intro e h hr hc hn
  by_cases h0:far d e.bas e.r≤n
  ·exact ac2 (ih e h hr hc h0) (CP (by omega))
  ·obtain ⟨i,hi,hni⟩:=G8 e.r (by omega:far d e.bas e.r≠0)
   obtain ⟨j,hj,ha,hin⟩:=h.exchange hi hni
   have hS:=h.trans (Same.pivot h.be hi hj ha).symm
   have hfar:=G9 (f:=e.bas) hin hni e.r
   rw[if_pos hi] at hfar
   have:=ih (LP.pivot e i j) hS hr hc (by simp only[LP.pivot]; omega)
   have h2:=AJ (p:=i) (q:=j) (d:=LP.pivot e i j) hi hj this
   rwa [U6 ha] at h2
open Classical in
open Classical in
section
variable {n m:Nat} {A:Nat→Nat→Rat} {bb gg:Nat→Rat}
theorem ZX {x y:Nat→Rat} (hx:∀ j,j<n→0≤x j) (hr:∀ i,i<m→zu n (fun j=>A i j*x j)≤bb i) (hy:∀ i,i<m→0≤y i) (hc:∀ j,j<n→gg j≤zu m (fun i=>y i*A i j)) :
  zu n (fun j=>gg j*x j)≤zu m (fun i=>y i*bb i):=by
 have h1:zu n (fun j=>gg j*x j)≤zu n (fun j=>zu m (fun i=>y i*A i j)*x j):=af fun j hj=>by
  have:=Rat.mul_nonneg (show 0≤zu m (fun i=>y i*A i j)-gg j by have:=hc j hj; grind) (hx j hj)
  grind
 have h2:zu m (fun i=>y i*zu n (fun j=>A i j*x j))≤zu m (fun i=>y i*bb i):=af fun i hi=>by
  have:=Rat.mul_nonneg (hy i hi) (show 0≤bb i-zu n (fun j=>A i j*x j) by have:=hr i hi; grind)
  grind
 have h3:zu n (fun j=>zu m (fun i=>y i*A i j)*x j)=zu m (fun i=>y i*zu n (fun j=>A i j*x j)):=by
  rw[ya (n:=n) (g:=fun j=>zu m (fun i=>y i*A i j*x j)) fun j _=>by rw[XC],XB]
  exact ya fun i _=>by rw[← dt]; exact ya fun j _=>by grind
 grind
end
end Go.LP

namespace Go.Proofs.YtpnliopaifpimaaGreat
open Go Go.Am Go.Dig Go.LP
theorem CY {K x:Nat} (h:x≤2^K):(zh x).length≤K/32+1:=zE.2 (by
 have:B^(K/32+1)=2^(32*(K/32+1)):=by rw[show B=2^32 from rfl,← Nat.pow_mul]
 rw[this]
 exact Nat.lt_of_le_of_lt h (Nat.pow_lt_pow_right (by omega) (by omega)))
theorem qJ {K:Nat} {q:Rat} (h:sz K q):(zh q.num.natAbs).length≤K/32+1∧(zh q.den).length≤K/32+1:=⟨CY h.1,CY h.2⟩
theorem ahu (s:Bool) (N:Nat):sg (!s) N=-sg s N:=by cases s<;>simp[sg]
theorem aa0 (q:Rat):mkRat (sg (decide (q.num<0)) q.num.natAbs) q.den=q:=by rw[dk,Rat.mkRat_self]
theorem aeH (q:Rat):ws (!decide (q.num<0)) q.num.natAbs q.den=y4 (-q):=by
 rw[lu q.den_nz,ahu,← Rat.neg_mkRat,aa0]
section
variable {K:Nat} {p q:Rat} (hK:K≤137438953472) (hp:sz K p) (hq:sz K q)
include hK hp
theorem abt:ze Tryz.prog XQ [y4 p] (y4 (-p)):=by
 have h1:=qJ hp
 rw[← aeH]
 exact Bi (by omega) (by omega) p.den_nz
include hq
theorem abq:ze Tryz.prog fu [y4 p,y4 q] (y4 (p*q)):=by
 have h1:=qJ hp
 have h2:=qJ hq
 rw[← Fv]
 exact EH (by omega) (by omega) (by omega) (by omega) p.den_nz q.den_nz
theorem MO:ze Tryz.prog mS [y4 p,y4 q] (y4 (p+q)):=by
 have h1:=qJ hp
 have h2:=qJ hq
 rw[← Gy]
 exact F6 (by omega) (by omega) (by omega) (by omega) p.den_nz q.den_nz
theorem ac1:ze Tryz.prog XR [y4 p,y4 q] (y4 (p-q)):=by
 have k1:=abt hK hq
 have k2:=MO hK hp (XD hq)
 rw[Rat.sub_eq_add_neg]
 obtain ⟨a,ha⟩:∃ a,a=p+-q:=⟨_,rfl⟩
 obtain ⟨b,hb⟩:∃ b,b=-q:=⟨_,rfl⟩
 rw[← ha] at k2 ⊢
 rw[← hb] at k1 k2
 refine zn afJ (by simp) ?_
 simp[GF]
 refine za k1 (by simp) (by simp) ?_
 simp
 refine za k2 (by simp) (by simp) ?_
 simp[FI]
end
def anq (p q:Rat):Int:=if p<q then -1 else if q<p then 1 else 0
def qw (q:Rat):Int:=if q=0 then 0 else if q<0 then -1 else 1
theorem nS {q:Rat}:q.num<0↔q<0:=by
 have:=Rat.lt_iff q 0
 simpa using this.symm
theorem adV (p q:Rat):anq p q=if p.num*q.den<q.num*p.den then -1 else if q.num*p.den<p.num*q.den then 1 else 0:=by
 unfold anq
 simp only[Rat.lt_iff]
theorem adW (p q:Rat):(if decide (p.num<0)=decide (q.num<0) then (if decide (p.num<0)=true then xk (q.num.natAbs*p.den) (p.num.natAbs*q.den) else xk (p.num.natAbs*q.den) (q.num.natAbs*p.den))
  else if decide (p.num<0)=true then -1 else 1)=anq p q:=by
 have d1:(0:Int)<p.den:=by have:=p.den_pos; omega
 have d2:(0:Int)<q.den:=by have:=q.den_pos; omega
 rw[adV]
 unfold xk
 have a1:((p.num.natAbs*q.den:Nat):Int)=(p.num.natAbs:Int)*q.den:=Int.natCast_mul _ _
 have a2:((q.num.natAbs*p.den:Nat):Int)=(q.num.natAbs:Int)*p.den:=Int.natCast_mul _ _
 by_cases h1:p.num<0<;>by_cases h2:q.num<0
 ·have e1:(p.num.natAbs:Int)=-p.num:=by omega
  have e2:(q.num.natAbs:Int)=-q.num:=by omega
  rw[e1,Int.neg_mul] at a1
  rw[e2,Int.neg_mul] at a2
  simp only[h1,h2,if_true,decide_true]
  generalize p.num*q.den=x at *
  generalize q.num*p.den=y at *
  repeat' split
  all_goals first | rfl | omega
 ·have m1:p.num*q.den<0:=Int.mul_neg_of_neg_of_pos h1 d2
  have m2:0≤q.num*p.den:=Int.mul_nonneg (by omega) (by omega)
  simp only[h1,h2,decide_true,decide_false,Bool.true_eq_false,if_false,if_true]
  rw[if_pos (by omega)]
 ·have m1:0≤p.num*q.den:=Int.mul_nonneg (by omega) (by omega)
  have m2:q.num*p.den<0:=Int.mul_neg_of_neg_of_pos h2 d1
  simp only[h1,h2,decide_true,decide_false,Bool.false_eq_true,if_false]
  rw[if_neg (by omega),if_pos (by omega)]
 ·have e1:(p.num.natAbs:Int)=p.num:=by omega
  have e2:(q.num.natAbs:Int)=q.num:=by omega
  rw[e1] at a1
  rw[e2] at a2
  simp only[h1,h2,decide_false,if_true,Bool.false_eq_true,if_false]
  generalize p.num*q.den=x at *
  generalize q.num*p.den=y at *
  repeat' split
  all_goals first | rfl | omega
theorem Ac {q:Rat}:ze Tryz.prog jd [y4 q] (iv (qw q)):=by
 unfold qw y4
 refine zn ac4 (by simp) ?_
 by_cases h0:q=0
 ·subst h0
  simp[aI,Zy,yz]
 ·have hn:q.num.natAbs≠0:=fun e=>h0 (Rat.num_eq_zero.1 (by omega))
  have hl0:¬ zh q.num.natAbs=[]:=by rw[xj]; exact hn
  have hl:¬ (zh q.num.natAbs).length=0:=by rw[List.length_eq_zero_iff]; exact hl0
  have hli:¬ ((zh q.num.natAbs).length:Int)=0:=by omega
  by_cases h1:q<0
  ·have h2:=nS.2 h1
   simp[aI,Zy,h0,h1,hl,h2]
  ·have h2:¬ q.num<0:=fun h=>h1 (nS.1 h)
   simp[aI,Zy,h0,h1,hl,h2]
theorem aaz {K:Nat} {p q:Rat} (hK:K≤137438953472) (hp:sz K p) (hq:sz K q):ze Tryz.prog XP [y4 p,y4 q] (iv (anq p q)):=by
 have h1:=qJ hp
 have h2:=qJ hq
 rw[← adW]
 have l1:=sw h1.1 h2.2
 have l2:=sw h2.1 h1.2
 have kx:=UT (s:=decide (p.num<0)) (t:=decide (q.num<0)) (N:=p.num.natAbs) (D:=p.den) (M:=q.num.natAbs) (E:=q.den) (by omega) (by omega) (by omega) (by omega)
 have k1:=j9 (m1:=.plain) (m2:=.plain) (zx (p.num.natAbs*q.den)) (zx (q.num.natAbs*p.den)) (by omega) (by omega)
 have k2:=j9 (m1:=.plain) (m2:=.plain) (zx (q.num.natAbs*p.den)) (zx (p.num.natAbs*q.den)) (by omega) (by omega)
 simp only[zJ] at k1 k2
 unfold y4
 generalize p.num.natAbs*q.den=x at *
 generalize q.num.natAbs*p.den=y at *
 generalize decide (p.num<0)=s at *
 generalize decide (q.num<0)=t at *
 refine zn afG (by simp) ?_
 by_cases hst:s=t
 ·have e:(s == t)=true:=by simp[hst]
  rw[if_pos hst]
  simp[Qv,wD sC,e]
  refine za kx (by simp) (by simp) ?_
  cases s
  ·simp
   refine za k1 (by simp) (by simp) ?_
   simp[Uk]
  ·simp
   refine za k2 (by simp) (by simp) ?_
   simp[Uk]
 ·have e:(s == t)=false:=by simp[hst]
  rw[if_neg hst]
  cases s<;>simp[Qv,wD sC,e,Uk]
def vfr (s:Bool) (a c:List Nat):Bool :=
 decide (a=zh (val a))&&decide (c=zh (val c))&&!decide (c=[])&&!(s&&decide (a=[]))&&(Nat.gcd (val a) (val c) == 1)
theorem aga {s:Bool} {a c:List Nat} (h:vfr s a c=true):∃ q:Rat,s=decide (q.num<0)∧a=zh q.num.natAbs∧c=zh q.den:=by
 simp only[vfr,Bool.and_eq_true,beq_iff_eq,decide_eq_true_eq,Bool.not_eq_true',decide_eq_false_iff_not,Bool.and_eq_false_iff] at h
 obtain ⟨⟨⟨⟨h1,h2⟩,h3⟩,h4⟩,h5⟩:=h
 have hc:val c≠0:=fun e=>h3 (by rw[h2,e,yz])
 have hs:(sg s (val a)).natAbs=val a:=by unfold sg; split<;>omega
 refine ⟨⟨sg s (val a),val c,hc,by rw[hs]; exact h5⟩,?_,?_,h2⟩
 ·show s=decide (sg s (val a)<0)
  cases s
  ·simp[sg]
  ·have:val a≠0:=fun e=>by
    rcases h4 with h4 | h4
    ·cases h4
    ·exact h4 (by rw[h1,e,yz])
   simp[sg]; omega
 ·show a=zh (sg s (val a)).natAbs
  rw[hs]; exact h1
theorem agF {ox oy:Operand} {s b:Bool} {K:AV→Option zf→Prop} :
  ye Tryz.prog .eql sF ox oy [.agg [bv s,bv b],.agg [bv true,bv true]] K=K (bv (s&&b)) none:=by
 rw[Lq TN TG To (xs:=[.bool s,.bool b]) (ys:=[.bool true,.bool true]) rfl rfl rfl rfl]
 cases s<;>cases b<;>rfl
theorem ft {s:Bool} {a c:List Nat} {m1 m2:Am.Mode} (ha:ok a) (hc:ok c) (hna:a.length<17179869184) (hnc:c.length<17179869184) (f1:stm m1=m1) (f2:stm m2=m2) :
  ze Tryz.prog mT [.agg [bv s,nl m1 a,nl m2 c]] (bv (vfr s a c)):=by
 have k1:=Ti (m:=m1) ha (by omega)
 have k2:=Ti (m:=m2) hc (by omega)
 have kg:=Na (m1:=m1) (m2:=m2) ha hc (by omega) (by omega) f1 f2
 have kf:=nh (x:=1) (by decide)
 have hvc:c≠[]→c=zh (val c)→val c≠0:=fun h e h0=>h (by rw[e,h0,yz])
 have hgl:c≠[]→c=zh (val c)→(zh (Nat.gcd (val a) (val c))).length<17179869184:=fun h e=>by
  have h1:val c<B^c.length:=by
   have:=zE (x:=val c) (n:=c.length)
   rw[← this,← e]; exact Nat.le_refl _
  exact Nat.lt_of_le_of_lt (zE.2 (Nat.lt_of_le_of_lt (Nat.gcd_le_right _ (Nat.pos_of_ne_zero (hvc h e))) h1)) hnc
 have kc:(zh (Nat.gcd (val a) (val c))).length<17179869184→ze Tryz.prog mU [nD (Nat.gcd (val a) (val c)),nD 1] (iv (xk (Nat.gcd (val a) (val c)) 1)):=fun h=>by
  have:=j9 (m1:=.plain) (m2:=.plain) (zx (Nat.gcd (val a) (val c))) (zx 1) (by omega) (by rw[show zh 1=[1] by decide +kernel]; decide)
  simp only[zJ] at this
  exact this
 unfold vfr
 generalize Nat.gcd (val a) (val c)=g at *
 generalize val a=x at *
 generalize hy:val c=y at *
 have hkk:ze Tryz.prog aA [.agg [bv s,nl m1 a,nl m2 c]] (.agg [bv s,bv (decide (a=[]))]):=by
  refine zn Dx (by simp) ?_
  simp[SL,RM]
 have hcl:c=[]→c.length=0:=fun h=>by rw[h]; rfl
 have hcl':c≠[]→¬ c.length=0:=fun h h'=>h (List.length_eq_zero_iff.1 h')
 generalize d1:decide (a=zh x)=b1 at *
 generalize d2:decide (c=zh y)=b2 at *
 refine zn AK (by simp) ?_
 simp[PV]
 refine za k1 (by simp[f1]) (by simp) ?_
 cases b1
 ·simp[gk]
 simp
 refine za k2 (by simp[f2]) (by simp) ?_
 cases b2
 ·simp[gk]
 by_cases e3:c=[]
 ·simp[e3,gk]
 simp[e3]
 refine za hkk (by simp[f1,f2]) (by simp) ?_
 have hg:=hgl e3 (of_decide_eq_true d2)
 have hfin:decide (xk g 1=0)=(g == 1):=by
  have h2:xk g 1=0↔g=1:=by unfold xk; split<;>(try split)<;>omega
  simp only[h2]
  by_cases h1:g=1<;>simp[h1]
 generalize decide (a=[])=z at *
 cases s<;>cases z
 all_goals simp[agF,gk]
 all_goals
  refine za kg (by simp[f1,f2]) (by simp) ?_
  simp
  refine za kf (by simp) (by simp) ?_
  simp
  refine za (kc hg) (by simp) (by simp) ?_
  simp[← hfin]
theorem LH {n:Int} (h1:-9223372036854775808≤n) (h2:n<9223372036854775808):ze Tryz.prog xi [iv n] (y4 n):=by
 rw[← Ff]; exact JT h1 h2
end Go.Proofs.YtpnliopaifpimaaGreat

namespace Go.Wr
open Go.Dig
def yk (q:Rd):(Bool × List Nat × List Nat) × Rd :=
 if (se (se (zL 1 q).2).2).2.1=0 then
  (if Go.Proofs.YtpnliopaifpimaaGreat.vfr (decide ((zL 1 q).1=1)) (se (zL 1 q).2).1 (se (se (zL 1 q).2).2).1=true then
   ((decide ((zL 1 q).1=1),(se (zL 1 q).2).1,(se (se (zL 1 q).2).2).1),(se (se (zL 1 q).2).2).2)
  else ((false,[],[]),(2,[])))
 else ((false,[],[]),(se (se (zL 1 q).2).2).2)
end Go.Wr
namespace Go.Proofs.YtpnliopaifpimaaGreat
open Go Go.Am Go.Wr Go.Dig
abbrev fAV (x:Bool × List Nat × List Nat):AV:=.agg [bv x.1,nl .plain x.2.1,nl .plain x.2.2]
abbrev zAV:AV:=.agg [bv false,.list 0 .full [],.list 0 .full []]
def agJ (x:Bool × List Nat × List Nat) (r:AV):Prop:=r=fAV x∨(x=(false,[],[])∧r=zAV)
theorem aaX {x:Bool × List Nat × List Nat} {r:AV} (h:agJ x r):∃ c c',r=.agg c∧AV.imp (.agg c) (.agg c')∧fAV x=.agg c':=by
 rcases h with h | ⟨h1,h⟩
 ·exact ⟨_,_,h,AV.imp.refl,rfl⟩
 ·subst h1
  exact ⟨_,_,h,X8 (z6 AV.imp.refl (z6 (AV.imp_nil rfl) (z6 (AV.imp_nil rfl) tT))),rfl⟩
theorem G0 {q:Rd}:ok (se q).1:=fun d hd=>by
 have:=QW (most:=4294967295) d hd
 rw[z9]; omega
theorem Ll {q:Rd}:(se q).1.length≤2000:=Nat.le_trans TX qR.1
theorem qr:yy Tryz.prog z7=true:=by kernel_rfl
theorem FC:yy Tryz.prog x8=true:=by kernel_rfl
section
variable {s:St} {n m:Nat} {b:ByteArray} {q:Rd} {K:AV→St→Prop} {env:List (Nat × AV)} {out:List (List (Nat × AV))} {σ:List (Nat × zf)} {B base:Nat}
def Ux (n m B:Nat) (q:Rd) (env:List (Nat × AV)) (σ:List (Nat × zf)) (out:List (List (Nat × AV))) (k:Nat) (b:ByteArray):St :=
 {env:=[(0,.ptr m 0),(2,yE 1 (B+19) (zD (tW q k).1)),(3,zU ((zL 2000 q).1-k))],sto:=pt σ n (rdE b (tW q k).2.1),out:=env::out,base:=B}
theorem adE (hs:s=⟨env,σ,out,base⟩) (hρ:yU B σ) (hE:qp B env) (hO:pI B out) (hn:n<B) (hl:lk σ n=some (rdE b q.1)) (hlm:lk σ m=some (.var [.ptr n 0])) (hm:tq q b)
  (hK:∀ b',tq (se q).2 b'→K (nl .plain (se q).1) ⟨env,pt σ n (rdE b' (se q).2.1),out,base⟩):yH Tryz.prog x8 [.ptr m 0] s K:=by
 subst hs
 have hmn:¬ n=m:=fun e=>by subst e; rw[hl] at hlm; cases hlm
 have hlow:∀ b' e,yU B (pt σ n (rdE b' e)):=fun b' e=>Uf hρ hn rfl
 have hpm:∀ b' e,lk (pt σ n (rdE b' e)) m=some (.var [.ptr n 0]):=fun b' e=>by rw[ua,if_neg hmn]; exact hlm
 refine DZ (nu B jG (by simp) ?_)
 simp[rA,qr,hlm]
 refine yp (kO (b:=b) (q:=q) (most:=2000) (by exact hl) hm (by decide) fun b1 hb1=>?_)
 simp
 obtain ⟨L,g1,g2,g3,g4⟩:=Bl (q:=q)
 have h2k:(zL 2000 q).1≤2000:=qR.1
 refine Tp (Ux n m B q env σ out) (fun k b'=>tq (tW q k).2 b') L b1 ?_ hb1 (fun k b' hk hi=>?_) (fun b' hi=>?_)
 ·refine St.imp_of ?_
  simp[Ux,Bn,fU]
 ·have hq:=g2 k hk
  have hkN:k<(zL 2000 q).1:=by omega
  have hz:=Bm hq
  obtain ⟨N1,hN1⟩:∃ N1,(zL 2000 q).1-k=N1+1:=⟨(zL 2000 q).1-k-1,by omega⟩
  have hN2:(zL 2000 q).1-(k+1)=N1:=by omega
  have hst:∀ b2,Ux n m B q env σ out (k+1) b2={env:=[(0,.ptr m 0),(2,yE 1 (B+19) (zD (tW q k).1++[[uv (zL 4294967295 (tW q k).2).1]])),(3,zU N1)],sto:=pt σ n (rdE b2 (zL 4294967295 (tW q k).2).2.1),out:=env::out,base:=B}:=fun b2=>by
   rw[Ux,hz,hN2]; simp
  have hI:tq (tW q (k+1)).2=tq (zL 4294967295 (tW q k).2).2:=by rw[hz]
  have hle:(zL 4294967295 (tW q k).2).1≤4294967295:=qR.1
  have hlen:=Bk hq
  rw[Ux,hN1]
  rw[hq]
  obtain ⟨Q,hQ⟩:∃ Q,tW q k=Q:=⟨_,rfl⟩
  rw[hQ] at hst hI hle hi hq hlen ⊢
  obtain ⟨A,q1⟩:=Q
  simp only at hst hI hle hi hq hlen ⊢
  have w1:IntKind.u64.wrap ((N1:Int)+1-1)=(N1:Int):=by rw[vb]<;>omega
  have hp:(0:Int)<(N1:Int)+1:=by omega
  have hlm1:=hpm b' 0
  have hln1:lk (pt σ n (rdE b' 0)) n=some (rdE b' 0):=we
  have pp:∀ b2 e,pt (pt σ n (rdE b' 0)) n (rdE b2 e)=pt σ n (rdE b2 e):=fun _ _=>tt
  generalize pt σ n (rdE b' 0)=σ1 at *
  simp[xC,hp,hlm1]
  refine za (cy (b:=b') (e:=0)) (by simp[hln1]) (.inr rfl) ?_
  simp[qr,hlm1]
  refine yp (kO (b:=b') (q:=q1) (most:=4294967295) (by simp[hq,hln1]) hi (by decide) fun b2 hb2=>?_)
  generalize zL 4294967295 q1=r at *
  obtain ⟨x,q2⟩:=r
  simp only at hst hI hle hb2 ⊢
  have w2:IntKind.u32.wrap (x:Int)=(x:Int):=by rw[w32,z9,Nat.mod_eq_of_lt (by omega)]
  have hlw:=hlow b2 q2.1
  have hf:=YY hlw (Nat.le_add_right B 19)
  have hd:=kdg hlw (Nat.le_add_right B 19)
  have he:=QS (Nat.le_add_right B 19) hE
  have ho:=Fq (Nat.le_add_right B 19) hO
  unfold dgE at hd
  have wx:(N1:Int)+1-1=N1:=by omega
  have w3:IntKind.u64.wrap (N1:Int)=(N1:Int):=w64 (by omega)
  simp[wx,w3,w2,pp,wt,rO,hf,hlen,hst,hd,he,ho]
  exact ⟨by omega,by omega,b2,St.imp.refl,by rw[hI]; exact hb2⟩
 ·have hlen:=abF (q:=q) (k:=L)
  rw[g4] at hK
  rw[Ux]
  obtain ⟨Q,hQ⟩:∃ Q,tW q L=Q:=⟨_,rfl⟩
  rw[hQ] at g3 hK hi hlen ⊢
  obtain ⟨A,q1⟩:=Q
  simp only at g3 hK hi hlen ⊢
  generalize (zL 2000 q).1=N at *
  have hfin:=hK b' hi
  have hlm1:=hpm b' q1.1
  have hln1:lk (pt σ n (rdE b' q1.1)) n=some (rdE b' q1.1):=we
  generalize pt σ n (rdE b' q1.1)=σ1 at *
  by_cases h1:L<N
  ·obtain ⟨N1,hN1⟩:∃ N1,N-L=N1+1:=⟨N-L-1,by omega⟩
   have hp:(0:Int)<(N1:Int)+1:=by omega
   have hq:¬ q1.1=0:=g3.resolve_left (by omega)
   rw[hN1]
   simp[xC,hp,hlm1]
   refine za (cy (b:=b') (e:=q1.1)) (by simp[hln1]) (.inr rfl) ?_
   simp[hq,wZ,vU]
   exact ⟨zD A,⟨by simp,by simp,rfl⟩,hfin⟩
  ·have hN0:N-L=0:=by omega
   rw[hN0]
   simp[xC,wZ,vU]
   exact ⟨zD A,⟨by simp,by simp,rfl⟩,hfin⟩
end
section
variable {s:St} {n m:Nat} {b:ByteArray} {q:Rd} {K:AV→St→Prop} {env:List (Nat × AV)} {out:List (List (Nat × AV))} {σ:List (Nat × zf)} {B base:Nat}
theorem ahP (hs:s=⟨env,σ,out,base⟩) (hρ:yU B σ) (hE:qp B env) (hO:pI B out) (hn:n<B) (hl:lk σ n=some (rdE b q.1)) (hm:tq q b)
  (hK:∀ b',tq (yk q).2 b'→K (fAV (yk q).1) ⟨env,pt σ n (rdE b' (yk q).2.1),out,base⟩):yH Tryz.prog wC [.ptr n 0] s K:=by
 subst hs
 have hlow:∀ b' e,yU B (pt σ n (rdE b' e)):=fun b' e=>Uf hρ hn rfl
 refine P3 (S4 (B:=B) 2 hE hO (K1:=fun r s'=>∃ b' c,tq (yk q).2 b'∧agJ (yk q).1 r∧s'=⟨env,pt σ n (rdE b' (yk q).2.1)++[(B+2,c)],out,base⟩) ?_ (fun r s' ⟨b',c,h1,h2,h3⟩ =>
  ⟨c,_,hlow b' _,h3,by rcases h2 with h2 | ⟨_,h2⟩<;>rw[h2]<;>rfl,by rcases h2 with h2 | ⟨_,h2⟩<;>rw[h2]<;>rfl,by
   obtain ⟨c1,c2,h4,h5,h6⟩:=aaX h2
   exact ⟨c1,c2,h4,h5,h6▸hK b' h1⟩⟩))
 refine nu B gM (by simp) ?_
 have low3:pI (B+100) (env::out):=Nj (Nat.le_add_right _ _) (Ni.2 ⟨hE,hO⟩)
 simp[qC,aa6 hρ,aa8 hρ,glk hρ,gpt hρ,qr]
 refine yp (kO (b:=b) (q:=q) (most:=1) (by exact mG hl) hm (by decide) fun b1 hb1=>?_)
 rw[eP hl]
 unfold yk
 obtain ⟨u,q1,e1⟩:∃ u q1,zL 1 q=(u,q1):=⟨_,_,rfl⟩
 rw[e1] at hb1 ⊢
 simp only at hb1 ⊢
 have hl1:lk (pt σ n (rdE b1 q1.1)) n=some (rdE b1 q1.1):=by rw[we]
 have hρ1:=hlow b1 q1.1
 have pp:∀ b' e',pt (pt σ n (rdE b1 q1.1)) n (rdE b' e')=pt σ n (rdE b' e'):=fun b' e'=>tt
 have hg:decide ((u:Int)=1)=decide (u=1):=by rw[decide_eq_decide]; omega
 generalize hg2:decide (u=1)=g at *
 generalize pt σ n (rdE b1 q1.1)=σ1 at *
 simp[hg,FC,glk hρ1,gpt hρ1]
 have m0:yU (B+100) (σ1++[(B+1,.var [.ptr n 0]),(B+2,.var [AV.val (Value.bool false),AV.list 0 Mode.full [],AV.list 0 Mode.full []]),(B+4,.var [bv g,AV.list 0 Mode.full [],AV.list 0 Mode.full []])]) :=
  TR.2 ⟨cj (by omega) hρ1,tA.2 ⟨⟨by omega,by simp[mH,Ug]; omega⟩,tA.2 ⟨⟨by omega,rfl⟩,tA.2 ⟨⟨by omega,rfl⟩,jw⟩⟩⟩⟩
 refine yp (adE (n:=n) (B:=B+100) (b:=b1) (q:=q1) rfl m0 ?_ low3 (by omega) (by exact mG hl1) (by rw[glk hρ1]; simp[lk]) hb1 fun b2 hb2=>?_)
 ·simp[cg,Zm,Am.low,x4]
 rw[eP hl1,pp]
 obtain ⟨A,q2,e2⟩:∃ A q2,se q1=(A,q2):=⟨_,_,rfl⟩
 rw[e2] at hb2 ⊢
 simp only at hb2 ⊢
 have hl2:lk (pt σ n (rdE b2 q2.1)) n=some (rdE b2 q2.1):=by rw[we]
 have hρ2:=hlow b2 q2.1
 have pp2:∀ b' e',pt (pt σ n (rdE b2 q2.1)) n (rdE b' e')=pt σ n (rdE b' e'):=fun b' e'=>tt
 generalize pt σ n (rdE b2 q2.1)=σ2 at *
 simp[glk hρ2,gpt hρ2,FC]
 have m1:yU (B+100) (σ2++[(B+1,.var [.ptr n 0]),(B+2,.var [AV.val (Value.bool false),AV.list 0 Mode.full [],AV.list 0 Mode.full []]),(B+4,.var [bv g,nl .plain A,AV.list 0 Mode.full []])]) :=
  TR.2 ⟨cj (by omega) hρ2,tA.2 ⟨⟨by omega,by simp[mH,Ug]; omega⟩,tA.2 ⟨⟨by omega,rfl⟩,tA.2 ⟨⟨by omega,rfl⟩,jw⟩⟩⟩⟩
 refine yp (adE (n:=n) (B:=B+100) (b:=b2) (q:=q2) rfl m1 ?_ low3 (by omega) (by exact mG hl2) (by rw[glk hρ2]; simp[lk]) hb2 fun b3 hb3=>?_)
 ·simp[cg,Zm,Am.low,x4]
 rw[eP hl2,pp2]
 obtain ⟨C,q3,e3⟩:∃ C q3,se q2=(C,q3):=⟨_,_,rfl⟩
 rw[e3] at hb3 ⊢
 simp only at hb3 ⊢
 have hl3:lk (pt σ n (rdE b3 q3.1)) n=some (rdE b3 q3.1):=by rw[we]
 have hρ3:=hlow b3 q3.1
 have pp3:∀ b' e',pt (pt σ n (rdE b3 q3.1)) n (rdE b' e')=pt σ n (rdE b' e'):=fun b' e'=>tt
 have hlx:∀ l,lk (pt σ n (rdE b3 q3.1)++l) n=some (rdE b3 q3.1):=fun l=>mG hl3
 have hpx:∀ l e,pt (pt σ n (rdE b3 q3.1)++l) n e=pt (pt σ n (rdE b3 q3.1)) n e++l:=fun l e=>eP hl3
 generalize hσ3:pt σ n (rdE b3 q3.1)=σ3 at *
 have hA:ok A:=by have:=G0 (q:=q1); rw[e2] at this; exact this
 have hC:ok C:=by have:=G0 (q:=q2); rw[e3] at this; exact this
 have hAl:A.length≤2000:=by have:=Ll (q:=q1); rw[e2] at this; exact this
 have hCl:C.length≤2000:=by have:=Ll (q:=q2); rw[e3] at this; exact this
 have kl:=ft (s:=g) (m1:=.plain) (m2:=.plain) hA hC (by omega) (by omega) rfl rfl
 simp[glk hρ3,gpt hρ3]
 refine za (cy (b:=b3) (e:=q3.1)) (by simp[hlx]) (.inr rfl) ?_
 by_cases hq:q3.1=0
 ·simp[glk hρ3,hq]
  refine za kl (by simp) (by simp) ?_
  by_cases hv:vfr g A C=true
  ·rw[hv]
   simp[glk hρ3,hq]
   refine za (cy (b:=b3) (e:=0)) (by simp[hlx,hq]) (.inr rfl) ?_
   simp[glk hρ3,gpt hρ3,eO hρ3,gno hρ3,bf hE,bg hO,wE]
   exact ⟨b3,hb3,.inl rfl,by rw[← hσ3,hq]⟩
  ·rw[Bool.not_eq_true] at hv
   rw[hv]
   obtain ⟨τ,hτ⟩:∃ τ,pt σ3 n (rdE b3 2)=τ:=⟨_,rfl⟩
   have hp4:yU B τ:=by have:=hlow b3 2; rw[← pp3] at this; rw[← hτ]; exact this
   have hl4:∀ l,lk (τ++l) n=some (rdE b3 2):=fun l=>by rw[← hτ]; exact mG we
   have ht:τ=pt σ n (rdE b3 2):=by rw[← pp3,← hτ]
   have hpx':∀ l,pt (σ3++l) n (rdE b3 2)=τ++l:=fun l=>by rw[← hτ]; exact hpx l _
   simp[glk hρ3,lE]
   refine yp (kN (b:=b3) (e:=0) (c:=2) (by simp[hlx,hq]) (fun _=>?_) (fun h=>absurd rfl h))
   rw[hpx']
   simp[glk hp4]
   refine za (cy (b:=b3) (e:=2)) (by simp[hl4]) (.inr rfl) ?_
   simp[glk hp4,gpt hp4,eO hp4,gno hp4,bf hE,bg hO,wE]
   exact ⟨b3,⟨fun h=>absurd h (by decide),hb3.2⟩,.inr ⟨rfl,rfl⟩,ht⟩
 ·simp[glk hρ3,hq]
  refine za (cy (b:=b3) (e:=q3.1)) (by simp[hlx]) (.inr rfl) ?_
  simp[glk hρ3,gpt hρ3,hq,eO hρ3,gno hρ3,bf hE,bg hO,wE]
  exact ⟨b3,hb3,.inr ⟨rfl,rfl⟩,hσ3.symm⟩
end
end Go.Proofs.YtpnliopaifpimaaGreat

namespace Go.Wr
abbrev Fr:=Bool × List Nat × List Nat
structure Nd where
 K:Nat
 O:Nat
 U:Nat
 I:Nat
 P:List Fr
def yc {α:Type} (f:Rd→α × Rd):Nat→Rd→List α × Rd
 | 0,s=>([],s)
 | k+1,s=>if (yc f k s).2.1≠0 then yc f k s else ((yc f k s).1++[(f (yc f k s).2).1],(f (yc f k s).2).2)
theorem ZF {α:Type} {f:Rd→α × Rd}:∀ {k:Nat} {s:Rd},(yc f k s).1.length≤k
 | 0,_=>Nat.le_refl _
 | k+1,s=>by
  have:=ZF (f:=f) (k:=k) (s:=s)
  unfold yc
  split
  ·omega
  ·simp; omega
end Go.Wr
namespace Go.Proofs.YtpnliopaifpimaaGreat
open Go Go.Am Go.Wr Go.Dig
abbrev aa1 (x:Fr):List AV:=[bv x.1,nl .plain x.2.1,nl .plain x.2.2]
abbrev v9 (P:List Fr):List (List AV):=P.map aa1
abbrev ag6 (N:Nd):AV:=.agg [iv N.K,iv N.O,iv N.U,iv N.I,.list 3 .plain (v9 N.P)]
section
variable {s:St} {n m:Nat} {b:ByteArray} {q:Rd} {K:AV→St→Prop} {env:List (Nat × AV)} {out:List (List (Nat × AV))} {σ:List (Nat × zf)} {B base:Nat}
theorem TS {M sz d:Nat} {rows:List (List AV)} (h:d<M):Am.low M (yE sz d rows)=true:=by
 unfold yE
 split<;>simp[Am.low,x4,h]
theorem S7 {cs:List AV}:cellsOf (.agg cs)=some cs:=rfl
theorem Ed {sz d:Nat} {rows:List (List AV)}:cellsOf (yE sz d rows)=some [yE sz d rows]:=by
 unfold yE
 split<;>rfl
end
end Go.Proofs.YtpnliopaifpimaaGreat

namespace Go.Wr
def Rj (c:Nat) (q:Rd):Rd:=if q.1=0 then (c,[]) else q
end Go.Wr
namespace Go.Proofs.YtpnliopaifpimaaGreat
open Go Go.Am Go.Wr Go.Dig
abbrev ndO (N:Nd):AV:=.agg [iv N.K,iv N.O,iv N.U,iv N.I,Zt 3 (v9 N.P)]
theorem aeG {N:Nd}:AV.imp (ndO N) (ag6 N):=X8 (z6 AV.imp.refl (z6 AV.imp.refl (z6 AV.imp.refl (z6 AV.imp.refl (z6 jt tT)))))
section
variable {s:St} {n m:Nat} {b:ByteArray} {q:Rd} {K:AV→St→Prop} {env:List (Nat × AV)} {out:List (List (Nat × AV))} {σ:List (Nat × zf)} {B base:Nat}
abbrev zN:zf:=.var [iv 0,iv 0,iv 0,iv 0,.list 0 .full []]
end
end Go.Proofs.YtpnliopaifpimaaGreat

namespace Go.Wr
theorem NJ {α:Type} {f:Rd→α × Rd} {k:Nat} {s:Rd} (h:(yc f k s).2.1≠0):∀ j,yc f (k+j) s=yc f k s
 | 0=>rfl
 | j+1=>by
  have:=NJ h j
  rw[← Nat.add_assoc,yc,this,if_pos h]
theorem Xl {α:Type} {f:Rd→α × Rd} {s:Rd}:∀ N,∃ L,L≤N∧(∀ k,k<L→(yc f k s).2.1=0)∧(L=N∨(yc f L s).2.1≠0)∧yc f N s=yc f L s
 | 0=>⟨0,Nat.le_refl _,fun k hk=>absurd hk (Nat.not_lt_zero k),.inl rfl,rfl⟩
 | N+1=>by
  obtain ⟨L,h1,h2,h3,h4⟩:=Xl (f:=f) (s:=s) N
  by_cases h:(yc f L s).2.1=0
  ·have hL:L=N:=h3.resolve_right (fun h'=>h' h)
   subst hL
   exact ⟨L+1,Nat.le_refl _,fun k hk=>by
    by_cases hk2:k=L
    ·subst hk2; exact h
    ·exact h2 k (by omega),.inl rfl,rfl⟩
  ·refine ⟨L,by omega,h2,.inr h,?_⟩
   have:=NJ h (N+1-L)
   rwa [show L+(N+1-L)=N+1 by omega] at this
def yL (q:Rd):Nd × Rd :=
 if (zL 3 q).1=0 then (⟨0,0,0,0,[]⟩,Rj 2 (zL 3 q).2)
 else if (zL 3 q).1=2 then
  (⟨2,(zL 65536 (zL 3 q).2).1,(zL 65536 (zL 65536 (zL 3 q).2).2).1,(zL 65536 (zL 65536 (zL 65536 (zL 3 q).2).2).2).1,[]⟩,(zL 65536 (zL 65536 (zL 65536 (zL 3 q).2).2).2).2)
 else if (zL 3 q).1=1 then (⟨1,0,0,0,(yc yk (zL 40 (zL 3 q).2).1 (zL 40 (zL 3 q).2).2).1⟩,(yc yk (zL 40 (zL 3 q).2).1 (zL 40 (zL 3 q).2).2).2)
 else (⟨(zL 3 q).1,0,0,0,[]⟩,(zL 3 q).2)
end Go.Wr
namespace Go.Proofs.YtpnliopaifpimaaGreat
open Go Go.Am Go.Wr Go.Dig
theorem abI:yy Tryz.prog wC=true:=by kernel_rfl
section
variable {s:St} {n m:Nat} {b:ByteArray} {q:Rd} {K:AV→St→Prop} {env:List (Nat × AV)} {out:List (List (Nat × AV))} {σ:List (Nat × zf)} {B base:Nat}
noncomputable def Xy (n B N:Nat) (z:zf) (q:Rd) (env:List (Nat × AV)) (σ:List (Nat × zf)) (out:List (List (Nat × AV))) (k:Nat) (b:ByteArray):St :=
 {env:=[(0,.ptr n 0),(2,.ptr (B+2) 0),(3,.ptr (B+3) 0),(4,iv N),(5,iv k)],sto:=pt σ n (rdE b (yc yk k q).2.1)++[(B+2,z),(B+3,.var [iv 1,iv 0,iv 0,iv 0,yE 3 (B+46) (v9 (yc yk k q).1)])],out:=env::out,base:=B}
theorem DE {N L:Nat} {z:zf} {KK:Exit→St→Prop} (hρ:yU B σ) (hE:qp B env) (hO:pI B out) (hn:n<B) (hz:mH (B+3) z=true) (hN:N≤40) (hm:tq q b)
  (hL:L≤N) (g2:∀ k,k<L→(yc yk k q).2.1=0)
  (hK:∀ b',tq (yc yk L q).2 b'→awp Tryz.prog yX (Xy n B N z q env σ out L b') (t7 KK)) :
  awp Tryz.prog (.loop yX) (Xy n B N z q env σ out 0 b) KK:=by
 have hlow:∀ b' e,yU B (pt σ n (rdE b' e)):=fun b' e=>Uf hρ hn rfl
 refine Tp (Xy n B N z q env σ out) (fun k b'=>tq (yc yk k q).2 b') L b St.imp.refl hm (fun k b' hk hi=>?_) (fun b' hi=>hK b' hi)
 have hq:=g2 k hk
 have hse:yc yk (k+1) q=((yc yk k q).1++[(yk (yc yk k q).2).1],(yk (yc yk k q).2).2):=by rw[yc,if_neg (fun hne=>hne hq)]
 have hst:∀ b2,Xy n B N z q env σ out (k+1) b2={env:=[(0,.ptr n 0),(2,.ptr (B+2) 0),(3,.ptr (B+3) 0),(4,iv N),(5,iv ((k:Int)+1))],sto:=pt σ n (rdE b2 (yk (yc yk k q).2).2.1)++[(B+2,z),(B+3,.var [iv 1,iv 0,iv 0,iv 0,yE 3 (B+46) (v9 (yc yk k q).1++[aa1 (yk (yc yk k q).2).1])])],out:=env::out,base:=B}:=fun b2=>by
  rw[Xy,hse]; simp
 have hI:tq (yc yk (k+1) q).2=tq (yk (yc yk k q).2).2:=by rw[hse]
 have hlen:=ZF (f:=yk) (k:=k) (s:=q)
 have w1:=zm (k:=k) (by omega)
 rw[Xy]
 obtain ⟨Q,hQ⟩:∃ Q,yc yk k q=Q:=⟨_,rfl⟩
 rw[hQ] at hst hI hi hlen hq ⊢
 obtain ⟨A,q1⟩:=Q
 simp only at hst hI hi hlen hq ⊢
 have hl1:lk (pt σ n (rdE b' q1.1)) n=some (rdE b' q1.1):=we
 have hρ1:=hlow b' q1.1
 have pp:∀ b2 e,pt (pt σ n (rdE b' q1.1)) n (rdE b2 e)=pt σ n (rdE b2 e):=fun _ _=>tt
 generalize pt σ n (rdE b' q1.1)=σ1 at *
 have hk':(k:Int)<N:=by omega
 have hlx:∀ l,lk (σ1++l) n=some (rdE b' q1.1):=fun l=>mG hl1
 simp[yX,hk']
 refine za (di (b:=b') (e:=q1.1)) (by simp[hlx]) (.inr rfl) ?_
 simp[hq,glk hρ1,abI,rQ]
 have low3:pI (B+100) (env::out):=Nj (Nat.le_add_right _ _) (Ni.2 ⟨hE,hO⟩)
 have m0:yU (B+100) (σ1++[(B+2,z),(B+3,.var [iv 1,iv 0,iv 0,iv 0,yE 3 (B+46) (v9 A)])]) :=
  TR.2 ⟨cj (by omega) hρ1,tA.2 ⟨⟨by omega,Nh (by omega) hz⟩,tA.2 ⟨⟨by omega,by simp[mH,L6,TS]⟩,jw⟩⟩⟩
 refine ⟨by simp[rQ,glk hρ1],fun D=>ahP (n:=n) (B:=B+100) (b:=b') (q:=q1) rfl m0 (abh ?_) low3 (by omega) (by exact mG hl1) hi fun b2 hb2=>?_⟩
 ·simp[cg,Zm,C4,L6,Ug,TS]
  omega
 rw[eP hl1,pp]
 generalize yk q1=r at *
 obtain ⟨x,q2⟩:=r
 simp only at hst hI hb2 ⊢
 have hρ2:=hlow b2 q2.1
 have hl2:lk (pt σ n (rdE b2 q2.1)) n=some (rdE b2 q2.1):=we
 refine ⟨⟨_,pt σ n (rdE b2 q2.1)++[(B+2,z),(B+3,.var [iv 1,iv 0,iv 0,iv 0,yE 3 (B+46) (v9 A)])],env::out,B⟩,rfl,rfl,by simp[rQ,glk hρ2],?_⟩
 have hf:=YY hρ2 (Nat.le_add_right B 46)
 have hd:=kdg hρ2 (Nat.le_add_right B 46)
 have he:=QS (Nat.le_add_right B 46) hE
 have ho:=Fq (Nat.le_add_right B 46) hO
 generalize hσ2:pt σ n (rdE b2 q2.1)=σ2 at *
 have hzd:dgE (B+46) z=z:=Fp (M:=B+3) (by omega) hz
 unfold dgE at hd hzd
 simp[-cellsOf,Ed,S7,glk hρ2,gpt hρ2,eO hρ2,wt,rO,hd,he,ho,hzd,w1,hst]
 exact ⟨by omega,by omega,b2,by rw[hσ2]; exact St.imp.refl,by rw[hI]; exact hb2⟩
end
section
variable {s:St} {n m:Nat} {b:ByteArray} {q:Rd} {K:AV→St→Prop} {env:List (Nat × AV)} {out:List (List (Nat × AV))} {σ:List (Nat × zf)} {B base:Nat}
theorem ahQ (hs:s=⟨env,σ,out,base⟩) (hρ:yU B σ) (hE:qp B env) (hO:pI B out) (hn:n<B) (hl:lk σ n=some (rdE b q.1)) (hm:tq q b)
  (hK:∀ b',tq (yL q).2 b'→K (ag6 (yL q).1) ⟨env,pt σ n (rdE b' (yL q).2.1),out,base⟩):yH Tryz.prog v6 [.ptr n 0] s K:=by
 subst hs
 have hlow:∀ b' e,yU B (pt σ n (rdE b' e)):=fun b' e=>Uf hρ hn rfl
 refine P3 (S4 (B:=B) 2 hE hO (K1:=fun r s'=>∃ b' c,tq (yL q).2 b'∧r=ndO (yL q).1∧s'=⟨env,pt σ n (rdE b' (yL q).2.1)++[(B+2,c)],out,base⟩) ?_ (fun r s' ⟨b',c,h1,h2,h3⟩ =>
  ⟨c,_,hlow b' _,h3,by rw[h2]; rfl,by rw[h2]; rfl,_,_,h2,aeG,hK b' h1⟩))
 refine nu B bB (by simp) ?_
 simp[nO,aa6 hρ,aa8 hρ,qr]
 refine yp (kO (b:=b) (q:=q) (most:=3) (by exact mG hl) hm (by decide) fun b1 hb1=>?_)
 rw[eP hl]
 unfold yL
 have hu3:=(qR (most:=3) (s:=q)).1
 obtain ⟨u,q1,e1⟩:∃ u q1,zL 3 q=(u,q1):=⟨_,_,rfl⟩
 rw[e1] at hb1 hu3 ⊢
 simp only at hb1 hu3 ⊢
 have hl1:lk (pt σ n (rdE b1 q1.1)) n=some (rdE b1 q1.1):=by rw[we]
 have hρ1:=hlow b1 q1.1
 have pp:∀ b' e',pt (pt σ n (rdE b1 q1.1)) n (rdE b' e')=pt σ n (rdE b' e'):=fun b' e'=>tt
 generalize hσ1:pt σ n (rdE b1 q1.1)=σ1 at *
 have wu:IntKind.i64.wrap (u:Int)=(u:Int):=by rw[wrap64]<;>omega
 have k0:IntKind.i64.wrap 0=0:=by decide
 have k1:IntKind.i64.wrap 1=1:=by decide
 have k2:IntKind.i64.wrap 2=2:=by decide
 have k3:IntKind.i64.wrap 3=3:=by decide
 have hcase:u=0∨u=1∨u=2∨u=3:=by omega
 rcases hcase with rfl | rfl | rfl | rfl
 ·simp[k0,glk hρ1,gpt hρ1,lE]
  by_cases hq:q1.1=0
  ·refine yp (kN (b:=b1) (e:=q1.1) (c:=2) (by exact mG hl1) (fun _=>?_) (fun h=>absurd hq h))
   have hp4:=hlow b1 2
   rw[eP hl1,pp]
   have hf:Rj 2 q1=(2,[]):=by unfold Rj; rw[if_pos hq]
   rw[hf]
   generalize hτ:pt σ n (rdE b1 2)=τ at *
   simp[ym,glk hp4,gpt hp4,eO hp4,gno hp4,bf hE,bg hO,yB]
   exact ⟨b1,⟨fun h=>absurd h (by decide),hb1.2⟩,hτ.symm⟩
  ·refine yp (kN (b:=b1) (e:=q1.1) (c:=2) (by exact mG hl1) (fun h=>absurd h hq) (fun _=>?_))
   have hf:Rj 2 q1=q1:=by unfold Rj; rw[if_neg hq]
   rw[hf]
   simp[ym,glk hρ1,gpt hρ1,eO hρ1,gno hρ1,bf hE,bg hO,yB]
   exact ⟨b1,hb1,hσ1.symm⟩
 ·simp[k1,glk hρ1,gpt hρ1,qr]
  refine yp (kO (b:=b1) (q:=q1) (most:=40) (by exact mG hl1) hb1 (by decide) fun b2 hb2=>?_)
  rw[eP hl1,pp]
  have hu40:=(qR (most:=40) (s:=q1)).1
  generalize zL 40 q1=r at *
  obtain ⟨v,q2⟩:=r
  simp only at hb2 hu40 ⊢
  have wv:IntKind.i64.wrap (v:Int)=(v:Int):=by rw[wrap64]<;>omega
  simp[wv]
  obtain ⟨L,g1,g2,g3,g4⟩:=Xl (f:=yk) (s:=q2) v
  rw[g4]
  have h:=DE (n:=n) (B:=B) (N:=v) (L:=L) (z:=zN) (σ:=σ) (env:=env) (out:=out) (q:=q2) (b:=b2) (KK:=vi 1 (vi 0 (pS Tryz.prog ym (Sb yB base fun r s'=>∃ b' c,tq (yc yk L q2).2 b'∧r=ndO ⟨1,0,0,0,(yc yk L q2).1⟩∧s'=⟨env,pt σ n (rdE b' (yc yk L q2).2.1)++[(B+2,c)],out,base⟩)))) hρ hE hO hn rfl hu40 hb2 g1 g2 (fun b3 hb3=>by
   have hρ3:=hlow b3 (yc yk L q2).2.1
   have hl3:lk (pt σ n (rdE b3 (yc yk L q2).2.1)) n=some (rdE b3 (yc yk L q2).2.1):=we
   rw[Xy]
   generalize hσ3:pt σ n (rdE b3 (yc yk L q2).2.1)=σ3 at *
   have hlx:∀ l,lk (σ3++l) n=some (rdE b3 (yc yk L q2).2.1):=fun l=>mG hl3
   by_cases hLv:L<v
   ·have hLv':(L:Int)<v:=by omega
    have hq:¬ (yc yk L q2).2.1=0:=g3.resolve_left (by omega)
    generalize yc yk L q2=R at *
    simp[yX,hLv']
    refine za (di (b:=b3) (e:=R.2.1)) (by simp[hlx]) (.inr rfl) ?_
    simp[hq,ym,glk hρ3,gpt hρ3,eO hρ3,gno hρ3,bf hE,bg hO,yB,kT]
    exact ⟨b3,hb3,hσ3.symm⟩
   ·have hLv':¬ (L:Int)<v:=by omega
    generalize yc yk L q2=R at *
    simp[yX,hLv',ym,glk hρ3,gpt hρ3,eO hρ3,gno hρ3,bf hE,bg hO,yB,kT]
    exact ⟨b3,hb3,hσ3.symm⟩)
  rw[Xy] at h
  simp[yc,fU] at h
  exact h
 ·simp[k2,glk hρ1,gpt hρ1,qr]
  refine yp (kO (b:=b1) (q:=q1) (most:=65536) (by exact mG hl1) hb1 (by decide) fun b2 hb2=>?_)
  rw[eP hl1,pp]
  have hu2:=(qR (most:=65536) (s:=q1)).1
  generalize zL 65536 q1=r2 at *
  obtain ⟨v2,q2⟩:=r2
  simp only at hb2 hu2 ⊢
  have wv2:IntKind.i64.wrap (v2:Int)=(v2:Int):=by rw[wrap64]<;>omega
  have hl2:lk (pt σ n (rdE b2 q2.1)) n=some (rdE b2 q2.1):=by rw[we]
  have hρ2:=hlow b2 q2.1
  have pp2:∀ b' e',pt (pt σ n (rdE b2 q2.1)) n (rdE b' e')=pt σ n (rdE b' e'):=fun b' e'=>tt
  generalize pt σ n (rdE b2 q2.1)=σ2 at *
  simp[wv2,qr]
  refine yp (kO (b:=b2) (q:=q2) (most:=65536) (by exact mG hl2) hb2 (by decide) fun b3 hb3=>?_)
  rw[eP hl2,pp2]
  have hu3:=(qR (most:=65536) (s:=q2)).1
  generalize zL 65536 q2=r3 at *
  obtain ⟨v3,q3⟩:=r3
  simp only at hb3 hu3 ⊢
  have wv3:IntKind.i64.wrap (v3:Int)=(v3:Int):=by rw[wrap64]<;>omega
  have hl3:lk (pt σ n (rdE b3 q3.1)) n=some (rdE b3 q3.1):=by rw[we]
  have hρ3:=hlow b3 q3.1
  have pp3:∀ b' e',pt (pt σ n (rdE b3 q3.1)) n (rdE b' e')=pt σ n (rdE b' e'):=fun b' e'=>tt
  generalize pt σ n (rdE b3 q3.1)=σ3 at *
  simp[wv3,qr]
  refine yp (kO (b:=b3) (q:=q3) (most:=65536) (by exact mG hl3) hb3 (by decide) fun b4 hb4=>?_)
  rw[eP hl3,pp3]
  have hu4:=(qR (most:=65536) (s:=q3)).1
  generalize zL 65536 q3=r4 at *
  obtain ⟨v4,q4⟩:=r4
  simp only at hb4 hu4 ⊢
  have wv4:IntKind.i64.wrap (v4:Int)=(v4:Int):=by rw[wrap64]<;>omega
  have hρ4:=hlow b4 q4.1
  generalize hσ4:pt σ n (rdE b4 q4.1)=σ4 at *
  simp[wv4,ym,glk hρ4,gpt hρ4,eO hρ4,gno hρ4,bf hE,bg hO,yB]
  exact ⟨b4,hb4,hσ4.symm⟩
 ·simp[k3,ym,glk hρ1,gpt hρ1,eO hρ1,gno hρ1,bf hE,bg hO,yB]
  exact ⟨b1,hb1,hσ1.symm⟩
end
end Go.Proofs.YtpnliopaifpimaaGreat

namespace Go.Wr
def Qj (l:List UInt8):List Nd × Rd:=yc yL (zL 65536 (0,l)).1 (zL 65536 (0,l)).2
def eG (l:List UInt8):Nat:=(endR' (Qj l).2)
where endR' (q:Rd):Nat:=if q.1=0∧q.2≠[] then 3 else q.1
def Qz (l:List UInt8):List Nd:=if eG l=0 then (Qj l).1 else []
end Go.Wr
namespace Go.Proofs.YtpnliopaifpimaaGreat
open Go Go.Am Go.Wr Go.Dig
abbrev aha (N:Nd):List AV:=[iv N.K,iv N.O,iv N.U,iv N.I,.list 3 .plain (v9 N.P)]
abbrev Zq (T:List Nd):List (List AV):=T.map aha
theorem aed {q:Rd}:(c9 q).1=eG.endR' q:=by
 unfold c9 eG.endR'
 split<;>rfl
theorem aeV:yy Tryz.prog qa=true:=by kernel_rfl
theorem abJ:yy Tryz.prog v6=true:=by kernel_rfl
theorem aeU:yy Tryz.prog uD=true:=by kernel_rfl
noncomputable def PD (n:Nat) (q:Rd) (k:Nat) (b:ByteArray):St :=
 {env:=[(4,.ptr 1005 0),(5,iv n),(6,yE 5 28 (Zq (yc yL k q).1)),(7,iv k)],sto:=[(1005,rdE b (yc yL k q).2.1)]}
theorem Lg {l:List UInt8} (hl:l.length≤1099511627776):ze Tryz.prog xV [sv l] (.tuple [.list 5 .plain (Zq (Qz l)),iv (eG l)]):=by
 refine wW XH (by simp) ?_
 simp[j4,aeV]
 refine yp (ajk (ρ:=[]) (B:=1000) rfl jw ?_)
 simp[qr]
 have hm0:tq (0,l) (str l):=⟨fun _=>rfl,by rw[td]; exact hl⟩
 refine yp (kO (b:=str l) (q:=(0,l)) (most:=65536) (by simp[lk]) hm0 (by decide) fun b1 hb1=>?_)
 unfold Qz eG Qj
 have hn:=(qR (most:=65536) (s:=((0,l):Rd))).1
 generalize zL 65536 (0,l)=r at *
 obtain ⟨n,q⟩:=r
 simp only at hb1 hn ⊢
 have wn:IntKind.i64.wrap (n:Int)=(n:Int):=by rw[wrap64]<;>omega
 simp[pt,wn]
 obtain ⟨L,g1,g2,g3,g4⟩:=Xl (f:=yL) (s:=q) n
 rw[g4]
 refine Tp (PD n q) (fun k b'=>tq (yc yL k q).2 b') L b1 (St.imp_of (by simp[PD,yc,fU])) hb1 (fun k b' hk hi=>?_) (fun b' hi=>?_)
 ·have hq:=g2 k hk
  have hse:yc yL (k+1) q=((yc yL k q).1++[(yL (yc yL k q).2).1],(yL (yc yL k q).2).2):=by rw[yc,if_neg (fun hne=>hne hq)]
  have hst:∀ b2,PD n q (k+1) b2={env:=[(4,.ptr 1005 0),(5,iv n),(6,yE 5 28 (Zq (yc yL k q).1++[aha (yL (yc yL k q).2).1])),(7,iv ((k:Int)+1))],sto:=[(1005,rdE b2 (yL (yc yL k q).2).2.1)]}:=fun b2=>by
   rw[PD,hse]; simp
  have hI:tq (yc yL (k+1) q).2=tq (yL (yc yL k q).2).2:=by rw[hse]
  have hlen:=ZF (f:=yL) (k:=k) (s:=q)
  have w1:=zm (k:=k) (by omega)
  rw[PD]
  obtain ⟨Q,hQ⟩:∃ Q,yc yL k q=Q:=⟨_,rfl⟩
  rw[hQ] at hst hI hi hlen hq ⊢
  obtain ⟨A,q1⟩:=Q
  simp only at hst hI hi hlen hq ⊢
  have hk':(k:Int)<n:=by omega
  simp[wN,hk']
  refine za (di (b:=b') (e:=q1.1)) (by simp) (.inr rfl) ?_
  simp[hq,abJ]
  refine yp (ahQ (n:=1005) (B:=2000) (b:=b') (q:=q1) rfl ?_ ?_ abj (by omega) (by simp[lk,hq]) hi fun b2 hb2=>?_)
  ·exact tA.2 ⟨⟨by omega,rfl⟩,jw⟩
  ·simp[cg,Zm,C4,L6,Ug,TS]
  generalize yL q1=r at *
  obtain ⟨N,q2⟩:=r
  simp only at hst hI hb2 ⊢
  simp[-cellsOf,S7,pt,wt,rO,w1,hst]
  exact ⟨by omega,by omega,b2,St.imp.refl,by rw[hI]; exact hb2⟩
 ·rw[PD]
  have hlen:=ZF (f:=yL) (k:=L) (s:=q)
  obtain ⟨Q,hQ⟩:∃ Q,yc yL L q=Q:=⟨_,rfl⟩
  rw[hQ] at g3 hi hlen ⊢
  obtain ⟨A,q1⟩:=Q
  simp only at g3 hi hlen ⊢
  have key:∀ KK:Exit→St→Prop,KK (.exit 0) {env:=[(4,.ptr 1005 0),(5,iv n),(6,yE 5 28 (Zq A)),(7,iv L),(21,bv false)],sto:=[(1005,rdE b' q1.1)]}→awp Tryz.prog wN {env:=[(4,.ptr 1005 0),(5,iv n),(6,yE 5 28 (Zq A)),(7,iv L)],sto:=[(1005,rdE b' q1.1)]} (t7 KK):=by
   intro KK h
   by_cases hLv:L<n
   ·have hLv':(L:Int)<n:=by omega
    have hq:¬ q1.1=0:=g3.resolve_left (by omega)
    simp[wN,hLv']
    refine za (di (b:=b') (e:=q1.1)) (by simp) (.inr rfl) ?_
    simp[hq]
    exact h
   ·have hLv':¬ (L:Int)<n:=by omega
    simp[wN,hLv']
    exact h
  refine key _ ?_
  simp[m7,aeU]
  refine yp (ajd (b:=b') (q:=q1) (by simp[lk]) hi fun b3=>?_)
  rw[aed]
  generalize eG.endR' q1=e at *
  by_cases he:e=0
  ·simp[he,pt,pN]
   exact QL (z6 jt (z6 AV.imp.refl tT))
  ·simp[he,pt,pN]
   exact QL (z6 (AV.imp_nil rfl) (z6 AV.imp.refl tT))
end Go.Proofs.YtpnliopaifpimaaGreat

namespace Go.Wr
structure Nz where
 K:Int
 O:Int
 U:Int
 I:Int
 P:List Fr
def wI (x:Fr):Prop:=Go.Dig.ok x.2.1∧Go.Dig.ok x.2.2∧x.2.1.length<17179869184∧x.2.2.length<17179869184
def vFr (x:Fr):Bool:=Go.Proofs.YtpnliopaifpimaaGreat.vfr x.1 x.2.1 x.2.2
def rg (x:Int):Bool:=decide (0≤x)&&decide (x≤65536)
end Go.Wr
namespace Go.Proofs.YtpnliopaifpimaaGreat
open Go Go.Am Go.Wr Go.Dig
abbrev zc (N:Nz):List AV:=[iv N.K,iv N.O,iv N.U,iv N.I,.list 3 .plain (v9 N.P)]
noncomputable def ofZ (N:Nz):AV:=if N.K=1 then .iface xP (.agg (zc N)) else if N.K=2 then .iface xG (.agg (zc N)) else if N.K=3 then .iface xa (.agg (zc N)) else .iface uG (.agg [])
theorem Kq {N:Nz}:ze Tryz.prog tF [.agg (zc N)] (ofZ N):=by
 refine zn PN (by simp) ?_
 unfold ofZ
 by_cases h1:N.K=1
 ·simp[rL,h1,rY]
 ·by_cases h2:N.K=2
  ·simp[rL,h2,rY]
  ·by_cases h3:N.K=3
   ·simp[rL,h3,rY]
   ·simp[rL,h1,h2,h3,rY]
def plN (N:Nz):Bool:=decide (N.O=0)&&decide (N.U=0)&&decide (N.I=0)
theorem FD {N:Nz}:ze Tryz.prog rc [.agg (zc N)] (bv (plN N)):=by
 refine zn UI (by simp) ?_
 unfold plN
 by_cases h1:N.O=0<;>by_cases h2:N.U=0<;>simp[gR,h1,h2,gV]
theorem ajw {N:Nz}:ze Tryz.prog yI [.agg (zc N)] (bv (plN N&&decide (N.P=[]))):=by
 refine zn pi (by simp) ?_
 simp[vX]
 refine za (FD (N:=N)) (by simp) (by simp) ?_
 cases plN N<;>simp[vY]
theorem ajy:ze Tryz.prog y8 [.agg []] (bv false):=by
 refine zn nH (by simp) ?_
 simp[th,tm]
noncomputable def qW (N:Nz) (k:Nat):St:={env:=[(1,.ptr 1 0),(14,.list 1 .full [[iv N.O],[iv N.U],[iv N.I]]),(15,iv 3),(16,iv k)],sto:=[(1,.var (zc N))]}
theorem qO {x:Int} (h:rg x=true):¬ x<0∧¬ 65536<x:=by
 unfold rg at h
 simp at h
 omega
theorem Sc {x:Int} (h:¬ rg x=true):x<0∨(¬ x<0∧65536<x):=by
 unfold rg at h
 simp at h
 omega
theorem ajx {N:Nz}:ze Tryz.prog yW [.agg (zc N)] (bv (rg N.O&&rg N.U&&rg N.I&&decide (N.P=[]))):=by
 refine zn ny (by simp) ?_
 simp[uJ,wt]
 have w0:=zm (k:=0) (by omega)
 have w1:=zm (k:=1) (by omega)
 have w2:=zm (k:=2) (by omega)
 simp at w0 w1 w2
 by_cases h0:rg N.O=true
 ·obtain ⟨a0,b0⟩:=qO h0
  by_cases h1:rg N.U=true
  ·obtain ⟨a1,b1⟩:=qO h1
   by_cases h2:rg N.I=true
   ·obtain ⟨a2,b2⟩:=qO h2
    refine yl (qW N) 3 (by simp[qW]) (fun k hk=>?_) ?_
    ·have:k=0∨k=1∨k=2:=by omega
     rcases this with rfl | rfl | rfl<;>simp[zG,qW,a0,b0,a1,b1,a2,b2,w0,w1,w2]
    ·simp[zG,vG,qW,h0,h1,h2,zV]
   ·refine yl (qW N) 2 (by simp[qW]) (fun k hk=>?_) ?_
    ·have:k=0∨k=1:=by omega
     rcases this with rfl | rfl<;>simp[zG,qW,a0,b0,a1,b1,w0,w1]
    ·rcases Sc h2 with h | ⟨h,h'⟩
     ·simp[zG,qW,h,h0,h1,h2,zV]
     ·simp[zG,qW,h,h',h0,h1,h2,zV]
  ·refine yl (qW N) 1 (by simp[qW]) (fun k hk=>?_) ?_
   ·have:k=0:=by omega
    subst this
    simp[zG,qW,a0,b0,w0]
   ·rcases Sc h1 with h | ⟨h,h'⟩
    ·simp[zG,qW,h,h0,h1,zV]
    ·simp[zG,qW,h,h',h0,h1,zV]
 ·refine yl (qW N) 0 (by simp[qW]) (fun k hk=>absurd hk (Nat.not_lt_zero k)) ?_
  rcases Sc h0 with h | ⟨h,h'⟩
  ·simp[zG,qW,h,h0,zV]
  ·simp[zG,qW,h,h',h0,zV]
end Go.Proofs.YtpnliopaifpimaaGreat

namespace Go.Wr
theorem mr {α:Type} {p:α→Bool}:∀ {P:List α},∃ (L:Nat) (hL:L≤P.length),(∀ k (hk:k<L),p (P[k]'(by omega))=true)∧((L=P.length∧P.all p=true)∨(∃ h:L<P.length,p P[L]=false∧P.all p=false))
 | []=>⟨0,Nat.le_refl _,fun k hk=>absurd hk (Nat.not_lt_zero k),.inl ⟨rfl,rfl⟩⟩
 | x::P=>by
  by_cases hx:p x=true
  ·obtain ⟨L,h1,h2,h3⟩:=mr (p:=p) (P:=P)
   refine ⟨L+1,by simp; omega,fun k hk=>?_,?_⟩
   ·cases k with
    | zero=>simpa using hx
    | succ k=>simpa using h2 k (by omega)
   ·rcases h3 with ⟨h3,h4⟩ | ⟨h,h3,h4⟩
    ·exact .inl ⟨by simp[h3],by simp only[List.all_cons,hx,h4]; rfl⟩
    ·exact .inr ⟨by simp; omega,by simpa using h3,by simp only[List.all_cons,h4,Bool.and_false]⟩
  ·exact ⟨0,Nat.zero_le _,fun k hk=>absurd hk (Nat.not_lt_zero k),.inr ⟨by simp,by simpa using hx,by simp[hx]⟩⟩
end Go.Wr
namespace Go.Proofs.YtpnliopaifpimaaGreat
open Go Go.Am Go.Wr Go.Dig
noncomputable def K0 (P:List Fr) (k:Nat):St:={env:=[(18,.list 3 .plain (v9 P)),(19,iv P.length),(20,iv k)],sto:=[]}
theorem ajv {N:Nz} (hP:∀ x∈N.P,wI x):ze Tryz.prog y7 [.agg (zc N)] (bv (plN N&&decide (N.P.length≤40)&&N.P.all vFr)):=by
 refine zn nG (by simp) ?_
 simp[tg]
 refine za (FD (N:=N)) (by simp) (by simp) ?_
 cases hp:plN N
 ·simp[yu]
 by_cases hl:N.P.length≤40
 ·have hl':¬ (40:Int)<N.P.length:=by omega
  simp[hl',hl]
  obtain ⟨L,h1,h2,h3⟩:=mr (p:=vFr) (P:=N.P)
  generalize N.P=P at *
  refine yl (K0 P) L (by simp[K0]) (fun k hk=>?_) ?_
  ·have hv:=h2 k hk
   have hkP:k<P.length:=by omega
   have hok:=hP _ (List.getElem_mem hkP)
   have w1:=zm (k:=k) (by omega)
   rw[K0]
   generalize hx:P[k]=x at hv hok
   have kl:=ft (s:=x.1) (m1:=.plain) (m2:=.plain) hok.1 hok.2.1 hok.2.2.1 hok.2.2.2 rfl rfl
   rw[show vfr x.1 x.2.1 x.2.2=true from hv] at kl
   simp[yK,hkP,hx]
   refine za kl (by simp) (by simp) ?_
   simp[K0,w1]
  ·rw[K0]
   rcases h3 with ⟨h3,h4⟩ | ⟨hLP,h3,h4⟩
   ·subst h3
    simp[yK,vW,yu]
    simpa using h4
   ·have hok:=hP _ (List.getElem_mem hLP)
    generalize hx:P[L]=x at h3 hok
    have kl:=ft (s:=x.1) (m1:=.plain) (m2:=.plain) hok.1 hok.2.1 hok.2.2.1 hok.2.2.2 rfl rfl
    rw[show vfr x.1 x.2.1 x.2.2=false from h3] at kl
    rw[h4]
    simp[yK,hLP,hx]
    refine za kl (by simp) (by simp) ?_
    simp[yu]
 ·have hl':(40:Int)<N.P.length:=by omega
  simp[hl',hl,yu]
def okZ (N:Nz):Bool:=if N.K=1 then plN N&&decide (N.P.length≤40)&&N.P.all vFr else if N.K=2 then rg N.O&&rg N.U&&rg N.I&&decide (N.P=[]) else if N.K=3 then plN N&&decide (N.P=[]) else false
theorem RJ {N:Nz} (h:plN N=true):N.O=0∧N.U=0∧N.I=0:=by
 unfold plN at h
 simp at h
 exact ⟨h.1.1,h.1.2,h.2⟩
theorem sm {P:Program} {t:TypeId} {ox oy:Operand} {a b:List UInt8} {K:AV→Option zf→Prop} (h:a.length+b.length≤9223372036854775807):ye P .add t ox oy [sv a,sv b] K=K (sv (a++b)) none:=by
 rw[Cn (by simp only[td]; omega),afA]
end Go.Proofs.YtpnliopaifpimaaGreat

namespace Go.Wr
def km (a:List Nat):List UInt8:=enc a.length++a.flatMap enc
def ku (s:Bool) (a c:List Nat):List UInt8:=enc (if s=true then 1 else 0)++km a++km c
end Go.Wr
namespace Go.Proofs.YtpnliopaifpimaaGreat
open Go Go.Am Go.Wr Go.Dig
theorem TA:∀ {a:List Nat},(∀ d∈a,d<18446744073709551616)→(a.flatMap enc).length≤10*a.length
 | [],_=>by simp
 | d::a,h=>by
  have h1:=vS (h d (by simp))
  have h2:=TA (a:=a) fun d hd=>h d (by simp[hd])
  simp only[List.flatMap_cons,List.length_append,List.length_cons]
  omega
theorem ahd {a:List Nat} (ha:ok a):∀ d∈a,d<18446744073709551616:=fun d hd=>by
 have:=ha d hd
 rw[z9] at this
 omega
theorem jp {a:List Nat} (ha:ok a) (hn:a.length<18446744073709551616):(km a).length≤10*a.length+10:=by
 have h1:=vS hn
 have h2:=TA (ahd ha)
 unfold km
 rw[List.length_append]
 omega
theorem NS {a:List Nat} {k:Nat} (h:k<a.length):(a.take (k+1)).flatMap enc=(a.take k).flatMap enc++enc a[k]:=by
 rw[List.take_succ_eq_append_getElem h,List.flatMap_append]
 simp
theorem take_len {a:List Nat} {k:Nat} (ha:ok a) (h:k≤a.length):((a.take k).flatMap enc).length≤10*k:=by
 have:=TA (a:=a.take k) fun d hd=>ahd ha d (List.mem_of_mem_take hd)
 rw[List.length_take,Nat.min_eq_left h] at this
 exact this
def PC (m:Am.Mode) (a:List Nat) (k:Nat):St:={env:=[(3,sv (enc a.length++(a.take k).flatMap enc)),(10,nl m a),(11,iv a.length),(12,iv k)],sto:=[]}
theorem aU {m:Am.Mode} {a:List Nat} (ha:ok a) (hn:a.length<1099511627776):ze Tryz.prog nZ [nl m a] (sv (km a)):=by
 have w0:IntKind.u64.wrap (a.length:Int)=(a.length:Int):=w64 (by omega)
 have hl:=vS (x:=a.length) (by omega)
 refine zn Mj (by simp) ?_
 simp[Ya,w0]
 refine za (pU (x:=a.length) (by omega)) (by simp) (by simp) ?_
 simp
 refine yl (PC m a) a.length (by simp[PC]) (fun k hk=>?_) ?_
 ·have hst:PC m a (k+1)={env:=[(3,sv (enc a.length++((a.take k).flatMap enc++enc a[k]))),(10,nl m a),(11,iv a.length),(12,iv ((k:Int)+1))],sto:=[]}:=by
   rw[PC,NS hk]; rfl
  have hx:=xv ha hk
  rw[z9] at hx
  have ht:=take_len ha (Nat.le_of_lt hk)
  have w1:=zm (k:=k) (by omega)
  have w2:IntKind.u64.wrap (a[k]:Int)=(a[k]:Int):=w64 (by omega)
  have hlx:=vS (x:=a[k]) (by omega)
  have e:=pU (x:=a[k]) (by omega)
  rw[PC]
  generalize (a.take k).flatMap enc=L at *
  generalize ex:a[k]=x at *
  simp[mB,hk,ex,w2]
  refine za e (by simp) (by simp) ?_
  simp
  rw[sm (by simp; omega)]
  simp[w1,hst]
 ·rw[PC]
  simp[mB,eE,Yf,km]
theorem agR {s:Bool} {m1 m2:Am.Mode} {a c:List Nat} (ha:ok a) (hc:ok c) (hna:a.length<1099511627776) (hnc:c.length<1099511627776) (f1:stm m1=m1) (f2:stm m2=m2) :
  ze Tryz.prog lU [.agg [bv s,nl m1 a,nl m2 c]] (sv (ku s a c)):=by
 have l1:=jp ha (by omega)
 have l2:=jp hc (by omega)
 refine zn Qg (by simp) ?_
 simp[dX]
 refine za (pU (x:=0) (by omega)) (by simp) (by simp) ?_
 cases s with
 | true =>
  simp
  refine za (pU (x:=1) (by omega)) (by simp) (by simp) ?_
  have l3:=vS (x:=1) (by omega)
  simp
  refine za (aU (m:=m1) ha hna) (by simp[f1]) (by simp) ?_
  simp
  rw[sm (by omega)]
  simp
  refine za (aU (m:=m2) hc hnc) (by simp[f2]) (by simp) ?_
  simp
  rw[sm (by simp; omega)]
  simp[kM,ku]
 | false =>
  have l3:=vS (x:=0) (by omega)
  simp
  refine za (aU (m:=m1) ha hna) (by simp[f1]) (by simp) ?_
  simp
  rw[sm (by omega)]
  simp
  refine za (aU (m:=m2) hc hnc) (by simp[f2]) (by simp) ?_
  simp
  rw[sm (by simp; omega)]
  simp[kM,ku]
end Go.Proofs.YtpnliopaifpimaaGreat

set_option maxRecDepth 20000
namespace Go.Wr
def encZ (N:Nz):List UInt8:=if N.K=1 then enc N.P.length++N.P.flatMap (fun x=>ku x.1 x.2.1 x.2.2) else if N.K=2 then enc N.O.toNat++enc N.U.toNat++enc N.I.toNat else []
end Go.Wr
namespace Go.Proofs.YtpnliopaifpimaaGreat
open Go Go.Am Go.Wr Go.Dig
theorem aiH : ue Tryz.prog xP "saleroom/prooftree.wellFormed" = some y7 := by kernel_rfl
theorem aiJ : ue Tryz.prog xG "saleroom/prooftree.wellFormed" = some yW := by kernel_rfl
theorem aiI : ue Tryz.prog xa "saleroom/prooftree.wellFormed" = some yI := by kernel_rfl
theorem aiK : ue Tryz.prog uG "saleroom/prooftree.wellFormed" = some y8 := by kernel_rfl
theorem ai2:yy Tryz.prog y7=true:=by kernel_rfl
theorem ai4:yy Tryz.prog yW=true:=by kernel_rfl
theorem ai3:yy Tryz.prog yI=true:=by kernel_rfl
theorem ai5:yy Tryz.prog y8=true:=by kernel_rfl
def tp (name:String) (x:AV) (ys:List AV) (σ:Nat→Option zf) (K:AV→Option zf→Prop):Prop :=
 match x with | .iface t r=>(match ue Tryz.prog t name with | some f=>yy Tryz.prog f=true∧wq Tryz.prog f σ (r::ys) K | none=>False) | _=>False
theorem pK {xs:List Opd} {x:Opd} {d:Option Nat} {n:String} {os:List zi} {s:St} {KS:St→Prop} :
  zl Tryz.prog (⟨d,.callm n,x::xs,none⟩::os) s KS=tp n (ev s x) (xs.map (ev s)) (lk s.sto) (xK Tryz.prog os s d KS):=by
 rw[ux]; rfl
theorem nt {σ:Nat→Option zf} {N:Nz}:yQ (vv σ) [.agg (zc N)]=some [.agg (zc N)]:=by simp
theorem adl {N : Nz} {σ : Nat → Option zf} {K : AV → Option zf → Prop} (hP : ∀ x ∈ N.P, wI x) (h : K (bv (okZ N)) none) : tp "saleroom/prooftree.wellFormed" (ofZ N) [] σ K := by
 unfold ofZ
 unfold okZ at h
 split at h
 ·rename_i hk
  simp only[hk,if_true]
  simp only[tp,aiH,ai2]
  exact ⟨trivial,za (ajv hP) nt (.inl rfl) h⟩
 ·rename_i hk
  simp only[hk,if_false]
  split at h
  ·rename_i hk
   simp only[hk,if_true]
   simp only[tp,aiJ,ai4]
   exact ⟨trivial,za ajx nt (.inl rfl) h⟩
  ·rename_i hk
   simp only[hk,if_false]
   split at h
   ·rename_i hk
    simp only[hk,if_true]
    simp only[tp,aiI,ai3]
    exact ⟨trivial,za ajw nt (.inl rfl) h⟩
   ·rename_i hk
    simp only[hk,if_false]
    simp only[tp,aiK,ai5]
    exact ⟨trivial,za ajy (by simp) (.inl rfl) h⟩
theorem agH {N:Nz}:ze Tryz.prog xg [.agg (zc N)] (sv []):=by
 refine zn nT (by simp) ?_
 simp[tv,tC,str]
theorem agI {N:Nz} (h1:rg N.O=true) (h2:rg N.U=true) (h3:rg N.I=true):ze Tryz.prog xz [.agg (zc N)] (sv (enc N.O.toNat++enc N.U.toNat++enc N.I.toNat)):=by
 obtain ⟨K,O,U,I,P⟩:=N
 simp only at h1 h2 h3 ⊢
 have c:∀ {x:Int},rg x=true→∃ n:Nat,x=n∧n≤65536:=fun {x} h=>by
  have:=qO h
  exact ⟨x.toNat,by omega,by omega⟩
 obtain ⟨o,rfl,ho⟩:=c h1
 obtain ⟨u,rfl,hu⟩:=c h2
 obtain ⟨i,rfl,hi⟩:=c h3
 have w:∀ {n:Nat},n≤65536→IntKind.u64.wrap (n:Int)=n:=fun h=>w64 (by omega)
 have l1:=vS (x:=o) (by omega)
 have l2:=vS (x:=u) (by omega)
 have l3:=vS (x:=i) (by omega)
 refine zn lJ (by simp) ?_
 simp[t8,w ho]
 refine za (pU (x:=o) (by omega)) (by simp) (by simp) ?_
 simp[w hu]
 refine za (pU (x:=u) (by omega)) (by simp) (by simp) ?_
 simp
 rw[sm (by omega)]
 simp[w hi]
 refine za (pU (x:=i) (by omega)) (by simp) (by simp) ?_
 simp
 rw[sm (by simp; omega)]
 simp[sa]
end Go.Proofs.YtpnliopaifpimaaGreat

namespace Go.Tr
structure Nt where
 m:Nat
 K:Nat→Int
 O:Nat→Int
 U:Nat→Int
 I:Nat→Int
 n:Nat→Nat
 v:Nat→Prop
def rng (x:Int):Prop:=0≤x∧x≤65536
instance (x:Int):Decidable (rng x):=by unfold rng; exact inferInstance
section
variable (T:Nt)
def okN (i:Nat):Prop :=
 (T.K i=1∧T.O i=0∧T.U i=0∧T.I i=0∧T.n i≤40∧T.v i)∨(T.K i=2∧rng (T.O i)∧rng (T.U i)∧rng (T.I i)∧T.n i=0)∨(T.K i=3∧T.O i=0∧T.U i=0∧T.I i=0∧T.n i=0)
def kid (k i:Nat):Nat:=if T.K k=2 then (if T.U k=i then 1 else 0)+(if T.I k=i then 1 else 0) else 0
def cnt:Nat→Nat→Nat
 | 0,_=>0
 | k+1,i=>cnt k i+kid T k i
def par:Nat→Nat→Int
 | 0,_=>-1
 | k+1,i=>if kid T k i=0 then par k i else k
def cS (i:Nat):Prop:=T.K i=2→(i:Int)<T.U i∧T.U i<T.m∧(i:Int)<T.I i∧T.I i<T.m∧T.U i≠T.I i
structure yx:Prop where
 one:1≤T.m
 most:T.m≤65536
 ok:∀ i,i<T.m→okN T i
 br:∀ i,i<T.m→cS T i
 par1:∀ i,1≤i→i<T.m→cnt T T.m i=1
end
section
variable {T:Nt} {i j k l:Nat}
theorem Ud (h:kid T k i≠0):T.K k=2∧(T.U k=i∨T.I k=i):=by
 unfold kid at h
 split at h
 ·rename_i h1
  refine ⟨h1,?_⟩
  by_cases h2:T.U k=i
  ·exact .inl h2
  ·by_cases h3:T.I k=i
   ·exact .inr h3
   ·rw[if_neg h2,if_neg h3] at h; exact absurd rfl h
 ·exact absurd rfl h
theorem Mz (h:T.K k=2) (hu:T.U k=i):1≤kid T k i:=by unfold kid; rw[if_pos h,if_pos hu]; omega
theorem My (h:T.K k=2) (hu:T.I k=i):1≤kid T k i:=by unfold kid; rw[if_pos h,if_pos hu]; omega
theorem cnt_mono:∀ {d:Nat},cnt T k i≤cnt T (k+d) i
 | 0=>Nat.le_refl _
 | d+1=>by
  have:=@cnt_mono d
  show _≤cnt T (k+d) i+_
  omega
theorem agt (h:k≤l):cnt T k i≤cnt T l i:=by
 obtain ⟨d,rfl⟩:∃ d,l=k+d:=⟨l-k,by omega⟩
 exact cnt_mono
theorem YH (h:k<l):cnt T k i+kid T k i≤cnt T l i:=agt (T:=T) (i:=i) (k:=k+1) h
theorem eS (h:yx T) (hk:k<T.m) (h0:kid T k i≠0):k<i∧i<T.m:=by
 obtain ⟨h1,h2⟩:=Ud h0
 obtain ⟨a,b,c,d,_⟩:=h.br k hk h1
 rcases h2 with e | e<;>omega
theorem Kz:∀ k,cnt T k i=0→par T k i=-1
 | 0,_=>rfl
 | k+1,h=>by
  have h1:cnt T k i+kid T k i=0:=h
  simp only[par]
  rw[if_pos (by omega),Kz k (by omega)]
theorem TY:∀ k,cnt T k i≠0→∃ j:Nat,par T k i=j∧j<k∧kid T j i≠0
 | 0,h=>absurd rfl h
 | k+1,h=>by
  have h1:cnt T k i+kid T k i≠0:=h
  simp only[par]
  by_cases h0:kid T k i=0
  ·rw[if_pos h0]
   obtain ⟨j,h2,h3,h4⟩:=TY k (by omega)
   exact ⟨j,h2,by omega,h4⟩
  ·rw[if_neg h0]
   exact ⟨k,rfl,by omega,h0⟩
theorem xf (h:yx T) (h1:1≤i) (hi:i<T.m):∃ j:Nat,par T T.m i=j∧j<i∧kid T j i=1∧∀ k,k<T.m→k≠j→kid T k i=0:=by
 have hc:=h.par1 i h1 hi
 obtain ⟨j,h2,h3,h4⟩:=TY (T:=T) (i:=i) T.m (by omega)
 have hle:∀ a b,a<b→b<T.m→kid T a i+kid T b i≤1:=fun a b hab hb=>by
  have q1:=YH (T:=T) (i:=i) hab
  have q2:=YH (T:=T) (i:=i) hb
  omega
 have hs:kid T j i≤1:=by have:=YH (T:=T) (i:=i) h3; omega
 refine ⟨j,h2,(eS h h3 h4).1,by omega,fun k hk hne=>?_⟩
 by_cases hlt:k<j
 ·have:=hle k j hlt h3; omega
 ·have:=hle j k (by omega) hk; omega
theorem AX (h:yx T) (hj:j<T.m) (hk:kid T j i=1):T.K j=2∧((T.U j=i∧T.I j≠i)∨(T.I j=i∧T.U j≠i)):=by
 obtain ⟨h1,h2⟩:=Ud (T:=T) (k:=j) (i:=i) (by omega)
 refine ⟨h1,?_⟩
 have hne:=(h.br j hj h1).2.2.2.2
 rcases h2 with e | e
 ·exact .inl ⟨e,fun e2=>hne (by omega)⟩
 ·exact .inr ⟨e,fun e2=>hne (by omega)⟩
def YJ (T:Nt):Nat→Nat→Nat
 | 0,_=>1
 | f+1,i=>if i=0 then 1 else YJ T f (par T T.m i).toNat+1
def dep (T:Nt) (i:Nat):Nat:=YJ T i i
theorem Ce (h:yx T):∀ f i,i<T.m→i≤f→YJ T f i=YJ T i i:=by
 intro f
 induction f using Nat.strongRecOn with
 | ind f ih =>
  intro i hi hif
  cases f with
  | zero =>
   have:i=0:=by omega
   subst this; rfl
  | succ f =>
   by_cases h0:i=0
   ·subst h0; simp[YJ]
   ·obtain ⟨j,h1,h2,_,_⟩:=xf h (by omega) hi
    obtain ⟨e,rfl⟩:∃ e,i=e+1:=⟨i-1,by omega⟩
    simp only[YJ,if_neg h0,h1,Int.toNat_natCast]
    rw[ih f (by omega) j (by omega) (by omega)]
    by_cases hfe:e=f
    ·subst hfe
     rw[ih e (by omega) j (by omega) (by omega)]
    ·rw[ih e (by omega) j (by omega) (by omega)]
theorem Tw:dep T 0=1:=rfl
theorem X3 (h:yx T) (h1:1≤i) (hi:i<T.m):dep T i=dep T (par T T.m i).toNat+1:=by
 obtain ⟨j,h2,h3,_,_⟩:=xf h h1 hi
 unfold dep
 rw[h2,Int.toNat_natCast,← Ce h (i-1) j (by omega) (by omega)]
 obtain ⟨e,rfl⟩:∃ e,i=e+1:=⟨i-1,by omega⟩
 simp only[YJ]
 rw[if_neg (by omega),h2,Int.toNat_natCast,Nat.add_sub_cancel]
end
def put (g:Nat→Int) (n:Nat) (o s:Int):Nat→Int:=fun x=>if o<n∧(x:Int)=o then s else g x
def fxS (T:Nt) (n:Nat):Nat→Nat→(Nat→Int)→Nat→Int
 | 0,_,g=>g
 | f+1,i,g=>if i=0 then g else fxS T n f (par T T.m i).toNat (put g n (T.O (par T T.m i).toNat) (if T.U (par T T.m i).toNat=i then -1 else 1))
def fx (T:Nt) (n i:Nat):Nat→Int:=fxS T n i i fun _=>0
section
variable {T:Nt} {n i j f:Nat} {g:Nat→Int}
theorem LM (h:yx T):∀ f i g,i<T.m→i≤f→fxS T n f i g=fxS T n i i g:=by
 intro f
 induction f using Nat.strongRecOn with
 | ind f ih =>
  intro i g hi hif
  cases f with
  | zero =>
   have:i=0:=by omega
   subst this; rfl
  | succ f =>
   by_cases h0:i=0
   ·subst h0; simp[fxS]
   ·obtain ⟨j,h1,h2,_,_⟩:=xf h (by omega) hi
    obtain ⟨e,rfl⟩:∃ e,i=e+1:=⟨i-1,by omega⟩
    simp only[fxS,if_neg h0,h1,Int.toNat_natCast]
    rw[ih f (by omega) j _ (by omega) (by omega)]
    by_cases hfe:e=f
    ·subst hfe
     rw[ih e (by omega) j _ (by omega) (by omega)]
    ·rw[ih e (by omega) j _ (by omega) (by omega)]
theorem Fa (x:Nat):∀ f i,(∀ g,fxS T n f i g x=g x)∨∃ s:Int,(s=1∨s=-1)∧∀ g,fxS T n f i g x=s
 | 0,_=>.inl fun _=>rfl
 | f+1,i=>by
  by_cases h0:i=0
  ·exact .inl fun g=>by simp only[fxS,if_pos h0]
  ·simp only[fxS,if_neg h0]
   rcases Fa x f (par T T.m i).toNat with h | ⟨s,hs,h⟩
   ·by_cases h1:T.O (par T T.m i).toNat<n∧(x:Int)=T.O (par T T.m i).toNat
    ·refine .inr ⟨if T.U (par T T.m i).toNat=i then -1 else 1,?_,fun g=>?_⟩
     ·split
      ·exact .inr rfl
      ·exact .inl rfl
     ·rw[h]
      unfold put
      rw[if_pos h1]
    ·refine .inl fun g=>?_
     rw[h]
     unfold put
     rw[if_neg h1]
   ·exact .inr ⟨s,hs,fun g=>h _⟩
theorem LN (h:yx T) (h1:1≤i) (hi:i<T.m) (hp:par T T.m i=j) (hz:∀ o:Nat,T.O j=o→fx T n j o=0) (x:Nat) :
  fx T n i x=if T.O j<n∧(x:Int)=T.O j then (if T.U j=i then -1 else 1) else fx T n j x:=by
 obtain ⟨j',h2,h3,_,_⟩:=xf h h1 hi
 have hj:j'=j:=by omega
 subst hj
 have e1:fx T n i x=fxS T n j' j' (put (fun _=>0) n (T.O j') (if T.U j'=i then -1 else 1)) x:=by
  unfold fx
  obtain ⟨e,rfl⟩:∃ e,i=e+1:=⟨i-1,by omega⟩
  simp only[fxS]
  rw[if_neg (by omega),h2,Int.toNat_natCast,LM h e j' _ (by omega) (by omega)]
 rw[e1]
 rcases Fa (T:=T) (n:=n) x j' j' with hs | ⟨s,hs,hg⟩
 ·rw[hs]
  unfold put fx
  rw[hs]
 ·rw[hg]
  have hne:¬ (T.O j'<n∧(x:Int)=T.O j'):=fun hc=>by
   have:=hz x hc.2.symm
   unfold fx at this
   rw[hg] at this
   omega
  rw[if_neg hne]
  unfold fx
  rw[hg]
theorem akX:fx T n 0=fun _=>0:=rfl
theorem way (h:yx T) (S:Nat→Prop) (hb:∀ i,i<T.m→T.K i=2→0≤T.O i∧T.O i<n∧fx T n i (T.O i).toNat=0):∀ d i,i<T.m→T.m-i≤d→(∀ x,fx T n i x=1→S x)→(∀ x,fx T n i x=-1→¬ S x) →
  ∃ k,k<T.m∧T.K k≠2∧(∀ x,fx T n k x=1→S x)∧∀ x,fx T n k x=-1→¬ S x:=by
 intro d
 induction d with
 | zero=>intro i hi hd; omega
 | succ d ih =>
  intro i hi hd h1 h2
  by_cases hk:T.K i=2
  ·obtain ⟨b1,b2,b3,b4,b5⟩:=h.br i hi hk
   obtain ⟨o0,o1,o2⟩:=hb i hi hk
   obtain ⟨o,ho⟩:∃ o:Nat,T.O i=o:=⟨(T.O i).toNat,by omega⟩
   rw[ho,Int.toNat_natCast] at o2
   have hz:∀ q:Nat,T.O i=q→fx T n i q=0:=fun q hq=>by
    have:q=o:=by omega
    subst this; exact o2
   have hpar:∀ c:Nat,c<T.m→(T.U i=c∨T.I i=c)→i<c∧par T T.m c=i:=fun c hc hs=>by
    have hkid:kid T i c≠0:=by
     rcases hs with e | e
     ·have:=Mz hk e; omega
     ·have:=My hk e; omega
    have hlt:=(eS h hi hkid).1
    obtain ⟨j,q1,q2,q3,q4⟩:=xf h (by omega) hc
    by_cases e:i=j
    ·subst e; exact ⟨hlt,q1⟩
    ·exact absurd (q4 i hi e) hkid
   by_cases hS:S o
   ·obtain ⟨c,hc⟩:∃ c:Nat,T.I i=c:=⟨(T.I i).toNat,by omega⟩
    obtain ⟨p1,p2⟩:=hpar c (by omega) (.inr hc)
    have hu:¬ T.U i=c:=fun e=>b5 (by omega)
    have hch:=fun x=>LN (n:=n) h (i:=c) (by omega) (by omega) p2 hz x
    refine ih c (by omega) (by omega) (fun x hx=>?_) (fun x hx=>?_)
    ·rw[hch x] at hx
     split at hx
     ·rename_i e
      have:x=o:=by omega
      subst this; exact hS
     ·exact h1 x hx
    ·rw[hch x,if_neg hu] at hx
     split at hx
     ·omega
     ·exact h2 x hx
   ·obtain ⟨c,hc⟩:∃ c:Nat,T.U i=c:=⟨(T.U i).toNat,by omega⟩
    obtain ⟨p1,p2⟩:=hpar c (by omega) (.inl hc)
    have hch:=fun x=>LN (n:=n) h (i:=c) (by omega) (by omega) p2 hz x
    refine ih c (by omega) (by omega) (fun x hx=>?_) (fun x hx=>?_)
    ·rw[hch x,if_pos hc] at hx
     split at hx
     ·omega
     ·exact h1 x hx
    ·rw[hch x] at hx
     split at hx
     ·rename_i e
      have:x=o:=by omega
      subst this; exact hS
     ·exact h2 x hx
  ·exact ⟨i,hi,hk,h1,h2⟩
end
section
variable {T:Nt} {i j k l u v:Nat}
theorem ce (h:T.K i≠2) (k:Nat):kid T i k=0:=by unfold kid; rw[if_neg h]
theorem CU (h:T.K i=2) (hu:T.U i=u) (hv:T.I i=v) (k:Nat):kid T i k=(if u=k then 1 else 0)+(if v=k then 1 else 0):=by
 unfold kid
 rw[if_pos h,hu,hv]
 congr 1
 ·by_cases e:u=k
  ·rw[if_pos e,if_pos (by omega)]
  ·rw[if_neg e,if_neg (by omega)]
 ·by_cases e:v=k
  ·rw[if_pos e,if_pos (by omega)]
  ·rw[if_neg e,if_neg (by omega)]
theorem UA (h:yx T) (hi:i<T.m) (hk:T.K i=2):∃ u v:Nat,T.U i=u∧T.I i=v∧i<u∧u<T.m∧i<v∧v<T.m∧u≠v∧cnt T i u=0∧cnt T i v=0:=by
 obtain ⟨a,b,c,d,e⟩:=h.br i hi hk
 obtain ⟨u,hu⟩:∃ u:Nat,T.U i=u:=⟨(T.U i).toNat,by omega⟩
 obtain ⟨v,hv⟩:∃ v:Nat,T.I i=v:=⟨(T.I i).toNat,by omega⟩
 refine ⟨u,v,hu,hv,by omega,by omega,by omega,by omega,by omega,?_,?_⟩
 ·have h1:=YH (T:=T) (i:=u) hi
  have h2:=Mz hk hu
  have h3:=h.par1 u (by omega) (by omega)
  omega
 ·have h1:=YH (T:=T) (i:=v) hi
  have h2:=My hk hv
  have h3:=h.par1 v (by omega) (by omega)
  omega
structure Pre (T:Nt) (i:Nat):Prop where
 ok:∀ j,j<i→okN T j
 br:∀ j,j<i→cS T j
 one:∀ k,cnt T i k≤1
theorem ab8:Pre T 0:=⟨fun j hj=>absurd hj (Nat.not_lt_zero j),fun j hj=>absurd hj (Nat.not_lt_zero j),fun _=>Nat.zero_le _⟩
theorem ab5 (h:Pre T i) (ho:okN T i) (hk:T.K i≠2):Pre T (i+1):=by
 refine ⟨fun j hj=>?_,fun j hj=>?_,fun k=>?_⟩
 ·by_cases e:j=i
  ·subst e; exact ho
  ·exact h.ok j (by omega)
 ·by_cases e:j=i
  ·subst e; exact fun h2=>absurd h2 hk
  ·exact h.br j (by omega)
 ·show cnt T i k+kid T i k≤1
  rw[ce hk]
  exact h.one k
theorem ES (h:Pre T i) (ho:okN T i) (hk:T.K i=2) (hu:T.U i=u) (hv:T.I i=v) (u1:i<u) (u2:u<T.m) (v1:i<v) (v2:v<T.m) (hne:u≠v) (cu:cnt T i u=0) (cv:cnt T i v=0):Pre T (i+1):=by
 refine ⟨fun j hj=>?_,fun j hj=>?_,fun k=>?_⟩
 ·by_cases e:j=i
  ·subst e; exact ho
  ·exact h.ok j (by omega)
 ·by_cases e:j=i
  ·subst e; exact fun _=>⟨by omega,by omega,by omega,by omega,by omega⟩
  ·exact h.br j (by omega)
 ·show cnt T i k+kid T i k≤1
  rw[CU hk hu hv]
  have:=h.one k
  by_cases e:u=k
  ·subst e
   rw[if_pos rfl,if_neg (by omega)]; omega
  ·rw[if_neg e]
   by_cases e2:v=k
   ·subst e2; rw[if_pos rfl]; omega
   ·rw[if_neg e2]; omega
theorem ab7 (h:Pre T T.m) (h1:1≤T.m) (h2:T.m≤65536) (h3:∀ k,1≤k→k<T.m→cnt T T.m k≠0):yx T :=
 ⟨h1,h2,h.ok,h.br,fun k hk hk2=>by have:=h3 k hk hk2; have:=h.one k; omega⟩
theorem NX (hk:T.K i≠2):cnt T (i+1)=cnt T i:=by
 funext k
 show cnt T i k+kid T i k=_
 rw[ce hk,Nat.add_zero]
theorem Ra (hk:T.K i=2) (hu:T.U i=u) (hv:T.I i=v) (hne:u≠v) (k:Nat):cnt T (i+1) k=if k=v then cnt T i v+1 else if k=u then cnt T i u+1 else cnt T i k:=by
 show cnt T i k+kid T i k=_
 rw[CU hk hu hv]
 by_cases e:k=v
 ·subst e; rw[if_pos rfl,if_pos rfl,if_neg hne,Nat.zero_add]
 ·rw[if_neg e]
  by_cases e2:k=u
  ·subst e2; rw[if_pos rfl,if_pos rfl,if_neg (by omega)]
  ·rw[if_neg e2,if_neg (by omega),if_neg (by omega)]; rfl
theorem EK (hi:i<T.m) (hk:T.K i=2) (h:∀ u:Nat,T.U i=u→i<u→u<T.m→cnt T i u≠0):¬ yx T:=fun ht=>by
 obtain ⟨u,v,hu,hv,a,b,_,_,_,c,_⟩:=UA ht hi hk
 exact h u hu a b c
theorem EJ (hi:i<T.m) (hk:T.K i=2) (hu:T.U i=u) (h:∀ v:Nat,T.I i=v→i<v→v<T.m→v≠u→cnt T i v≠0):¬ yx T:=fun ht=>by
 obtain ⟨u',v,hu',hv,a,b,a2,b2,hne,c,d⟩:=UA ht hi hk
 exact h v hv a2 b2 (by omega) d
theorem Y2 (h1:1≤k) (h2:k<T.m) (h:cnt T T.m k≠1):¬ yx T:=fun ht=>h (ht.par1 k h1 h2)
end
section
variable {T:Nt} {i j k u v:Nat}
theorem bT:1≤dep T i:=by
 unfold dep
 cases i with
 | zero=>exact Nat.le_refl _
 | succ i=>simp only[YJ]; split<;>omega
theorem ad1 (h:yx T) (h1:1≤i) (hi:i<T.m):2≤dep T i:=by
 rw[X3 h h1 hi]
 have:=bT (T:=T) (i:=(par T T.m i).toNat)
 omega
theorem Li (h:yx T):∀ i,i<T.m→dep T i≤i+1:=by
 intro i
 induction i using Nat.strongRecOn with
 | ind i ih =>
  intro hi
  by_cases h0:i=0
  ·subst h0; exact Nat.le_refl _
  ·obtain ⟨j,h1,h2,_⟩:=xf h (i:=i) (by omega) hi
   rw[X3 h (by omega) hi,h1,Int.toNat_natCast]
   have:=ih j h2 (by omega)
   omega
def anc (T:Nt) (i:Nat):Nat→Nat
 | 0=>i
 | j+1=>(par T T.m (anc T i j)).toNat
theorem Qr (h:yx T) (hi:i<T.m):∀ j,j<dep T i→anc T i j<T.m∧dep T (anc T i j)+j=dep T i
 | 0,_=>⟨hi,rfl⟩
 | j+1,hj=>by
  obtain ⟨h1,h2⟩:=Qr h hi j (by omega)
  have h3:1≤anc T i j:=by
   apply Classical.byContradiction
   intro h0
   have e:anc T i j=0:=by omega
   rw[e,Tw] at h2
   omega
  obtain ⟨p,p1,p2,_⟩:=xf h h3 h1
  have h4:=X3 h h3 h1
  show (par T T.m (anc T i j)).toNat<T.m∧dep T (par T T.m (anc T i j)).toNat+(j+1)=dep T i
  rw[p1,Int.toNat_natCast] at h4 ⊢
  exact ⟨by omega,by omega⟩
theorem bJ (h:yx T) (hi:i<T.m) (hj:j+1<dep T i):1≤anc T i j∧anc T i j<T.m:=by
 obtain ⟨h1,h2⟩:=Qr h hi j (by omega)
 refine ⟨?_,h1⟩
 apply Classical.byContradiction
 intro h0
 have e:anc T i j=0:=by omega
 rw[e,Tw] at h2
 omega
theorem aD (h:yx T) (hi:i<T.m) (hj:j+1=dep T i):anc T i j=0:=by
 obtain ⟨h1,h2⟩:=Qr h hi j (by omega)
 apply Classical.byContradiction
 intro h0
 have:=ad1 h (i:=anc T i j) (by omega) h1
 omega
def sZ (T:Nt) (i k:Nat):Int:=if k<i then dep T k else if par T T.m k<i then (dep T k:Int)-1 else 0
theorem Y6 (h:yx T) (hi:i<T.m) (h0:kid T i k≠0):par T T.m k=i:=by
 obtain ⟨h1,h2⟩:=eS h hi h0
 obtain ⟨j,q1,q2,q3,q4⟩:=xf h (i:=k) (by omega) h2
 by_cases e:i=j
 ·subst e; exact q1
 ·exact absurd (q4 i hi e) h0
theorem KA (h:yx T):par T T.m 0=-1:=by
 apply Classical.byContradiction
 intro hne
 have hc:cnt T T.m 0≠0:=fun h0=>hne (Kz _ h0)
 obtain ⟨j,h1,h2,h3⟩:=TY _ hc
 have:=eS h h2 h3
 omega
theorem Cf (h:yx T) (hk:k<T.m):sZ T 0 k=0:=by
 unfold sZ
 rw[if_neg (by omega)]
 by_cases h0:k=0
 ·subst h0
  rw[KA h,if_pos (by omega),Tw]
  rfl
 ·obtain ⟨j,h1,_⟩:=xf h (i:=k) (by omega) hk
  rw[h1,if_neg (by omega)]
theorem ad0 (h:yx T) (hi:i<T.m):sZ T i i=(dep T i:Int)-1:=by
 unfold sZ
 rw[if_neg (by omega),if_pos]
 by_cases h0:i=0
 ·subst h0; rw[KA h]; omega
 ·obtain ⟨j,h1,h2,_⟩:=xf h (i:=i) (by omega) hi
  rw[h1]; omega
theorem Cg (h:yx T) (hi:i<T.m) (h0:kid T i k≠0):dep T k=dep T i+1:=by
 have hp:=Y6 h hi h0
 have hl:=eS h hi h0
 rw[X3 h (by omega) hl.2,hp,Int.toNat_natCast]
theorem QA (h:yx T) (hi:i<T.m) (hK:T.K i≠2) (hk:k<T.m):sZ T (i+1) k=if k=i then (dep T i:Int) else sZ T i k:=by
 unfold sZ
 by_cases e:k=i
 ·subst e; rw[if_pos (by omega),if_pos rfl]
 ·rw[if_neg e]
  by_cases e2:k<i
  ·rw[if_pos (by omega),if_pos e2]
  ·rw[if_neg (by omega),if_neg e2]
   by_cases e3:par T T.m k<i
   ·rw[if_pos (by omega),if_pos e3]
   ·rw[if_neg e3,if_neg]
    intro e4
    obtain ⟨j,q1,q2,q3,_⟩:=xf h (i:=k) (by omega) hk
    have:j=i:=by omega
    subst this
    have:=ce hK k
    omega
theorem Tv (h:yx T) (hi:i<T.m) (hK:T.K i=2) (hu:T.U i=u) (hv:T.I i=v) (hk:k<T.m):sZ T (i+1) k=if k=v then (dep T i:Int) else if k=u then (dep T i:Int) else if k=i then (dep T i:Int) else sZ T i k:=by
 have hpk:∀ x,x=u∨x=v→i<x∧par T T.m x=i∧dep T x=dep T i+1:=fun x hx=>by
  have h0:kid T i x≠0:=by
   rcases hx with rfl | rfl
   ·have:=Mz hK hu; omega
   ·have:=My hK hv; omega
  exact ⟨(eS h hi h0).1,Y6 h hi h0,Cg h hi h0⟩
 have hc:∀ x,x=u∨x=v→sZ T (i+1) x=dep T i:=fun x hx=>by
  obtain ⟨a,b,c⟩:=hpk x hx
  unfold sZ
  rw[if_neg (by omega),b,if_pos (by omega),c]
  omega
 by_cases e:k=v
 ·rw[if_pos e]; exact hc k (.inr e)
 ·rw[if_neg e]
  by_cases e2:k=u
  ·rw[if_pos e2]; exact hc k (.inl e2)
  ·rw[if_neg e2]
   unfold sZ
   by_cases e3:k=i
   ·subst e3; rw[if_pos (by omega),if_pos rfl]
   ·rw[if_neg e3]
    by_cases e4:k<i
    ·rw[if_pos (by omega),if_pos e4]
    ·rw[if_neg (by omega),if_neg e4]
     by_cases e5:par T T.m k<i
     ·rw[if_pos (by omega),if_pos e5]
     ·rw[if_neg e5,if_neg]
      intro e6
      obtain ⟨j,q1,q2,q3,_⟩:=xf h (i:=k) (by omega) hk
      have:j=i:=by omega
      subst this
      have h0:=Ud (T:=T) (k:=j) (i:=k) (by omega)
      rcases h0.2 with a | a<;>omega
def mst (T:Nt):Nat→Nat
 | 0=>0
 | i+1=>max (mst T i) (dep T i)
def lvs (T:Nt):Nat→Nat
 | 0=>0
 | i+1=>if T.K i=2 then lvs T i else lvs T i+1
theorem L8:∀ i,lvs T i≤i
 | 0=>Nat.le_refl _
 | i+1=>by
  have:=L8 i
  simp only[lvs]
  split<;>omega
theorem Kg (h:yx T):∀ i,i≤T.m→mst T i≤i+1
 | 0,_=>Nat.zero_le _
 | i+1,hi=>by
  have h1:=Kg h i (by omega)
  have h2:=Li h i (by omega)
  simp only[mst]
  omega
end
end Go.Tr

set_option maxRecDepth 20000
namespace Go.Wr
def ntZ (T:List Nz):Go.Tr.Nt where
 m:=T.length
 K:=fun i=>(T.getD i ⟨0,0,0,0,[]⟩).K
 O:=fun i=>(T.getD i ⟨0,0,0,0,[]⟩).O
 U:=fun i=>(T.getD i ⟨0,0,0,0,[]⟩).U
 I:=fun i=>(T.getD i ⟨0,0,0,0,[]⟩).I
 n:=fun i=>(T.getD i ⟨0,0,0,0,[]⟩).P.length
 v:=fun i=>(T.getD i ⟨0,0,0,0,[]⟩).P.all vFr=true
section
variable {T:List Nz} {i:Nat}
theorem bY (h:i<T.length):T.getD i ⟨0,0,0,0,[]⟩=T[i]:=by simp[h]
theorem gJ:(ntZ T).m=T.length:=rfl
theorem Zr (h:i<T.length):(ntZ T).K i=T[i].K:=by show (T.getD i _).K=_; rw[bY h]
theorem abD (h:i<T.length):(ntZ T).O i=T[i].O:=by show (T.getD i _).O=_; rw[bY h]
theorem Y3 (h:i<T.length):(ntZ T).U i=T[i].U:=by show (T.getD i _).U=_; rw[bY h]
theorem TW (h:i<T.length):(ntZ T).I i=T[i].I:=by show (T.getD i _).I=_; rw[bY h]
end
end Go.Wr
namespace Go.Proofs.YtpnliopaifpimaaGreat
open Go Go.Am Go.Wr Go.Dig
theorem KN {x:Int}:rg x=true↔Go.Tr.rng x:=by unfold rg Go.Tr.rng; simp
theorem RD {T:List Nz} {i:Nat} (h:i<T.length):Go.Tr.okN (ntZ T) i↔okZ T[i]=true:=by
 unfold Go.Tr.okN
 have hn:(ntZ T).n i=T[i].P.length:=by show (T.getD i _).P.length=_; rw[bY h]
 have hv:(ntZ T).v i↔T[i].P.all vFr=true:=by show (T.getD i _).P.all vFr=true↔_; rw[bY h]
 rw[Zr h,abD h,Y3 h,TW h,hn,hv,← KN,← KN,← KN]
 generalize T[i]=N
 unfold okZ plN
 by_cases h1:N.K=1
 ·simp[h1,and_assoc]
 ·by_cases h2:N.K=2
  ·simp[h2,and_assoc]
  ·by_cases h3:N.K=3
   ·simp[h3,and_assoc]
   ·simp[h1,h2,h3]
theorem aiA : ue Tryz.prog xP "saleroom/prooftree.next" = some x9 := by kernel_rfl
theorem aiC : ue Tryz.prog xG "saleroom/prooftree.next" = some xT := by kernel_rfl
theorem aiB : ue Tryz.prog xa "saleroom/prooftree.next" = some xB := by kernel_rfl
theorem aiD : ue Tryz.prog uG "saleroom/prooftree.next" = some wa := by kernel_rfl
theorem aiV:yy Tryz.prog x9=true:=by kernel_rfl
theorem aiX:yy Tryz.prog xT=true:=by kernel_rfl
theorem aiW:yy Tryz.prog xB=true:=by kernel_rfl
theorem aiY:yy Tryz.prog wa=true:=by kernel_rfl
def MA (N:Nz):AV:=if N.K=2 then .list 1 .full [[iv N.U],[iv N.I]] else uw
theorem aeL {N:Nz}:ze Tryz.prog x9 [.agg (zc N)] uw:=by
 refine zn jH (by simp) ?_
 simp[rB,rW]
theorem aeM {N:Nz}:ze Tryz.prog xB [.agg (zc N)] uw:=by
 refine zn lL (by simp) ?_
 simp[t9,sb]
theorem aeO:ze Tryz.prog wa [.agg []] uw:=by
 refine zn jI (by simp) ?_
 simp[rC,rX]
theorem aeN {N:Nz}:ze Tryz.prog xT [.agg (zc N)] (.list 1 .full [[iv N.U],[iv N.I]]):=by
 refine zn k7 (by simp) ?_
 simp[s8,s9]
theorem Bj {N : Nz} {σ : Nat → Option zf} {K : AV → Option zf → Prop} (h : K (MA N) none) : tp "saleroom/prooftree.next" (ofZ N) [] σ K := by
 unfold ofZ
 unfold MA at h
 by_cases h1:N.K=1
 ·rw[if_neg (by omega)] at h
  simp only[h1,if_true]
  simp only[tp,aiA,aiV]
  exact ⟨trivial,za aeL nt (.inl rfl) h⟩
 ·simp only[h1,if_false]
  by_cases h2:N.K=2
  ·rw[if_pos h2] at h
   simp only[h2,if_true]
   simp only[tp,aiC,aiX]
   exact ⟨trivial,za aeN nt (.inl rfl) h⟩
  ·rw[if_neg h2] at h
   simp only[h2,if_false]
   by_cases h3:N.K=3
   ·simp only[h3,if_true]
    simp only[tp,aiB,aiW]
    exact ⟨trivial,za aeM nt (.inl rfl) h⟩
   ·simp only[h3,if_false]
    simp only[tp,aiD,aiY]
    exact ⟨trivial,za aeO (by simp) (.inl rfl) h⟩
open Go.LP
section
variable {K:Nat} {p q:Rat}
theorem Xn:ze Tryz.prog jd [fq q] (iv (qw q)):=by rw[← su]; exact Ac
theorem sL {n:Int} (h1:-9223372036854775808≤n) (h2:n<9223372036854775808):ze Tryz.prog xi [iv n] (fq n):=by rw[← su]; exact LH h1 h2
variable (hK:K≤137438953472) (hp:sz K p) (hq:sz K q)
include hK hp
include hq
theorem adt:ze Tryz.prog fu [fq p,fq q] (fq (p*q)):=by simp only[← su]; exact abq hK hp hq
theorem F7:ze Tryz.prog mS [fq p,fq q] (fq (p+q)):=by simp only[← su]; exact MO hK hp hq
theorem ajs:ze Tryz.prog XR [fq p,fq q] (fq (p-q)):=by simp only[← su]; exact ac1 hK hp hq
theorem ah4:ze Tryz.prog XP [fq p,fq q] (iv (anq p q)):=by simp only[← su]; exact aaz hK hp hq
end
noncomputable def fZ (f:Nat→Rat) (k n:Nat):List (List AV):=(List.range n).map fun j=>if j<k then fr (f j) else zz
noncomputable def fR (f:Nat→Rat) (n:Nat):List (List AV):=(List.range n).map fun j=>fr (f j)
noncomputable abbrev fL (f:Nat→Rat) (n:Nat):AV:=.list 3 .plain (fR f n)
@[simp] theorem Cx {f:Nat→Rat} {n:Nat}:(fR f n).length=n:=by simp[fR]
@[simp] theorem agK {f:Nat→Rat} {k n:Nat}:(fZ f k n).length=n:=by simp[fZ]
theorem Lx {f:Nat→Rat} {n i:Nat} (h:i<n):(fR f n)[i]?=some (fr (f i)):=by simp[fR,h]
theorem LA {f:Nat→Rat} {k n i:Nat} (h:i<n) (hk:i<k):(fZ f k n)[i]?=some (fr (f i)):=by simp[fZ,h,hk]
theorem QH {f:Nat→Rat} {k n i:Nat} (h:i<n) (hk:¬ i<k):(fZ f k n)[i]?=some zz:=by simp[fZ,h,hk]
@[simp] theorem aef {f:Nat→Rat} {n i:Nat} {h:i<(fR f n).length}:(fR f n)[i]=fr (f i):=by simp[fR]
@[simp] theorem akU {f:Nat→Rat} {n k:Nat} {h:k<(fZ f k n).length}:(fZ f k n)[k]=zz:=by simp[fZ]
theorem s5 {f g:Nat→Rat} {n:Nat} (h:∀ i,i<n→f i=g i):fR f n=fR g n:=by
 unfold fR
 exact List.map_congr_left fun i hi=>by rw[h i (by simpa using hi)]
theorem Lz {f:Nat→Rat} {n i:Nat} {x:Rat}:(fR f n).set i (fr x)=fR (upd f i x) n:=by
 apply List.ext_getElem?
 intro j
 rw[List.getElem?_set]
 by_cases hij:i=j
 ·subst hij
  rw[if_pos rfl,Cx]
  by_cases hi:i<n
  ·rw[if_pos hi,Lx hi]; simp[upd]
  ·rw[if_neg hi]; simp[fR,hi]
 ·rw[if_neg hij]
  by_cases hj:j<n
  ·rw[Lx hj,Lx hj]; simp[upd,Ne.symm hij]
  ·simp[fR,hj]
theorem Cy {f:Nat→Rat} {k n:Nat} (hk:k<n):(fZ f k n).set k (fr (f k))=fZ f (k+1) n:=by
 apply List.ext_getElem?
 intro j
 rw[List.getElem?_set]
 by_cases hij:k=j
 ·subst hij
  rw[if_pos rfl,agK,if_pos hk,LA hk (by omega)]
 ·rw[if_neg hij]
  by_cases hj:j<n
  ·by_cases hjk:j<k
   ·rw[LA hj hjk,LA hj (by omega)]
   ·rw[QH hj hjk,QH hj (by omega)]
  ·simp[fZ,hj]
theorem G7 {f:Nat→Rat} {n:Nat}:List.replicate n zz=fZ f 0 n:=by
 apply List.ext_getElem?
 intro j
 by_cases h:j<n
 ·rw[QH h (by omega)]; simp[h]
 ·simp[fZ,h]
theorem G6 {f:Nat→Rat} {n:Nat}:fZ f n n=fR f n:=by
 unfold fZ fR
 exact List.map_congr_left fun i hi=>by rw[if_pos (by simpa using hi)]
theorem Cw {f:Nat→Rat} {n:Nat} {g:List AV→Bool} (h:∀ q,g (fr q)=true):(fR f n).all g=true :=
 List.all_eq_true.2 fun r hr=>by
  obtain ⟨j,_,rfl⟩:=List.mem_map.1 hr
  exact h _
theorem Ly {f:Nat→Rat} {n:Nat} {g:List AV→List AV} (h:∀ q,g (fr q)=fr q):(fR f n).map g=fR f n :=
 tc fun r hr=>by
  obtain ⟨j,_,rfl⟩:=List.mem_map.1 hr
  exact h _
@[simp] theorem al5 {f:Nat→Rat} {n:Nat}:wh (fR f n)=true:=Cw fun _=>Ex
@[simp] theorem al6 {f:Nat→Rat} {n:Nat}:zT (fR f n)=fR f n:=Ly fun _=>TE
@[simp] theorem al4 {f:Nat→Rat} {n l:Nat}:yC l (fR f n)=fR f n:=Ly fun _=>aih
@[simp] theorem alt {f:Nat→Rat} {n l:Nat} {e:zf}:((fR f n).map fun r=>r.map (frz l e))=fR f n:=Ly fun _=>agN
@[simp] theorem alu {f:Nat→Rat} {n M:Nat}:((fR f n).all fun r=>r.all (Am.low M))=true:=Cw fun _=>agP
theorem cR {k:Nat}:∀ {rows:List (List AV)},(∀ r∈rows,wy k r=false)→uH k rows=false
 | [],_=>rfl
 | r::rows,h=>by simp[uH,h r (by simp),cR (rows:=rows) fun r hr=>h r (by simp[hr])]
@[simp] theorem alw {f:Nat→Rat} {n k:Nat}:uH k (fR f n)=false:=cR fun r hr=>by
 obtain ⟨j,_,rfl⟩:=List.mem_map.1 hr
 exact agQ
@[simp] theorem alv {f:Nat→Rat} {n:Nat}:(fR f n=[])=(n=0):=by
 rw[← List.length_eq_zero_iff,Cx]
@[simp] theorem akT {f:Nat→Rat} {n:Nat}:(fR f n).take n=fR f n:=List.take_of_length_le (by simp)
@[simp] theorem als {f:Nat→Rat} {n k:Nat}:((fR f n).any fun r=>r.any (mP k))=false :=
 List.any_eq_false.2 fun r hr=>by
  obtain ⟨j,_,rfl⟩:=List.mem_map.1 hr
  simp
theorem NK {q:Rat}:qw q=0↔q=0:=by
 unfold qw; split
 ·simp[*]
 ·rename_i h; split<;>simp[h]
theorem KU {q:Rat}:qw q<0↔q<0:=by
 unfold qw; split
 ·rename_i h; subst h; simp
 ·split<;>simp[*]
theorem ZG {q:Rat}:0<qw q↔0<q:=by
 unfold qw; split
 ·rename_i h; subst h; simp
 ·rename_i h
  split
  ·rename_i h2; simp; grind
  ·rename_i h2; simp; grind
theorem GV {p q:Rat}:anq p q<0↔p<q:=by
 unfold anq; split
 ·simp[*]
 ·split<;>simp[*]
def mR (g:Nat→List AV) (n:Nat):List (List AV):=(List.range n).map g
section
variable {g h:Nat→List AV} {n i:Nat}
@[simp] theorem Rz:(mR g n).length=n:=by simp[mR]
theorem Kb (hi:i<n):(mR g n)[i]?=some (g i):=by simp[mR,hi]
@[simp] theorem QT {hi:i<(mR g n).length}:(mR g n)[i]=g i:=by simp[mR]
theorem eT (e:∀ i,i<n→g i=h i):mR g n=mR h n:=List.map_congr_left fun i hi=>e i (by simpa using hi)
theorem C8 {x:List AV}:(mR g n).set i x=mR (upd g i x) n:=by
 apply List.ext_getElem?
 intro j
 rw[List.getElem?_set]
 by_cases hij:i=j
 ·subst hij
  rw[if_pos rfl,Rz]
  by_cases hi:i<n
  ·rw[if_pos hi,Kb hi]; simp[upd]
  ·rw[if_neg hi]; simp[mR,hi]
 ·rw[if_neg hij]
  by_cases hj:j<n
  ·rw[Kb hj,Kb hj]; simp[upd,Ne.symm hij]
  ·simp[mR,hj]
theorem Ka {f:List AV→Bool} (h:∀ i,f (g i)=true):(mR g n).all f=true :=
 List.all_eq_true.2 fun r hr=>by
  obtain ⟨j,_,rfl⟩:=List.mem_map.1 hr
  exact h _
theorem bZ {f:List AV→List AV} (h:∀ i,f (g i)=g i):(mR g n).map f=mR g n :=
 tc fun r hr=>by
  obtain ⟨j,_,rfl⟩:=List.mem_map.1 hr
  exact h _
theorem C7 {k:Nat} (h:∀ i,wy k (g i)=false):uH k (mR g n)=false:=cR fun r hr=>by
 obtain ⟨j,_,rfl⟩:=List.mem_map.1 hr
 exact h _
end
end Go.Proofs.YtpnliopaifpimaaGreat
