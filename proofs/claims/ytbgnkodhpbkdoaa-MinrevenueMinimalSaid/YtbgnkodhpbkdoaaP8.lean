/- What the proof rests on, part 8: N3c Dig2 N4f N5 Dig3 Dig4 N6 N7 N8 N9 N10 Dig5 N11 N6b N12 N13 N14 F1 F3f F5 FR N3 N4 N20 N21 N22 N23 N24 N25 N26 N27 N28 N29 N30 F2 F3 F4. -/
import Derived.Test.YtbgnkodhpbkdoaaP7
set_option maxRecDepth 100000
set_option maxHeartbeats 4000000
namespace Go.Proofs.Ytbgnkodhpbkdoaa
open Go Go.Am Go.Dig
def yW (x y:Nat):Int:=if x<y then -1 else if y<x then 1 else 0
def bW (x y:Nat) (k:Nat):St:={env:=[(0,nD x),(1,nD y),(22,iv (zf x).length),(23,iv k)],sto:=[]}
theorem ml {m1 m2:Am.Mode} {a b:List Nat} (ha:ok a) (hb:ok b) (hna:a.length<1099511627776) (hnb:b.length<1099511627776):zc Try.prog qB [nl m1 a,nl m2 b] (iv (yW (val a) (val b))):=by
 refine zG aaa (by simp) ?_
 simp[Nd]
 refine za (xb (m:=stm m1) ha hna) (by simp[rD]) (by simp) ?_
 simp
 refine za (xb (m:=stm m2) hb hnb) (by simp[rD]) (by simp) ?_
 have lx:=x9 ha
 have ly:=x9 hb
 generalize val a=x at *
 generalize val b=y at *
 by_cases hl:(zf x).length=(zf y).length
 ·have hl':(((zf x).length:Nat):Int)=((zf y).length:Int):=by omega
  simp[hl']
  refine zB (bW x y) (fun k=>(zf x).drop ((zf x).length-k)=(zf y).drop ((zf x).length-k)) (zf x).length (by simp[bW,hl]) (by simp[hl]) (fun k hk hi=>?_) (fun hi=>?_)
  ·have e:(k:Int)<(zf x).length:=by omega
   have w:IntKind.i64.wrap (((zf x).length:Int)-1-k)=(((zf x).length-1-k:Nat):Int):=by rw[wrap64]<;>omega
   have w0:IntKind.i64.wrap (((zf x).length:Int)-1)=((zf x).length:Int)-1:=by rw[wrap64]<;>omega
   obtain ⟨j,hj⟩:∃ j,(zf x).length-1-k=j:=⟨_,rfl⟩
   rw[hj] at w
   have hjx:j<(zf x).length:=by omega
   have hjy:j<(zf y).length:=by omega
   have ejx:(j:Int)<(zf x).length:=by omega
   have ejy:(j:Int)<(zf y).length:=by omega
   have hd:(zf x).drop (j+1)=(zf y).drop (j+1):=by
    have:j+1=(zf x).length-k:=by omega
    rw[this]; exact hi
   rcases Nat.lt_trichotomy (zf x)[j] (zf y)[j] with h | h | h
   ·have hlt:=aD (zq x) (zq y) hl hjx hd h
    rw[zL,zL] at hlt
    have hc:yW x y=-1:=by simp[yW,hlt]
    simp[po,bW,e,w0,w,hjx,hjy,ejx,ejy,h,lC,hc]
   ·have hnext:(zf x).drop ((zf x).length-(k+1))=(zf y).drop ((zf x).length-(k+1)):=by
     have:(zf x).length-(k+1)=j:=by omega
     rw[this,List.drop_eq_getElem_cons hjx,List.drop_eq_getElem_cons hjy,h,hd]
    simp[po,bW,e,w0,w,hjx,hjy,ejx,ejy,h,zC (show k<4611686018427387904 by omega),hnext]
   ·have hlt:=aD (zq y) (zq x) hl.symm hjy hd.symm h
    rw[zL,zL] at hlt
    have hn:¬ (zf x)[j]<(zf y)[j]:=by omega
    have hc:yW x y=1:=by
     have:¬ x<y:=by omega
     simp[yW,hlt,this]
    simp[po,bW,e,w0,w,hjx,hjy,ejx,ejy,h,hn,lC,hc]
  ·have hxy:x=y:=ft (by simpa using hi)
   have hc:yW x y=0:=by simp[yW,hxy]
   simp[po,bW,Yj,lC,hc]
 ·have hl':¬ (((zf x).length:Nat):Int)=((zf y).length:Int):=by omega
  by_cases hlt:(zf x).length<(zf y).length
  ·have hlt':(((zf x).length:Nat):Int)<((zf y).length:Int):=by omega
   have hc:yW x y=-1:=by simp[yW,jy hlt]
   simp[hl',hlt',lC,hc]
  ·have hlt':¬ (((zf x).length:Nat):Int)<((zf y).length:Int):=by omega
   have h2:=jy (show (zf y).length<(zf x).length by omega)
   have hc:yW x y=1:=by
    have:¬ x<y:=by omega
    simp[yW,h2,this]
   simp[hl',hlt',lC,hc]
theorem Cw (u v:Int):IntKind.u64.wrap (IntKind.u64.wrap u-v)=IntKind.u64.wrap (u-v):=by
 rw[Q9,Q9,Q9]; omega
theorem Sz (u:Int):IntKind.u32.wrap (IntKind.u64.wrap u)=u%4294967296:=by
 rw[Q9,IntKind.wrap_u32]; omega
theorem Sw {u:Int} (h1:-8589934592≤u) (h2:u<8589934592):(IntKind.u64.wrap u).fdiv (2^min 63 IntKind.u64.bits)=if u<0 then 1 else 0:=by
 have:min 63 IntKind.u64.bits=63:=rfl
 rw[this,Int.fdiv_eq_ediv_of_nonneg _ (by decide),Q9]
 have:(2:Int)^63=9223372036854775808:=by decide
 rw[this]
 split<;>omega
end Go.Proofs.Ytbgnkodhpbkdoaa

namespace Go.Dig
theorem ae {o:List Nat} {j d:Nat} (hj:j<o.length):val (o.set j d)+B^j*o[j]=val o+B^j*d:=by
 induction o generalizing j with
 | nil=>simp at hj
 | cons x o ih =>
  rcases j with _ | j
  ·simp[val]; omega
  ·simp only[List.length_cons,Nat.add_lt_add_iff_right] at hj
   have:=ih hj
   simp only[List.set_cons_succ,val,List.getElem_cons_succ,Nat.pow_succ]
   have e1:B^j*B*o[j]=B*(B^j*o[j]):=by rw[Nat.mul_comm (B^j) B,Nat.mul_assoc]
   have e2:B^j*B*d=B*(B^j*d):=by rw[Nat.mul_comm (B^j) B,Nat.mul_assoc]
   rw[e1,e2]
   have e3:B*(val (o.set j d)+B^j*o[j])=B*(val o+B^j*d):=by rw[this]
   rw[Nat.mul_add,Nat.mul_add] at e3
   omega
def nC (a b:List Nat) (i k:Nat) (s:List Nat × Nat):List Nat × Nat :=
 let t:=a.getD i 0*b.getD k 0+s.1.getD (i+k) 0+s.2
 (s.1.set (i+k) (t%B),t/B)
def tP (a b:List Nat):Nat→List Nat
 | 0=>List.replicate (a.length+b.length) 0
 | i+1=>let s:=itr (nC a b i) (tP a b i,0) b.length; s.1.set (i+b.length) s.2
def x6 (a b:List Nat) (i k:Nat):List Nat × Nat:=itr (nC a b i) (tP a b i,0) k
theorem JO {a b:List Nat} {i:Nat}:x6 a b i 0=(tP a b i,0):=rfl
theorem Tq {a b:List Nat} {i:Nat}:tP a b (i+1)=(x6 a b i b.length).1.set (i+b.length) (x6 a b i b.length).2:=rfl
theorem Tp {a b:List Nat} {i k:Nat}:x6 a b i (k+1)=nC a b i k (x6 a b i k):=rfl
structure dw (a b o:List Nat) (c i k:Nat):Prop where
 len:o.length=a.length+b.length
 ok:ok o
 lt:c<B
 val:val o+B^(i+k)*c=val (a.take i)*val b+B^i*(a.getD i 0*val (b.take k))
 zero:∀ j (hj:j<o.length),i+b.length≤j→o[j]=0
theorem vA {a:List Nat} (h:ok a) (i:Nat):a.getD i 0<B:=by
 rw[List.getD_eq_getElem?_getD]
 by_cases hi:i<a.length
 ·rw[List.getElem?_eq_getElem hi]; exact xz h hi
 ·rw[List.getElem?_eq_none (by omega)]; exact afK
theorem jA {x y z w:Nat} (hx:x<B) (hy:y<B) (hz:z<B) (hw:w<B):x*y+z+w<B*B:=by
 have h:x*y≤(B-1)*(B-1):=Nat.mul_le_mul (by omega) (by omega)
 have:(B-1)*(B-1)+(B-1)+(B-1)<B*B:=by decide
 omega
theorem EU {a b o:List Nat} {c i k:Nat} (ha:ok a) (hb:ok b) (hi:i<a.length) (hk:k<b.length) (h:dw a b o c i k) :
  dw a b (nC a b i k (o,c)).1 (nC a b i k (o,c)).2 i (k+1):=by
 have hlen:=h.len
 have hik:i+k<o.length:=by omega
 obtain ⟨t,ht⟩:∃ t,t=a.getD i 0*b.getD k 0+o.getD (i+k) 0+c:=⟨_,rfl⟩
 have hbd:=jA (vA ha i) (vA hb k) (vA h.ok (i+k)) h.lt
 rw[← ht] at hbd
 simp only[nC,← ht]
 constructor
 ·simp[hlen]
 ·exact Y6 h.ok (Nat.mod_lt _ afK)
 ·exact Nat.div_lt_of_lt_mul hbd
 ·have e1:=ae (o:=o) (j:=i+k) (d:=t%B) hik
  have e2:=Nat.mod_add_div t B
  have e3:=h.val
  have e4:=xF hk
  have e5:o.getD (i+k) 0=o[i+k]:=by simp[hik]
  have e6:b.getD k 0=b[k]:=by simp[hk]
  rw[e5,e6] at ht
  rw[e4]
  have e7:B^(i+(k+1))*(t/B)=B^(i+k)*(B*(t/B)):=by rw[← Nat.add_assoc,Nat.pow_succ,Nat.mul_assoc]
  rw[e7]
  have e8:B^(i+k)*(t%B)+B^(i+k)*(B*(t/B))=B^(i+k)*t:=by rw[← Nat.mul_add,e2]
  have e9:B^(i+k)*t=B^(i+k)*(a.getD i 0*b[k])+B^(i+k)*o[i+k]+B^(i+k)*c:=by rw[ht,Nat.mul_add,Nat.mul_add]
  have e10:B^i*(a.getD i 0*(val (b.take k)+B^k*b[k]))=B^i*(a.getD i 0*val (b.take k))+B^(i+k)*(a.getD i 0*b[k]):=by
   rw[Nat.mul_add,Nat.mul_add,Nat.pow_add]
   congr 1
   rw[Nat.mul_assoc]
   congr 1
   rw[Nat.mul_left_comm]
  rw[e10]
  omega
 ·intro j hj hle
  simp only[List.length_set] at hj
  rw[List.getElem_set_ne (by omega)]
  exact h.zero j hj hle
theorem jB {a b:List Nat} {i:Nat} (ha:ok a) (hb:ok b) (hi:i<a.length) (h:dw a b (tP a b i) 0 i 0):∀ k,k≤b.length→dw a b (x6 a b i k).1 (x6 a b i k).2 i k
 | 0,_=>h
 | k+1,hk=>by rw[Tp]; exact EU ha hb hi (by omega) (jB ha hb hi h k (by omega))
theorem ca {a b:List Nat} (ha:ok a) (hb:ok b):∀ i,i≤a.length→dw a b (tP a b i) 0 i 0
 | 0,_=>⟨by simp[tP],R4 _,afK,by simp[tP,ab,val],fun j hj _=>by simp[tP]⟩
 | i+1,hi=>by
  have ih:=ca ha hb i (by omega)
  have h:=jB ha hb (by omega) ih b.length (Nat.le_refl _)
  have hlen:=h.len
  have hib:i+b.length<(x6 a b i b.length).1.length:=by omega
  rw[Tq]
  have hz:=h.zero (i+b.length) hib (Nat.le_refl _)
  have hv:=ae (d:=(x6 a b i b.length).2) hib
  have h3:=h.val
  rw[hz,Nat.mul_zero,Nat.add_zero] at hv
  refine ⟨by simp[hlen],Y6 h.ok h.lt,afK,?_,?_⟩
  ·rw[hv,h3,List.take_of_length_le (Nat.le_refl b.length)]
   have:val (a.take (i+1))=val (a.take i)+B^i*a.getD i 0:=by
    rw[xF (by omega)]; simp[show i<a.length by omega]
   rw[this,Nat.add_mul,Nat.mul_assoc]
   simp[val]
  ·intro j hj hle
   simp only[List.length_set] at hj
   rw[List.getElem_set_ne (by omega)]
   exact h.zero j hj (by omega)
theorem BV {a b:List Nat} (ha:ok a) (hb:ok b):ok (tP a b a.length)∧(tP a b a.length).length=a.length+b.length∧val (tP a b a.length)=val a*val b:=by
 have h:=ca ha hb a.length (Nat.le_refl _)
 refine ⟨h.ok,h.len,?_⟩
 have:=h.val
 simp[val] at this
 exact this
def wV (n D i:Nat):List Nat:=List.replicate (n-i) 0++(zo n D).drop (n-i)
theorem aZ {n D:Nat}:wV n D 0=List.replicate n 0:=by
 simp[wV,zw]
theorem Xk {n D:Nat}:wV n D n=zo n D:=by simp[wV]
theorem Xl {n D i:Nat} (_h:i≤n):(wV n D i).length=n:=by simp[wV,zw]; try omega
theorem Xm {n D i:Nat} (h:i<n):(wV n D i).set (n-1-i) (D/B^(n-1-i)%B)=wV n D (i+1):=by
 obtain ⟨j,hj⟩:∃ j,n-1-i=j:=⟨_,rfl⟩
 have h1:n-i=j+1:=by omega
 have h2:n-(i+1)=j:=by omega
 unfold wV
 rw[hj,h1,h2,List.replicate_succ']
 rw[List.append_assoc,List.set_append_right _ _ (by simp)]
 simp only[List.length_replicate,Nat.sub_self]
 have hlt:j<(zo n D).length:=by rw[zw]; omega
 rw[List.drop_eq_getElem_cons hlt,wR]
 rfl
theorem Xn {A d:Nat} (hd:0<d):(A/B%d*B+A%B)/d=A/d%B∧(A/B%d*B+A%B)%d=A%d∧A/B%d*B+A%B<d*B:=by
 have hA:=Nat.div_add_mod A B
 have h1:=Nat.div_add_mod (A/B) d
 have hm:=Nat.mod_lt (A/B) hd
 have hb:=Nat.mod_lt A afK
 have hlt:A/B%d*B+A%B<d*B:=by
  have:(A/B%d+1)*B≤d*B:=Nat.mul_le_mul_right _ hm
  rw[Nat.add_mul] at this
  omega
 have key:A=d*(A/B/d*B)+(A/B%d*B+A%B):=by
  have e:B*(A/B)=B*(d*(A/B/d)+A/B%d):=by rw[h1]
  rw[Nat.mul_add] at e
  have e2:d*(A/B/d*B)=B*(d*(A/B/d)):=by rw[← Nat.mul_assoc,Nat.mul_comm]
  rw[e2,Nat.mul_comm (A/B%d)]
  omega
 generalize A/B%d*B+A%B=t at *
 generalize A/B/d=g at *
 have hq:t/d<B:=Nat.div_lt_of_lt_mul hlt
 refine ⟨?_,?_,hlt⟩
 ·rw[key,Nat.mul_add_div hd,Nat.add_comm (g*B) _,Nat.add_mul_mod_self_right,Nat.mod_eq_of_lt hq]
 ·rw[key,Nat.mul_add_mod]
end Go.Dig

namespace Go.Proofs.Ytbgnkodhpbkdoaa
open Go Go.Am Go.Dig
theorem rp {x:Nat} (h:x<18446744073709551616):zc Try.prog vD [ye x] (nD x):=by
 have f2:(x:Int).fdiv (2^min 32 IntKind.u64.bits)=((x/B:Nat):Int):=ey x
 have f1:=w32 x
 have f3:=w32 (x/B)
 obtain ⟨d0,h0⟩:∃ d,x%B=d:=⟨_,rfl⟩
 obtain ⟨q,hq⟩:∃ q,x/B=q:=⟨_,rfl⟩
 obtain ⟨d1,h1⟩:∃ d,q%B=d:=⟨_,rfl⟩
 rw[hq] at f2 f3
 rw[h0] at f1
 rw[h1] at f3
 have hok:ok [d0,d1]:=by
  intro d hd
  simp at hd
  rcases hd with rfl | rfl
  ·rw[← h0]; exact Nat.mod_lt _ afK
  ·rw[← h1]; exact Nat.mod_lt _ afK
 have hv:val [d0,d1]=x:=by
  have e1:=Nat.mod_add_div x B
  have hq2:q<B:=by rw[← hq,yc]; omega
  rw[Nat.mod_eq_of_lt hq2] at h1
  simp only[val,Nat.mul_zero,Nat.add_zero]
  rw[← h1,← h0,← hq]
  exact e1
 have key:=xb (m:=.full) (a:=[d0,d1]) hok (by simp)
 rw[hv] at key
 refine zG QY (by simp) ?_
 simp[dz,xw,f1,f2,f3,vT]
 refine za key (by simp) (by simp) ?_
 simp[cm]
theorem or_hi {r a:Nat} (hr:r<B) (ha:a<B):uw .or .u64 ((r*B:Nat):Int) (a:Int)=((r*B+a:Nat):Int):=by
 rw[yc] at *
 have hbits:IntKind.u64.bits=64:=rfl
 simp only[uw]
 rw[BitVec.toNat_or]
 have e1:(BitVec.ofInt IntKind.u64.bits ((r*4294967296:Nat):Int)).toNat=r*4294967296:=by rw[hbits,BitVec.toNat_ofInt]; omega
 have e2:(BitVec.ofInt IntKind.u64.bits (a:Int)).toNat=a:=by rw[hbits,BitVec.toNat_ofInt]; omega
 rw[e1,e2]
 have h3:=Nat.shiftLeft_add_eq_or_of_lt (i:=32) (b:=a) (by omega) r
 rw[Nat.shiftLeft_eq] at h3
 have:(2:Nat)^32=4294967296:=by decide
 rw[this] at h3
 rw[← h3]
 exact w64 (by omega)
theorem Sv {r:Nat} (hr:r<B):IntKind.u64.wrap ((r:Int)*2^min 32 IntKind.u64.bits)=((r*B:Nat):Int):=by
 have:min 32 IntKind.u64.bits=32:=rfl
 rw[this]
 have:(2:Int)^32=4294967296:=by decide
 rw[this]
 rw[yc] at *
 rw[vm]<;>omega
def L1 (m:Am.Mode) (a:List Nat) (d i:Nat):St :=
 {env:=[(0,nl m a),(1,uv d),(6,.sl 13 1 0 a.length),(7,ye (val a/B^(a.length-i)%d)),(15,iv a.length),(16,iv i)],sto:=[(13,.arr 1 (zH (wV a.length (val a/d) i)))]}
theorem PS {m:Am.Mode} {a:List Nat} {d:Nat} (ha:ok a) (hn:a.length<1099511627776) (h0:0<d) (hd:d<B) (f1:stm m=m) :
  zc Try.prog dt [nl m a,uv d] (.tuple [nD (val a/d),uv (val a%d)]):=by
 refine uN Fh (by simp) ?_
 simp[U2,eMk]
 refine ⟨by omega,by omega,?_⟩
 have hz:val a/B^a.length%d=0:=by rw[Nat.div_eq_of_lt (wY ha)]; exact Nat.zero_mod _
 refine zB (L1 m a d) (fun _=>True) a.length (by simp[L1,aZ,hz]) trivial (fun i hi _=>?_) (fun _=>?_)
 ·have e:(i:Int)<a.length:=by omega
  obtain ⟨k,hk⟩:∃ k,a.length-1-i=k:=⟨_,rfl⟩
  have hk1:a.length-i=k+1:=by omega
  have hk2:a.length-(i+1)=k:=by omega
  have hka:k<a.length:=by omega
  have w0:IntKind.i64.wrap ((a.length:Int)-1)=(a.length:Int)-1:=by rw[wrap64]<;>omega
  have w1:IntKind.i64.wrap ((a.length:Int)-1-i)=(k:Int):=by rw[wrap64]<;>omega
  obtain ⟨s1,s2,s3⟩:=Xn (A:=val a/B^k) h0
  rw[← nv ha hka,Nat.div_div_eq_div_mul,← Nat.pow_succ] at s1 s2 s3
  obtain ⟨r,hr⟩:∃ r,val a/B^(k+1)%d=r:=⟨_,rfl⟩
  have hrd:r<d:=by rw[← hr]; exact Nat.mod_lt _ h0
  have hrB:r<B:=by omega
  have hak:=xz ha hka
  have hor:=or_hi hrB hak
  have hsh:=Sv hrB
  rw[Nat.succ_eq_add_one,hr] at s1 s2 s3
  obtain ⟨t,ht⟩:∃ t,r*B+a[k]=t:=⟨_,rfl⟩
  obtain ⟨rb,hrb⟩:∃ rb,r*B=rb:=⟨_,rfl⟩
  rw[ht] at hor s1 s2 s3
  rw[hrb] at hor hsh
  have hset:=Xm (n:=a.length) (D:=val a/d) hi
  rw[hk,Nat.div_div_eq_div_mul,Nat.mul_comm d,← Nat.div_div_eq_div_mul,← s1] at hset
  obtain ⟨q,hq⟩:∃ q,t/d=q:=⟨_,rfl⟩
  obtain ⟨r2,hr2⟩:∃ r2,t%d=r2:=⟨_,rfl⟩
  rw[hq] at hset s1
  rw[hr2] at s2
  have hqB:q<B:=by rw[s1]; exact Nat.mod_lt _ afK
  have hset':(zH (wV a.length (val a/d) i)).set k [uv q]=zH (wV a.length (val a/d) (i+1)):=by rw[xg,hset]
  have htB:t<18446744073709551616:=by
   have:d*B≤B*B:=Nat.mul_le_mul_right _ (by omega)
   have hBB:B*B=18446744073709551616:=by decide
   omega
  have hfl:=Xl (D:=val a/d) (show i≤a.length by omega)
  have hkl:k<(wV a.length (val a/d) i).length:=by omega
  rw[yc] at hak hqB hd
  have u1:IntKind.u64.wrap ((a[k]:Nat):Int)=(a[k]:Nat):=w64 (by omega)
  have u2:IntKind.u64.wrap (d:Int)=d:=w64 (by omega)
  have hd0:¬ (d:Int)=0:=by omega
  have hd0n:¬ d=0:=by omega
  have u3:IntKind.u64.wrap ((t:Int).tdiv d)=(q:Int):=by
   rw[show (t:Int).tdiv d=((t/d:Nat):Int) from rfl,hq]; exact w64 (by omega)
  have u3':IntKind.u64.wrap ((t:Int)/d)=(q:Int):=by
   rw[show (t:Int)/d=((t/d:Nat):Int) by simp,hq]; exact w64 (by omega)
  have u4:(t:Int).tmod d=(r2:Int):=by rw[show (t:Int).tmod d=((t%d:Nat):Int) from rfl,hr2]
  have u5:IntKind.u32.wrap (q:Int)=q:=IntWalk.u32_in _ (by omega)
  simp[lU,L1,e,w0,w1,hka,hkl,hk1,hk2,hr,xO,hsh,u1,hor,u2,ue,sC,hd0n,u3',u4,u5,splice,hset',s2,zC (show i<4611686018427387904 by omega)]
 ·have htk:(zH (zo a.length (val a/d))).take a.length=zH (zo a.length (val a/d)):=List.take_of_length_le (by rw[List.length_map,zw]; exact Nat.le_refl _)
  have hle2:a.length≤(zo a.length (val a/d)).length:=by rw[zw]; exact Nat.le_refl _
  have key:=xb (m:=.plain) (a:=zo a.length (val a/d)) yz (by rw[zw]; omega)
  have hlt:val a/d<B^a.length:=Nat.lt_of_le_of_lt (Nat.div_le_self _ _) (wY ha)
  rw[yk hlt] at key
  have hr:val a%d<d:=Nat.mod_lt _ h0
  have u5:IntKind.u32.wrap ((val a%d:Nat):Int)=(val a%d:Nat):=IntWalk.u32_in _ (by rw[yc] at hd; omega)
  obtain ⟨r,hr2⟩:∃ r,val a%d=r:=⟨_,rfl⟩
  have hr3:val a/B^(a.length-a.length)%d=r:=by simp[hr2]
  rw[hr2] at u5 ⊢
  simp[lU,L1,Xk,dB,xf,Zr f1,uf,htk,hle2,hr2]
  refine za key (by simp) (by simp) ?_
  simp[TC,u5]
  exact AV.imp.refl
end Go.Proofs.Ytbgnkodhpbkdoaa

namespace Go.Dig
def pL (w u2 v1 v2:Nat):Nat:=min (B-1) ((w*B+u2)/(v1*B+v2))
def Q0 (g r u2 v2:Nat):Prop:=B≤g∨r*B+u2<g*v2
theorem Ao {w u2 v1 v2:Nat} (h1:0<v1) (hu:u2<B):pL w u2 v1 v2≤w/v1:=by
 unfold pL
 refine Nat.le_trans (Nat.min_le_right _ _) ?_
 rw[Nat.le_div_iff_mul_le h1]
 have h:=Nat.div_mul_le_self (w*B+u2) (v1*B+v2)
 generalize (w*B+u2)/(v1*B+v2)=q at *
 rw[Nat.mul_add,← Nat.mul_assoc] at h
 apply Nat.le_of_not_lt
 intro hlt
 have:(w+1)*B≤q*v1*B:=Nat.mul_le_mul_right _ hlt
 rw[Nat.add_mul] at this
 omega
theorem eM {g r w u2 v1 v2:Nat} (h1:0<v1) (hr:w=g*v1+r):Q0 g r u2 v2↔pL w u2 v1 v2<g:=by
 have hV:0<v1*B+v2:=by have:=Nat.mul_pos h1 afK; omega
 have key:g≤(w*B+u2)/(v1*B+v2)↔g*v2≤r*B+u2:=by
  rw[Nat.le_div_iff_mul_le hV,hr,Nat.mul_add,Nat.add_mul,← Nat.mul_assoc]
  omega
 unfold Q0 pL
 have hB:=afK
 constructor
 ·rintro (h | h)
  ·exact Nat.lt_of_le_of_lt (Nat.min_le_left _ _) (by omega)
  ·exact Nat.lt_of_le_of_lt (Nat.min_le_right _ _) (by omega)
 ·intro h
  apply Classical.byContradiction
  intro hno
  have h2:g≤B-1:=by
   apply Nat.le_of_not_lt; intro h3; exact hno (.inl (by omega))
  have h3:g≤(w*B+u2)/(v1*B+v2):=key.2 (by
   apply Nat.le_of_not_lt; intro h4; exact hno (.inr h4))
  have:=Nat.le_min.2 ⟨h2,h3⟩
  omega
theorem FT {g r w u2 v1 v2:Nat} (_h1:0<v1) (hr:w=g*v1+r) (hw:w≤v1*B+(B-1)) (hv2:v2<B) (hrB:B≤r):¬ Q0 g r u2 v2:=by
 have hg:g≤B-1:=by
  apply Nat.le_of_not_lt
  intro h
  have:B*v1≤g*v1:=Nat.mul_le_mul_right _ (by omega)
  rw[Nat.mul_comm v1] at hw
  have:=afK
  omega
 rintro (h | h)
 ·have:=afK; omega
 ·have h2:g*v2≤(B-1)*(B-1):=Nat.mul_le_mul hg (by omega)
  have h3:B*B≤r*B:=Nat.mul_le_mul_right _ hrB
  have h4:(B-1)*(B-1)<B*B:=by decide
  omega
theorem Lr {w u2 v1 v2 U V P Q R:Nat} (h1:0<v1) (hu2:u2<B) (hv2:v2<B) (hU:U=(w*B+u2)*P+R) (hR:R<P) (hV:V=(v1*B+v2)*P+Q) (hQ:Q<P) (hUV:U<V*B) :
  U/V≤pL w u2 v1 v2∧pL w u2 v1 v2≤U/V+1:=by
 have hP:0<P:=by omega
 have hV2:0<v1*B+v2:=by have:=Nat.mul_pos h1 afK; omega
 have hVpos:0<V:=by have:=Nat.mul_pos hV2 hP; omega
 constructor
 ·unfold pL
  refine Nat.le_min.2 ⟨?_,?_⟩
  ·have:U/V<B:=Nat.div_lt_of_lt_mul hUV
   omega
  ·rw[Nat.le_div_iff_mul_le hV2]
   have h:=Nat.div_mul_le_self U V
   generalize U/V=q at *
   have h2:q*((v1*B+v2)*P)≤q*V:=Nat.mul_le_mul_left _ (by omega)
   rw[← Nat.mul_assoc] at h2
   apply Nat.le_of_not_lt
   intro hlt
   have:(w*B+u2+1)*P≤q*(v1*B+v2)*P:=Nat.mul_le_mul_right _ hlt
   rw[Nat.add_mul] at this
   omega
 ·have hq1:pL w u2 v1 v2≤B-1:=Nat.min_le_left _ _
  have hq2:pL w u2 v1 v2*(v1*B+v2)≤w*B+u2:=by
   have:pL w u2 v1 v2≤(w*B+u2)/(v1*B+v2):=Nat.min_le_right _ _
   exact Nat.le_trans (Nat.mul_le_mul_right _ this) (Nat.div_mul_le_self _ _)
  generalize pL w u2 v1 v2=g at *
  rcases g with _ | g
  ·exact Nat.zero_le _
  ·have:g≤U/V:=by
    rw[Nat.le_div_iff_mul_le hVpos]
    -- (g+1) V2 P≤U,and V<(V2+1) P,g+1≤B-1≤v1 B
    have e1:(g+1)*(v1*B+v2)*P≤(w*B+u2)*P:=Nat.mul_le_mul_right _ hq2
    have e2:g*V≤g*((v1*B+v2)*P+P):=Nat.mul_le_mul_left _ (by omega)
    have e3:g*P≤(v1*B+v2)*P:=Nat.mul_le_mul_right _ (by
     have:1*B≤v1*B:=Nat.mul_le_mul_right _ h1
     omega)
    rw[Nat.add_mul,Nat.one_mul,Nat.add_mul] at e1
    rw[Nat.mul_add,← Nat.mul_assoc] at e2
    omega
   omega
theorem BU {g:Nat} {v:List Nat} {k:Nat} (hk:k<v.length):(g*val v)/B^k%B=(g*v[k]+g*val (v.take k)/B^k)%B∧g*val (v.take (k+1))/B^(k+1)=(g*v[k]+g*val (v.take k)/B^k)/B:=by
 have e1:=xF hk
 have e2:=vw v (k+1)
 rw[Nat.min_eq_left (by omega)] at e2
 constructor
 ·rw[e2,e1,Nat.mul_add,Nat.mul_add,Nat.mul_left_comm g (B^k),Nat.mul_left_comm g (B^(k+1)),jp,Nat.add_comm]
 ·rw[e1,Nat.mul_add,Nat.mul_left_comm g (B^k),jo,Nat.add_comm]
theorem d9 {g:Nat} {v:List Nat} (hv:ok v) (hg:g<B) (k:Nat):g*val (v.take k)/B^k<B:=by
 apply Nat.div_lt_of_lt_mul
 have h1:=y5 (vY hv k) (n:=k) (by simp; omega)
 have:g*val (v.take k)≤B*val (v.take k):=Nat.mul_le_mul_right _ (by omega)
 have h2:B*val (v.take k)<B*B^k:=Nat.mul_lt_mul_of_pos_left h1 afK
 rw[Nat.mul_comm (B^k)]
 omega
def yT (Z:Nat) (u:List Nat) (k:Nat):List Nat:=zo k Z++u.drop k
theorem d8 {Z:Nat} {u:List Nat}:yT Z u 0=u:=by simp[yT,zo]
theorem kM {Z:Nat} {u:List Nat} {k:Nat} (h:k≤u.length):(yT Z u k).length=u.length:=by simp[yT,zw]; omega
theorem fQ {Z:Nat} {u:List Nat} {k:Nat} (h:k<u.length):(yT Z u k)[k]'(by rw[kM (by omega)]; exact h)=u[k]:=by
 unfold yT
 rw[List.getElem_append_right (by rw[zw]; exact Nat.le_refl _)]
 simp[zw]
theorem fT {Z:Nat} {u:List Nat} {k:Nat} (h:k<u.length):(yT Z u k).set k (Z/B^k%B)=yT Z u (k+1):=by
 unfold yT
 rw[List.set_append_right _ _ (by rw[zw]; exact Nat.le_refl _),zw,Nat.sub_self,List.drop_eq_getElem_cons h,List.set_cons_zero,td]
 simp
theorem RQ {Z:Nat} {u:List Nat} {n:Nat} (h:u.length=n):yT Z u n=zo n Z:=by
 unfold yT; rw[List.drop_of_length_le (by omega)]; simp
theorem Tc {n x:Nat}:zo n (x+B^n)=zo n x:=by
 refine aa yz yz (by rw[zw,zw]) ?_
 rw[jL,jL,Nat.add_mod_right]
theorem KQ {U n k:Nat} (hk:k<n):(U+B^n)/B^k%B=U/B^k%B:=by
 have h:=Tc (n:=n) (x:=U)
 have h1:k<(zo n (U+B^n)).length:=by rw[zw]; exact hk
 have h2:k<(zo n U).length:=by rw[zw]; exact hk
 rw[← wR h1,← wR h2]
 simp only[h]
def seg (W:List Nat) (off:Nat) (X:List Nat):List Nat:=W.take off++X++W.drop (off+X.length)
theorem lD {W X:List Nat} {off:Nat} (h:off+X.length≤W.length):(seg W off X).length=W.length:=by simp[seg]; omega
theorem bU {W X:List Nat} {off i:Nat} (h:off+X.length≤W.length) (hi:i<X.length):(seg W off X)[off+i]'(by rw[lD h]; omega)=X[i]:=by
 unfold seg
 rw[List.getElem_append_left (by simp; omega),List.getElem_append_right (by simp; omega)]
 congr 1
 simp; omega
theorem bV {W X:List Nat} {off i d:Nat} (h:off+X.length≤W.length) (hi:i<X.length):(seg W off X).set (off+i) d=seg W off (X.set i d):=by
 unfold seg
 rw[List.length_set,List.set_append_left _ _ (by simp; omega),List.set_append_right _ _ (by simp; omega)]
 have:off+i-(List.take off W).length=i:=by simp; omega
 rw[this]
theorem DJ {W:List Nat} {off n:Nat} (h:off+n≤W.length):seg W off ((W.drop off).take n)=W:=by
 unfold seg
 have:((W.drop off).take n).length=n:=by simp; omega
 rw[this]
 rw[List.append_assoc,← List.drop_drop,List.take_append_drop,List.take_append_drop]
theorem Xi {N L i t:Nat} (hL:L<B^(i+1)) (hi:i+1<N) (hlt:L+B^i*t<B^N) (ht:(L/B^i+t)/B<B) :
  ((zo N L).set i ((L/B^i+t)%B)).set (i+1) ((L/B^i+t)/B)=zo N (L+B^i*t):=by
 have hLN:L<B^N:=Nat.lt_of_lt_of_le hL (Nat.pow_le_pow_right afK (by omega))
 have hlen:=zw (n:=N) (x:=L)
 have ho:ok (zo N L):=yz
 have hd1:(L/B^i+t)%B<B:=Nat.mod_lt _ afK
 refine aa (Y6 (Y6 ho hd1) ht) yz (by simp[zw]) ?_
 rw[yk hlt]
 have e1:=ae (o:=zo N L) (j:=i) (d:=(L/B^i+t)%B) (by omega)
 have e2:=ae (o:=(zo N L).set i ((L/B^i+t)%B)) (j:=i+1) (d:=(L/B^i+t)/B) (by simp; omega)
 rw[yk hLN,wR] at e1
 rw[List.getElem_set_ne (by omega),wR,Nat.div_eq_of_lt hL] at e2
 have h0:0%B=0:=rfl
 rw[h0,Nat.mul_zero,Nat.add_zero] at e2
 have hc:L/B^i<B:=Nat.div_lt_of_lt_mul (by rw[← Nat.pow_succ]; exact hL)
 rw[Nat.mod_eq_of_lt hc] at e1
 have e3:=Nat.mod_add_div (L/B^i+t) B
 have e4:B^(i+1)*((L/B^i+t)/B)=B^i*(B*((L/B^i+t)/B)):=by rw[Nat.pow_succ,Nat.mul_assoc]
 have e5:B^i*((L/B^i+t)%B)+B^i*(B*((L/B^i+t)/B))=B^i*(L/B^i)+B^i*t:=by rw[← Nat.mul_add,e3,Nat.mul_add]
 rw[e2,e4]
 omega
theorem JD {c a bits:Nat} (hb:bits<32) (hc:c<2^bits) (_ha:a<B):c ||| (a*2^bits%B)=c+a*2^bits%B∧c+a*2^bits%B=(c+a*2^bits)%B∧a*2^bits/B=(c+a*2^bits)/B∧c+a*2^bits%B<B:=by
 have hB:B=2^(32-bits)*2^bits:=by
  rw[← Nat.pow_add,Nat.sub_add_cancel (by omega)]; rfl
 have hm:a*2^bits%B=(a%2^(32-bits))*2^bits:=by
  rw[hB,Nat.mul_mod_mul_right]
 have hlt:a%2^(32-bits)<2^(32-bits):=Nat.mod_lt _ (Nat.pow_pos (by omega))
 have hd:=Nat.div_add_mod (a*2^bits) B
 have hsum:c+a*2^bits%B<B:=by
  rw[hm]
  have:(a%2^(32-bits)+1)*2^bits≤2^(32-bits)*2^bits:=Nat.mul_le_mul_right _ hlt
  rw[Nat.add_mul,← hB] at this
  omega
 refine ⟨?_,?_,?_,hsum⟩
 ·rw[hm]
  have h:=Nat.shiftLeft_add_eq_or_of_lt hc (a%2^(32-bits))
  rw[Nat.shiftLeft_eq] at h
  rw[Nat.or_comm,← h]; omega
 ·have:c+a*2^bits=c+a*2^bits%B+B*(a*2^bits/B):=by omega
  rw[this,Nat.add_mul_mod_self_left,Nat.mod_eq_of_lt hsum]
 ·have:c+a*2^bits=c+a*2^bits%B+B*(a*2^bits/B):=by omega
  rw[this,Nat.add_mul_div_left _ _ afK,Nat.div_eq_of_lt hsum,Nat.zero_add]
def shL (a:List Nat) (bits i:Nat):Nat:=val (a.take i)*2^bits
theorem Qw {a:List Nat} {bits:Nat}:shL a bits 0=0:=by simp[shL,val]
theorem kQ {bits:Nat} (hb:bits<32):2^bits<B:=by
 have:2^bits<2^32:=Nat.pow_lt_pow_right (by omega) hb
 exact this
theorem Xh {a:List Nat} {bits i:Nat} (ha:ok a):shL a bits i<B^i*2^bits:=by
 unfold shL
 exact Nat.mul_lt_mul_of_pos_right (y5 (vY ha i) (by simp; omega)) (Nat.pow_pos (by omega))
theorem Qv {a:List Nat} {bits i:Nat} (hi:i<a.length):shL a bits (i+1)=shL a bits i+B^i*(a[i]*2^bits):=by
 unfold shL
 rw[xF hi,Nat.add_mul,Nat.mul_assoc]
theorem Ml {a:List Nat} {bits:Nat}:shL a bits a.length=val a*2^bits:=by
 unfold shL; rw[List.take_of_length_le (Nat.le_refl _)]
theorem YB {n:Nat}:zo n 0=List.replicate n 0:=by
 refine aa yz (R4 n) (by simp[zw]) ?_
 rw[jL,ab,Nat.zero_mod]
end Go.Dig

namespace Go.Proofs.Ytbgnkodhpbkdoaa
open Go Go.Am Go.Dig
theorem Dg {c x:Nat} (hc:c<B) (hx:x<B) (h:c ||| x<B):uw .or .u32 (c:Int) (x:Int)=((c ||| x:Nat):Int):=by
 rw[yc] at *
 have hbits:IntKind.u32.bits=32:=rfl
 simp only[uw]
 rw[BitVec.toNat_or]
 have e1:(BitVec.ofInt IntKind.u32.bits (c:Int)).toNat=c:=by rw[hbits,BitVec.toNat_ofInt]; omega
 have e2:(BitVec.ofInt IntKind.u32.bits (x:Int)).toNat=x:=by rw[hbits,BitVec.toNat_ofInt]; omega
 rw[e1,e2]
 exact IntWalk.u32_in _ (by omega)
def cI (a:List Nat) (m:Am.Mode) (σ:List (Nat × zb)) (out:List (List (Nat × AV))) (b bits i:Nat):St :=
 {env:=[(0,nl m a),(1,ye bits),(5,.sl (b+11) 1 0 (a.length+1)),(13,iv a.length),(14,iv i)],sto:=pt σ (b+11) (.arr 1 (zH (zo (a.length+1) (shL a bits i)))),out:=out,base:=b}
theorem DN {m:Am.Mode} {a:List Nat} {bits:Nat} {s:St} {K:AV→St→Prop} (b:Nat) (ha:ok a) (hn:a.length<1099511627775) (hb:bits<32) (hf:lk s.sto (b+11)=none)
  (h:K (.sl (b+11) 1 0 (a.length+1)) ⟨s.env,pt s.sto (b+11) (.arr 1 (zH (zo (a.length+1) (val a*2^bits)))),s.out,s.base⟩):afN Try.prog rO [nl m a,ye bits] s K:=by
 obtain ⟨env,σ,out,base⟩:=s
 simp only at hf h
 refine xL b a7 (by simp) ?_
 have w:IntKind.i64.wrap ((a.length:Int)+1)=(a.length:Int)+1:=wrap64 (by omega) (by omega)
 have e1:((a.length:Int)+1).toNat=a.length+1:=by omega
 simp[jR,w,eMk,e1,hf]
 refine ⟨by omega,by omega,by omega,?_⟩
 refine zB (cI a m σ (env::out) b bits) (fun _=>True) a.length (by simp[cI,Qw,YB]; exact .inl rfl) trivial (fun i hi _=>?_) (fun _=>?_)
 ·have e:(i:Int)<a.length:=by omega
  have hpow:=kQ hb
  have hak:=xz ha hi
  have hL:=Xh (bits:=bits) (i:=i) ha
  have hLB:shL a bits i<B^(i+1):=by
   have:B^i*2^bits≤B^i*B:=Nat.mul_le_mul_left _ (by omega)
   rw[Nat.pow_succ]; omega
  have hc:shL a bits i/B^i<2^bits:=Nat.div_lt_of_lt_mul hL
  obtain ⟨o1,o2,o3,o4⟩:=JD (c:=shL a bits i/B^i) (a:=a[i]) hb hc hak
  have hsucc:=Qv (bits:=bits) hi
  have hL2:=Xh (bits:=bits) (i:=i+1) ha
  have hLN:shL a bits (i+1)<B^(a.length+1):=by
   have h1:B^(i+1)*2^bits≤B^(i+1)*B:=Nat.mul_le_mul_left _ (by omega)
   have h3:B^(i+1+1)=B^(i+1)*B:=Nat.pow_succ _ _
   have h2:B^(i+1+1)≤B^(a.length+1):=Nat.pow_le_pow_right afK (by omega)
   omega
  have htB:(shL a bits i/B^i+a[i]*2^bits)/B<B:=by
   rw[← o3]
   apply Nat.div_lt_of_lt_mul
   exact Nat.mul_lt_mul_of_lt_of_lt hak hpow
  have hstep:=Xi (N:=a.length+1) (i:=i) (t:=a[i]*2^bits) hLB (by omega) (by rw[← hsucc]; exact hLN) htB
  rw[← hsucc,← o2,← o3] at hstep
  have hlen:=zw (n:=a.length+1) (x:=shL a bits i)
  have hi1:i<(zo (a.length+1) (shL a bits i)).length:=by omega
  have hget:(zo (a.length+1) (shL a bits i))[i]=shL a bits i/B^i:=by
   rw[wR,Nat.mod_eq_of_lt (Nat.lt_trans hc hpow)]
  obtain ⟨c,hcE⟩:∃ c,shL a bits i/B^i=c:=⟨_,rfl⟩
  obtain ⟨t,htE⟩:∃ t,a[i]*2^bits=t:=⟨_,rfl⟩
  have htlt:t<B*B:=by rw[← htE]; exact Nat.mul_lt_mul_of_lt_of_lt hak hpow
  rw[hcE,htE] at o1 o4 hstep
  rw[hcE] at hget hc
  obtain ⟨x,hxE⟩:∃ x,t%B=x:=⟨_,rfl⟩
  obtain ⟨q,hqE⟩:∃ q,t/B=q:=⟨_,rfl⟩
  rw[hxE] at o1 o4 hstep
  rw[hqE] at hstep
  have hxB:x<B:=by rw[← hxE]; exact Nat.mod_lt _ afK
  have hqB:q<B:=by rw[← hqE]; exact Nat.div_lt_of_lt_mul htlt
  have hor:=Dg (c:=c) (x:=x) (by omega) hxB (by rw[o1]; exact o4)
  rw[o1] at hor
  obtain ⟨y,hyE⟩:∃ y,c+x=y:=⟨_,rfl⟩
  rw[hyE] at hor hstep
  have hBB:B*B=18446744073709551616:=by decide
  rw[hBB] at htlt
  have f1:IntKind.u32.wrap (t:Int)=(x:Int):=by rw[w32,hxE]
  have f2:(t:Int).fdiv (2^min 32 IntKind.u64.bits)=(q:Int):=by rw[ey,hqE]
  have f3:IntKind.u32.wrap (q:Int)=q:=IntWalk.u32_in _ (by rw[yc] at hqB; omega)
  have u1:IntKind.u64.wrap ((a[i]:Nat):Int)=(a[i]:Nat):=w64 (by rw[yc] at hak; omega)
  have hmin:min bits IntKind.u64.bits=bits:=by
   have:IntKind.u64.bits=64:=rfl
   omega
  have u2:IntKind.u64.wrap (((a[i]:Nat):Int)*2^bits)=(t:Int):=by
   rw[show ((a[i]:Nat):Int)*2^bits=((a[i]*2^bits:Nat):Int) by simp,htE]; exact w64 htlt
  have hset:((zH (zo (a.length+1) (shL a bits i))).set i [uv y]).set (i+1) [uv q]=zH (zo (a.length+1) (shL a bits (i+1))):=by
   rw[xg,xg,hstep]
  have wi:IntKind.i64.wrap ((i:Int)+1)=(i:Int)+1:=wrap64 (by omega) (by omega)
  have ei1:(i:Int)<a.length+1:=by omega
  have e2:((i:Int)+1).toNat=i+1:=by omega
  have e3:(0:Int)≤(i:Int)+1:=by omega
  have hi2:i+1<(zo (a.length+1) (shL a bits i)).length:=by omega
  have hnb:¬ ((bits:Int)<0):=by omega
  simp[uE,cI,e,hi,hi1,hi2,ei1,e2,e3,hget,hor,u1,xO,xw,hmin,u2,f1,f2,f3,wi,splice,hset]
 ·have:zo (a.length+1) (shL a bits a.length)=zo (a.length+1) (val a*2^bits):=by rw[Ml]
  simp[uE,cI,nd,j4,this]
  exact h
def gK (w v1 k:Nat):Nat:=w/v1-k
def rK (w v1 k:Nat):Nat:=w%v1+k*v1
theorem MY {w v1 k:Nat} (hk:k≤w/v1):w=gK w v1 k*v1+rK w v1 k:=by
 unfold gK rK
 have h:=Nat.div_add_mod w v1
 have:(w/v1-k)*v1+k*v1=v1*(w/v1):=by rw[← Nat.add_mul,Nat.sub_add_cancel hk,Nat.mul_comm]
 omega
structure gO (W v:List Nat) (off e:Nat):Prop where
 okW:ok W
 okv:ok v
 hv:v.length=e+2
 hW:off+e+3≤W.length
 small:W.length<1099511627776
def tT (W:List Nat) (off e:Nat):Nat:=W.getD (off+(e+2)) 0*B+W.getD (off+(e+1)) 0
def cB (m:Am.Mode) (W v:List Nat) (σ:List (Nat × zb)) (out:List (List (Nat × AV))) (b j off e k:Nat):St :=
 {env:=[(0,.sl j 1 off (e+3)),(1,nl m v),(5,iv ((e:Int)+2)),(7,ye (gK (tT W off e) (v.getD (e+1) 0) k)),(8,ye (rK (tT W off e) (v.getD (e+1) 0) k))],sto:=σ,out:=out,base:=b}
theorem Pj {m:Am.Mode} {W v:List Nat} {σ:List (Nat × zb)} {out:List (List (Nat × AV))} {b j off e:Nat} {K:Exit→St→Prop} (h:gO W v off e) (hj:lk σ j=some (.arr 1 (zH W)))
  (h1:0<v.getD (e+1) 0) (hw:tT W off e≤v.getD (e+1) 0*B+(B-1)) (g:Nat) (hg:g=pL (tT W off e) (W.getD (off+e) 0) (v.getD (e+1) 0) (v.getD e 0))
  (hK:∀ r q y,(q=69∨q=81)→awp Try.prog wQ {env:=[(0,.sl j 1 off (e+3)),(1,nl m v),(5,iv ((e:Int)+2)),(7,ye g),(8,r),(q,y)],sto:=σ,out:=out,base:=b} K) :
  awp Try.prog (.loop wl) (cB m W v σ out b j off e 0) (wN 0 (sP Try.prog wQ K)):=by
 have hvl:=h.hv
 have hWl:=h.hW
 have hsm:=h.small
 have hv0:e<v.length:=by omega
 have hv1:e+1<v.length:=by omega
 have hW0:off+e<W.length:=by omega
 have q1:v.getD (e+1) 0=v[e+1]:=by simp[hv1]
 have q2:v.getD e 0=v[e]:=by simp[hv0]
 have q3:W.getD (off+e) 0=W[off+e]:=by simp[hW0]
 have hu2:W.getD (off+e) 0<B:=vA h.okW _
 have hv2B:v.getD e 0<B:=vA h.okv _
 have hv1B:v.getD (e+1) 0<B:=vA h.okv _
 have hwB:tT W off e<B*B:=by
  have a1:=vA h.okW (off+(e+2))
  have a2:=vA h.okW (off+(e+1))
  have:(W.getD (off+(e+2)) 0+1)*B≤B*B:=Nat.mul_le_mul_right _ a1
  unfold tT
  rw[Nat.add_mul] at this
  omega
 generalize hwe:tT W off e=w at *
 generalize hv1e:v.getD (e+1) 0=v1 at *
 generalize hu2e:W.getD (off+e) 0=u2 at *
 generalize hv2e:v.getD e 0=v2 at *
 have hle:=Ao (w:=w) (v2:=v2) h1 hu2
 rw[← hg] at hle
 rw[show B*B=18446744073709551616 by decide] at hwB
 have hst:∀ k,cB m W v σ out b j off e k={env:=[(0,.sl j 1 off (e+3)),(1,nl m v),(5,iv ((e:Int)+2)),(7,ye (gK w v1 k)),(8,ye (rK w v1 k))],sto:=σ,out:=out,base:=b}:=fun k=>by
  rw[cB,hwe,hv1e]
 have i1:IntKind.i64.wrap ((e:Int))=e:=wrap64 (by omega) (by omega)
 have i2:IntKind.i64.wrap ((e:Int)+1)=(e:Int)+1:=wrap64 (by omega) (by omega)
 have i5:IntKind.i64.wrap ((e:Int)+2-1)=(e:Int)+1:=by rw[wrap64]<;>omega
 have i6:IntKind.i64.wrap ((e:Int)+2-2)=(e:Int):=by rw[wrap64]<;>omega
 have i3:((e:Int)+1).toNat=e+1:=by omega
 have i4:(0:Int)≤(e:Int)+1:=by omega
 have c1:IntKind.u64.wrap (v1:Int)=v1:=w64 (by rw[yc] at hv1B; omega)
 have c2:IntKind.u64.wrap (v2:Int)=v2:=w64 (by rw[yc] at hv2B; omega)
 have c3:IntKind.u64.wrap (u2:Int)=u2:=w64 (by rw[yc] at hu2; omega)
 have p1:v[e+1]=v1:=by rw[← q1]
 have p2:v[e]=v2:=by rw[← q2]
 have p3:W[off+e]=u2:=by rw[← q3]
 have x1:(e:Int)<v.length:=by omega
 have x2:(e:Int)+1<v.length:=by omega
 have x3:(e:Int)<(e:Int)+3:=by omega
 refine zB (cB m W v σ out b j off e) (fun k=>rK w v1 k<B) (w/v1-g) (by rw[hst]; simp) ?_ (fun k hk hr=>?_) (fun hr=>?_)
 ·show rK w v1 0<B
  unfold rK
  rw[Nat.zero_mul,Nat.add_zero]
  exact Nat.lt_trans (Nat.mod_lt w h1) hv1B
 ·have hkw:k≤w/v1:=Nat.le_trans (Nat.le_of_lt hk) (Nat.sub_le _ _)
  have hkw2:k+1≤w/v1:=Nat.le_trans hk (Nat.sub_le _ _)
  have heq:=MY (w:=w) (v1:=v1) (k:=k) hkw
  have hbig:=(eM (u2:=u2) (v2:=v2) h1 heq).2 (by rw[← hg]; unfold gK; omega)
  have hgk:gK w v1 (k+1)+1=gK w v1 k:=by unfold gK; omega
  have hrk:rK w v1 (k+1)=rK w v1 k+v1:=by unfold rK; rw[Nat.add_mul]; omega
  have heq2:=MY (w:=w) (v1:=v1) (k:=k+1) (by omega)
  have hbrk:=fun hB=>FT (u2:=u2) (v2:=v2) h1 heq2 hw hv2B hB
  have hgle:gK w v1 k≤w:=by
   have:w/v1≤w:=Nat.div_le_self _ _
   unfold gK; omega
  have hend:B≤rK w v1 (k+1)→gK w v1 (k+1)=g:=fun hB=>by
   have:=hbrk hB
   rw[eM h1 heq2,← hg] at this
   unfold gK at *
   omega
  rw[hst]
  have hgsub:IntKind.u64.wrap ((gK w v1 k:Int)-1)=(gK w v1 (k+1):Int):=by rw[vm]<;>omega
  have hradd:IntKind.u64.wrap ((rK w v1 k:Int)+(v1:Int))=(rK w v1 (k+1):Int):=by
   rw[yc] at hr hv1B
   rw[vm]<;>omega
  have rest:∀ K2,(∀ q y,(q=69∨q=81)→(¬ B≤rK w v1 (k+1)→K2 Exit.normal {env:=[(0,.sl j 1 off (e+3)),(1,nl m v),(5,iv ((e:Int)+2)),(7,ye (gK w v1 (k+1))),(8,ye (rK w v1 (k+1))),(q,y)],sto:=σ,out:=out,base:=b}) ∧
    (B≤rK w v1 (k+1)→K2 (Exit.exit 0) {env:=[(0,.sl j 1 off (e+3)),(1,nl m v),(5,iv ((e:Int)+2)),(7,ye (gK w v1 (k+1))),(8,ye (rK w v1 (k+1))),(q,y)],sto:=σ,out:=out,base:=b})) →
    awp Try.prog wl {env:=[(0,.sl j 1 off (e+3)),(1,nl m v),(5,iv ((e:Int)+2)),(7,ye (gK w v1 k)),(8,ye (rK w v1 k))],sto:=σ,out:=out,base:=b} K2:=by
   intro K2 hK2
   by_cases hB:B≤gK w v1 k
   ·have hB':(4294967296:Int)≤gK w v1 k:=by rw[yc] at hB; omega
    by_cases hBr:B≤rK w v1 (k+1)
    ·have hBr':(4294967296:Int)≤rK w v1 (k+1):=by rw[yc] at hBr; omega
     simp[wl,hB',hBr',hgsub,i5,i3,i4,x2,hv1,p1,c1,hradd]
     exact (hK2 _ _ (by simp)).2 hBr
    ·have hBr':¬ (4294967296:Int)≤rK w v1 (k+1):=by rw[yc] at hBr; omega
     simp[wl,hB',hBr',hgsub,i5,i3,i4,x2,hv1,p1,c1,hradd]
     exact (hK2 _ _ (by simp)).1 hBr
   ·have hB':¬ (4294967296:Int)≤gK w v1 k:=by rw[yc] at hB; omega
    have hlt:rK w v1 k*B+u2<gK w v1 k*v2:=hbig.resolve_left hB
    have hor:=or_hi hr hu2
    have hsh:=Sv hr
    have hpl:gK w v1 k*v2<18446744073709551616:=by
     have:gK w v1 k*v2≤(B-1)*(B-1):=Nat.mul_le_mul (by omega) (by omega)
     have:(B-1)*(B-1)<18446744073709551616:=by decide
     omega
    obtain ⟨p,hp⟩:∃ p,gK w v1 k*v2=p:=⟨_,rfl⟩
    obtain ⟨rb,hrb⟩:∃ rb,rK w v1 k*B=rb:=⟨_,rfl⟩
    rw[hp] at hlt hpl
    rw[hrb] at hlt hor hsh
    have hmul:IntKind.u64.wrap ((gK w v1 k:Int)*(v2:Int))=(p:Int):=by
     rw[show (gK w v1 k:Int)*(v2:Int)=((gK w v1 k*v2:Nat):Int) by simp,hp]; exact w64 hpl
    have hlt':(rb:Int)+(u2:Int)<(p:Int):=by omega
    simp only[Int.natCast_add] at hor
    by_cases hBr:B≤rK w v1 (k+1)
    ·have hBr':(4294967296:Int)≤rK w v1 (k+1):=by rw[yc] at hBr; omega
     simp[wl,hB',hBr',hgsub,i1,i5,i3,i4,x1,x2,x3,hv0,hv1,hW0,p1,p2,p3,c1,c2,c3,hj,hmul,xO,hsh,hor,hlt',hradd]
     exact (hK2 _ _ (by simp)).2 hBr
    ·have hBr':¬ (4294967296:Int)≤rK w v1 (k+1):=by rw[yc] at hBr; omega
     simp[wl,hB',hBr',hgsub,i1,i5,i3,i4,x1,x2,x3,hv0,hv1,hW0,p1,p2,p3,c1,c2,c3,hj,hmul,xO,hsh,hor,hlt',hradd]
     exact (hK2 _ _ (by simp)).1 hBr
  refine rest _ fun q y hq=>⟨fun hB=>?_,fun hB=>?_⟩
  ·rw[cM,hst]
   refine ⟨by rcases hq with rfl | rfl<;>simp,by omega⟩
  ·have:=hend hB
   rw[this]
   exact hK _ _ _ hq
 ·have hgk:gK w v1 (w/v1-g)=g:=by unfold gK; omega
  have heq:=MY (w:=w) (v1:=v1) (k:=w/v1-g) (by omega)
  have hnb:=fun hb=>(eM (u2:=u2) (v2:=v2) h1 heq).1 hb
  rw[hgk,← hg] at hnb
  have hB:¬ B≤g:=fun hb=>Nat.lt_irrefl _ (hnb (.inl hb))
  have hlt:¬ rK w v1 (w/v1-g)*B+u2<g*v2:=fun hb=>Nat.lt_irrefl _ (hnb (.inr hb))
  have hB':¬ (4294967296:Int)≤g:=by rw[yc] at hB; omega
  have hor:=or_hi hr hu2
  have hsh:=Sv hr
  have hst2:cB m W v σ out b j off e (w/v1-g)={env:=[(0,.sl j 1 off (e+3)),(1,nl m v),(5,iv ((e:Int)+2)),(7,ye g),(8,ye (rK w v1 (w/v1-g)))],sto:=σ,out:=out,base:=b}:=by
   rw[hst,hgk]
  rw[hst2]
  clear hst2 heq
  generalize rK w v1 (w/v1-g)=r at *
  obtain ⟨p,hp⟩:∃ p,g*v2=p:=⟨_,rfl⟩
  obtain ⟨rb,hrb⟩:∃ rb,r*B=rb:=⟨_,rfl⟩
  have hpl:g*v2<18446744073709551616:=by
   have:g*v2≤(B-1)*(B-1):=Nat.mul_le_mul (by omega) (by omega)
   have:(B-1)*(B-1)<18446744073709551616:=by decide
   omega
  rw[hp] at hlt hpl
  rw[hrb] at hlt hor hsh
  have hmul:IntKind.u64.wrap ((g:Int)*(v2:Int))=(p:Int):=by
   rw[show (g:Int)*(v2:Int)=((g*v2:Nat):Int) by simp,hp]; exact w64 hpl
  have hlt':¬ (rb:Int)+(u2:Int)<(p:Int):=by omega
  simp only[Int.natCast_add] at hor
  simp[wl,hB',i1,x1,x3,hv0,hW0,p2,p3,c2,c3,hj,hmul,xO,hsh,hor,hlt']
  exact hK _ _ _ (by simp)
theorem CZ {p:Nat} (hp:p<18446744073709551616):uw .and .u64 (p:Int) 4294967295=((p%B:Nat):Int):=by
 have hbits:IntKind.u64.bits=64:=rfl
 simp only[uw]
 rw[BitVec.toNat_and]
 have e1:(BitVec.ofInt IntKind.u64.bits (p:Int)).toNat=p:=by rw[hbits,BitVec.toNat_ofInt]; omega
 have e2:(BitVec.ofInt IntKind.u64.bits 4294967295).toNat=4294967295:=rfl
 rw[e1,e2]
 have h:=Nat.and_two_pow_sub_one_eq_mod p 32
 have:(2:Nat)^32-1=4294967295:=by decide
 rw[this] at h
 rw[h,show (2:Nat)^32=B from rfl]
 exact w64 (Nat.lt_trans (Nat.mod_lt _ afK) (by decide))
def cK (g:Nat) (v:List Nat) (k:Nat):Nat:=g*val (v.take k)/B^k
def cC (m:Am.Mode) (W v u:List Nat) (σ:List (Nat × zb)) (out:List (List (Nat × AV))) (b j off e g x T k:Nat):St :=
 {env:=[(0,.sl j 1 off (e+3)),(1,nl m v),(5,iv ((e:Int)+2)),(7,ye g),(9,ye (cK g v k)),(10,ye (bor x T k)),(82,iv ((e:Int)+2)),(83,iv k)],sto:=pt σ j (.arr 1 (zH (seg W off (yT (x-T) u k)))),out:=out,base:=b}
section
variable {m:Am.Mode} {W v:List Nat} {σ:List (Nat × zb)} {out:List (List (Nat × AV))} {b j off e g x:Nat} {K:Exit→St→Prop} (h:gO W v off e) (hj:lk σ j=some (.arr 1 (zH W)))
  (hg:g<B) (hx:∀ k,k<e+3→x/B^k%B=W.getD (off+k) 0) (hT:g*val v≤x)
include h hj hg hx hT
omit hj in
theorem Tb {s:St} (hs:nw s (cC m W v ((W.drop off).take (e+3)) σ out b j off e g x (g*val v) 0))
  (hK:awp Try.prog uD {env:=[(0,.sl j 1 off (e+3)),(1,nl m v),(5,iv ((e:Int)+2)),(7,ye g),(9,ye (cK g v (e+2))),(10,ye (bor x (g*val v) (e+2))),(82,iv ((e:Int)+2)),(83,iv ((e:Int)+2)),(84,bv false)],sto:=pt σ j (.arr 1 (zH (seg W off (yT (x-g*val v) ((W.drop off).take (e+3)) (e+2))))),out:=out,base:=b} K) :
  awp Try.prog (.loop pq) s (wN 2 (sP Try.prog uD K)):=by
 have hvl:=h.hv
 have hWl:=h.hW
 have hsm:=h.small
 generalize hue:(W.drop off).take (e+3)=u at *
 have hul:u.length=e+3:=by rw[← hue]; simp; omega
 refine zB (cC m W v u σ out b j off e g x (g*val v)) (fun _=>True) (e+2) hs trivial (fun k hk _=>?_) (fun _=>?_)
 ·have hkv:k<v.length:=by omega
  have hku:k<u.length:=by omega
  have hvB:=xz h.okv hkv
  have hWk:off+k<W.length:=by omega
  have huk:u[k]=W[off+k]:=by subst hue; simp
  have hq:W.getD (off+k) 0=W[off+k]:=by simp[hWk]
  have hukB:u[k]<B:=by rw[huk]; exact xz h.okW hWk
  have hcB:cK g v k<B:=d9 h.okv hg k
  obtain ⟨m1,m2⟩:=BU (g:=g) hkv
  have hsd:=jH (k:=k) hT
  have hbs:=gV (x:=x) (y:=g*val v) (k:=k)
  have hb1:=Yg (x:=x) (y:=g*val v) (k:=k)
  rw[hx k (by omega),hq,← huk,m1] at hsd hbs
  have hck:cK g v (k+1)=(g*v[k]+cK g v k)/B:=m2
  change (((x-g*val v)/B^k%B:Nat):Int)=((u[k]:Nat)-((g*v[k]+cK g v k)%B:Nat)-(bor x (g*val v) k:Nat):Int)%4294967296 at hsd
  change bor x (g*val v) (k+1)=if u[k]<(g*v[k]+cK g v k)%B+bor x (g*val v) k then 1 else 0 at hbs
  have hpB:g*v[k]+cK g v k<18446744073709551616:=by
   have:=jA hg hvB hcB afK
   have hBB:B*B=18446744073709551616:=by decide
   omega
  have hmx:=fT (Z:=x-g*val v) hku
  have hml:=kM (Z:=x-g*val v) (u:=u) (k:=k) (by omega)
  have hmg:=fQ (Z:=x-g*val v) hku
  have hsl:=lD (W:=W) (X:=yT (x-g*val v) u k) (off:=off) (by rw[hml]; omega)
  have hsg:=bU (W:=W) (X:=yT (x-g*val v) u k) (off:=off) (i:=k) (by rw[hml]; omega) (by omega)
  have hss:=bV (W:=W) (X:=yT (x-g*val v) u k) (off:=off) (i:=k) (d:=(x-g*val v)/B^k%B) (by rw[hml]; omega) (by omega)
  rw[hmx] at hss
  rw[hmg] at hsg
  obtain ⟨d,hd⟩:∃ d,(x-g*val v)/B^k%B=d:=⟨_,rfl⟩
  rw[hd] at hss hsd
  obtain ⟨p,hp⟩:∃ p,g*v[k]+cK g v k=p:=⟨_,rfl⟩
  obtain ⟨gv,hgv⟩:∃ gv,g*v[k]=gv:=⟨_,rfl⟩
  rw[hp] at hsd hbs hck hpB
  rw[hgv] at hp
  obtain ⟨pl,hpl⟩:∃ pl,p%B=pl:=⟨_,rfl⟩
  rw[hpl] at hsd hbs
  have hplB:pl<B:=by rw[← hpl]; exact Nat.mod_lt _ afK
  obtain ⟨c2,hc2⟩:∃ c2,p/B=c2:=⟨_,rfl⟩
  rw[hc2] at hck
  rw[cC]
  generalize bor x (g*val v) k=b0 at *
  generalize hb2:bor x (g*val v) (k+1)=b2 at *
  have hA:off+k<(seg W off (yT (x-g*val v) u k)).length:=by omega
  have hset:(zH (seg W off (yT (x-g*val v) u k))).set (off+k) [uv d]=zH (seg W off (yT (x-g*val v) u (k+1))):=by rw[xg,hss]
  have hst1:cC m W v u σ out b j off e g x (g*val v) (k+1)={env:=[(0,.sl j 1 off (e+3)),(1,nl m v),(5,iv ((e:Int)+2)),(7,ye g),(9,ye c2),(10,ye b2),(82,iv ((e:Int)+2)),(83,iv ((k:Int)+1))],sto:=pt σ j (.arr 1 (zH (seg W off (yT (x-g*val v) u (k+1))))),out:=out,base:=b}:=by
   rw[cC,hck,hb2]; rfl
  clear hd
  generalize huk2:u[k]=uk at *
  have ek:(k:Int)<(e:Int)+2:=by omega
  have ekv:(k:Int)<v.length:=by omega
  have ek3:(k:Int)<(e:Int)+3:=by omega
  have u1:IntKind.u64.wrap ((v[k]:Nat):Int)=(v[k]:Nat):=w64 (Nat.lt_trans hvB (by decide))
  have u2:IntKind.u64.wrap ((g:Int)*(v[k]:Int))=(gv:Int):=by
   rw[show (g:Int)*(v[k]:Int)=((g*v[k]:Nat):Int) by simp,hgv]; exact w64 (by omega)
  have u3:IntKind.u64.wrap ((gv:Int)+(cK g v k:Int))=(p:Int):=by rw[vm]<;>omega
  have u4:(p:Int).fdiv (2^min 32 IntKind.u64.bits)=(c2:Int):=by rw[ey,hc2]
  have u5:=CZ hpB
  rw[hpl] at u5
  rw[yc] at hukB hplB
  have u6:IntKind.u64.wrap (uk:Int)=uk:=w64 (by omega)
  have u7:=Cw ((uk:Int)-(pl:Int)) (b0:Int)
  have u8:=Sz ((uk:Int)-(pl:Int)-(b0:Int))
  rw[← hsd] at u8
  have u9:=Sw (u:=(uk:Int)-(pl:Int)-(b0:Int)) (by omega) (by omega)
  have u10:(if (uk:Int)-(pl:Int)-(b0:Int)<0 then (1:Int) else 0)=(b2:Int):=by
   rw[hbs]; split<;>split<;>omega
  rw[u10] at u9
  have w1:IntKind.i64.wrap ((k:Int)+1)=(k:Int)+1:=wrap64 (by omega) (by omega)
  simp[pq,ek,ekv,ek3,hkv,u1,u2,u3,u4,u5,u6,u7,u8,u9,hA,hsg,splice,hset,w1,xw,hst1]
 ·simp[pq,cC]
  exact hK
end
def ZT (m:Am.Mode) (W v z:List Nat) (σ:List (Nat × zb)) (out:List (List (Nat × AV))) (b j off e g k:Nat):St :=
 {env:=[(0,.sl j 1 off (e+3)),(1,nl m v),(5,iv ((e:Int)+2)),(7,ye g),(9,ye (car z v k)),(134,iv ((e:Int)+2)),(135,iv k)],sto:=pt σ j (.arr 1 (zH (seg W off (yT (val z+val v) z k)))),out:=out,base:=b}
section
variable {m:Am.Mode} {W v z:List Nat} {σ:List (Nat × zb)} {out:List (List (Nat × AV))} {b j off e g:Nat} {K:Exit→St→Prop} (h:gO W v off e) (hz:ok z) (hzl:z.length=e+3)
include h hz hzl
theorem MG {s:St} (hs:nw s (ZT m W v z σ out b j off e g 0))
  (hK:awp Try.prog sA {env:=[(0,.sl j 1 off (e+3)),(1,nl m v),(5,iv ((e:Int)+2)),(7,ye g),(9,ye (car z v (e+2))),(134,iv ((e:Int)+2)),(135,iv ((e:Int)+2)),(136,bv false)],sto:=pt σ j (.arr 1 (zH (seg W off (yT (val z+val v) z (e+2))))),out:=out,base:=b} K) :
  awp Try.prog (.loop pw) s (wN 4 (sP Try.prog sA K)):=by
 have hvl:=h.hv
 have hWl:=h.hW
 have hsm:=h.small
 refine zB (ZT m W v z σ out b j off e g) (fun _=>True) (e+2) hs trivial (fun k hk _=>?_) (fun _=>?_)
 ·have hkv:k<v.length:=by omega
  have hkz:k<z.length:=by omega
  have hvB:=xz h.okv hkv
  have hzB:=xz hz hkz
  have hc:=Yx hz h.okv k
  obtain ⟨t,ht,g1,g2⟩:=XP (a:=z) (b:=v) hkz (by omega)
  rw[List.getElem?_eq_getElem hkv,Option.getD_some] at ht
  have hmx:=fT (Z:=val z+val v) hkz
  have hml:=kM (Z:=val z+val v) (u:=z) (k:=k) (by omega)
  have hmg:=fQ (Z:=val z+val v) hkz
  have hsl:=lD (W:=W) (X:=yT (val z+val v) z k) (off:=off) (by rw[hml]; omega)
  have hsg:=bU (W:=W) (X:=yT (val z+val v) z k) (off:=off) (i:=k) (by rw[hml]; omega) (by omega)
  have hss:=bV (W:=W) (X:=yT (val z+val v) z k) (off:=off) (i:=k) (d:=(val z+val v)/B^k%B) (by rw[hml]; omega) (by omega)
  rw[hmx,g1] at hss
  rw[hmg] at hsg
  obtain ⟨d,hd⟩:∃ d,t%B=d:=⟨_,rfl⟩
  obtain ⟨q,hq⟩:∃ q,t/B=q:=⟨_,rfl⟩
  rw[hd] at hss
  rw[hq] at g2
  have hA:off+k<(seg W off (yT (val z+val v) z k)).length:=by omega
  have hset:(zH (seg W off (yT (val z+val v) z k))).set (off+k) [uv d]=zH (seg W off (yT (val z+val v) z (k+1))):=by rw[xg,hss]
  have hst1:ZT m W v z σ out b j off e g (k+1)={env:=[(0,.sl j 1 off (e+3)),(1,nl m v),(5,iv ((e:Int)+2)),(7,ye g),(9,ye q),(134,iv ((e:Int)+2)),(135,iv ((k:Int)+1))],sto:=pt σ j (.arr 1 (zH (seg W off (yT (val z+val v) z (k+1))))),out:=out,base:=b}:=by
   rw[ZT,g2]; rfl
  rw[ZT]
  generalize car z v k=c at *
  generalize hzk:z[k]=zk at *
  generalize hvk:v[k]=vk at *
  rw[yc] at hvB hzB
  have ek:(k:Int)<(e:Int)+2:=by omega
  have ekv:(k:Int)<v.length:=by omega
  have ek3:(k:Int)<(e:Int)+3:=by omega
  have f1:IntKind.u32.wrap (t:Int)=(d:Int):=by rw[w32,hd]
  have f2:(t:Int).fdiv (2^min 32 IntKind.u64.bits)=(q:Int):=by rw[ey,hq]
  have u1:IntKind.u64.wrap (vk:Int)=vk:=w64 (by omega)
  have u2:IntKind.u64.wrap (zk:Int)=zk:=w64 (by omega)
  have u3:IntKind.u64.wrap ((zk:Int)+(vk:Int))=(zk:Int)+vk:=by rw[vm]<;>omega
  have u4:IntKind.u64.wrap ((zk:Int)+(vk:Int)+(c:Int))=(t:Int):=by rw[vm]<;>omega
  have w1:IntKind.i64.wrap ((k:Int)+1)=(k:Int)+1:=wrap64 (by omega) (by omega)
  simp[pw,ek,ekv,ek3,hkv,hvk,u1,u2,u3,u4,f1,f2,hA,hsg,splice,hset,w1,xw,hst1]
 ·simp[pw,ZT]
  exact hK
theorem FO (hg:0<g) (hgB:g<B):awp Try.prog sA {env:=[(0,.sl j 1 off (e+3)),(1,nl m v),(5,iv ((e:Int)+2)),(7,ye g),(9,ye (car z v (e+2))),(134,iv ((e:Int)+2)),(135,iv ((e:Int)+2)),(136,bv false)],sto:=pt σ j (.arr 1 (zH (seg W off (yT (val z+val v) z (e+2))))),out:=out,base:=b}
  (fun ex s=>ex=.ret∧s={env:=[(4,uv (g-1))],sto:=pt σ j (.arr 1 (zH (seg W off (zo (e+3) (val z+val v))))),out:=out,base:=b}):=by
 have hvl:=h.hv
 have hWl:=h.hW
 have hsm:=h.small
 have hkz:e+2<z.length:=by omega
 have hzB:=xz hz hkz
 have hc:=Yx hz h.okv (e+2)
 obtain ⟨t,ht,g1,g2⟩:=XP (a:=z) (b:=v) hkz (by omega)
 rw[List.getElem?_eq_none (by omega),Option.getD_none] at ht
 have hmx:=fT (Z:=val z+val v) hkz
 have hml:=kM (Z:=val z+val v) (u:=z) (k:=e+2) (by omega)
 have hmg:=fQ (Z:=val z+val v) hkz
 have hsl:=lD (W:=W) (X:=yT (val z+val v) z (e+2)) (off:=off) (by rw[hml]; omega)
 have hsg:=bU (W:=W) (X:=yT (val z+val v) z (e+2)) (off:=off) (i:=e+2) (by rw[hml]; omega) (by omega)
 have hss:=bV (W:=W) (X:=yT (val z+val v) z (e+2)) (off:=off) (i:=e+2) (d:=(val z+val v)/B^(e+2)%B) (by rw[hml]; omega) (by omega)
 rw[hmx,g1,show e+2+1=e+3 from rfl,RQ hzl] at hss
 rw[hmg] at hsg
 obtain ⟨d,hd⟩:∃ d,t%B=d:=⟨_,rfl⟩
 rw[hd] at hss
 have hA:off+(e+2)<(seg W off (yT (val z+val v) z (e+2))).length:=by omega
 have hset:(zH (seg W off (yT (val z+val v) z (e+2)))).set (off+(e+2)) [uv d]=zH (seg W off (zo (e+3) (val z+val v))):=by rw[xg,hss]
 generalize car z v (e+2)=c at *
 generalize hzk:z[e+2]=zk at *
 have e1:((e:Int)+2).toNat=e+2:=by omega
 have e2:(0:Int)≤(e:Int)+2:=by omega
 have e3:(e:Int)+2<(e:Int)+3:=by omega
 have u1:IntKind.u32.wrap (c:Int)=c:=IntWalk.u32_in _ (by omega)
 have u2:IntKind.u32.wrap ((zk:Int)+(c:Int))=(d:Int):=by
  have:(zk:Int)+(c:Int)=(t:Int):=by omega
  rw[this,w32,hd]
 rw[yc] at hgB
 have u3:IntKind.u64.wrap ((g:Int)-1)=((g-1:Nat):Int):=by rw[vm]<;>omega
 have u4:IntKind.u32.wrap ((g-1:Nat):Int)=((g-1:Nat):Int):=IntWalk.u32_in _ (by omega)
 simp[sA,e1,e2,e3,hA,hsg,u1,u2,u3,u4,splice,hset]
end
theorem YQ {α:Type} {l:List (Nat × α)} {n:Nat} {x:α} (h:lk l n=some x):lk (pt l n x)=lk l:=by
 funext i
 rw[xS]
 split
 ·subst i; exact h.symm
 ·rfl
section
variable {m:Am.Mode} {W v:List Nat} {σ:List (Nat × zb)} {out:List (List (Nat × AV))} {b j off e g x:Nat} {K:Exit→St→Prop} (h:gO W v off e)
  (hg:g<B) (hx:∀ k,k<e+3→x/B^k%B=W.getD (off+k) 0) (hT:g*val v≤x) (hZ:x-g*val v<B^(e+3))
include h hg hx hT hZ
theorem MH (hK0:bor x (g*val v) (e+3)=0→K .ret {env:=[(4,uv g)],sto:=pt σ j (.arr 1 (zH (seg W off (zo (e+3) (x-g*val v))))),out:=out,base:=b})
  (hK1:bor x (g*val v) (e+3)=1→0<g∧K .ret {env:=[(4,uv (g-1))],sto:=pt σ j (.arr 1 (zH (seg W off (zo (e+3) (x-g*val v+val v))))),out:=out,base:=b}) :
  awp Try.prog uD {env:=[(0,.sl j 1 off (e+3)),(1,nl m v),(5,iv ((e:Int)+2)),(7,ye g),(9,ye (cK g v (e+2))),(10,ye (bor x (g*val v) (e+2))),(82,iv ((e:Int)+2)),(83,iv ((e:Int)+2)),(84,bv false)],sto:=pt σ j (.arr 1 (zH (seg W off (yT (x-g*val v) ((W.drop off).take (e+3)) (e+2))))),out:=out,base:=b} K:=by
 have hvl:=h.hv
 have hWl:=h.hW
 have hsm:=h.small
 generalize hue:(W.drop off).take (e+3)=u at *
 have hul:u.length=e+3:=by rw[← hue]; simp; omega
 have hku:e+2<u.length:=by omega
 have hWk:off+(e+2)<W.length:=by omega
 have huk:u[e+2]=W[off+(e+2)]:=by subst hue; simp
 have hq:W.getD (off+(e+2)) 0=W[off+(e+2)]:=by simp[hWk]
 have hukB:u[e+2]<B:=by rw[huk]; exact xz h.okW hWk
 have hcB:cK g v (e+2)<B:=d9 h.okv hg (e+2)
 have hcT:g*val v/B^(e+2)%B=cK g v (e+2):=by
  have:cK g v (e+2)=g*val v/B^(e+2):=by unfold cK; rw[List.take_of_length_le (by omega)]
  rw[← this,Nat.mod_eq_of_lt hcB]
 have hsd:=jH (k:=e+2) hT
 have hbs:=gV (x:=x) (y:=g*val v) (k:=e+2)
 have hb1:=Yg (x:=x) (y:=g*val v) (k:=e+2)
 rw[hx (e+2) (by omega),hq,← huk,hcT] at hsd hbs
 have hmx:=fT (Z:=x-g*val v) hku
 rw[show e+2+1=e+3 from rfl,RQ hul] at hmx
 have hml:=kM (Z:=x-g*val v) (u:=u) (k:=e+2) (by omega)
 have hmg:=fQ (Z:=x-g*val v) hku
 have hsl:=lD (W:=W) (X:=yT (x-g*val v) u (e+2)) (off:=off) (by rw[hml]; omega)
 have hsg:=bU (W:=W) (X:=yT (x-g*val v) u (e+2)) (off:=off) (i:=e+2) (by rw[hml]; omega) (by omega)
 have hss:=bV (W:=W) (X:=yT (x-g*val v) u (e+2)) (off:=off) (i:=e+2) (d:=(x-g*val v)/B^(e+2)%B) (by rw[hml]; omega) (by omega)
 rw[hmx] at hss
 rw[hmg] at hsg
 obtain ⟨d,hd⟩:∃ d,(x-g*val v)/B^(e+2)%B=d:=⟨_,rfl⟩
 rw[hd] at hss hsd
 rw[show e+2+1=e+3 from rfl] at hbs
 have hA:off+(e+2)<(seg W off (yT (x-g*val v) u (e+2))).length:=by omega
 have hset:(zH (seg W off (yT (x-g*val v) u (e+2)))).set (off+(e+2)) [uv d]=zH (seg W off (zo (e+3) (x-g*val v))):=by rw[xg,hss]
 have hg0:bor x (g*val v) (e+3)=1→0<g:=fun h1=>by
  rcases Nat.eq_zero_or_pos g with h0 | h0
  ·exfalso
   rw[h0,Nat.zero_mul] at h1
   simp[bor] at h1
  ·exact h0
 generalize cK g v (e+2)=c at *
 generalize bor x (g*val v) (e+2)=b0 at *
 generalize hb2:bor x (g*val v) (e+3)=b2 at *
 generalize huk2:u[e+2]=uk at *
 clear hd
 have e1:((e:Int)+2).toNat=e+2:=by omega
 have e2:(0:Int)≤(e:Int)+2:=by omega
 have e3:(e:Int)+2<(e:Int)+3:=by omega
 rw[yc] at hukB hcB
 have u6:IntKind.u64.wrap (uk:Int)=uk:=w64 (by omega)
 have u7:=Cw ((uk:Int)-(c:Int)) (b0:Int)
 have u8:=Sz ((uk:Int)-(c:Int)-(b0:Int))
 have hsd':((d:Nat):Int)=((uk:Int)-(c:Int)-(b0:Int))%4294967296:=hsd
 rw[← hsd'] at u8
 have u9:=Sw (u:=(uk:Int)-(c:Int)-(b0:Int)) (by omega) (by omega)
 have u10:(if (uk:Int)-(c:Int)-(b0:Int)<0 then (1:Int) else 0)=(b2:Int):=by
  rw[hbs]; split<;>split<;>omega
 rw[u10] at u9
 have hgB:=hg
 rw[yc] at hgB
 have u11:IntKind.u32.wrap (g:Int)=(g:Int):=IntWalk.u32_in _ (by omega)
 have hb2v:b2=0∨b2=1:=by rw[hbs]; split<;>simp
 rcases hb2v with h0 | h0
 ·subst h0
  simp[uD,e1,e2,e3,hA,hsg,u6,u7,u8,u9,u11,xw,splice,hset]
  exact hK0 rfl
 ·subst h0
  obtain ⟨hgp,hfin⟩:=hK1 rfl
  simp[uD,e1,e2,e3,hA,hsg,u6,u7,u8,u9,xw,splice,hset]
  refine MG (m:=m) (σ:=σ) (out:=out) (b:=b) (j:=j) (g:=g) h (yz (n:=e+3) (x:=x-g*val v)) zw ?_ ?_
  ·simp[ZT,d8,Zi]
  ·refine xN (fun ex s hs=>?_) (FO h (yz (n:=e+3) (x:=x-g*val v)) zw hgp hg)
   rw[yk hZ] at hs
   obtain ⟨rfl,rfl⟩:=hs
   exact hfin
theorem Ta (hj:lk σ j=some (.arr 1 (zH W))) {r y:AV} {q:Nat} (hq:q=69∨q=81) (hK0:bor x (g*val v) (e+3)=0→K .ret {env:=[(4,uv g)],sto:=pt σ j (.arr 1 (zH (seg W off (zo (e+3) (x-g*val v))))),out:=out,base:=b})
  (hK1:bor x (g*val v) (e+3)=1→0<g∧K .ret {env:=[(4,uv (g-1))],sto:=pt σ j (.arr 1 (zH (seg W off (zo (e+3) (x-g*val v+val v))))),out:=out,base:=b}) :
  awp Try.prog wQ {env:=[(0,.sl j 1 off (e+3)),(1,nl m v),(5,iv ((e:Int)+2)),(7,ye g),(8,r),(q,y)],sto:=σ,out:=out,base:=b} K:=by
 have hl:=MH (m:=m) (σ:=σ) (out:=out) (b:=b) (j:=j) h hg hx hT hZ hK0 hK1
 have hc0:cK g v 0=0:=by simp[cK,val]
 have hs:=DJ (W:=W) (off:=off) (n:=e+3) (by have:=h.hW; omega)
 rcases hq with rfl | rfl
 ·simp[wQ]
  refine Tb h hg hx hT ?_ hl
  simp[cC,d8,hs,hc0,gW]
  exact .inr (.inl (YQ hj))
 ·simp[wQ]
  refine Tb h hg hx hT ?_ hl
  simp[cC,d8,hs,hc0,gW]
  exact .inr (.inl (YQ hj))
end
theorem Fv {v:List Nat} {e:Nat} (h:v.length=e+2):val v=(v.getD (e+1) 0*B+v.getD e 0)*B^e+val (v.take e):=by
 have h1:=vw v e
 have h2:v.drop e=[v[e],v[e+1]]:=by
  rw[List.drop_eq_getElem_cons (by omega),List.drop_eq_getElem_cons (by omega),List.drop_of_length_le (by omega)]
 rw[Nat.min_eq_left (by omega),h2] at h1
 have q1:v.getD (e+1) 0=v[e+1]:=by simp[h]
 have q2:v.getD e 0=v[e]:=by simp[h]
 rw[h1,q1,q2]
 simp only[val,Nat.mul_zero,Nat.add_zero]
 grind
theorem Fw {u:List Nat} {e:Nat} (h:u.length=e+3):val u=((u.getD (e+2) 0*B+u.getD (e+1) 0)*B+u.getD e 0)*B^e+val (u.take e):=by
 have h1:=vw u e
 have h2:u.drop e=[u[e],u[e+1],u[e+2]]:=by
  rw[List.drop_eq_getElem_cons (by omega),List.drop_eq_getElem_cons (by omega),List.drop_eq_getElem_cons (by omega),List.drop_of_length_le (by omega)]
 rw[Nat.min_eq_left (by omega),h2] at h1
 have q0:u.getD (e+2) 0=u[e+2]:=by simp[h]
 have q1:u.getD (e+1) 0=u[e+1]:=by simp[h]
 have q2:u.getD e 0=u[e]:=by simp[h]
 rw[h1,q0,q1,q2]
 simp only[val,Nat.mul_zero,Nat.add_zero]
 grind
theorem abS {t v1 v2 u2 P Q R U V:Nat} (_hP:0<P) (hU:U=(t*B+u2)*P+R) (hV:V=(v1*B+v2)*P+Q) (hQ:Q<P) (hv2:v2<B) (hlt:U<V*B):t≤v1*B+(B-1):=by
 have a1:t*B*P≤U:=by
  rw[hU]
  have:t*B*P≤(t*B+u2)*P:=Nat.mul_le_mul_right _ (Nat.le_add_right _ _)
  exact Nat.le_trans this (Nat.le_add_right _ _)
 have a2:V≤(v1*B+B)*P:=by
  rw[hV]
  have h1:(v1*B+v2+1)*P≤(v1*B+B)*P:=Nat.mul_le_mul_right _ (by omega)
  rw[Nat.add_mul,Nat.one_mul] at h1
  exact Nat.le_trans (Nat.add_le_add_left (Nat.le_of_lt hQ) _) h1
 have a3:V*B≤(v1*B+B)*P*B:=Nat.mul_le_mul_right _ a2
 have a4:t*(P*B)<(v1*B+B)*(P*B):=by
  rw[← Nat.mul_assoc,← Nat.mul_assoc]
  rw[Nat.mul_assoc t,Nat.mul_comm B P,← Nat.mul_assoc] at a1
  exact Nat.lt_of_le_of_lt a1 (Nat.lt_of_lt_of_le hlt a3)
 have a5:=Nat.lt_of_mul_lt_mul_right a4
 have:=afK
 generalize v1*B=q at *
 omega
theorem BF {w v1:Nat}:gK w v1 0=w/v1:=Nat.sub_zero _
theorem Ap {w v1:Nat}:rK w v1 0=w%v1:=by unfold rK; rw[Nat.zero_mul,Nat.add_zero]
theorem XG {a c:Nat} (ha:a<B) (hc:c<B):a*B+c<18446744073709551616:=by
 have:(a+1)*B≤B*B:=Nat.mul_le_mul_right _ ha
 have hBB:B*B=18446744073709551616:=by decide
 rw[Nat.add_mul,hBB,Nat.one_mul] at this
 exact Nat.lt_of_lt_of_le (Nat.add_lt_add_left hc _) this
theorem Ed {z n:Nat}:zo n (z+B^n)=zo n z:=Tc
theorem Bt {m:Am.Mode} {W v:List Nat} {σ:List (Nat × zb)} {out:List (List (Nat × AV))} {b j off e g U Q R:Nat} {K:Exit→St→Prop} (h:gO W v off e) (hg:g<B) (hj:lk σ j=some (.arr 1 (zH W)))
  {r y:AV} {q:Nat} (hq:q=69∨q=81) (hx:∀ k,k<e+3→U/B^k%B=W.getD (off+k) 0) (hUN:U<B^(e+3)) (hTN:g*val v<B^(e+3)) (hmod:val v*Q+R=U) (hR:R<val v) (hc:Q≤g∧g≤Q+1)
  (hK:∀ ex s,ex=.ret→s={env:=[(4,uv Q)],sto:=pt σ j (.arr 1 (zH (seg W off (zo (e+3) R)))),out:=out,base:=b}→K ex s) :
  awp Try.prog wQ {env:=[(0,.sl j 1 off (e+3)),(1,nl m v),(5,iv ((e:Int)+2)),(7,ye g),(8,r),(q,y)],sto:=σ,out:=out,base:=b} K:=by
 rcases Nat.lt_or_ge U (g*val v) with hlt | hle
 ·have hgQ:g=Q+1:=by
   rcases Nat.lt_or_ge Q g with h1 | h1
   ·omega
   ·exfalso
    have:g*val v≤Q*val v:=Nat.mul_le_mul_right _ h1
    rw[Nat.mul_comm] at hmod
    omega
  subst hgQ
  have hz:U+B^(e+3)-(Q+1)*val v+val v=R+B^(e+3):=by
   rw[Nat.add_mul,Nat.one_mul] at *
   rw[Nat.mul_comm] at hmod
   omega
  refine Ta (x:=U+B^(e+3)) h hg (fun k hk=>?_) (by omega) (by omega) hj hq (fun h0=>?_) (fun _=>⟨by omega,?_⟩)
  ·rw[KQ hk]; exact hx k hk
  ·exfalso
   simp only[bor,Nat.add_mod_right,Nat.mod_eq_of_lt hUN,Nat.mod_eq_of_lt hTN,if_pos hlt] at h0
   exact absurd h0 (by decide)
  ·refine hK _ _ rfl ?_
   rw[hz,Ed,Nat.add_sub_cancel]
 ·have hgQ:g=Q:=by
   rcases Nat.lt_or_ge Q g with h1 | h1
   ·exfalso
    have:(Q+1)*val v≤g*val v:=Nat.mul_le_mul_right _ h1
    rw[Nat.add_mul,Nat.one_mul] at this
    rw[Nat.mul_comm] at hmod
    omega
   ·omega
  subst hgQ
  have hz:U-g*val v=R:=by
   rw[Nat.mul_comm] at hmod
   omega
  refine Ta (x:=U) h hg hx hle (by omega) hj hq (fun _=>?_) (fun h1=>?_)
  ·exact hK _ _ rfl (by rw[hz])
  ·exfalso
   simp only[bor,Nat.mod_eq_of_lt hUN,Nat.mod_eq_of_lt hTN,if_neg (Nat.not_lt.mpr hle)] at h1
   exact absurd h1 (by decide)
theorem aaT {m:Am.Mode} {W v:List Nat} {s:St} {K:AV→St→Prop} (b:Nat) {j off e U:Nat} (h:gO W v off e) (hj:lk s.sto j=some (.arr 1 (zH W)))
  (h1:0<v.getD (e+1) 0) (hU:U=val ((W.drop off).take (e+3))) (hlt:U<val v*B)
  (hK:K (uv (U/val v)) ⟨s.env,pt s.sto j (.arr 1 (zH (seg W off (zo (e+3) (U%val v))))),s.out,s.base⟩):afN Try.prog dr [.sl j 1 off (e+3),nl m v] s K:=by
 obtain ⟨env,σ,out,base⟩:=s
 simp only at hj hK
 have hvl:=h.hv
 have hWl:=h.hW
 have hsm:=h.small
 have hul:((W.drop off).take (e+3)).length=e+3:=by simp; omega
 have hug:∀ k,k<e+3→((W.drop off).take (e+3)).getD k 0=W.getD (off+k) 0:=fun k hk=>by
  simp[List.getD,hk]
 have hvV:=Fv hvl
 have huU:=Fw hul
 rw[← hU,hug _ (by omega),hug _ (by omega),hug _ (by omega)] at huU
 have okv2:ok ((W.drop off).take (e+3)):=vY (Um h.okW off) _
 have hv2:v.getD e 0<B:=vA h.okv _
 have hu2:W.getD (off+e) 0<B:=vA h.okW _
 have hQ:val (v.take e)<B^e:=y5 (vY h.okv e) (by simp; omega)
 have hR:val (((W.drop off).take (e+3)).take e)<B^e:=y5 (vY okv2 e) (by simp; omega)
 have hclose:=Lr (w:=tT W off e) h1 hu2 hv2 huU hR hvV hQ hlt
 have hw:tT W off e≤v.getD (e+1) 0*B+(B-1):=by
  exact abS (Nat.pow_pos afK) huU hvV hQ hv2 hlt
 have hv1:e+1<v.length:=by omega
 have hWa:off+(e+2)<W.length:=by omega
 have hWb:off+(e+1)<W.length:=by omega
 refine xL b Fg (by simp) ?_
 have p1:v.getD (e+1) 0=v[e+1]:=by simp[hv1]
 have p2:W.getD (off+(e+2)) 0=W[off+(e+2)]:=by simp[hWa]
 have p3:W.getD (off+(e+1)) 0=W[off+(e+1)]:=by simp[hWb]
 have b1:v[e+1]<B:=xz h.okv hv1
 have b2:W[off+(e+2)]<B:=xz h.okW hWa
 have b3:W[off+(e+1)]<B:=xz h.okW hWb
 have hsh:=Sv b2
 have hwe:tT W off e=W[off+(e+2)]*B+W[off+(e+1)]:=by rw[tT,p2,p3]
 have hor:uw .or .u64 ((W[off+(e+2)]*B:Nat):Int) (W[off+(e+1)]:Int)=((tT W off e:Nat):Int):=by rw[hwe]; exact or_hi b2 b3
 have hwB:tT W off e<18446744073709551616:=by rw[hwe]; exact XG b2 b3
 have fin:∀ K2:Exit→St→Prop,(∀ ex s,ex=.ret→s={env:=[(4,uv (U/val v))],sto:=pt σ j (.arr 1 (zH (seg W off (zo (e+3) (U%val v))))),out:=env::out,base:=b}→K2 ex s) →
   awp Try.prog (.loop wl) (cB m W v σ (env::out) b j off e 0) (wN 0 (sP Try.prog wQ K2)):=by
  intro K2 hK2
  have hw3:∀ k,k<e+3→U/B^k%B=W.getD (off+k) 0:=fun k hk=>by
   have hd:=dM okv2
   rw[hul,← hU] at hd
   have h2:k<(zo (e+3) U).length:=by rw[zw]; exact hk
   rw[← wR h2,← hug k hk,← hd]
   simp[List.getD,h2]
  have hUN:U<B^(e+3):=by rw[hU]; exact y5 okv2 (Nat.le_of_eq hul)
  have hVpos:0<val v:=by
   have hpp:=Nat.pow_pos (n:=e) afK
   rw[hvV]
   exact Nat.lt_of_lt_of_le (Nat.mul_pos (Nat.lt_of_lt_of_le (Nat.mul_pos h1 afK) (Nat.le_add_right _ _)) hpp) (Nat.le_add_right _ _)
  have hgB:pL (tT W off e) (W.getD (off+e) 0) (v.getD (e+1) 0) (v.getD e 0)<B:=Nat.lt_of_le_of_lt (Nat.min_le_left _ _) (by decide)
  refine Pj h hj h1 hw _ rfl fun r q y hq=>?_
  generalize pL (tT W off e) (W.getD (off+e) 0) (v.getD (e+1) 0) (v.getD e 0)=g at *
  have hmod:val v*(U/val v)+U%val v=U:=Nat.div_add_mod U (val v)
  have hml:=Nat.mod_lt U hVpos
  have hVN:val v<B^(e+2):=y5 h.okv (Nat.le_of_eq hvl)
  have hTN:g*val v<B^(e+3):=by
   rw[show e+3=(e+2)+1 from rfl,Nat.pow_succ,Nat.mul_comm]
   exact Nat.mul_lt_mul_of_lt_of_lt hVN hgB
  exact Bt h hgB hj hq hw3 hUN hTN hmod hml hclose hK2
 have st0:cB m W v σ (env::out) b j off e 0={env:=[(0,.sl j 1 off (e+3)),(1,nl m v),(5,iv ((e:Int)+2)),(7,ye (tT W off e/v.getD (e+1) 0)),(8,ye (tT W off e%v.getD (e+1) 0))],sto:=σ,out:=env::out,base:=b}:=by
  rw[cB,BF,Ap]
 rw[st0] at fin
 clear hwe
 clear st0 hclose hw huU hvV
 obtain ⟨rb,hrb⟩:∃ rb,W[off+(e+2)]*B=rb:=⟨_,rfl⟩
 rw[hrb] at hor hsh
 generalize tT W off e=w at *
 rw[p1] at fin h1
 generalize g1:v[e+1]=v1 at *
 generalize g2:W[off+(e+2)]=w3 at *
 generalize g3:W[off+(e+1)]=w2 at *
 have t1:IntKind.u64.wrap ((w:Int).tdiv v1)=((w/v1:Nat):Int):=by
  rw[← Int.ofNat_tdiv]
  exact w64 (Nat.lt_of_le_of_lt (Nat.div_le_self _ _) hwB)
 have t2:((w:Int).tmod v1)=((w%v1:Nat):Int):=by rw[← Int.ofNat_tmod]
 have t3:IntKind.u64.wrap ((w:Int)/v1)=((w/v1:Nat):Int):=by
  rw[← Int.natCast_ediv]
  exact w64 (Nat.lt_of_le_of_lt (Nat.div_le_self _ _) hwB)
 generalize w/v1=q at *
 generalize w%v1=r at *
 have hv10:¬ v1=0:=by omega
 have c0:(e:Int)+2<(e:Int)+3:=by omega
 have c1:((e:Int)+2).toNat=e+2:=by omega
 have c2:((e:Int)+1).toNat=e+1:=by omega
 have c3:(0:Int)≤(e:Int)+2:=by omega
 have c4:(0:Int)≤(e:Int)+1:=by omega
 have c5:(e:Int)+1<(e:Int)+3:=by omega
 have i5:IntKind.i64.wrap ((e:Int)+2-1)=(e:Int)+1:=by rw[wrap64]<;>omega
 have hlen:(v.length:Int)=(e:Int)+2:=by omega
 rw[yc] at b1 b2 b3
 have u1:IntKind.u64.wrap (v1:Int)=v1:=w64 (by omega)
 have u2:IntKind.u64.wrap (w3:Int)=w3:=w64 (by omega)
 have u3:IntKind.u64.wrap (w2:Int)=w2:=w64 (by omega)
 simp[U1,hj,g1,g2,g3,c0,c1,c2,c3,c4,c5,i5,hlen,u1,u2,u3,hWa,hWb,hv1,hv10,xO,hsh,hor,ue,sC,t2,t3]
 refine fin _ fun ex s he hs=>?_
 subst he hs
 simp[TB]
 exact hK
end Go.Proofs.Ytbgnkodhpbkdoaa

namespace Go.Dig
def lz (t:Nat):Nat:=31-Nat.log2 t
theorem Sp {t:Nat}:lz t<32:=by unfold lz; omega
theorem abf {t:Nat} (ht:t<B):Nat.log2 t<32:=by
 rcases Nat.eq_zero_or_pos t with h | h
 ·subst h; decide
 ·exact (Nat.log2_lt (by omega)).2 ht
theorem EO {t k:Nat} (_ht:t<B) (hk:k<lz t):t*2^k<2147483648:=by
 have h1:t<2^(Nat.log2 t+1):=Nat.lt_log2_self
 have h2:t*2^k<2^(Nat.log2 t+1)*2^k:=Nat.mul_lt_mul_of_pos_right h1 (Nat.pow_pos (by omega))
 rw[← Nat.pow_add] at h2
 have h3:2^(Nat.log2 t+1+k)≤2^31:=Nat.pow_le_pow_right (by omega) (by unfold lz at hk; omega)
 have h4:(2:Nat)^31=2147483648:=by decide
 omega
theorem RO {t:Nat} (h0:0<t) (ht:t<B):2147483648≤t*2^lz t∧t*2^lz t<B:=by
 have hl:=abf ht
 constructor
 ·have h1:2^Nat.log2 t≤t:=Nat.log2_self_le (by omega)
  have h2:2^Nat.log2 t*2^lz t≤t*2^lz t:=Nat.mul_le_mul_right _ h1
  rw[← Nat.pow_add,show Nat.log2 t+lz t=31 by unfold lz; omega] at h2
  have h4:(2:Nat)^31=2147483648:=by decide
  omega
 ·have h1:t<2^(Nat.log2 t+1):=Nat.lt_log2_self
  have h2:t*2^lz t<2^(Nat.log2 t+1)*2^lz t:=Nat.mul_lt_mul_of_pos_right h1 (Nat.pow_pos (by omega))
  rw[← Nat.pow_add,show Nat.log2 t+1+lz t=32 by unfold lz; omega] at h2
  exact h2
theorem Pk {x n:Nat} (h1:B^n≤x) (h2:x<B^(n+1)):(zf x).length=n+1:=by
 have a:=zJ.2 h2
 have b:=jX.2 h1
 omega
theorem jI {D n:Nat} (h:(zf D).length=n+1):B^n≤D∧D<B^(n+1)∧0<D/B^n∧D/B^n<B:=by
 have a:B^n≤D:=jX.1 (by omega)
 have b:D<B^(n+1):=zJ.1 (by omega)
 refine ⟨a,b,Nat.div_pos a (wT n),Nat.div_lt_of_lt_mul ?_⟩
 rw[← Nat.pow_succ]; exact b
theorem GA {D n N:Nat} (h:(zf D).length=n+1) (hN:N=lz (D/B^n)):B^n≤D*2^N∧D*2^N<B^(n+1)∧(zf (D*2^N)).length=n+1:=by
 obtain ⟨a,b,c,d⟩:=jI h
 have hl:=(RO c d).2
 rw[← hN] at hl
 have hN32:N<32:=by rw[hN]; exact Sp
 have hB:B=2^(32-N)*2^N:=by
  rw[← Nat.pow_add,Nat.sub_add_cancel (by omega)]; rfl
 have h1:D/B^n+1≤2^(32-N):=by
  have h0:=hl
  generalize D/B^n=t at *
  rw[hB] at h0
  exact Nat.lt_of_mul_lt_mul_right h0
 have h2:D<(D/B^n+1)*B^n:=by
  have:=Nat.lt_mul_div_succ D (wT n)
  rw[Nat.mul_comm] at this
  exact this
 have h3:D<2^(32-N)*B^n:=Nat.lt_of_lt_of_le h2 (Nat.mul_le_mul_right _ h1)
 have h4:D*2^N<2^(32-N)*B^n*2^N:=Nat.mul_lt_mul_of_pos_right h3 (Nat.pow_pos (by omega))
 have h5:2^(32-N)*B^n*2^N=B^(n+1):=by
  rw[Nat.mul_right_comm,← hB,Nat.pow_succ,Nat.mul_comm]
 have h6:B^n≤D*2^N:=Nat.le_trans a (Nat.le_mul_of_pos_right _ (Nat.pow_pos (by omega)))
 rw[h5] at h4
 exact ⟨h6,h4,Pk h6 h4⟩
def rst (A V j:Nat):Nat:=A/B^j%V*B^j+A%B^j
theorem Xe {A V j n:Nat} (hV:V<B^n) (h0:0<V):rst A V j<B^(j+n):=by
 have h1:A/B^j%V+1≤B^n:=Nat.le_trans (Nat.mod_lt _ h0) (Nat.le_of_lt hV)
 have h2:(A/B^j%V+1)*B^j≤B^n*B^j:=Nat.mul_le_mul_right _ h1
 have h3:A%B^j<B^j:=Nat.mod_lt _ (wT j)
 have h4:B^(j+n)=B^n*B^j:=by rw[Nat.pow_add,Nat.mul_comm]
 unfold rst
 rw[h4]
 rw[Nat.add_mul,Nat.one_mul] at h2
 omega
theorem DD {A V:Nat}:rst A V 0=A%V:=by simp[rst,Nat.mod_one]
theorem AF {A V j:Nat} (h:A/B^j<V):rst A V j=A:=by
 unfold rst
 rw[Nat.mod_eq_of_lt h,Nat.mul_comm]
 exact Nat.div_add_mod A (B^j)
theorem AD {A V j:Nat}:rst A V j%B^j=A%B^j:=by
 unfold rst
 rw[Nat.add_comm,Nat.add_mul_mod_self_right,Nat.mod_mod]
theorem AE {A V j:Nat}:rst A V (j+1)/B^j=A/B^j/B%V*B+A/B^j%B:=by
 unfold rst
 rw[show A/B^(j+1)=A/B^j/B by rw[Nat.pow_succ,Nat.div_div_eq_div_mul]]
 have h1:A%B^(j+1)=A%B^j+B^j*(A/B^j%B):=by rw[Nat.pow_succ,Nat.mod_mul]
 rw[h1,Nat.pow_succ]
 have h2:A/B^j/B%V*(B^j*B)+(A%B^j+B^j*(A/B^j%B))=A%B^j+(A/B^j/B%V*B+A/B^j%B)*B^j:=by grind
 rw[h2,Nat.add_mul_div_right _ _ (wT j),Nat.div_eq_of_lt (Nat.mod_lt _ (wT j)),Nat.zero_add]
theorem DC {A V j L n:Nat} (hV:V<B^n) (h0:0<V) (hL:j+n+1≤L):seg (zo L (rst A V (j+1))) j (zo (n+1) (A/B^j%V))=zo L (rst A V j):=by
 have hlen:j+(zo (n+1) (A/B^j%V)).length≤(zo L (rst A V (j+1))).length:=by rw[zw,zw]; omega
 have hlt1:=Xe (A:=A) (j:=j+1) hV h0
 have hlt0:=Xe (A:=A) (j:=j) hV h0
 have hle:B^(j+1+n)≤B^L:=Nat.pow_le_pow_right afK (by omega)
 have hle0:B^(j+n)≤B^L:=Nat.pow_le_pow_right afK (by omega)
 have hL1:rst A V (j+1)<B^L:=Nat.lt_of_lt_of_le hlt1 hle
 have o1:ok (zo L (rst A V (j+1))):=yz
 refine aa ?_ yz (by rw[lD hlen,zw,zw]) ?_
 ·unfold seg
  exact cd.2 ⟨cd.2 ⟨vY o1 _,yz⟩,Um o1 _⟩
 ·unfold seg
  rw[val_append,val_append,Q8 o1 (by rw[zw]; omega),Z4 o1 (by rw[zw,zw]; omega),yk hL1,yk (Nat.lt_of_lt_of_le hlt0 hle0)]
  have hz:rst A V (j+1)/B^(j+(zo (n+1) (A/B^j%V)).length)=0:=by
   rw[zw]
   exact Nat.div_eq_of_lt (by rw[show j+(n+1)=j+1+n by omega]; exact hlt1)
  have hl:(List.take j (zo L (rst A V (j+1)))).length=j:=by simp[zw]; omega
  have hx:A/B^j%V<B^(n+1):=Nat.lt_trans (Nat.lt_trans (Nat.mod_lt _ h0) hV) (Nat.pow_lt_pow_right (by decide) (by omega))
  rw[hz,hl,yk hx,Nat.mul_zero,Nat.add_zero]
  have h1:rst A V (j+1)%B^j=A%B^j:=by
   have h2:rst A V (j+1)%B^(j+1)%B^j=A%B^(j+1)%B^j:=by rw[AD]
   rw[Nat.mod_mod_of_dvd _ (Nat.pow_dvd_pow B (by omega)),Nat.mod_mod_of_dvd _ (Nat.pow_dvd_pow B (by omega))] at h2
   exact h2
  rw[h1]
  unfold rst
  rw[Nat.mul_comm,Nat.add_comm]
theorem Gt {A V j:Nat} (h0:0<V):(rst A V (j+1)/B^j)/V=A/V/B^j%B∧(rst A V (j+1)/B^j)%V=A/B^j%V∧rst A V (j+1)/B^j<V*B:=by
 obtain ⟨s1,s2,s3⟩:=Xn (A:=A/B^j) h0
 rw[AE]
 refine ⟨?_,s2,s3⟩
 rw[s1,Nat.div_div_eq_div_mul,Nat.div_div_eq_div_mul,Nat.mul_comm]
theorem GC {X N i:Nat} (hN:N<32):(X/2^N)/B^i%B=(X/B^i%B)/2^N+(X/B^(i+1)%B)*2^(32-N)%B ∧
  (X/B^i%B)/2^N ||| (X/B^(i+1)%B)*2^(32-N)%B=(X/B^i%B)/2^N+(X/B^(i+1)%B)*2^(32-N)%B:=by
 have hB:B=2^(32-N)*2^N:=by
  rw[← Nat.pow_add,Nat.sub_add_cancel (by omega)]; rfl
 have hP:0<2^N:=Nat.pow_pos (by omega)
 have hM:0<2^(32-N):=Nat.pow_pos (by omega)
 rw[show X/2^N/B^i=X/B^i/2^N by rw[Nat.div_div_eq_div_mul,Nat.div_div_eq_div_mul,Nat.mul_comm],show X/B^(i+1)=X/B^i/B by rw[Nat.pow_succ,Nat.div_div_eq_div_mul]]
 generalize X/B^i=Y
 have hx:Y%B/2^N<2^(32-N):=by
  apply Nat.div_lt_of_lt_mul
  rw[Nat.mul_comm,← hB]; exact Nat.mod_lt _ afK
 have hc:∀ q,q*2^(32-N)%B=(q%2^N)*2^(32-N):=fun q=>by
  have h:=Nat.mul_mod_mul_right (2^(32-N)) q (2^N)
  rw[Nat.mul_comm (2^N) (2^(32-N)),← hB] at h
  exact h
 have hY:Y/2^N=Y/B*2^(32-N)+Y%B/2^N:=by
  have h1:Y=Y%B+2^N*(Y/B*2^(32-N)):=by
   have h2:=Nat.mod_add_div Y B
   have h3:2^N*(Y/B*2^(32-N))=B*(Y/B):=by
    have:2^N*(Y/B*2^(32-N))=2^(32-N)*2^N*(Y/B):=by
     generalize Y/B=z
     generalize (2:Nat)^N=p
     generalize (2:Nat)^(32-N)=m
     grind
    rw[this,← hB]
   rw[h3]; exact h2.symm
  have h4:Y/2^N=(Y%B+2^N*(Y/B*2^(32-N)))/2^N:=by rw[← h1]
  rw[h4,Nat.add_mul_div_left _ _ hP,Nat.add_comm]
 have hd:2^N ∣ B:=⟨2^(32-N),by rw[hB,Nat.mul_comm]⟩
 rw[hY,hc (Y/B%B),Nat.mod_mod_of_dvd _ hd]
 generalize hq:Y/B%2^N=a
 have ha:a<2^N:=by rw[← hq]; exact Nat.mod_lt _ hP
 generalize Y%B/2^N=c at *
 have hlt:a*2^(32-N)+c<B:=by
  have h1:(a+1)*2^(32-N)≤2^N*2^(32-N):=Nat.mul_le_mul_right _ ha
  rw[Nat.mul_comm (2^N),← hB,Nat.add_mul,Nat.one_mul] at h1
  omega
 constructor
 ·have h2:=hc (Y/B)
  rw[hq] at h2
  rw[Nat.add_mod,h2,Nat.mod_eq_of_lt (a:=c) (by omega),Nat.mod_eq_of_lt hlt,Nat.add_comm]
 ·have h:=Nat.two_pow_add_eq_or_of_lt hx a
  rw[Nat.or_comm,Nat.mul_comm a,← h,Nat.add_comm]
structure Sa (A D n m N X V:Nat):Prop where
 N32:N<32
 X_eq:X=A*2^N
 V_eq:V=D*2^N
 Xlt:X<B^(n+2+m+1)
 Vlen:(zf V).length=n+2
 Vpos:0<V
 Vlt:V<B^(n+2)
 top:X/B^(m+1)<V
 q:X/V=A/D
 r:X%V=(A%D)*2^N
 vtop:0<(zf V).getD (n+1) 0
theorem aci {A D n m:Nat} (hA:(zf A).length=n+2+m) (hD:(zf D).length=n+2):Sa A D n m (lz (D/B^(n+1))) (A*2^lz (D/B^(n+1))) (D*2^lz (D/B^(n+1))):=by
 have hN32:lz (D/B^(n+1))<32:=Sp
 obtain ⟨h1,h2,h3⟩:=GA (n:=n+1) hD rfl
 obtain ⟨h4,h5,h6,h7⟩:=jI (n:=n+1) hD
 have hP:0<2^lz (D/B^(n+1)):=Nat.pow_pos (by omega)
 have hAlt:A<B^(n+2+m):=zJ.1 (Nat.le_of_eq hA)
 generalize lz (D/B^(n+1))=N at *
 obtain ⟨k1,k2,k3,k4⟩:=jI (n:=n+1) h3
 refine ⟨hN32,rfl,rfl,?_,h3,Nat.lt_of_lt_of_le (wT _) h1,h2,?_,Nat.mul_div_mul_right _ _ hP,Nat.mul_mod_mul_right _ _ _,?_⟩
 ·have:2^N≤B:=Nat.le_of_lt (kQ hN32)
  rw[Nat.pow_succ]
  exact Nat.lt_of_lt_of_le (Nat.mul_lt_mul_of_pos_right hAlt hP) (Nat.mul_le_mul_left _ this)
 ·apply Nat.div_lt_of_lt_mul
  have a1:A*2^N<B^(n+2+m)*2^N:=Nat.mul_lt_mul_of_pos_right hAlt hP
  have a2:B^(n+1)*2^N≤D*2^N:=Nat.mul_le_mul_right _ h4
  have a3:B^(m+1)*(B^(n+1)*2^N)≤B^(m+1)*(D*2^N):=Nat.mul_le_mul_left _ a2
  have a4:B^(n+2+m)=B^(m+1)*B^(n+1):=by rw[← Nat.pow_add]; congr 1; omega
  rw[a4,Nat.mul_assoc] at a1
  exact Nat.lt_of_lt_of_le a1 a3
 ·have hl:n+1<(zf (D*2^N)).length:=by rw[h3]; omega
  have:(zf (D*2^N)).getD (n+1) 0=D*2^N/B^(n+1):=by
   rw[List.getD_eq_getElem?_getD,List.getElem?_eq_getElem hl,Option.getD_some,qp,Nat.mod_eq_of_lt k4]
  rw[this]
  exact k3
theorem AG {A V j n L:Nat} (hV:V<B^n) (h0:0<V) (hL:j+n+1≤L):rst A V (j+1)/B^j=val (((zo L (rst A V (j+1))).drop j).take (n+1)):=by
 have o1:ok (zo L (rst A V (j+1))):=yz
 have hlt1:=Xe (A:=A) (j:=j+1) hV h0
 have hL1:rst A V (j+1)<B^L:=Nat.lt_of_lt_of_le hlt1 (Nat.pow_le_pow_right afK (by omega))
 have hlen:n+1≤((zo L (rst A V (j+1))).drop j).length:=by rw[List.length_drop,zw]; omega
 rw[Q8 (Um o1 _) hlen,Z4 o1 (by rw[zw]; omega),yk hL1,Nat.mod_eq_of_lt]
 apply Nat.div_lt_of_lt_mul
 rw[← Nat.pow_add,show j+(n+1)=j+1+n by omega]
 exact hlt1
end Go.Dig

namespace Go.Proofs.Ytbgnkodhpbkdoaa
open Go Go.Am Go.Dig
def bX (A D k:Nat):St:={env:=[(0,nD A),(1,nD D),(9,ye k)],sto:=[]}
abbrev fw (A D:Nat):AV:=AV.tuple [nD (A/D),nD (A%D),iv 0]
theorem Ry {x1 x2 x3 y1 y2 y3:AV} (h1:AV.imp x1 y1) (h2:AV.imp x2 y2) (h3:AV.imp x3 y3):AV.imp (.tuple [x1,x2,x3]) (.tuple [y1,y2,y3]):=fun I w v hv=>by
 cases hv with
 | tuple cells vs hs hc =>
  refine .tuple _ _ (by simpa using hs) fun i c hi=>?_
  match i,hi with
  | 0,hi=>simp at hi; subst hi; exact h1 _ _ _ (hc 0 x1 rfl)
  | 1,hi=>simp at hi; subst hi; exact h2 _ _ _ (hc 1 x2 rfl)
  | 2,hi=>simp at hi; subst hi; exact h3 _ _ _ (hc 2 x3 rfl)
  | i+3,hi=>simp at hi
theorem kI {f:FuncId} {x y y' r:AV} (h:zc Try.prog f [x,y'] r) (hy:AV.imp y y'):zc Try.prog f [x,y] r:=fun I vs w h1 h2 h3 =>
 h I vs w h1 h2 fun i a hi=>by
  match i,hi with
  | 0,hi=>exact h3 0 a hi
  | 1,hi=>simp at hi; subst hi; exact hy _ _ _ (h3 1 y rfl)
  | i+2,hi=>simp at hi
theorem tk {sz:Nat}:AV.imp (.list sz .full []) (nD 0):=by
 rw[nD,yt]
 exact AV.imp_nil rfl
theorem KT {m1 m2:Am.Mode} {a c:List Nat} (ha:ok a) (hc:ok c) (hna:a.length<549755813888) (hnc:c.length<549755813888) (f1:stm m1=m1) (f2:stm m2=m2) (hD:val c≠0)
  (hmain:∀ n m,(zf (val c)).length=n+2→(zf (val a)).length=n+2+m→val c≤val a →
   awp Try.prog (.loop tm) (bX (val a) (val c) 0) (wN 0 (sP Try.prog vX (eg ti (fw (val a) (val c)))))) :
  zc Try.prog s7 [nl m1 a,nl m2 c] (fw (val a) (val c)):=by
 have k1:=xb (m:=m1) ha (by omega)
 have k2:=xb (m:=m2) hc (by omega)
 have hla:=x9 ha
 have hlc:=x9 hc
 generalize val a=A at *
 generalize val c=D at *
 have kc:=ml (m1:=.plain) (m2:=.plain) (zq A) (zq D) (by omega) (by omega)
 rw[zL,zL] at kc
 have hl0:¬ (zf D).length=0:=by rw[List.length_eq_zero_iff,yH]; exact hD
 have hl0':¬ zf D=[]:=by rw[yH]; exact hD
 refine uN Kb (by simp) ?_
 simp[Yk]
 refine za k1 (by simp[f1]) (by simp) ?_
 simp
 refine za k2 (by simp[f2]) (by simp) ?_
 simp[hl0]
 refine za kc (by simp) (by simp) ?_
 by_cases hlt:A<D
 ·have hc1:yW A D=-1:=by simp[yW,hlt]
  simp[hc1]
  have ka:=jf (m1:=.plain) (m2:=.plain) (a:=zf A) (b:=[]) (zq A) R3 (by omega) (by simp)
  rw[zL] at ka
  refine za (kI ka (AV.imp_nil (sz:=0) rfl)) (by simp) (by simp) ?_
  simp[ti,val]
  rw[fw,Nat.div_eq_of_lt hlt,Nat.mod_eq_of_lt hlt]
  exact Ry tk AV.imp.refl AV.imp.refl
 ·have hc1:¬ yW A D<0:=by simp only[yW,if_neg hlt]; split<;>omega
  by_cases h1:(zf D).length=1
  ·have h1z:((zf D).length:Int)=1:=by omega
   have h10:0<(zf D).length:=by omega
   have hDB:D<B:=by
    have:=zJ.1 (Nat.le_of_eq h1)
    simpa using this
   have hg:(zf D)[0]=D:=by rw[qp]; simp[Nat.mod_eq_of_lt hDB]
   have ks:=PS (m:=.plain) (a:=zf A) (d:=D) (zq A) (by omega) (by omega) hDB rfl
   rw[zL] at ks
   have hm:A%D<D:=Nat.mod_lt _ (by omega)
   generalize hq:A%D=r at *
   rw[yc] at hDB
   have kf:=rp (x:=r) (by omega)
   have u1:IntKind.u64.wrap (r:Int)=r:=w64 (by omega)
   simp[hc1,h1z,h10,hg]
   refine za ks (by simp) (by simp) ?_
   simp[u1]
   refine za kf (by simp) (by simp) ?_
   simp[ti]
   rw[fw,hq]
   exact AV.imp.refl
  ·have h1z:¬ ((zf D).length:Int)=1:=by omega
   simp[hc1,h1z]
   obtain ⟨n,hn⟩:∃ n,(zf D).length=n+2:=⟨(zf D).length-2,by omega⟩
   have hle:(zf D).length≤(zf A).length:=by
    rcases Nat.lt_or_ge (zf A).length (zf D).length with h2 | h2
    ·exact absurd (jy h2) hlt
    ·exact h2
   obtain ⟨m,hm⟩:∃ m,(zf A).length=n+2+m:=⟨(zf A).length-(n+2),by omega⟩
   exact hmain n m hn hm (by omega)
theorem TY {m:Am.Mode} {a:List Nat} {bits:Nat} (ha:ok a) (hn:a.length<1099511627775) (hb:bits<32):zc Try.prog rO [nl m a,ye bits] (nl .plain (zo (a.length+1) (val a*2^bits))):=by
 refine uN a7 (by simp) ?_
 have w:IntKind.i64.wrap ((a.length:Int)+1)=(a.length:Int)+1:=wrap64 (by omega) (by omega)
 have e1:((a.length:Int)+1).toNat=a.length+1:=by omega
 simp[jR,w,eMk,e1]
 refine ⟨by omega,by omega,by omega,?_⟩
 refine zB (cI a m [] [] 0 bits) (fun _=>True) a.length (by simp[cI,Qw,YB]) trivial (fun i hi _=>?_) (fun _=>?_)
 ·have e:(i:Int)<a.length:=by omega
  have hpow:=kQ hb
  have hak:=xz ha hi
  have hL:=Xh (bits:=bits) (i:=i) ha
  have hLB:shL a bits i<B^(i+1):=by
   have:B^i*2^bits≤B^i*B:=Nat.mul_le_mul_left _ (by omega)
   rw[Nat.pow_succ]; omega
  have hc:shL a bits i/B^i<2^bits:=Nat.div_lt_of_lt_mul hL
  obtain ⟨o1,o2,o3,o4⟩:=JD (c:=shL a bits i/B^i) (a:=a[i]) hb hc hak
  have hsucc:=Qv (bits:=bits) hi
  have hL2:=Xh (bits:=bits) (i:=i+1) ha
  have hLN:shL a bits (i+1)<B^(a.length+1):=by
   have h1:B^(i+1)*2^bits≤B^(i+1)*B:=Nat.mul_le_mul_left _ (by omega)
   have h3:B^(i+1+1)=B^(i+1)*B:=Nat.pow_succ _ _
   have h2:B^(i+1+1)≤B^(a.length+1):=Nat.pow_le_pow_right afK (by omega)
   omega
  have htB:(shL a bits i/B^i+a[i]*2^bits)/B<B:=by
   rw[← o3]
   apply Nat.div_lt_of_lt_mul
   exact Nat.mul_lt_mul_of_lt_of_lt hak hpow
  have hstep:=Xi (N:=a.length+1) (i:=i) (t:=a[i]*2^bits) hLB (by omega) (by rw[← hsucc]; exact hLN) htB
  rw[← hsucc,← o2,← o3] at hstep
  have hlen:=zw (n:=a.length+1) (x:=shL a bits i)
  have hi1:i<(zo (a.length+1) (shL a bits i)).length:=by omega
  have hget:(zo (a.length+1) (shL a bits i))[i]=shL a bits i/B^i:=by
   rw[wR,Nat.mod_eq_of_lt (Nat.lt_trans hc hpow)]
  obtain ⟨c,hcE⟩:∃ c,shL a bits i/B^i=c:=⟨_,rfl⟩
  obtain ⟨t,htE⟩:∃ t,a[i]*2^bits=t:=⟨_,rfl⟩
  have htlt:t<B*B:=by rw[← htE]; exact Nat.mul_lt_mul_of_lt_of_lt hak hpow
  rw[hcE,htE] at o1 o4 hstep
  rw[hcE] at hget hc
  obtain ⟨x,hxE⟩:∃ x,t%B=x:=⟨_,rfl⟩
  obtain ⟨q,hqE⟩:∃ q,t/B=q:=⟨_,rfl⟩
  rw[hxE] at o1 o4 hstep
  rw[hqE] at hstep
  have hxB:x<B:=by rw[← hxE]; exact Nat.mod_lt _ afK
  have hqB:q<B:=by rw[← hqE]; exact Nat.div_lt_of_lt_mul htlt
  have hor:=Dg (c:=c) (x:=x) (by omega) hxB (by rw[o1]; exact o4)
  rw[o1] at hor
  obtain ⟨y,hyE⟩:∃ y,c+x=y:=⟨_,rfl⟩
  rw[hyE] at hor hstep
  have hBB:B*B=18446744073709551616:=by decide
  rw[hBB] at htlt
  have f1:IntKind.u32.wrap (t:Int)=(x:Int):=by rw[w32,hxE]
  have f2:(t:Int).fdiv (2^min 32 IntKind.u64.bits)=(q:Int):=by rw[ey,hqE]
  have f3:IntKind.u32.wrap (q:Int)=q:=IntWalk.u32_in _ (by rw[yc] at hqB; omega)
  have u1:IntKind.u64.wrap ((a[i]:Nat):Int)=(a[i]:Nat):=w64 (by rw[yc] at hak; omega)
  have hmin:min bits IntKind.u64.bits=bits:=by
   have:IntKind.u64.bits=64:=rfl
   omega
  have u2:IntKind.u64.wrap (((a[i]:Nat):Int)*2^bits)=(t:Int):=by
   rw[show ((a[i]:Nat):Int)*2^bits=((a[i]*2^bits:Nat):Int) by simp,htE]; exact w64 htlt
  have hset:((zH (zo (a.length+1) (shL a bits i))).set i [uv y]).set (i+1) [uv q]=zH (zo (a.length+1) (shL a bits (i+1))):=by
   rw[xg,xg,hstep]
  have wi:IntKind.i64.wrap ((i:Int)+1)=(i:Int)+1:=wrap64 (by omega) (by omega)
  have ei1:(i:Int)<a.length+1:=by omega
  have e2:((i:Int)+1).toNat=i+1:=by omega
  have e3:(0:Int)≤(i:Int)+1:=by omega
  have hi2:i+1<(zo (a.length+1) (shL a bits i)).length:=by omega
  have hnb:¬ ((bits:Int)<0):=by omega
  simp[uE,cI,e,hi,hi1,hi2,ei1,e2,e3,hget,hor,u1,xO,xw,hmin,u2,f1,f2,f3,wi,splice,hset]
 ·have:zo (a.length+1) (shL a bits a.length)=zo (a.length+1) (val a*2^bits):=by rw[Ml]
  have hlt:(zo (a.length+1) (val a*2^bits)).length=a.length+1:=zw
  have ht:List.take (a.length+1) (zH (zo (a.length+1) (val a*2^bits)))=zH (zo (a.length+1) (val a*2^bits)):=List.take_of_length_le (by rw[List.length_map,hlt]; exact Nat.le_refl _)
  simp[uE,cI,nd,j4,this,hlt,ht]
  exact AV.imp.refl
theorem BP {t:Nat} (h0:0<t) (ht:t<B):∃ p,t*2^lz t=p∧2147483648≤p∧p<4294967296:=⟨_,rfl,(RO h0 ht).1,(RO h0 ht).2⟩
theorem Ee {A D n _m:Nat} {K:Exit→St→Prop} (hD:(zf D).length=n+2) (hn:n<549755813888)
  (hK:∀ q y,(q=53)→awp Try.prog vX {env:=[(0,nD A),(1,nD D),(9,ye (lz (D/B^(n+1)))),(q,y)],sto:=[]} K) :
  awp Try.prog (.loop tm) (bX A D 0) (wN 0 (sP Try.prog vX K)):=by
 obtain ⟨_,_,ht0,htB⟩:True∧True∧0<D/B^(n+1)∧D/B^(n+1)<B:=⟨trivial,trivial,(jI (n:=n+1) hD).2.2⟩
 have hg:(zf D)[n+1]'(by omega)=D/B^(n+1):=by rw[qp,Nat.mod_eq_of_lt htB]
 have hlen:((zf D).length:Int)=(n:Int)+2:=by omega
 have w0:IntKind.i64.wrap ((n:Int)+2-1)=(n:Int)+1:=by rw[wrap64]<;>omega
 have e1:((n:Int)+1).toNat=n+1:=by omega
 have e2:(0:Int)≤(n:Int)+1:=by omega
 have e3:n+1<(zf D).length:=by omega
 generalize D/B^(n+1)=t at *
 refine zB (bX A D) (fun _=>True) (lz t) (by simp[bX]) trivial (fun k hk _=>?_) (fun _=>?_)
 ·have hs:=EO htB hk
  have h32:=Sp (t:=t)
  obtain ⟨p,hp⟩:∃ p,t*2^k=p:=⟨_,rfl⟩
  rw[hp] at hs
  have hmin:min k IntKind.u32.bits=k:=by
   have:IntKind.u32.bits=32:=rfl
   omega
  have u1:IntKind.u32.wrap ((t:Int)*2^k)=(p:Int):=by
   rw[show (t:Int)*2^k=((t*2^k:Nat):Int) by simp,hp]; exact IntWalk.u32_in _ (by omega)
  have u2:IntKind.u64.wrap ((k:Int)+1)=(k:Int)+1:=vm (by omega) (by omega)
  have c1:(p:Int)<2147483648:=by omega
  have c2:¬ ((k:Int)<0):=by omega
  simp[tm,bX,hlen,w0,e1,e2,e3,hg,xO,hmin,u1,u2,c1,c2]
 ·have h32:=Sp (t:=t)
  obtain ⟨p,hp,h1,h2⟩:=BP ht0 htB
  have hk0:=hK _ (bv false) rfl
  clear hK
  generalize lz t=k at *
  have hmin:min k IntKind.u32.bits=k:=by
   have:IntKind.u32.bits=32:=rfl
   omega
  have u1:IntKind.u32.wrap ((t:Int)*2^k)=(p:Int):=by
   rw[show (t:Int)*2^k=((t*2^k:Nat):Int) by simp,hp]; exact IntWalk.u32_in _ (by omega)
  have c1:¬ (p:Int)<2147483648:=by omega
  have c3:¬ p<2147483648:=by omega
  have c2:¬ ((k:Int)<0):=by omega
  simp[tm,bX,hlen,w0,e1,e2,e3,hg]
  rw[xO c2,Int.toNat_natCast,hmin,u1]
  generalize (p:Int)=z at *
  simp[c1]
  exact hk0
def rC (A D n m N X V k:Nat):St :=
 {env:=[(4,.sl 72 1 0 (m+1)),(9,ye N),(10,.sl 1011 1 0 (n+2+m+1)),(11,nD V),(12,iv ((n:Int)+2)),(13,iv m),(74,iv ((m:Int)+1)),(75,iv k)],
  sto:=[(72,.arr 1 (zH (wV (m+1) (A/D) k))),(1011,.arr 1 (zH (zo (n+2+m+1) (rst X V (m+1-k)))))]}
theorem Bv {A D n m N X V:Nat} {K:Exit→St→Prop} (hA:(zf A).length=n+2+m) (hD:(zf D).length=n+2) (hn:n+m<274877906944) {y:AV} (h:Sa A D n m N X V)
  (hK:∀ s,nw s (rC A D n m N X V 0)→awp Try.prog (.loop tp) s (wN 2 (sP Try.prog vW K))) :
  awp Try.prog vX {env:=[(0,nD A),(1,nD D),(9,ye N),(53,y)],sto:=[]} K:=by
 have hN32:=h.N32
 have kt:=xb (m:=.plain) (a:=zo (n+2+1) V) yz (by rw[zw]; omega)
 have hVlt:V<B^(n+2+1):=Nat.lt_trans h.Vlt (Nat.pow_lt_pow_right (by decide) (by omega))
 rw[yk hVlt] at kt
 have hVl:=h.Vlen
 have w1:IntKind.i64.wrap ((n:Int)+2+m-(n+2))=(m:Int):=by rw[wrap64]<;>omega
 have w2:IntKind.i64.wrap ((m:Int)+1)=(m:Int)+1:=by rw[wrap64]<;>omega
 have e1:((m:Int)+1).toNat=m+1:=by omega
 have e2:(zo (n+2+1) V).length=n+2+1:=zw
 have e3:(zH (zo (n+2+1) V)).length=n+2+1:=by rw[List.length_map,e2]
 simp[vX]
 refine ⟨rfl,?_⟩
 refine DN 1000 (zq A) (by omega) hN32 (by simp) ?_
 simp
 have ks:=TY (m:=.plain) (bits:=N) (zq D) (by omega) hN32
 rw[zL,← h.V_eq,hD] at ks
 refine za ks (by simp) (by simp) ?_
 simp
 refine za kt (by simp) (by simp) ?_
 simp[hVl,hA,hD,w1,w2,eMk,e1]
 refine ⟨by omega,by omega,by omega,?_⟩
 rw[zL,← h.X_eq]
 have hz:rst X V (m+1)=X:=AF h.top
 refine hK _ ?_
 simp[rC,hz,aZ,sS]
theorem Eg {A D n m N X V:Nat} {K:Exit→St→Prop} (hn:n+m<274877906944) (h:Sa A D n m N X V)
  (hK:∀ q y,q=76→awp Try.prog vW {(rC A D n m N X V (m+1)) with env:=(rC A D n m N X V (m+1)).env++[(q,y)]} K) :
  ∀ s,nw s (rC A D n m N X V 0)→awp Try.prog (.loop tp) s (wN 2 (sP Try.prog vW K)):=by
 intro s hs
 refine zB (rC A D n m N X V) (fun _=>True) (m+1) hs trivial (fun k hk _=>?_) (fun _=>?_)
 ·obtain ⟨j,hj⟩:∃ j,m-k=j:=⟨_,rfl⟩
  have hj1:m+1-k=j+1:=by omega
  have hj2:m+1-(k+1)=j:=by omega
  have hj3:m+1-1-k=j:=by omega
  have hlt:=Xe (A:=X) (j:=j+1) h.Vlt h.Vpos
  obtain ⟨d1,d2,d3⟩:=Gt (A:=X) (j:=j) h.Vpos
  have hstep:=DC (A:=X) (V:=V) (j:=j) (L:=n+2+m+1) h.Vlt h.Vpos (by omega)
  have hval:=AG (A:=X) (V:=V) (j:=j) (n:=n+2) (L:=n+2+m+1) h.Vlt h.Vpos (by omega)
  have hset:=Xm (n:=m+1) (D:=A/D) (i:=k) hk
  rw[hj3] at hset
  rw[h.q] at d1
  have hql:=Xl (D:=A/D) (show k≤m+1 by omega)
  have hVl:=h.Vlen
  have e:(k:Int)<(m:Int)+1:=by omega
  have w1:IntKind.i64.wrap ((m:Int)-k)=(j:Int):=by rw[wrap64]<;>omega
  have w2:IntKind.i64.wrap ((j:Int)+(n+2))=(j:Int)+(n+2):=by rw[wrap64]<;>omega
  have w3:IntKind.i64.wrap ((j:Int)+(n+2)+1)=(j:Int)+(n+2)+1:=by rw[wrap64]<;>omega
  have w4:IntKind.i64.wrap ((k:Int)+1)=(k:Int)+1:=by rw[wrap64]<;>omega
  have w5:((j:Int)+(n+2)+1).toNat-j=n+3:=by omega
  have ok:gO (zo (n+2+m+1) (rst X V (j+1))) (zf V) j n:=⟨yz,zq _,hVl,by rw[zw]; omega,by rw[zw]; omega⟩
  simp[tp,rC,e,w1,w2,w3,hj1,w5]
  refine ⟨by omega,by omega,rfl,?_⟩
  refine aaT 3000 ok (by simp) h.vtop hval (by rw[zL]; exact d3) ?_
  have w6:j<(wV (m+1) (A/D) k).length:=by omega
  have w7:(j:Int)<(m:Int)+1:=by omega
  simp only[zL,d1,d2,hstep]
  generalize hd:A/D/B^j%B=d at *
  have hset':(zH (wV (m+1) (A/D) k)).set j [uv d]=zH (wV (m+1) (A/D) (k+1)):=by rw[xg,hset]
  simp[w6,w7,splice,hset',w4,hj2,rC]
 ·simp[tp,rC]
  have:=hK _ (bv false) rfl
  simp[rC] at this
  exact this
def bY (Q R n m N Y k:Nat):St :=
 {env:=[(4,.sl 72 1 0 (m+1)),(5,.sl 99 1 0 (n+2)),(9,ye N),(10,.sl 1011 1 0 (n+2+m+1)),(100,iv ((n:Int)+2)),(101,iv k)],
  sto:=[(72,.arr 1 (zH (zo (m+1) Q))),(1011,.arr 1 (zH (zo (n+2+m+1) Y))),(99,.arr 1 (zH (wo (n+2) k R)))]}
theorem KR {R N i:Nat} (hN:N<32):∃ a c d,R*2^N/B^i%B/2^N=a∧(R*2^N/B^(i+1)%B)*2^(32-N)%B=c∧R/B^i%B=d∧a ||| c=d∧a<B∧c<B∧d<B∧(N=0→a=d):=by
 obtain ⟨h1,h2⟩:=GC (X:=R*2^N) (i:=i) hN
 have hP:0<2^N:=Nat.pow_pos (by omega)
 rw[Nat.mul_div_cancel _ hP] at h1
 refine ⟨_,_,_,rfl,rfl,rfl,by rw[h2,← h1],Nat.lt_of_le_of_lt (Nat.div_le_self _ _) (Nat.mod_lt _ afK),Nat.mod_lt _ afK,Nat.mod_lt _ afK,fun h0=>?_⟩
 subst h0
 rw[Nat.pow_zero,Nat.mul_one,Nat.div_one]
theorem acy {a c d:Nat} (ha:a<B) (hc:c<B) (h:a ||| c=d) (hd:d<B):uw .or .u32 (a:Int) (c:Int)=(d:Int):=by
 have:=Dg (c:=a) (x:=c) ha hc (by rw[h]; exact hd)
 rw[h] at this
 exact this
theorem Bu {A D n m N X V:Nat} (hn:n+m<274877906944) (hD:(zf D).length=n+2) (h:Sa A D n m N X V) :
  ∀ q y,q=76→awp Try.prog vW {(rC A D n m N X V (m+1)) with env:=(rC A D n m N X V (m+1)).env++[(q,y)]} (eg ti (fw A D)):=by
 intro q y hq
 subst hq
 have hN:=h.N32
 have hY:rst X V 0=A%D*2^N:=by rw[DD,h.r]
 have hDlt:D<B^(n+2):=zJ.1 (Nat.le_of_eq hD)
 have hD0:0<D:=by
  rcases Nat.eq_zero_or_pos D with h0 | h0
  ·subst h0; simp[yt] at hD
  ·exact h0
 have hRlt:A%D<B^(n+2):=Nat.lt_trans (Nat.mod_lt _ hD0) hDlt
 have hQlt:A/D<B^(m+1):=by
  rw[← h.q]
  apply Nat.div_lt_of_lt_mul
  have h1:=Nat.lt_mul_div_succ X (wT (m+1))
  have h2:B^(m+1)*(X/B^(m+1)+1)≤B^(m+1)*V:=Nat.mul_le_mul_left _ h.top
  rw[Nat.mul_comm V]
  exact Nat.lt_of_lt_of_le h1 h2
 have w1:((n:Int)+2).toNat=n+2:=by omega
 have kq:=xb (m:=.plain) (a:=zo (m+1) (A/D)) yz (by rw[zw]; omega)
 have kr:=xb (m:=.plain) (a:=zo (n+2) (A%D)) yz (by rw[zw]; omega)
 rw[yk hQlt] at kq
 rw[yk hRlt] at kr
 have lp:∀ s,nw s (bY (A/D) (A%D) n m N (A%D*2^N) 0)→awp Try.prog (.loop tq) s (wN 4 (sP Try.prog mH (eg ti (fw A D)))):=by
  intro s hs
  refine zB (bY (A/D) (A%D) n m N (A%D*2^N)) (fun _=>True) (n+2) hs trivial (fun i hi _=>?_) (fun _=>?_)
  ·obtain ⟨a,c,d,h1,h2,h3,h4,h5,h6,h7,h8⟩:=KR (R:=A%D) (i:=i) hN
   have hL:=zw (n:=n+2+m+1) (x:=A%D*2^N)
   have i1:i<(zo (n+2+m+1) (A%D*2^N)).length:=by omega
   have i2:i+1<(zo (n+2+m+1) (A%D*2^N)).length:=by omega
   have g1:=wR i1
   have g2:=wR i2
   have hset:=jw (S:=A%D) hi
   rw[h3] at hset
   have hfl:=jv (n:=n+2) (k:=i) (S:=A%D) (by omega)
   have i3:i<(wo (n+2) i (A%D)).length:=by omega
   have hor:=acy h5 h6 h4 h7
   have hmin:min N IntKind.u32.bits=N:=by
    have:IntKind.u32.bits=32:=rfl
    omega
   have hmin2:min (32-N) IntKind.u32.bits=32-N:=by
    have:IntKind.u32.bits=32:=rfl
    omega
   have i4:i+1<n+2+m+1:=by omega
   have s1:∀ y0 a:Nat,y0/2^N=a→(y0:Int).fdiv (2^N)=(a:Int):=fun y0 a h=>by
    rw[show (2:Int)^N=((2^N:Nat):Int) by simp,← Int.ofNat_fdiv,h]
   have s2:∀ y1 c:Nat,y1*2^(32-N)%B=c→IntKind.u32.wrap ((y1:Int)*2^(32-N))=(c:Int):=fun y1 c h=>by
    rw[show (y1:Int)*2^(32-N)=((y1*2^(32-N):Nat):Int) by simp,w32,h]
   have s1':=s1 _ _ h1
   have s2':=s2 _ _ h2
   clear s1 s2 h1 h2
   rw[← g1] at s1'
   rw[← g2] at s2'
   clear g1 g2
   generalize A%D*2^N=Y at *
   generalize A%D=R at *
   generalize hy0:(zo (n+2+m+1) Y)[i]=y0 at *
   generalize hy1:(zo (n+2+m+1) Y)[i+1]=y1 at *
   have hset':(zH (wo (n+2) i R)).set i [uv d]=zH (wo (n+2) (i+1) R):=by rw[xg,hset]
   have e:(i:Int)<(n:Int)+2:=by omega
   have e2:(i:Int)<(n:Int)+2+m+1:=by omega
   have e3:(i:Int)+1<(n:Int)+2+m+1:=by omega
   have e4:((i:Int)+1).toNat=i+1:=by omega
   have e5:(0:Int)≤(i:Int)+1:=by omega
   have w2:IntKind.i64.wrap ((i:Int)+1)=(i:Int)+1:=by rw[wrap64]<;>omega
   have w3:IntKind.u64.wrap ((32:Int)-N)=32-N:=vm (by omega) (by omega)
   have w4:((32:Int)-N).toNat=32-N:=by omega
   have w5:¬ ((32:Int)-N<0):=by omega
   rcases Nat.eq_zero_or_pos N with hN0 | hN0
   ·have ha:=h8 hN0
    have hN1:¬ 0<N:=by omega
    subst ha
    simp[tq,bY,e,e2,hy0,i1,i3,xw,hmin,s1',hN1,splice,hset',w2]
   ·simp[tq,bY,e,e2,e3,e4,e5,hy0,hy1,i1,i2,i3,xw,xO,hmin,hmin2,s1',s2',hN0,splice,hset',w2,w3,w4,w5,hor]
  ·have l1:∀ k z,k≤(zo k z).length:=fun k z=>Nat.le_of_eq zw.symm
   have l2:∀ k z,List.take k (zH (zo k z))=zH (zo k z):=fun k z=>List.take_of_length_le (by rw[List.length_map,zw]; exact Nat.le_refl _)
   simp[tq,bY,dQ,mH,xf,uf,l1,l2]
   refine za kq (by simp) (by simp) ?_
   simp
   refine za kr (by simp) (by simp) ?_
   simp[ti]
   exact AV.imp.refl
 simp[vW,rC,Xk,hY,eMk,w1]
 refine ⟨by omega,by omega,by omega,?_⟩
 refine lp _ ?_
 simp[bY,m4,sS]
theorem kC {m1 m2:Am.Mode} {a c:List Nat} (ha:ok a) (hc:ok c) (hna:a.length<137438953472) (hnc:c.length<137438953472) (f1:stm m1=m1) (f2:stm m2=m2) (hD:val c≠0) :
  zc Try.prog s7 [nl m1 a,nl m2 c] (fw (val a) (val c)):=by
 refine KT ha hc (by omega) (by omega) f1 f2 hD fun n m h1 h2 hle=>?_
 have hla:=x9 ha
 have hn:n+m<274877906944:=by omega
 have h:=aci h2 h1
 exact Ee (_m:=m) h1 (by omega) fun q y hq=>by
  subst hq
  exact Bv h2 h1 hn h (Eg hn h (Bu hn h1 h))
def eu:Nat→Nat→Nat→Nat × Nat
 | a,b,0=>(a,b)
 | a,b,k+1=>eu b (a%b) k
theorem X5:∀ (k a b:Nat),eu a b (k+1)=((eu a b k).2,(eu a b k).1%(eu a b k).2)
 | 0,_,_=>rfl
 | k+1,a,b=>by rw[eu,X5 k b (a%b)]; rfl
theorem K5:∀ (b a:Nat),∃ N,(∀ k,k<N→(eu a b k).2≠0)∧eu a b N=(Nat.gcd a b,0):=by
 intro b
 induction b using Nat.strongRecOn with
 | ind b ih =>
  intro a
  rcases Nat.eq_zero_or_pos b with h | h
  ·subst h
   exact ⟨0,fun k hk=>absurd hk (Nat.not_lt_zero _),by rw[eu,Nat.gcd_zero_right]⟩
  ·obtain ⟨N,h1,h2⟩:=ih (a%b) (Nat.mod_lt _ h) b
   refine ⟨N+1,fun k hk=>?_,?_⟩
   ·match k with
    | 0=>exact Nat.ne_of_gt h
    | k+1=>exact h1 k (by omega)
   ·rw[eu,h2,Nat.gcd_comm b,← Nat.gcd_rec,Nat.gcd_comm]
theorem MO {M:Nat}:∀ (k a b:Nat),a<M→b<M→(eu a b k).1<M∧(eu a b k).2<M
 | 0,_,_,h1,h2=>⟨h1,h2⟩
 | k+1,a,b,h1,h2=>MO k b (a%b) h2 (Nat.lt_of_le_of_lt (Nat.mod_le _ _) h1)
def stG (p:Nat × Nat):St:={env:=[(0,nD p.1),(1,nD p.2)],sto:=[]}
theorem Tg {m1 m2:Am.Mode} {a c:List Nat} (ha:ok a) (hc:ok c) (hna:a.length<137438953472) (hnc:c.length<137438953472) (f1:stm m1=m1) (f2:stm m2=m2) :
  zc Try.prog cY [nl m1 a,nl m2 c] (nD (Nat.gcd (val a) (val c))):=by
 have k1:=jf (m1:=m1) (m2:=.plain) (b:=[]) ha R3 (by omega) (by simp)
 have k2:=jf (m1:=m2) (m2:=.plain) (b:=[]) hc R3 (by omega) (by simp)
 obtain ⟨N,h1,h2⟩:=K5 (val c) (val a)
 obtain ⟨L,hL⟩:∃ L,L=137438953471:=⟨_,rfl⟩
 have hL1:val a<B^L:=y5 ha (by omega)
 have hL2:val c<B^L:=y5 hc (by omega)
 have hb:=fun k=>MO k (val a) (val c) hL1 hL2
 generalize hM:B^L=M at *
 have hlen:∀ x,x<M→(zf x).length<137438953472:=fun x hx=>by
  rw[← hM] at hx
  exact Nat.lt_of_le_of_lt (zJ.2 hx) (by omega)
 clear hM
 have v0:val []=0:=rfl
 rw[v0,Nat.add_zero] at k1 k2
 generalize val a=A at *
 generalize val c=D at *
 refine zG aab (by simp) ?_
 simp[Nf]
 refine za (kI k1 (AV.imp_nil (sz:=0) rfl)) (by simp[f1]) (by simp) ?_
 simp
 refine za (kI k2 (AV.imp_nil (sz:=0) rfl)) (by simp[f2]) (by simp) ?_
 simp
 refine zB (fun k=>stG (eu A D k)) (fun _=>True) N (by simp[stG,eu]) trivial (fun k hk _=>?_) (fun _=>?_)
 ·have hne:=h1 k hk
  obtain ⟨b1,b2⟩:=hb k
  have b1':=hlen _ b1
  have b2':=hlen _ b2
  have hs:=X5 k A D
  obtain ⟨x,hx⟩:∃ x,(eu A D k).1=x:=⟨_,rfl⟩
  obtain ⟨y,hy⟩:∃ y,(eu A D k).2=y:=⟨_,rfl⟩
  rw[hx,hy] at hs
  rw[hx] at b1'
  rw[hy] at b2' hne
  have kd:=kC (m1:=.plain) (m2:=.plain) (zq x) (zq y) b1' b2' rfl rfl (by rw[zL]; exact hne)
  rw[zL,zL] at kd
  have hl0:0<(zf y).length:=by
   rcases Nat.eq_zero_or_pos (zf y).length with h | h
   ·rw[List.length_eq_zero_iff,yH] at h; exact absurd h hne
   ·exact h
  simp[gZ,stG,hl0,hx,hy]
  refine za kd (by simp) (by simp) ?_
  simp[hs]
 ·simp only[h2]
  simp[gZ,Yl,N5,stG,yt]
def xr (neg:Bool) (N D:Nat):AV:=.agg [bv (neg&&decide (N≠0)),nD (N/Nat.gcd N D),nD (D/Nat.gcd N D)]
theorem Rt {N D:Nat} (hD:D≠0):Nat.gcd N D≠0∧(N/Nat.gcd N D=0↔N=0)∧Nat.gcd N D≤D:=by
 have hg:0<Nat.gcd N D:=Nat.gcd_pos_of_pos_right _ (by omega)
 refine ⟨by omega,?_,Nat.gcd_le_right _ (by omega)⟩
 constructor
 ·intro h
  have:=Nat.div_mul_cancel (Nat.gcd_dvd_left N D)
  rw[h,Nat.zero_mul] at this
  exact this.symm
 ·intro h
  rw[h,Nat.zero_div]
theorem YY {neg:Bool} {N D:Nat} (hN:(zf N).length<68719476736) (hD:(zf D).length<68719476736) (h0:D≠0) :
  zc Try.prog gP [bv neg,nD N,nD D] (.tuple [xr neg N D,iv 0]):=by
 obtain ⟨g0,g1,g2⟩:=Rt (N:=N) h0
 have kg:=Tg (m1:=.plain) (m2:=.plain) (zq N) (zq D) (by omega) (by omega) rfl rfl
 rw[zL,zL] at kg
 have hgl:(zf (Nat.gcd N D)).length<68719476736:=by
  have h1:D<B^(zf D).length:=zJ.1 (Nat.le_refl _)
  exact Nat.lt_of_le_of_lt (zJ.2 (Nat.lt_of_le_of_lt g2 h1)) hD
 have hl0:¬ (zf D).length=0:=by rw[List.length_eq_zero_iff,yH]; exact h0
 have hl1:¬ zf D=[]:=by rw[yH]; exact h0
 unfold xr
 have hz:(zf (N/Nat.gcd N D)).length=0↔N=0:=by rw[List.length_eq_zero_iff,yH]; exact g1
 generalize Nat.gcd N D=g at *
 have kn:=kC (m1:=.plain) (m2:=.plain) (zq N) (zq g) (by omega) (by omega) rfl rfl (by rw[zL]; exact g0)
 have kd:=kC (m1:=.plain) (m2:=.plain) (zq D) (zq g) (by omega) (by omega) rfl rfl (by rw[zL]; exact g0)
 simp only[zL] at kn kd
 refine zG Ci (by simp) ?_
 simp[SS,hl0]
 refine za kg (by simp) (by simp) ?_
 simp
 refine za kn (by simp) (by simp) ?_
 simp
 refine za kd (by simp) (by simp) ?_
 cases neg
 ·simp[f8]
 ·by_cases hN0:N=0
  ·have:=hz.2 hN0
   simp[f8,hN0,yt]
  ·have:0<(zf (N/g)).length:=by omega
   simp[f8,this,hN0]
theorem rx {neg:Bool} {N D:Nat} (hN:(zf N).length<68719476736) (hD:(zf D).length<68719476736) (h0:D≠0) :
  zc Try.prog t7 [bv neg,nD N,nD D] (xr neg N D):=by
 have k:=YY (neg:=neg) hN hD h0
 unfold xr at *
 generalize N/Nat.gcd N D=n at *
 generalize D/Nat.gcd N D=d at *
 refine zG Ck (by simp) ?_
 simp[SU]
 refine za k (by simp) (by simp) ?_
 simp[Qg]
theorem RV {P:Program} {k:IntKind} {a:Int}:zr P (Op.unary .neg (Value.int k a))=some (Value.int k (k.wrap (-a))):=by
 simp[zr,Op.unary,Op.intArith,pure]
theorem B4 {k:IntKind} {a:Int}:ofV (Value.int k a)=.val (.int k a):=rfl
theorem mY {x:Nat} (h:x<18446744073709551616):(zf x).length≤2:=zJ.2 (by
 have:B^2=18446744073709551616:=by decide
 omega)
theorem TZ {n:Int} (h1:-9223372036854775808≤n) (h2:n<9223372036854775808):zc Try.prog Zb [iv n] (nD n.natAbs):=by
 obtain ⟨x,hx⟩:∃ x,n.natAbs=x:=⟨_,rfl⟩
 have hxl:x<18446744073709551616:=by omega
 have k:=rp (x:=x) hxl
 rw[hx]
 refine zG Cl (by simp) ?_
 by_cases h:n<0
 ·have w1:IntKind.i64.wrap (n+1)=n+1:=by rw[wrap64]<;>omega
  have w2:IntKind.i64.wrap (-(n+1))=(x:Int)-1:=by rw[wrap64]<;>omega
  have w2':IntKind.i64.wrap (-1+-n)=(x:Int)-1:=by rw[wrap64]<;>omega
  have w3:IntKind.u64.wrap ((x:Int)-1)=(x:Int)-1:=by rw[vm]<;>omega
  have w4:IntKind.u64.wrap (x:Int)=x:=w64 hxl
  simp[Zg,h,w1,RV,w2,w3,w4]
  refine za k (by simp) (by simp) ?_
  simp[ZF]
 ·have w4:IntKind.u64.wrap n=(x:Int):=by rw[vm]<;>omega
  simp[Zg,h,w4]
  refine za k (by simp) (by simp) ?_
  simp[ZF]
theorem TV {n:Int} (h1:-9223372036854775808≤n) (h2:n<9223372036854775808):zc Try.prog zI [iv n] (xr (decide (n<0)) n.natAbs 1):=by
 have k1:=TZ h1 h2
 have k2:=rp (x:=1) (by omega)
 have l1:=mY (x:=n.natAbs) (by omega)
 have l2:=mY (x:=1) (by omega)
 have k3:=rx (neg:=decide (n<0)) (N:=n.natAbs) (D:=1) (by omega) (by omega) (by omega)
 unfold xr at *
 generalize n.natAbs/Nat.gcd n.natAbs 1=p at *
 generalize 1/Nat.gcd n.natAbs 1=q at *
 refine zG PY (by simp) ?_
 simp[au]
 refine za k1 (by simp) (by simp) ?_
 simp
 refine za k2 (by simp) (by simp) ?_
 simp
 refine za k3 (by simp) (by simp) ?_
 simp[aU]
abbrev frA (s:Bool) (N D:Nat):AV:=.agg [bv s,nD N,nD D]
abbrev yw (q:Rat):AV:=frA (decide (q.num<0)) q.num.natAbs q.den
def sg (s:Bool) (N:Nat):Int:=if s then -(N:Int) else N
theorem sD {s:Bool} {N D:Nat} (h:D≠0):xr s N D=yw (mkRat (sg s N) D):=by
 have hab:(sg s N).natAbs=N:=by unfold sg; split<;>omega
 have hm:mkRat (sg s N) D=Rat.normalize (sg s N) D h:=by simp[mkRat,h]
 rw[hm,Rat.normalize_eq]
 unfold xr yw
 simp only[hab]
 have hg:0<Nat.gcd N D:=Nat.gcd_pos_of_pos_right _ (by omega)
 obtain ⟨c,hc⟩:=Nat.gcd_dvd_left N D
 generalize Nat.gcd N D=g at *
 subst hc
 have e1:(sg s (g*c))/(g:Int)=sg s c:=by
  unfold sg
  split
  ·rw[show -((g*c:Nat):Int)=(g:Int)*(-(c:Int)) by rw[Int.natCast_mul,Int.mul_neg]]
   exact Int.mul_ediv_cancel_left _ (by omega)
  ·rw[Int.natCast_mul]
   exact Int.mul_ediv_cancel_left _ (by omega)
 have e2:g*c/g=c:=Nat.mul_div_cancel_left _ hg
 rw[e1,e2]
 have e3:(sg s c).natAbs=c:=by unfold sg; split<;>omega
 have e4:(s&&decide (g*c≠0))=decide (sg s c<0):=by
  have hg0:¬ g=0:=by omega
  unfold sg
  rcases Nat.eq_zero_or_pos c with h0 | h0
  ·subst h0; cases s<;>simp
  ·have hc0:¬ c=0:=by omega
   have hcl:0<c:=h0
   have hng:¬ (c:Int)<0:=by omega
   have hneg:-(c:Int)<0:=by omega
   have hgc:¬ g*c=0:=Nat.mul_ne_zero hg0 hc0
   cases s<;>simp[hng,hgc,hcl]
 rw[e3,e4]
theorem mD (n:Int):sg (decide (n<0)) n.natAbs=n:=by
 unfold sg
 by_cases h:n<0
 ·simp[h]; omega
 ·simp[h]; omega
theorem NI (n:Int):xr (decide (n<0)) n.natAbs 1=yw (n:Rat):=by
 rw[sD (by decide),mD]
 congr 1
 rw[← Rat.mkRat_self (n:Rat)]; rfl
theorem Ro {n:Int} (h1:-9223372036854775808≤n) (h2:n<9223372036854775808):zc Try.prog zI [iv n] (yw n):=by
 rw[← NI]; exact TV h1 h2
theorem r8 (x:AV):∃ y:AV,y=x:=⟨_,rfl⟩
noncomputable def f0 (q:Rat):AV:=Classical.choose (r8 (bv (decide (q.num<0))))
noncomputable def f1 (q:Rat):AV:=Classical.choose (r8 (nD q.num.natAbs))
noncomputable def f2 (q:Rat):AV:=Classical.choose (r8 (nD q.den))
theorem n8 (q:Rat):f0 q=bv (decide (q.num<0)):=Classical.choose_spec (r8 _)
theorem n9 (q:Rat):f1 q=nD q.num.natAbs:=Classical.choose_spec (r8 _)
theorem ma (q:Rat):f2 q=nD q.den:=Classical.choose_spec (r8 _)
noncomputable def fr (q:Rat):List AV:=[f0 q,f1 q,f2 q]
@[simp] theorem qQ (q:Rat):[f0 q,f1 q,f2 q]=fr q:=rfl
theorem tf (q:Rat):fr q=[bv (decide (q.num<0)),nD q.num.natAbs,nD q.den]:=by unfold fr; rw[n8,n9,ma]
noncomputable abbrev fq (q:Rat):AV:=.agg (fr q)
theorem w9 (q:Rat):yw q=fq q:=by unfold fq; rw[tf]
abbrev zz:List AV:=[.val (.bool false),.list 0 .full [],.list 0 .full []]
@[simp] theorem ae3 (q:Rat):rf (f0 q)=true:=by rw[n8]; rfl
@[simp] theorem ads (q:Rat):strip (f0 q)=f0 q:=by rw[n8]; rfl
@[simp] theorem ae2 (q:Rat) (l:Nat):dg l (f0 q)=f0 q:=by rw[n8]; simp
@[simp] theorem aem (q:Rat) (l:Nat) (e:zb):frz l e (f0 q)=f0 q:=by rw[n8]; rfl
@[simp] theorem MQ (q:Rat) (a b:Nat):rn a b (f0 q)=f0 q:=by rw[n8]; rfl
@[simp] theorem aen (q:Rat) (M:Nat):Am.low M (f0 q)=true:=by rw[n8]; rfl
@[simp] theorem adQ (q:Rat) (k:Nat):zT k (f0 q)=false:=by rw[n8]; rfl
@[simp] theorem aeo (q:Rat) (k:Nat):qw k (f0 q)=false:=by rw[n8]; rfl
@[simp] theorem ae5 (q:Rat):rf (f1 q)=true:=by rw[n9]; rfl
@[simp] theorem adt (q:Rat):strip (f1 q)=f1 q:=by rw[n9]; rfl
@[simp] theorem ae4 (q:Rat) (l:Nat):dg l (f1 q)=f1 q:=by rw[n9]; simp
@[simp] theorem aep (q:Rat) (l:Nat) (e:zb):frz l e (f1 q)=f1 q:=by rw[n9]; rfl
@[simp] theorem MR (q:Rat) (a b:Nat):rn a b (f1 q)=f1 q:=by rw[n9]; rfl
@[simp] theorem aeq (q:Rat) (M:Nat):Am.low M (f1 q)=true:=by rw[n9]; rfl
@[simp] theorem adR (q:Rat) (k:Nat):zT k (f1 q)=false:=by rw[n9]; rfl
@[simp] theorem aer (q:Rat) (k:Nat):qw k (f1 q)=false:=by rw[n9]; rfl
@[simp] theorem ae7 (q:Rat):rf (f2 q)=true:=by rw[ma]; rfl
@[simp] theorem adu (q:Rat):strip (f2 q)=f2 q:=by rw[ma]; rfl
@[simp] theorem ae6 (q:Rat) (l:Nat):dg l (f2 q)=f2 q:=by rw[ma]; simp
@[simp] theorem aes (q:Rat) (l:Nat) (e:zb):frz l e (f2 q)=f2 q:=by rw[ma]; rfl
@[simp] theorem MS (q:Rat) (a b:Nat):rn a b (f2 q)=f2 q:=by rw[ma]; rfl
@[simp] theorem aet (q:Rat) (M:Nat):Am.low M (f2 q)=true:=by rw[ma]; rfl
@[simp] theorem adS (q:Rat) (k:Nat):zT k (f2 q)=false:=by rw[ma]; rfl
@[simp] theorem aeu (q:Rat) (k:Nat):qw k (f2 q)=false:=by rw[ma]; rfl
@[simp] theorem aa3 {q:Rat}:(fr q).length=3:=by simp[tf]
@[simp] theorem CD {q:Rat}:(fr q).all rf=true:=by rw[tf]; simp
@[simp] theorem Rm {q:Rat}:(fr q).map strip=fr q:=by rw[tf]; simp
@[simp] theorem ack {q:Rat} {l:Nat}:(fr q).map (dg l)=fr q:=by rw[tf]; simp
@[simp] theorem gy {q:Rat} {l:Nat} {e:zb}:(fr q).map (frz l e)=fr q:=by rw[tf]; rfl
@[simp] theorem Sj {q:Rat} {a b:Nat}:(fr q).map (rn a b)=fr q:=by rw[tf]; rfl
@[simp] theorem aa4 {q:Rat} {M:Nat}:(fr q).all (Am.low M)=true:=by rw[tf]; rfl
@[simp] theorem aa5 {q:Rat} {k:Nat}:wM k (fr q)=false:=by rw[tf]; simp
@[simp] theorem aeA {q:Rat} {k:Nat}:(fr q).any (qw k)=false:=by rw[tf]; rfl
@[simp] theorem ac6 {q:Rat}:zP (fr q) 0 (some 3)=some (fq q):=by
 rw[fG aa3 CD,Rm]
@[simp] theorem adf {q:Rat} {a b c:AV}:splice [a,b,c] 0 (fr q)=fr q:=by rw[tf]; simp[splice]
@[simp] theorem acP {p q:Rat}:splice (fr p) 0 (fr q)=fr q:=by simp[splice]
@[simp] theorem acS {q:Rat} {a b c d e x y z g h:AV}:splice [a,b,c,d,e,x,y,z,g,h] 5 (fr q)=[a,b,c,d,e,f0 q,f1 q,f2 q,g,h]:=by unfold fr; simp[splice,-qQ]
@[simp] theorem adW {q:Rat}:(fr q).drop 3=[]:=by rw[tf]; rfl
theorem xy {n:Int} (h1:-9223372036854775808≤n) (h2:n<9223372036854775808):zc Try.prog zI [iv n] (fq n):=by rw[← w9]; exact Ro h1 h2
def Xt (x y:Nat) (k:Nat):St :=
 {env:=[(0,nD x),(1,nD y),(6,.sl 20 1 0 (zf x).length),(7,ye (bor x y k)),(22,iv (zf x).length),(23,iv k)],sto:=[(20,.arr 1 (zH (wo (zf x).length k (x-y))))]}
theorem TL {m1 m2:Am.Mode} {a b:List Nat} (ha:ok a) (hb:ok b) (hna:a.length<1099511627776) (hnb:b.length<1099511627776) :
  zc Try.prog cZ [nl m1 a,nl m2 b] (if val a<val b then .tuple [.list 0 .full [],bv false] else .tuple [nD (val a-val b),bv true]):=by
 refine uN aad (by simp) ?_
 simp[Nh]
 refine za (xb (m:=stm m1) ha hna) (by simp[rD]) (by simp) ?_
 simp
 refine za (xb (m:=stm m2) hb hnb) (by simp[rD]) (by simp) ?_
 simp
 have lx:=x9 ha
 have ly:=x9 hb
 have key:=ml (m1:=.plain) (m2:=.plain) (zq (val a)) (zq (val b)) (by omega) (by omega)
 rw[zL,zL] at key
 refine za key (by simp) (by simp) ?_
 generalize val a=x at *
 generalize val b=y at *
 by_cases hlt:x<y
 ·simp[yW,hlt,Ut]
  exact AV.imp.refl
 ·have hle:y≤x:=by omega
  have hly:(zf y).length≤(zf x).length:=by
   apply Nat.le_of_not_lt
   intro h
   have:=jy h
   omega
  have hS:x-y<B^(zf x).length:=by
   have:=zJ.1 (Nat.le_refl (zf x).length)
   omega
  have hc:¬ yW x y<0:=by
   simp only[yW,hlt,if_false]
   split<;>omega
  simp[hc,hlt,eMk]
  refine ⟨by omega,by omega,?_⟩
  refine zB (Xt x y) (fun _=>True) (zf x).length (by simp[Xt,gW,m4]) trivial (fun k hk _=>?_) (fun _=>?_)
  ·have e:(k:Int)<(zf x).length:=by omega
   have hak:=xz (zq x) hk
   have hb1:=Yg (x:=x) (y:=y) (k:=k)
   have hfl:=jv (n:=(zf x).length) (k:=k) (S:=x-y) (by omega)
   have hfk:k<(wo (zf x).length k (x-y)).length:=by omega
   have hset:=jw (n:=(zf x).length) (k:=k) (S:=x-y) (by omega)
   have hsd:=jH (k:=k) hle
   have hbs:=gV (x:=x) (y:=y) (k:=k)
   rw[← qp hk] at hsd hbs
   obtain ⟨d,hd⟩:∃ d,(x-y)/B^k%B=d:=⟨_,rfl⟩
   rw[hd] at hset hsd
   have hset':(zH (wo (zf x).length k (x-y))).set k [uv d]=zH (wo (zf x).length (k+1) (x-y)):=by rw[xg,hset]
   have e1:IntKind.u64.wrap (((zf x)[k]:Nat):Int)=((zf x)[k]:Nat):=w64 (by rw[yc] at hak; omega)
   rw[yc] at hak
   by_cases hkb:k<(zf y).length
   ·have e2:(k:Int)<(zf y).length:=by omega
    have hbk:=xz (zq y) hkb
    rw[yc] at hbk
    rw[← qp hkb] at hsd hbs
    have e3:IntKind.u64.wrap (((zf y)[k]:Nat):Int)=((zf y)[k]:Nat):=w64 (by omega)
    have e5:=Cw (((zf x)[k]:Nat)-(bor x y k:Nat):Int) ((zf y)[k]:Nat)
    have e6:=Sz (((zf x)[k]:Nat)-(bor x y k:Nat)-((zf y)[k]:Nat):Int)
    have e7:=Sw (u:=(((zf x)[k]:Nat)-(bor x y k:Nat)-((zf y)[k]:Nat):Int)) (by omega) (by omega)
    have e8:(((zf x)[k]:Nat)-(bor x y k:Nat)-((zf y)[k]:Nat):Int)%4294967296=(d:Int):=by omega
    rw[e8] at e6
    have e9:(if (((zf x)[k]:Nat)-(bor x y k:Nat)-((zf y)[k]:Nat):Int)<0 then (1:Int) else 0)=(bor x y (k+1):Int):=by
     rw[hbs]
     split<;>split<;>omega
    rw[e9] at e7
    simp[mW,Xt,e,e2,hk,hkb,e1,e3,e5,e6,e7,xw,hfk,splice,hset',zC (show k<4611686018427387904 by omega)]
   ·have e2:¬ (k:Int)<(zf y).length:=by omega
    have hy0:y/B^k%B=0:=by rw[← Ji,List.getElem?_eq_none (by omega)]; rfl
    rw[hy0] at hsd hbs
    have e6:=Sz (((zf x)[k]:Nat)-(bor x y k:Nat):Int)
    have e7:=Sw (u:=(((zf x)[k]:Nat)-(bor x y k:Nat):Int)) (by omega) (by omega)
    have e8:(((zf x)[k]:Nat)-(bor x y k:Nat):Int)%4294967296=(d:Int):=by omega
    rw[e8] at e6
    have e9:(if (((zf x)[k]:Nat)-(bor x y k:Nat):Int)<0 then (1:Int) else 0)=(bor x y (k+1):Int):=by
     rw[hbs]
     split<;>split<;>omega
    rw[e9] at e7
    simp[mW,Xt,e,e2,hk,e1,e6,e7,xw,hfk,splice,hset',zC (show k<4611686018427387904 by omega)]
  ·have htk:(zH (zo (zf x).length (x-y))).take (zf x).length=zH (zo (zf x).length (x-y)):=List.take_of_length_le (by rw[List.length_map,zw]; exact Nat.le_refl _)
   have hle2:(zf x).length≤(zo (zf x).length (x-y)).length:=by rw[zw]; exact Nat.le_refl _
   have key:=xb (m:=.plain) (a:=zo (zf x).length (x-y)) yz (by rw[zw]; omega)
   rw[yk hS] at key
   simp[mW,Xt,dQ,Yp,xf,uf,htk,hle2]
   refine za key (by simp) (by simp) ?_
   simp[Ut]
   exact AV.imp.refl
def Xq (m1 m2:Am.Mode) (a b:List Nat) (i k:Nat):St :=
 {env:=[(0,nl m1 a),(1,nl m2 b),(5,.sl 15 1 0 (a.length+b.length)),(17,iv a.length),(18,iv i),(6,iv i),(7,ye (x6 a b i k).2),(22,iv b.length),(23,iv k)],sto:=[(15,.arr 1 (zH (x6 a b i k).1))]}
def cG (m1 m2:Am.Mode) (a b:List Nat) (i:Nat):St :=
 {env:=[(0,nl m1 a),(1,nl m2 b),(5,.sl 15 1 0 (a.length+b.length)),(17,iv a.length),(18,iv i)],sto:=[(15,.arr 1 (zH (tP a b i)))]}
theorem sN {m1 m2:Am.Mode} {a b:List Nat} (ha:ok a) (hb:ok b) (hna:a.length<1099511627776) (hnb:b.length<1099511627776) (hs:a.length+b.length<1099511627776) (f1:stm m1=m1) (f2:stm m2=m2) :
  zc Try.prog s8 [nl m1 a,nl m2 b] (nD (val a*val b)):=by
 refine uN aac (by simp) ?_
 have w:IntKind.i64.wrap ((a.length:Int)+b.length)=(a.length:Int)+b.length:=wrap64 (by omega) (by omega)
 have e1:((a.length:Int)+b.length).toNat=a.length+b.length:=by omega
 simp[Ng,w,eMk,e1]
 refine ⟨by omega,by omega,by omega,?_⟩
 refine zB (cG m1 m2 a b) (fun _=>True) a.length (by simp[cG,tP]) trivial (fun i hi _=>?_) (fun _=>?_)
 ·have hO:=ca ha hb i (by omega)
  have ei:(i:Int)<a.length:=by omega
  simp[fa,cG,ei]
  refine zB (Xq m1 m2 a b i) (fun _=>True) b.length (by simp[Xq,JO]) trivial (fun k hk _=>?_) (fun _=>?_)
  ·have hI:=jB ha hb hi hO k (by omega)
   have ek:(k:Int)<b.length:=by omega
   have hst:=Tp (a:=a) (b:=b) (i:=i) (k:=k)
   have hlen:=hI.len
   have hik:i+k<(x6 a b i k).1.length:=by omega
   have eik:((i:Int)+k)<(x6 a b i k).1.length:=by omega
   have wik:IntKind.i64.wrap ((i:Int)+k)=((i+k:Nat):Int):=by rw[wrap64]<;>omega
   have hbd:=jA (vA ha i) (vA hb k) (vA hI.ok (i+k)) hI.lt
   have g1:=xz ha hi
   have g2:=xz hb hk
   have g3:=xz hI.ok hik
   have g4:=hI.lt
   simp only[nC] at hst
   have q1:a.getD i 0=a[i]:=by simp[hi]
   have q2:b.getD k 0=b[k]:=by simp[hk]
   have q3:(x6 a b i k).1.getD (i+k) 0=(x6 a b i k).1[i+k]:=by simp[hik]
   rw[q1,q2,q3] at hst hbd
   obtain ⟨t,ht⟩:∃ t,a[i]*b[k]+(x6 a b i k).1[i+k]+(x6 a b i k).2=t:=⟨_,rfl⟩
   obtain ⟨p,hp⟩:∃ p,a[i]*b[k]=p:=⟨_,rfl⟩
   rw[ht] at hst hbd
   rw[hp] at ht
   obtain ⟨d,hd⟩:∃ d,t%B=d:=⟨_,rfl⟩
   obtain ⟨q,hq⟩:∃ q,t/B=q:=⟨_,rfl⟩
   rw[hd,hq] at hst
   have f1:IntKind.u32.wrap (t:Int)=(d:Int):=by rw[w32,hd]
   have f2:(t:Int).fdiv (2^min 32 IntKind.u64.bits)=(q:Int):=by rw[ey,hq]
   have hBB:B*B=18446744073709551616:=by decide
   rw[hBB] at hbd
   rw[yc] at g1 g2 g3 g4
   have u1:IntKind.u64.wrap ((a[i]:Nat):Int)=(a[i]:Nat):=w64 (by omega)
   have u2:IntKind.u64.wrap ((b[k]:Nat):Int)=(b[k]:Nat):=w64 (by omega)
   have u3:IntKind.u64.wrap (((x6 a b i k).1[i+k]:Nat):Int)=((x6 a b i k).1[i+k]:Nat):=w64 (by omega)
   have u4:IntKind.u64.wrap ((a[i]:Int)*(b[k]:Int))=(p:Int):=by
    rw[show (a[i]:Int)*(b[k]:Int)=((a[i]*b[k]:Nat):Int) by simp,hp]; exact w64 (by omega)
   have u5:IntKind.u64.wrap ((p:Int)+((x6 a b i k).1[i+k]:Nat))=(p:Int)+((x6 a b i k).1[i+k]:Nat):=by rw[vm]<;>omega
   have u6:IntKind.u64.wrap ((p:Int)+((x6 a b i k).1[i+k]:Nat)+((x6 a b i k).2:Nat))=(t:Int):=by rw[vm]<;>omega
   have hset:(zH (x6 a b i k).1).set (i+k) [uv d]=zH (x6 a b i (k+1)).1:=by rw[xg,hst]
   have hq2:(x6 a b i (k+1)).2=q:=by rw[hst]
   have en:((i:Int)+k).toNat=i+k:=by omega
   have e0:(0:Int)≤(i:Int)+k:=by omega
   have elt:(i:Int)+k<(a.length:Int)+b.length:=by omega
   simp only[Int.natCast_add] at wik
   simp[g9,Xq,ek,hi,hk,ei,wik,en,e0,elt,hik,u1,u2,u3,u4,u5,u6,xw,splice,f1,f2,hset,hq2,zC (show k<4611686018427387904 by omega)]
  ·have hI:=jB ha hb hi hO b.length (Nat.le_refl _)
   have hlen:=hI.len
   have hik:i+b.length<(x6 a b i b.length).1.length:=by omega
   have wik:IntKind.i64.wrap ((i:Int)+b.length)=(i:Int)+b.length:=by rw[wrap64]<;>omega
   have en:((i:Int)+b.length).toNat=i+b.length:=by omega
   have e0:(0:Int)≤(i:Int)+b.length:=by omega
   have hset:(zH (x6 a b i b.length).1).set (i+b.length) [uv (x6 a b i b.length).2]=zH (tP a b (i+1)):=by rw[Tq]; exact xg
   have g4:=hI.lt
   rw[yc] at g4
   have f1:IntKind.u32.wrap ((x6 a b i b.length).2:Int)=((x6 a b i b.length).2:Int):=IntWalk.u32_in _ (by omega)
   simp[g9,Xq,cG,Ym,Yn,wik,en,e0,hik,f1,splice,hset,ei,zC (show i<4611686018427387904 by omega)]
 ·obtain ⟨h1,h2,h3⟩:=BV ha hb
  have htk:(zH (tP a b a.length)).take (a.length+b.length)=zH (tP a b a.length):=List.take_of_length_le (by rw[List.length_map,h2]; exact Nat.le_refl _)
  have hle2:a.length+b.length≤(tP a b a.length).length:=by rw[h2]; exact Nat.le_refl _
  have key:=xb (m:=.plain) h1 (by rw[h2]; omega)
  rw[h3] at key
  simp[fa,cG,Yo,xf,Zr f1,Zr f2,uf,htk,hle2]
  refine za key (by simp) (by simp) ?_
  simp[N6]
  exact AV.imp.refl
theorem vq {m:Am.Mode} {a:List Nat} {i:Nat} (ha:ok a) (_hn:a.length<1099511627776) (_hi:i<1099511627776):zc Try.prog xQ [nl m a,iv i] (ye (a.getD i 0)):=by
 refine zG Fl (by simp) ?_
 by_cases h:i<a.length
 ·have hg:a.getD i 0=a[i]:=by simp[h]
  have hB:=xz ha h
  rw[hg]
  generalize ha2:a[i]=x at *
  rw[yc] at hB
  have w:IntKind.u64.wrap (x:Int)=x:=w64 (by omega)
  have h':(i:Int)<a.length:=by omega
  simp[dF,h,h',ha2,w,cr]
 ·have hg:a.getD i 0=0:=by simp[List.getD,List.getElem?_eq_none (Nat.le_of_not_lt h)]
  have h':¬ (i:Int)<a.length:=by omega
  rw[hg]
  simp[dF,h',cr]
theorem TQ {m:Am.Mode} {a:List Nat} (ha:ok a) (hn:a.length<1099511627776):zc Try.prog jd [nl m a] (bv (decide (a=zf (val a)))):=by
 refine zG Fk (by simp) ?_
 rcases Nat.eq_zero_or_pos a.length with h | h
 ·rw[List.length_eq_zero_iff] at h
  subst h
  simp[dE,cq,val,yt]
 ·obtain ⟨k,hk⟩:∃ k,a.length=k+1:=⟨a.length-1,by omega⟩
  have hl:(a.length:Int)=(k:Int)+1:=by omega
  have w:IntKind.i64.wrap (k:Int)=(k:Int):=by rw[wrap64]<;>omega
  have hkl:k<a.length:=by omega
  have hne:¬ a.length=0:=by omega
  have hnil:¬ a=[]:=fun e=>by subst e; simp at h
  have hv:(a=zf (val a))↔a[k]≠0:=by
   constructor
   ·intro e h0
    have h1:=js (x:=val a) (by rw[← e]; exact h)
    simp only[← e,hk,Nat.add_sub_cancel] at h1
    exact h1 h0
   ·intro h0
    refine (Nw ha fun _=>?_).symm
    simp only[hk,Nat.add_sub_cancel]
    exact h0
  have hd:decide (a=zf (val a))=!decide (a[k]=0):=by
   by_cases h0:a[k]=0
   ·have:¬ a=zf (val a):=fun e=>hv.1 e h0
    simp[this,h0]
   ·have:a=zf (val a):=hv.2 h0
    rw[decide_eq_true this,decide_eq_false h0]; rfl
  rw[hd]
  generalize ha2:a[k]=x at *
  have hk0:¬ ((k:Int)+1=0):=by omega
  have p1:(k:Int)<(k:Int)+1:=by omega
  simp[dE,cq,hl,w,hkl,ha2,hk0,p1]
def cJ (m:Am.Mode) (a:List Nat) (k:Nat):St:={env:=[(0,nl (if k=0 then m else .plain) (a.take (a.length-k)))],sto:=[]}
theorem qx {m:Am.Mode} {a:List Nat} (ha:ok a) (hn:a.length<1099511627776):zc Try.prog uR [nl m a] (nD (val a)):=by
 obtain ⟨h1,h2,h3,h4⟩:=d5 ha
 refine uN Ct (by simp) ?_
 simp[SZ]
 generalize hT:(zf (val a)).length=T at h1 h2 h3 h4
 refine zB (cJ m a) (fun _=>True) (a.length-T) (by simp[cJ]) trivial (fun k hk _=>?_) (fun _=>?_)
 ·obtain ⟨c,hc⟩:∃ c,a.take (a.length-k)=c:=⟨_,rfl⟩
  obtain ⟨L,hL⟩:∃ L,a.length-k=L+1:=⟨a.length-k-1,by omega⟩
  have hL2:a.length-(k+1)=L:=by omega
  have hcl:c.length=L+1:=by rw[← hc]; simp; omega
  have hLl:L<c.length:=by omega
  have hz:c[L]=0:=by
   have:=h2 L (by omega) (by omega)
   subst hc
   simpa using this
  have hc2:a.take L=c.take L:=by rw[← hc,List.take_take]; congr 1; omega
  have hcz:(c.length:Int)=(L:Int)+1:=by omega
  have w:IntKind.i64.wrap (L:Int)=(L:Int):=by rw[wrap64]<;>omega
  have hg:∃ r,zH (c.take L)=r:=⟨_,rfl⟩
  have hst:cJ m a (k+1)={env:=[(0,.list 1 .plain (List.take L (zH c)))],sto:=[]}:=by
   rw[cJ,hL2,hc2]; simp[List.map_take]
  obtain ⟨m',hst0⟩:∃ m',cJ m a k={env:=[(0,nl m' c)],sto:=[]}:=⟨_,by rw[cJ,hc]⟩
  have p3:(L:Int)<(L:Int)+1:=by omega
  have p1:(0:Int)<(L:Int)+1:=by omega
  have p2:(L:Int)≤(L:Int)+1:=by omega
  rw[hst0]
  simp[nY,hcl,w,hz,hst,p1,p2,p3]
 ·have e:a.length-(a.length-T)=T:=by omega
  obtain ⟨m',hst⟩:∃ m',cJ m a (a.length-T)={env:=[(0,nl m' (zf (val a)))],sto:=[]}:=⟨_,by rw[cJ,e,h4]⟩
  rw[hst]
  clear hst
  generalize hcE:zf (val a)=c at *
  rcases T with _ | L
  ·have hc0:c=[]:=List.length_eq_zero_iff.1 hT
   subst hc0
   simp[nY,jV,ZJ]
   rw[nD,hcE]
   exact AV.imp.refl
  ·have hLl:L<c.length:=by omega
   have hcz:(c.length:Int)=(L:Int)+1:=by omega
   have w:IntKind.i64.wrap (L:Int)=(L:Int):=by rw[wrap64]<;>omega
   have hz:¬ c[L]=0:=by
    have:=js (x:=val a) (by rw[hcE]; omega)
    simp only[hcE,hT,Nat.add_sub_cancel] at this
    exact this
   have p1:(0:Int)<(L:Int)+1:=by omega
   simp[nY,hT,w,hz,p1,jV,ZJ]
   rw[nD,hcE]
   exact ⟨by omega,by omega,by omega,AV.imp.refl⟩
theorem kH {x:Nat} (h:x<18446744073709551616):zc Try.prog ur [ye x] (nD x):=by
 have hq2:x/B<B:=by rw[yc]; omega
 have e1:=Nat.mod_add_div x B
 have hm2:x%B<B:=Nat.mod_lt _ afK
 have t1:(x:Int).tmod 4294967296=((x%B:Nat):Int):=by
  rw[yc,show (4294967296:Int)=((4294967296:Nat):Int) from rfl,← Int.ofNat_tmod]
 have t2:IntKind.u64.wrap ((x:Int)/4294967296)=((x/B:Nat):Int):=by
  rw[show (x:Int)/4294967296=((x/B:Nat):Int) by rw[yc]; omega]
  exact w64 (Nat.lt_of_le_of_lt (Nat.div_le_self _ _) h)
 obtain ⟨d0,h0⟩:∃ d,x%B=d:=⟨_,rfl⟩
 obtain ⟨d1,h1⟩:∃ q,x/B=q:=⟨_,rfl⟩
 rw[h0] at t1 e1 hm2
 rw[h1] at t2 e1 hq2
 have hok:ok [d0,d1]:=by
  intro d hd
  simp at hd
  rcases hd with rfl | rfl
  ·exact hm2
  ·exact hq2
 have hv:val [d0,d1]=x:=by
  simp only[val,Nat.mul_zero,Nat.add_zero]
  exact e1
 have key:=qx (m:=.full) (a:=[d0,d1]) hok (by simp)
 rw[hv] at key
 rw[yc] at hm2 hq2
 have f1:IntKind.u32.wrap (d0:Int)=d0:=IntWalk.u32_in _ (by omega)
 have f2:IntKind.u32.wrap (d1:Int)=d1:=IntWalk.u32_in _ (by omega)
 refine zG QZ (by simp) ?_
 simp[dD,ue,sC,t1,t2,f1,f2,vT]
 refine za key (by simp) (by simp) ?_
 simp[co]
theorem tg {a:List Nat} (ha:ok a) (i:Nat):a.getD i 0=val a/B^i%B:=by
 rcases Nat.lt_or_ge i a.length with h | h
 ·rw[← nv ha h]; simp[h]
 ·have h1:val a<B^i:=y5 ha h
  rw[Nat.div_eq_of_lt h1,Nat.zero_mod]
  simp[List.getD,List.getElem?_eq_none h]
theorem jF (x j:Nat):x/B^j=B*(x/B^(j+1))+x/B^j%B:=by
 rw[Nat.pow_succ,← Nat.div_div_eq_div_mul]
 exact (Nat.div_add_mod _ _).symm
theorem S3 {x y j:Nat} (h:x/B^(j+1)=y/B^(j+1)) (hlt:x/B^j%B<y/B^j%B):x<y:=by
 have h1:=jF x j
 have h2:=jF y j
 rw[h] at h1
 apply Nat.lt_of_not_le
 intro hle
 have h3:y/B^j≤x/B^j:=Nat.div_le_div_right hle
 generalize x/B^j%B=p at *
 generalize y/B^j%B=q at *
 omega
theorem cmp_eq {x y j:Nat} (h:x/B^(j+1)=y/B^(j+1)) (he:x/B^j%B=y/B^j%B):x/B^j=y/B^j:=by
 rw[jF x j,jF y j,h,he]
def UB (m1 m2:Am.Mode) (a b:List Nat) (M k:Nat):St:={env:=[(0,nl m1 a),(1,nl m2 b),(5,iv ((M:Int)-1-k))],sto:=[]}
theorem Nt {m1 m2:Am.Mode} {a b:List Nat} (ha:ok a) (hb:ok b) (hna:a.length<1099511627776) (hnb:b.length<1099511627776) (f1:stm m1=m1) (f2:stm m2=m2) :
  zc Try.prog c8 [nl m1 a,nl m2 b] (iv (yW (val a) (val b))):=by
 refine zG aan (by simp) ?_
 obtain ⟨M,hM⟩:∃ M,max a.length b.length=M:=⟨_,rfl⟩
 have hMz:max (a.length:Int) (b.length:Int)=(M:Int):=by omega
 have w0:IntKind.i64.wrap ((M:Int)-1)=(M:Int)-1:=by rw[wrap64]<;>omega
 simp[Np,hMz,w0]
 refine zB (UB m1 m2 a b M) (fun k=>val a/B^(M-k)=val b/B^(M-k)) M (by simp[UB]) ?_ (fun k hk hi=>?_) (fun hi=>?_)
 ·rw[Nat.sub_zero,Nat.div_eq_of_lt (y5 ha (by omega)),Nat.div_eq_of_lt (y5 hb (by omega))]
 ·obtain ⟨j,hj⟩:∃ j,M-1-k=j:=⟨_,rfl⟩
  have hj2:M-k=j+1:=by omega
  have hj3:M-(k+1)=j:=by omega
  have hjz:(M:Int)-1-k=(j:Int):=by omega
  have d1:=vq (m:=m1) (i:=j) ha hna (by omega)
  have d2:=vq (m:=m2) (i:=j) hb hnb (by omega)
  rw[hj2] at hi
  rw[tg ha] at d1
  rw[tg hb] at d2
  have c1:=fun h=>S3 (x:=val a) (y:=val b) (j:=j) hi h
  have c2:=fun h=>S3 (x:=val b) (y:=val a) (j:=j) hi.symm h
  have c3:=fun h=>cmp_eq (x:=val a) (y:=val b) (j:=j) hi h
  generalize val a/B^j%B=p at *
  generalize val b/B^j%B=q at *
  have e0:(0:Int)≤(j:Int):=by omega
  have w1:IntKind.i64.wrap ((j:Int)-1)=(j:Int)-1:=by rw[wrap64]<;>omega
  have hst:UB m1 m2 a b M (k+1)={env:=[(0,nl m1 a),(1,nl m2 b),(5,iv ((j:Int)-1))],sto:=[]}:=by
   rw[UB,show (M:Int)-1-((k+1:Nat):Int)=(j:Int)-1 by omega]
  rw[UB,hjz]
  simp[ff]
  refine za d1 (by simp[f1]) (by simp) ?_
  simp
  refine za d2 (by simp[f2]) (by simp) ?_
  by_cases h:p<q
  ·have hc:yW (val a) (val b)=-1:=by simp[yW,c1 h]
   simp[h,bQ,hc]
  ·simp[h]
   refine za d1 (by simp[f1]) (by simp) ?_
   simp
   refine za d2 (by simp[f2]) (by simp) ?_
   by_cases h2:q<p
   ·have hc:yW (val a) (val b)=1:=by
     have:¬ val a<val b:=by have:=c2 h2; omega
     simp[yW,c2 h2,this]
    simp[h2,bQ,hc]
   ·have he:=c3 (by omega)
    simp[h2,w1,hst,hj3,he]
 ·have hxy:val a=val b:=by simpa using hi
  have hc:yW (val a) (val b)=0:=by simp[yW,hxy]
  have e0:¬ (0:Int)≤(M:Int)-1-M:=by omega
  have e1:¬ (M:Int)≤(M:Int)-1:=by omega
  simp[ff,UB,e1,Ys,bQ,hc]
def cry (x y k:Nat):Nat:=(x%B^k+y%B^k)/B^k
theorem F7 {x y:Nat}:cry x y 0=0:=by simp[cry,Nat.mod_one]
theorem aaO {x y k:Nat}:cry x y k≤1:=by
 unfold cry
 have h1:=Nat.mod_lt x (wT k)
 have h2:=Nat.mod_lt y (wT k)
 have:(x%B^k+y%B^k)/B^k<2:=Nat.div_lt_of_lt_mul (by omega)
 omega
theorem Kj {x y k:Nat}:(x+y)/B^k%B=(x/B^k%B+y/B^k%B+cry x y k)%B∧cry x y (k+1)=(x/B^k%B+y/B^k%B+cry x y k)/B:=by
 have m1:x%B^(k+1)=x%B^k+B^k*(x/B^k%B):=by rw[Nat.pow_succ,Nat.mod_mul]
 have m2:y%B^(k+1)=y%B^k+B^k*(y/B^k%B):=by rw[Nat.pow_succ,Nat.mod_mul]
 have d1:=Nat.mod_add_div x (B^(k+1))
 have d2:=Nat.mod_add_div y (B^(k+1))
 have hs:x+y=(x%B^k+y%B^k)+B^k*(x/B^k%B+y/B^k%B)+B^(k+1)*(x/B^(k+1)+y/B^(k+1)):=by
  rw[Nat.mul_add,Nat.mul_add]
  omega
 constructor
 ·rw[hs,jp]
  unfold cry
  congr 1
  omega
 ·unfold cry
  rw[m1,m2,show x%B^k+B^k*(x/B^k%B)+(y%B^k+B^k*(y/B^k%B))=(x%B^k+y%B^k)+B^k*(x/B^k%B+y/B^k%B) by rw[Nat.mul_add]; omega,jo]
  congr 1
  omega
theorem kB {m:Am.Mode} {l:Nat} {a:List Nat} (h:stm m=m):dg l (nl m a)=nl m a:=by
 cases m with
 | plain=>simp
 | full=>simp
 | own d=>simp at h
def Uz (m1 m2:Am.Mode) (a b:List Nat) (k:Nat):St :=
 {env:=[(0,nl m1 a),(1,nl m2 b),(5,wA 1 32 (zH (zo k (val a+val b)))),(6,ye (cry (val a) (val b) k)),(7,iv k)],sto:=[]}
theorem lq {m1 m2:Am.Mode} {a b:List Nat} (ha:ok a) (hb:ok b) (hna:a.length<1099511627775) (hnb:b.length<1099511627775) (f1:stm m1=m1) (f2:stm m2=m2) :
  zc Try.prog rc [nl m1 a,nl m2 b] (nD (val a+val b)):=by
 refine zG aal (by simp) ?_
 obtain ⟨M,hM⟩:∃ M,max a.length b.length=M:=⟨_,rfl⟩
 have hMz:max (a.length:Int) (b.length:Int)=(M:Int):=by omega
 have hxM:val a<B^M:=y5 ha (by omega)
 have hyM:val b<B^M:=y5 hb (by omega)
 simp[Nn]
 refine zB (Uz m1 m2 a b) (fun _=>True) (M+1) (by simp[Uz,F7,zo]) trivial (fun k hk _=>?_) (fun _=>?_)
 ·have d1:=vq (m:=m1) (i:=k) ha (by omega) (by omega)
  have d2:=vq (m:=m2) (i:=k) hb (by omega) (by omega)
  rw[tg ha] at d1
  rw[tg hb] at d2
  obtain ⟨g1,g2⟩:=Kj (x:=val a) (y:=val b) (k:=k)
  have hsucc:=td (n:=k) (x:=val a+val b)
  have hpB:val a/B^k%B<B:=Nat.mod_lt _ afK
  have hqB:val b/B^k%B<B:=Nat.mod_lt _ afK
  have hc:=aaO (x:=val a) (y:=val b) (k:=k)
  have hdl:=zw (n:=k) (x:=val a+val b)
  rw[g1] at hsucc
  have hst:Uz m1 m2 a b (k+1)={env:=[(0,nl m1 a),(1,nl m2 b),(5,wA 1 32 (zH (zo (k+1) (val a+val b)))),(6,ye (cry (val a) (val b) (k+1))),(7,iv ((k:Int)+1))],sto:=[]}:=by
   rw[Uz]; rfl
  rw[hsucc,g2] at hst
  rw[Uz]
  clear g1 g2 hsucc
  generalize val a/B^k%B=p at *
  generalize val b/B^k%B=q at *
  generalize cry (val a) (val b) k=c at *
  generalize zo k (val a+val b)=D at *
  obtain ⟨t,ht⟩:∃ t,p+q+c=t:=⟨_,rfl⟩
  obtain ⟨d,hd⟩:∃ d,t%B=d:=⟨_,rfl⟩
  obtain ⟨e,he⟩:∃ e,t/B=e:=⟨_,rfl⟩
  rw[ht,hd,he] at hst
  have hdB:d<B:=by rw[← hd]; exact Nat.mod_lt _ afK
  have heB:e≤t:=by rw[← he]; exact Nat.div_le_self _ _
  rw[yc] at hpB hqB hdB
  have t1:(t:Int).tmod 4294967296=(d:Int):=by
   rw[← hd,yc,show (4294967296:Int)=((4294967296:Nat):Int) from rfl,← Int.ofNat_tmod]
  have t2:IntKind.u64.wrap ((t:Int)/4294967296)=(e:Int):=by
   rw[show (t:Int)/4294967296=(e:Int) by rw[← he,yc]; omega]
   exact w64 (by omega)
  clear hd he
  have w1:IntKind.u64.wrap ((p:Int)+q)=(p:Int)+q:=vm (by omega) (by omega)
  have w2:IntKind.u64.wrap ((p:Int)+q+c)=(t:Int):=by rw[vm]<;>omega
  have w3:IntKind.u32.wrap (d:Int)=d:=IntWalk.u32_in _ (by omega)
  have w4:IntKind.i64.wrap ((k:Int)+1)=(k:Int)+1:=wrap64 (by omega) (by omega)
  have hkM:(k:Int)≤(M:Int):=by omega
  simp[fe,hMz,hkM]
  refine za d1 (by simp[f1]) (by simp) ?_
  simp
  refine za d2 (by simp[f2]) (by simp) ?_
  simp[w1,w2,ue,sC,t1,t2,w3,w4,hdl,hst,kB f1,kB f2]
  omega
 ·have hlt:val a+val b<B^(M+1):=by
   rw[Nat.pow_succ]
   have:B^M*2≤B^M*B:=Nat.mul_le_mul_left _ (by decide)
   omega
  have kt:=qx (m:=.plain) (a:=zo (M+1) (val a+val b)) yz (by rw[zw]; omega)
  rw[yk hlt] at kt
  have hne:¬ zo (M+1) (val a+val b)=[]:=fun h=>by
   have:=congrArg List.length h
   rw[zw] at this
   simp at this
  have hkM:¬ (M:Int)+1≤(M:Int):=by omega
  simp[fe,Uz,hMz,hkM,Yr,Mc]
  refine za kt (by simp[hne]) (.inl rfl) ?_
  simp
theorem fJ {f:FuncId} {x x' r:AV} (h:zc Try.prog f [x'] r) (hy:AV.imp x x'):zc Try.prog f [x] r:=fun I vs w h1 h2 h3 =>
 h I vs w h1 h2 fun i a hi=>by
  match i,hi with
  | 0,hi=>simp at hi; subst hi; exact hy _ _ _ (h3 0 x rfl)
  | i+1,hi=>simp at hi
theorem T1 {x y k p q c:Nat} (h:y≤x) (hp:x/B^k%B=p) (hq:y/B^k%B=q) (hc:bor x y k=c) (_hpB:p<B) (_hqB:q<B) (hc1:c≤1) :
  ∃ s,4294967296+p-q-c=s∧s<8589934592∧q+c≤4294967296+p∧(x-y)/B^k%B=s%B∧bor x y (k+1)=1-s/B∧s/B≤1:=by
 have h1:=jH (k:=k) h
 have h2:=gV (x:=x) (y:=y) (k:=k)
 rw[hp,hq,hc] at h1 h2
 have hdB:(x-y)/B^k%B<B:=Nat.mod_lt _ afK
 generalize (x-y)/B^k%B=d at *
 rw[yc] at *
 refine ⟨_,rfl,by omega,by omega,by omega,?_,by omega⟩
 rw[h2]
 split<;>omega
def UL (m1 m2:Am.Mode) (a b:List Nat) (k:Nat):St :=
 {env:=[(0,nl m1 a),(1,nl m2 b),(6,wA 1 35 (zH (zo k (val a-val b)))),(7,ye (bor (val a) (val b) k)),(8,iv k)],sto:=[]}
theorem UP {m1 m2:Am.Mode} {a b:List Nat} (ha:ok a) (hb:ok b) (hna:a.length<1099511627775) (hnb:b.length<1099511627775) (f1:stm m1=m1) (f2:stm m2=m2) :
  zc Try.prog gf [nl m1 a,nl m2 b] (.tuple [nD (val a-val b),bv (decide (val b≤val a))]):=by
 have kc:=Nt (m1:=m1) (m2:=m2) ha hb (by omega) (by omega) f1 f2
 refine uN aaq (by simp) ?_
 simp[Ns]
 refine za kc (by simp[f1,f2]) (by simp) ?_
 by_cases hlt:val a<val b
 ·have hc1:yW (val a) (val b)=-1:=by simp[yW,hlt]
  have hd:decide (val b≤val a)=false:=by simp; omega
  have h0:val a-val b=0:=by omega
  simp[hc1,Uv]
  rw[hd,h0]
  exact AV.imp_tuple2 tk
 ·have hc1:¬ yW (val a) (val b)<0:=by simp only[yW,if_neg hlt]; split<;>omega
  have hle:val b≤val a:=by omega
  have hd:decide (val b≤val a)=true:=by simp[hle]
  rw[hd]
  simp[hc1]
  refine zB (UL m1 m2 a b) (fun _=>True) a.length (by simp[UL,gW,zo]) trivial (fun k hk _=>?_) (fun _=>?_)
  ·have d1:=vq (m:=m1) (i:=k) ha (by omega) (by omega)
   have d2:=vq (m:=m2) (i:=k) hb (by omega) (by omega)
   rw[tg ha] at d1
   rw[tg hb] at d2
   have hpB:val a/B^k%B<B:=Nat.mod_lt _ afK
   have hqB:val b/B^k%B<B:=Nat.mod_lt _ afK
   have hc:=Yg (x:=val a) (y:=val b) (k:=k)
   obtain ⟨s,g0,gs,gle,g1,g2,g3⟩:=T1 (k:=k) hle rfl rfl rfl hpB hqB hc
   have hsucc:=td (n:=k) (x:=val a-val b)
   have hdl:=zw (n:=k) (x:=val a-val b)
   rw[g1] at hsucc
   have hst:UL m1 m2 a b (k+1)={env:=[(0,nl m1 a),(1,nl m2 b),(6,wA 1 35 (zH (zo (k+1) (val a-val b)))),(7,ye (bor (val a) (val b) (k+1))),(8,iv ((k:Int)+1))],sto:=[]}:=by
    rw[UL]; rfl
   rw[hsucc,g2] at hst
   rw[UL]
   clear g1 g2 hsucc
   generalize val a/B^k%B=p at *
   generalize val b/B^k%B=q at *
   generalize bor (val a) (val b) k=c at *
   generalize zo k (val a-val b)=D at *
   obtain ⟨d,hd⟩:∃ d,s%B=d:=⟨_,rfl⟩
   obtain ⟨e,he⟩:∃ e,s/B=e:=⟨_,rfl⟩
   rw[hd,he] at hst
   rw[he] at g3
   have hdB:d<B:=by rw[← hd]; exact Nat.mod_lt _ afK
   rw[yc] at hpB hqB hdB
   have t1:(s:Int).tmod 4294967296=(d:Int):=by
    rw[← hd,yc,show (4294967296:Int)=((4294967296:Nat):Int) from rfl,← Int.ofNat_tmod]
   have t2:IntKind.u64.wrap ((s:Int)/4294967296)=(e:Int):=by
    rw[show (s:Int)/4294967296=(e:Int) by rw[← he,yc]; omega]
    exact w64 (by omega)
   clear hd he
   have w1:IntKind.u64.wrap ((4294967296:Int)+p)=(4294967296:Int)+p:=vm (by omega) (by omega)
   have w2:IntKind.u64.wrap ((4294967296:Int)+p-q)=(4294967296:Int)+p-q:=vm (by omega) (by omega)
   have w2':IntKind.u64.wrap ((4294967296:Int)+p-q-c)=(s:Int):=by rw[vm]<;>omega
   have w3:IntKind.u32.wrap (d:Int)=d:=IntWalk.u32_in _ (by omega)
   have w5:IntKind.u64.wrap (1-(e:Int))=((1-e:Nat):Int):=by rw[vm]<;>omega
   have w4:IntKind.i64.wrap ((k:Int)+1)=(k:Int)+1:=wrap64 (by omega) (by omega)
   have hkM:(k:Int)<(a.length:Int):=by omega
   simp[fi,hkM]
   refine za d1 (by simp[f1]) (by simp) ?_
   simp[w1]
   refine za d2 (by simp[f2]) (by simp) ?_
   simp[w2,w2',w5,ue,sC,t1,t2,w3,w4,hdl,hst,kB f1,kB f2]
   omega
  ·have hlt2:val a-val b<B^a.length:=Nat.lt_of_le_of_lt (Nat.sub_le _ _) (wY ha)
   have kt:=qx (m:=.plain) (a:=zo a.length (val a-val b)) yz (by rw[zw]; omega)
   rw[yk hlt2] at kt
   simp[fi,UL,Yv,Uv]
   refine za (fJ kt Zu) (by simp) (.inl rfl) ?_
   simp
   exact AV.imp.refl
def cs (x d k:Nat):Nat:=x%B^k*d/B^k
theorem Bm {x d:Nat}:cs x d 0=0:=by simp[cs,Nat.mod_one]
theorem aca {x d k:Nat} (hd:d<B):cs x d k<B:=by
 unfold cs
 apply Nat.div_lt_of_lt_mul
 have h1:=Nat.mod_lt x (wT k)
 exact Nat.mul_lt_mul_of_lt_of_lt h1 hd
theorem PN {x d k:Nat}:x*d/B^k%B=(x/B^k%B*d+cs x d k)%B∧cs x d (k+1)=(x/B^k%B*d+cs x d k)/B:=by
 have m1:x%B^(k+1)=x%B^k+B^k*(x/B^k%B):=by rw[Nat.pow_succ,Nat.mod_mul]
 have d1:=Nat.mod_add_div x (B^(k+1))
 have hs:x*d=(x%B^k*d)+B^k*(x/B^k%B*d)+B^(k+1)*(x/B^(k+1)*d):=by
  have h:x*d=(x%B^k+B^k*(x/B^k%B)+B^(k+1)*(x/B^(k+1)))*d:=by rw[← m1,d1]
  rw[h,Nat.add_mul,Nat.add_mul,Nat.mul_assoc,Nat.mul_assoc]
 constructor
 ·rw[hs,jp]
  unfold cs
  congr 1
  omega
 ·unfold cs
  rw[m1,Nat.add_mul,Nat.mul_assoc,jo]
  congr 1
  omega
def UM (m1:Am.Mode) (a:List Nat) (d k:Nat):St :=
 {env:=[(0,nl m1 a),(1,ye d),(5,wA 1 27 (zH (zo k (val a*d)))),(6,ye (cs (val a) d k)),(7,iv k)],sto:=[]}
theorem Gx {m1:Am.Mode} {a:List Nat} {d:Nat} (ha:ok a) (hna:a.length<1099511627775) (hd:d<B) (f1:stm m1=m1) :
  zc Try.prog du [nl m1 a,ye d] (nD (val a*d)):=by
 refine zG Fm (by simp) ?_
 simp[U5]
 refine zB (UM m1 a d) (fun _=>True) (a.length+1) (by simp[UM,Bm,zo]) trivial (fun k hk _=>?_) (fun _=>?_)
 ·have d1:=vq (m:=m1) (i:=k) ha (by omega) (by omega)
  rw[tg ha] at d1
  obtain ⟨g1,g2⟩:=PN (x:=val a) (d:=d) (k:=k)
  have hsucc:=td (n:=k) (x:=val a*d)
  have hpB:val a/B^k%B<B:=Nat.mod_lt _ afK
  have hc:=aca (x:=val a) (k:=k) hd
  have hdl:=zw (n:=k) (x:=val a*d)
  rw[g1] at hsucc
  have hst:UM m1 a d (k+1)={env:=[(0,nl m1 a),(1,ye d),(5,wA 1 27 (zH (zo (k+1) (val a*d)))),(6,ye (cs (val a) d (k+1))),(7,iv ((k:Int)+1))],sto:=[]}:=by
   rw[UM]; rfl
  rw[hsucc,g2] at hst
  rw[UM]
  clear g1 g2 hsucc
  generalize val a/B^k%B=p at *
  generalize cs (val a) d k=c at *
  generalize zo k (val a*d)=D at *
  have hm:=jA hpB hd hc afK
  obtain ⟨pd,hpd⟩:∃ pd,p*d=pd:=⟨_,rfl⟩
  rw[hpd] at hst hm
  obtain ⟨t,ht⟩:∃ t,pd+c=t:=⟨_,rfl⟩
  obtain ⟨y,hy⟩:∃ y,t%B=y:=⟨_,rfl⟩
  obtain ⟨e,he⟩:∃ e,t/B=e:=⟨_,rfl⟩
  rw[ht,hy,he] at hst
  have hBB:B*B=18446744073709551616:=by decide
  rw[hBB] at hm
  have hyB:y<B:=by rw[← hy]; exact Nat.mod_lt _ afK
  have heB:e≤t:=by rw[← he]; exact Nat.div_le_self _ _
  rw[yc] at hpB hyB
  have t1:(t:Int).tmod 4294967296=(y:Int):=by
   rw[← hy,yc,show (4294967296:Int)=((4294967296:Nat):Int) from rfl,← Int.ofNat_tmod]
  have t2:IntKind.u64.wrap ((t:Int)/4294967296)=(e:Int):=by
   rw[show (t:Int)/4294967296=(e:Int) by rw[← he,yc]; omega]
   exact w64 (by omega)
  clear hy he
  have w1:IntKind.u64.wrap ((p:Int)*d)=(pd:Int):=by
   rw[show (p:Int)*(d:Int)=((p*d:Nat):Int) by simp,hpd]; exact w64 (by omega)
  have w2:IntKind.u64.wrap ((pd:Int)+c)=(t:Int):=by rw[vm]<;>omega
  have w3:IntKind.u32.wrap (y:Int)=y:=IntWalk.u32_in _ (by omega)
  have w4:IntKind.i64.wrap ((k:Int)+1)=(k:Int)+1:=wrap64 (by omega) (by omega)
  have hkM:(k:Int)≤(a.length:Int):=by omega
  have hkM2:k≤a.length:=by omega
  simp[lW,hkM]
  refine za d1 (by simp[f1]) (by simp) ?_
  simp[w1,w2,ue,sC,t1,t2,w3,w4,hdl,hst,kB f1]
  omega
 ·have hlt:val a*d<B^(a.length+1):=by
   rw[Nat.pow_succ]
   exact Nat.mul_lt_mul_of_lt_of_lt (wY ha) hd
  have kt:=qx (m:=.plain) (a:=zo (a.length+1) (val a*d)) yz (by rw[zw]; omega)
  rw[yk hlt] at kt
  have hkM:¬ (a.length:Int)+1≤(a.length:Int):=by omega
  simp[lW,UM,hkM,dH,TD]
  refine za (fJ kt Zu) (by simp) (.inl rfl) ?_
  simp
def b6 (m1:Am.Mode) (a:List Nat) (n k:Nat):St :=
 {env:=[(0,nl m1 a),(1,iv n),(5,wA 1 14 (zH (List.replicate k 0))),(6,iv k)],sto:=[]}
theorem GB {m1:Am.Mode} {a:List Nat} {n:Nat} (ha:ok a) (hna:a.length<137438953472) (hn:n<137438953472) (f1:stm m1=m1) :
  zc Try.prog dv [nl m1 a,iv n] (nD (val a*B^n)):=by
 refine zG Fo (by simp) ?_
 simp[U6]
 refine zB (b6 m1 a n) (fun _=>True) n (by simp[b6]) trivial (fun k hk _=>?_) (fun _=>?_)
 ·have hst:b6 m1 a n (k+1)={env:=[(0,nl m1 a),(1,iv n),(5,wA 1 14 (zH (List.replicate k 0++[0]))),(6,iv ((k:Int)+1))],sto:=[]}:=by
   rw[b6,List.replicate_succ']; rfl
  have hl:(List.replicate k 0).length=k:=List.length_replicate
  rw[b6]
  generalize List.replicate k 0=D at *
  have w4:IntKind.i64.wrap ((k:Int)+1)=(k:Int)+1:=wrap64 (by omega) (by omega)
  have hkn:(k:Int)<(n:Int):=by omega
  simp[lX,hkn,w4,hl,hst,kB f1]
  exact ⟨by omega,by omega,rfl⟩
 ·have hl:(List.replicate n 0).length=n:=List.length_replicate
  have hv:val (List.replicate n 0++a)=val a*B^n:=by rw[val_append,ab,hl,Nat.zero_add,Nat.mul_comm]
  have kt:=qx (m:=.plain) (a:=List.replicate n 0++a) (cd.2 ⟨R4 n,ha⟩) (by rw[List.length_append,hl]; omega)
  rw[hv] at kt
  rw[b6]
  generalize List.replicate n 0=D at *
  simp[lX,dI]
  refine TU (by simp) (.inr rfl) (by simp) (by simp) (by simp; omega) (by simp; omega) fun t ht=>?_
  simp
  refine za kt (by simp) (.inl rfl) ?_
  simp[TE]
theorem dX {f:FuncId} {x x' y r:AV} (h:zc Try.prog f [x',y] r) (hy:AV.imp x x'):zc Try.prog f [x,y] r:=fun I vs w h1 h2 h3 =>
 h I vs w h1 h2 fun i a hi=>by
  match i,hi with
  | 0,hi=>simp at hi; subst hi; exact hy _ _ _ (h3 0 x rfl)
  | 1,hi=>exact h3 1 a hi
  | i+2,hi=>simp at hi
def ZX (m1 m2:Am.Mode) (a b:List Nat) (k:Nat):St :=
 {env:=[(0,nl m1 a),(1,nl m2 b),(5,if k=0 then .list 0 .full [] else nD (val a*val (b.take k))),(6,iv k)],sto:=[]}
theorem JP {a b:List Nat} {k:Nat} (hk:k<b.length):val a*val (b.take (k+1))=val a*val (b.take k)+val a*b[k]*B^k:=by
 rw[xF hk,Nat.mul_add,Nat.mul_comm (B^k),Nat.mul_assoc]
theorem gC {m1 m2:Am.Mode} {a b:List Nat} (ha:ok a) (hb:ok b) (hs:a.length+b.length<68719476736) (f1:stm m1=m1) (_f2:stm m2=m2) :
  zc Try.prog p7 [nl m1 a,nl m2 b] (nD (val a*val b)):=by
 refine uN aap (by simp) ?_
 simp[Nr]
 refine zB (ZX m1 m2 a b) (fun _=>True) b.length (by simp[ZX]) trivial (fun k hk _=>?_) (fun _=>?_)
 ·have hbk:=xz hb hk
  have hg:∃ x,b[k]=x:=⟨_,rfl⟩
  have hsucc:=JP (a:=a) hk
  have haB:=wY ha
  have hbB:val (b.take k)<B^k:=y5 (vY hb k) (by simp; omega)
  generalize hx:b[k]=x at *
  have k1:=Gx (m1:=m1) (d:=x) ha (by omega) hbk f1
  have hl1:(zf (val a*x)).length≤a.length+1:=zJ.2 (by rw[Nat.pow_succ]; exact Nat.mul_lt_mul_of_lt_of_lt haB hbk)
  have k2:=GB (m1:=.plain) (n:=k) (zq (val a*x)) (by omega) (by omega) rfl
  rw[zL] at k2
  have hl2:(zf (val a*x*B^k)).length≤a.length+1+k:=zJ.2 (by
   rw[Nat.pow_add,Nat.pow_succ]
   exact Nat.mul_lt_mul_of_pos_right (Nat.mul_lt_mul_of_lt_of_lt haB hbk) (wT k))
  have hl3:(zf (val a*val (b.take k))).length≤a.length+k:=zJ.2 (by
   rw[Nat.pow_add]; exact Nat.mul_lt_mul_of_lt_of_lt haB hbB)
  have k3:=lq (m1:=.plain) (m2:=.plain) (zq (val a*val (b.take k))) (zq (val a*x*B^k)) (by omega) (by omega) rfl rfl
  rw[zL,zL] at k3
  rw[← hsucc] at k3
  rw[yc] at hbk
  have w1:IntKind.u64.wrap (x:Int)=x:=w64 (by omega)
  have w4:IntKind.i64.wrap ((k:Int)+1)=(k:Int)+1:=wrap64 (by omega) (by omega)
  have hkb:(k:Int)<(b.length:Int):=by omega
  obtain ⟨o,ho⟩:∃ o,(if k=0 then AV.list 0 .full [] else nD (val a*val (b.take k)))=o:=⟨_,rfl⟩
  simp[mX,hkb,hk,ZX,hx,w1]
  refine za k1 (by simp[f1]) (by simp) ?_
  simp
  refine za k2 (by simp) (by simp) ?_
  rcases Nat.eq_zero_or_pos k with h0 | h0
  ·subst h0
   have e0:nl .plain (zf (val a*val (b.take 0)))=nD 0:=by simp[val]
   rw[e0] at k3
   simp
   refine za (dX k3 (tk (sz:=0))) (by simp) (by simp) ?_
   have w0:IntKind.i64.wrap 1=1:=by decide
   simp[w0,ZX]
  ·have hk0:¬ k=0:=by omega
   simp[hk0]
   refine za k3 (by simp) (by simp) ?_
   simp[w4,ZX]
 ·rcases Nat.eq_zero_or_pos b.length with h0 | h0
  ·have hb0:b=[]:=List.length_eq_zero_iff.1 h0
   subst hb0
   simp[mX,ZX,fh,Uu,val]
   exact tk
  ·have hk0:¬ b.length=0:=by omega
   have hbn:¬ b=[]:=fun e=>by subst e; simp at h0
   simp[mX,ZX,fh,Uu,hk0]
   exact AV.imp.refl
theorem mh (q:Nat):B^q=2^(32*q):=by rw[Nat.pow_mul]; rfl
theorem Kw {x i:Nat}:x/B^(i/32)%B/2^(i%32)%2=x/2^i%2:=by
 have hi:2^i=B^(i/32)*2^(i%32):=by rw[mh,← Nat.pow_add]; congr 1; omega
 rw[hi,← Nat.div_div_eq_div_mul]
 generalize x/B^(i/32)=y
 have hr:i%32<32:=Nat.mod_lt _ (by omega)
 generalize i%32=r at *
 have hB:B=2^r*2^(32-r):=by
  rw[← Nat.pow_add,Nat.add_sub_cancel' (by omega)]; rfl
 rw[hB,Nat.mod_mul_right_div_self]
 exact Nat.mod_mod_of_dvd _ ⟨2^(31-r),by rw[show 32-r=(31-r)+1 by omega,Nat.pow_succ,Nat.mul_comm]⟩
theorem XS {m:Am.Mode} {a:List Nat} {i:Nat} (ha:ok a) (hn:a.length<1099511627776) (hi:i<35184372088832) (f1:stm m=m):zc Try.prog c7 [nl m a,iv i] (ye (val a/2^i%2)):=by
 have d1:=vq (m:=m) (i:=i/32) ha hn (by omega)
 rw[tg ha] at d1
 have hp:=Kw (x:=val a) (i:=i)
 have hpB:val a/B^(i/32)%B<B:=Nat.mod_lt _ afK
 rw[← hp]
 clear hp
 generalize val a/B^(i/32)%B=p at *
 have q1:IntKind.i64.wrap ((i:Int)/32)=((i/32:Nat):Int):=by rw[wrap64]<;>omega
 have q2:(i:Int).tmod 32=((i%32:Nat):Int):=by
  rw[show (32:Int)=((32:Nat):Int) from rfl,← Int.ofNat_tmod]
 have hr:i%32<32:=Nat.mod_lt _ (by omega)
 obtain ⟨q,hq⟩:∃ q,i/32=q:=⟨_,rfl⟩
 obtain ⟨r,hr2⟩:∃ r,i%32=r:=⟨_,rfl⟩
 rw[hq] at q1 d1
 rw[hr2] at q2 hr
 rw[hr2]
 clear hq hr2
 have hP:0<2^r:=Nat.pow_pos (by omega)
 have hPB:=kQ hr
 have hmin:min r IntKind.u64.bits=r:=by
  have:IntKind.u64.bits=64:=rfl
  omega
 obtain ⟨P,hPe⟩:∃ P,2^r=P:=⟨_,rfl⟩
 rw[hPe] at hP hPB
 rw[hPe]
 have u1:IntKind.u64.wrap ((2:Int)^r)=(P:Int):=by
  rw[show (2:Int)^r=((2^r:Nat):Int) by simp,hPe]; exact w64 (by rw[yc] at hPB; omega)
 have hne:¬ P=0:=by omega
 have u2:IntKind.u64.wrap ((p:Int)/(P:Int))=((p/P:Nat):Int):=by
  rw[← Int.natCast_ediv]; exact w64 (Nat.lt_of_le_of_lt (Nat.div_le_self _ _) (by rw[yc] at hpB; omega))
 obtain ⟨z,hz⟩:∃ z,p/P=z:=⟨_,rfl⟩
 rw[hz] at u2
 rw[hz]
 have u3:(z:Int).tmod 2=((z%2:Nat):Int):=by
  rw[show (2:Int)=((2:Nat):Int) from rfl,← Int.ofNat_tmod]
 clear hz hPe
 refine zG aam (by simp) ?_
 simp[No,ue,q1]
 refine za d1 (by simp[f1]) (by simp) ?_
 simp[ue,sC,xO,q2,hmin,u1,hne,u2,u3,Md]
def bl (x:Nat):Nat:=if x=0 then 0 else Nat.log2 x+1
theorem Cx (x:Nat):x<2^bl x:=by
 unfold bl
 split
 ·subst x; decide
 ·exact Nat.lt_log2_self
theorem aaE {x:Nat} (h:0<bl x):x/2^(bl x-1)%2=1:=by
 unfold bl at *
 split at h
 ·exact absurd h (Nat.lt_irrefl _)
 ·rename_i h0
  rw[if_neg h0,Nat.add_sub_cancel]
  have h1:=Nat.log2_self_le h0
  have h2:x<2^(Nat.log2 x+1):=Nat.lt_log2_self
  have h3:x/2^Nat.log2 x=1:=by
   rw[Nat.div_eq_iff (Nat.pow_pos (by omega))]
   rw[Nat.pow_succ] at h2
   omega
  rw[h3]
theorem Mw {x n:Nat} (h:x<2^n):bl x≤n:=by
 unfold bl
 split
 ·omega
 ·rename_i h0
  exact (Nat.log2_lt h0).2 h
def stB (m:Am.Mode) (a:List Nat) (k:Nat):St:={env:=[(0,nl m a),(3,iv ((32*a.length-k:Nat):Int))],sto:=[]}
theorem SN {m:Am.Mode} {a:List Nat} (ha:ok a) (hn:a.length<137438953472) (f1:stm m=m):zc Try.prog gS [nl m a] (iv (bl (val a))):=by
 refine zG Cr (by simp) ?_
 have hlt:val a<2^(32*a.length):=by rw[← mh]; exact wY ha
 have hle:=Mw hlt
 have w0:IntKind.i64.wrap (32*(a.length:Int))=((32*a.length:Nat):Int):=by rw[wrap64]<;>omega
 simp[SX,w0]
 refine zB (stB m a) (fun _=>True) (32*a.length-bl (val a)) (by simp[stB]) trivial (fun k hk _=>?_) (fun _=>?_)
 ·obtain ⟨j,hj⟩:∃ j,32*a.length-k=j+1:=⟨32*a.length-k-1,by omega⟩
  have hj2:32*a.length-(k+1)=j:=by omega
  have hb:=XS (m:=m) (i:=j) ha (by omega) (by omega) f1
  have hz:val a/2^j%2=0:=by
   rw[Nat.div_eq_of_lt]
   exact Nat.lt_of_lt_of_le (Cx _) (Nat.pow_le_pow_right (by omega) (by omega))
  rw[hz] at hb
  have hst:stB m a (k+1)={env:=[(0,nl m a),(3,iv j)],sto:=[]}:=by rw[stB,hj2]
  have hst0:stB m a k={env:=[(0,nl m a),(3,iv ((j:Int)+1))],sto:=[]}:=by rw[stB,hj]; rfl
  have w1:IntKind.i64.wrap (j:Int)=(j:Int):=by rw[wrap64]<;>omega
  have p1:(0:Int)<(j:Int)+1:=by omega
  rw[hst0]
  simp[ag4,p1,w1]
  refine za hb (by simp[f1]) (by simp) ?_
  simp[w1,hst]
 ·have e:32*a.length-(32*a.length-bl (val a))=bl (val a):=by omega
  have ht:=fun h=>aaE (x:=val a) h
  have hb:=fun i h=>XS (m:=m) (i:=i) ha (by omega) h f1
  rw[stB,e]
  generalize bl (val a)=L at *
  rcases L with _ | j
  ·simp[ag4,jT,ZI]
  ·have hb:=hb j (by omega)
   have ht:=ht (by omega)
   rw[Nat.add_sub_cancel] at ht
   rw[ht] at hb
   have w1:IntKind.i64.wrap (j:Int)=(j:Int):=by rw[wrap64]<;>omega
   have p1:(0:Int)<(j:Int)+1:=by omega
   simp[ag4,p1,w1]
   refine za hb (by simp[f1]) (by simp) ?_
   simp[jT,ZI]
theorem M1 {Y r:Nat} (hr:r<32):(Y%B+Y/B%B*B)/2^r%B=Y/2^r%B:=by
 have h1:Y%B+Y/B%B*B=Y%(2^r*2^(64-r)):=by
  have:2^r*2^(64-r)=B*B:=by
   rw[← Nat.pow_add,Nat.add_sub_cancel' (by omega)]; rfl
  rw[this,Nat.mod_mul,Nat.mul_comm]
 rw[h1,Nat.mod_mul_right_div_self]
 refine Nat.mod_mod_of_dvd _ ⟨2^(32-r),?_⟩
 rw[show 64-r=32+(32-r) by omega,Nat.pow_add]; rfl
theorem M0 {x k t:Nat}:x/2^k/B^t%B=(x/B^(k/32+t)%B+x/B^(k/32+t+1)%B*B)/2^(k%32)%B:=by
 have h1:x/B^(k/32+t+1)=x/B^(k/32+t)/B:=by rw[Nat.pow_succ,Nat.div_div_eq_div_mul]
 rw[h1,M1 (Nat.mod_lt _ (by omega)),Nat.div_div_eq_div_mul,Nat.div_div_eq_div_mul]
 have:2^k*B^t=B^(k/32+t)*2^(k%32):=by
  rw[mh,mh,← Nat.pow_add,← Nat.pow_add]; congr 1; omega
 rw[this]
def stH (m:Am.Mode) (a:List Nat) (k t:Nat):St :=
 {env:=[(0,nl m a),(1,iv k),(5,wA 1 34 (zH (zo t (val a/2^k)))),(6,iv ((k/32+t:Nat):Int))],sto:=[]}
theorem EF {m:Am.Mode} {a:List Nat} {k:Nat} (ha:ok a) (hn:a.length<137438953472) (hk:k<35184372088832) (f1:stm m=m):zc Try.prog Zc [nl m a,iv k] (nD (val a/2^k)):=by
 refine zG Cs (by simp) ?_
 have q0:IntKind.i64.wrap ((k:Int)/32)=((k/32:Nat):Int):=by rw[wrap64]<;>omega
 have q2:(k:Int).tmod 32=((k%32:Nat):Int):=by
  rw[show (32:Int)=((32:Nat):Int) from rfl,← Int.ofNat_tmod]
 simp[SY,ue,q0]
 refine zB (stH m a k) (fun _=>True) (a.length-k/32) (by simp[stH,zo]) trivial (fun t ht _=>?_) (fun _=>?_)
 ·have d1:=vq (m:=m) (i:=k/32+t) ha (by omega) (by omega)
  have d2:=vq (m:=m) (i:=k/32+t+1) ha (by omega) (by omega)
  rw[tg ha] at d1 d2
  have hd:=M0 (x:=val a) (k:=k) (t:=t)
  have hsucc:=td (n:=t) (x:=val a/2^k)
  have hdl:=zw (n:=t) (x:=val a/2^k)
  rw[hd] at hsucc
  have hst:stH m a k (t+1)={env:=[(0,nl m a),(1,iv k),(5,wA 1 34 (zH (zo (t+1) (val a/2^k)))),(6,iv ((k/32+t:Nat)+1:Int))],sto:=[]}:=by
   rw[stH]; rfl
  rw[hsucc] at hst
  rw[stH]
  clear hd hsucc
  have hpB:val a/B^(k/32+t)%B<B:=Nat.mod_lt _ afK
  have hqB:val a/B^(k/32+t+1)%B<B:=Nat.mod_lt _ afK
  generalize val a/B^(k/32+t)%B=p at *
  generalize val a/B^(k/32+t+1)%B=q at *
  generalize zo t (val a/2^k)=D at *
  have hr:k%32<32:=Nat.mod_lt _ (by omega)
  obtain ⟨i,hi⟩:∃ i,k/32+t=i:=⟨_,rfl⟩
  obtain ⟨r,hr2⟩:∃ r,k%32=r:=⟨_,rfl⟩
  have hil:i<a.length:=by omega
  rw[hi] at d1 d2 hst
  rw[hi]
  rw[hr2] at hst q2 hr
  have htb:t<a.length:=by omega
  clear hi hr2 ht q0
  have hP:0<2^r:=Nat.pow_pos (by omega)
  have hPB:=kQ hr
  have hmin:min r IntKind.u64.bits=r:=by
   have:IntKind.u64.bits=64:=rfl
   omega
  obtain ⟨P,hPe⟩:∃ P,2^r=P:=⟨_,rfl⟩
  rw[hPe] at hP hPB hst
  have u1:IntKind.u64.wrap ((2:Int)^r)=(P:Int):=by
   rw[show (2:Int)^r=((2^r:Nat):Int) by simp,hPe]; exact w64 (by rw[yc] at hPB; omega)
  have hne:¬ P=0:=by omega
  clear hPe
  have hs:=XG hqB hpB
  obtain ⟨s,hse⟩:∃ s,p+q*B=s:=⟨_,rfl⟩
  have hsB:s<18446744073709551616:=by rw[← hse,Nat.add_comm]; exact hs
  rw[hse] at hst
  obtain ⟨qb,hqb⟩:∃ qb,q*B=qb:=⟨_,rfl⟩
  rw[hqb] at hse
  have w1:IntKind.u64.wrap ((q:Int)*4294967296)=(qb:Int):=by
   rw[show (q:Int)*4294967296=((q*B:Nat):Int) by rw[yc]; simp,hqb]; exact w64 (by omega)
  have w2:IntKind.u64.wrap ((p:Int)+qb)=(s:Int):=by rw[vm]<;>omega
  have u2:IntKind.u64.wrap ((s:Int)/(P:Int))=((s/P:Nat):Int):=by
   rw[← Int.natCast_ediv]; exact w64 (Nat.lt_of_le_of_lt (Nat.div_le_self _ _) hsB)
  obtain ⟨z,hz⟩:∃ z,s/P=z:=⟨_,rfl⟩
  rw[hz] at u2 hst
  obtain ⟨d,hd⟩:∃ d,z%B=d:=⟨_,rfl⟩
  rw[hd] at hst
  have u3:(z:Int).tmod 4294967296=(d:Int):=by
   rw[← hd,yc,show (4294967296:Int)=((4294967296:Nat):Int) from rfl,← Int.ofNat_tmod]
  have hdB:d<B:=by rw[← hd]; exact Nat.mod_lt _ afK
  clear hz hd hqb hs
  rw[yc] at hdB
  have w3:IntKind.u32.wrap (d:Int)=d:=IntWalk.u32_in _ (by omega)
  have w4:IntKind.i64.wrap ((i:Int)+1)=(i:Int)+1:=wrap64 (by omega) (by omega)
  have hil':(i:Int)<(a.length:Int):=by omega
  simp[jU,hil']
  refine za d1 (by simp[f1]) (by simp) ?_
  simp[w4]
  refine za d2 (by simp[f1]) (by simp) ?_
  simp[ue,sC,xO,w1,w2,q2,hmin,u1,hne,u2,u3,w3,w4,hst,kB f1]
  omega
 ·have hlt:val a/2^k<B^(a.length-k/32):=by
   apply Nat.div_lt_of_lt_mul
   have h1:=wY ha
   have h2:B^a.length≤2^k*B^(a.length-k/32):=by
    rw[mh,mh,← Nat.pow_add]
    exact Nat.pow_le_pow_right (by omega) (by omega)
   exact Nat.lt_of_lt_of_le h1 h2
  have kt:=qx (m:=.plain) (a:=zo (a.length-k/32) (val a/2^k)) yz (by rw[zw]; omega)
  rw[yk hlt] at kt
  rw[stH]
  generalize val a/2^k=y at *
  have hge:¬ ((k/32+(a.length-k/32):Nat):Int)<(a.length:Int):=by omega
  generalize k/32+(a.length-k/32)=i at *
  generalize a.length-k/32=n at *
  have hge':¬ i<a.length:=by omega
  simp[jU,hge',aB,Qh]
  refine za (fJ kt Zu) (by simp) (.inl rfl) ?_
  simp
theorem FQ {x y j:Nat} (hy:0<y) :
  let r:=2*(x/2^(j+1)%y)+x/2^j%2
  (r<y→x/2^j/y=2*(x/2^(j+1)/y)∧x/2^j%y=r)∧(y≤r→x/2^j/y=2*(x/2^(j+1)/y)+1∧x/2^j%y=r-y):=by
 intro r
 have hX:x/2^j=2*(x/2^(j+1))+x/2^j%2:=by
  have:x/2^(j+1)=x/2^j/2:=by rw[Nat.pow_succ,Nat.div_div_eq_div_mul]
  rw[this]; omega
 have hb:x/2^j%2<2:=Nat.mod_lt _ (by omega)
 have hd:=Nat.div_add_mod (x/2^(j+1)) y
 have hm:=Nat.mod_lt (x/2^(j+1)) hy
 have hr:r=2*(x/2^(j+1)%y)+x/2^j%2:=rfl
 generalize x/2^j%2=b at *
 generalize x/2^(j+1)/y=q at *
 generalize x/2^(j+1)%y=m at *
 generalize x/2^(j+1)=X at *
 generalize x/2^j=Z at *
 have hZ:Z=y*(2*q)+r:=by
  rw[show y*(2*q)=2*(y*q) by rw[Nat.mul_left_comm]]; omega
 clear hX hd
 constructor
 ·intro h
  rw[hZ]
  exact ⟨by rw[Nat.mul_add_div hy,Nat.div_eq_of_lt h,Nat.add_zero],by rw[Nat.mul_add_mod,Nat.mod_eq_of_lt h]⟩
 ·intro h
  have h2:Z=y*(2*q+1)+(r-y):=by rw[Nat.mul_add,Nat.mul_one]; omega
  have h3:r-y<y:=by omega
  rw[h2]
  exact ⟨by rw[Nat.mul_add_div hy,Nat.div_eq_of_lt h3,Nat.add_zero],by rw[Nat.mul_add_mod,Nat.mod_eq_of_lt h3]⟩
theorem Kv {x y:Nat} (hy:0<y):x/2^(bl x+1-bl y)<y∧0<bl y:=by
 have h1:=Cx x
 have hne:y≠0:=by omega
 have hb:bl y=Nat.log2 y+1:=by unfold bl; rw[if_neg hne]
 have h2:=Nat.log2_self_le hne
 refine ⟨Nat.lt_of_lt_of_le ?_ h2,by omega⟩
 apply Nat.div_lt_of_lt_mul
 rw[← Nat.pow_add]
 exact Nat.lt_of_lt_of_le h1 (Nat.pow_le_pow_right (by omega) (by omega))
def qA (t Q:Nat):AV:=if t=0 then .list 0 .full [] else nD Q
def UD (m1 m2:Am.Mode) (a c:List Nat) (k t:Nat):St :=
 {env:=[(0,nl m1 a),(1,nl m2 c),(8,qA t (val a/2^(k-t)/val c)),(9,nD (val a/2^(k-t)%val c)),(10,iv ((k:Int)-1-t))],sto:=[]}
theorem fu {m1 m2:Am.Mode} {a c:List Nat} (ha:ok a) (hc:ok c) (hna:a.length<68719476736) (hnc:c.length<68719476736) (f1:stm m1=m1) (f2:stm m2=m2) (hD:val c≠0) :
  zc Try.prog qY [nl m1 a,nl m2 c] (fw (val a) (val c)):=by
 have hy:0<val c:=by omega
 obtain ⟨s1,s2⟩:=Kv (x:=val a) hy
 have b1:=SN ha (by omega) f1
 have b2:=SN hc (by omega) f2
 have hl1:bl (val a)≤32*a.length:=Mw (by rw[← mh]; exact wY ha)
 have hl2:bl (val c)≤32*c.length:=Mw (by rw[← mh]; exact wY hc)
 obtain ⟨k,hk⟩:∃ k,bl (val a)+1-bl (val c)=k:=⟨_,rfl⟩
 have hk2:k≤32*a.length:=by omega
 have hh:=EF (k:=k) ha (by omega) (by omega) f1
 have hcl:¬ c.length=0:=fun h=>by
  rw[List.length_eq_zero_iff] at h
  subst h
  exact hD rfl
 have hcn:¬ c=[]:=fun h=>hcl (by rw[h]; rfl)
 rw[hk] at s1
 have m0:max (1:Int) (bl (val c):Int)=(bl (val c):Int):=by omega
 have w0:IntKind.i64.wrap ((bl (val a):Int)-(bl (val c):Int))=(bl (val a):Int)-(bl (val c):Int):=by rw[wrap64]<;>omega
 have w1:IntKind.i64.wrap ((bl (val a):Int)-(bl (val c):Int)+1)=(bl (val a):Int)-(bl (val c):Int)+1:=by rw[wrap64]<;>omega
 have m1':max (0:Int) ((bl (val a):Int)-(bl (val c):Int)+1)=(k:Int):=by omega
 have w2:IntKind.i64.wrap ((k:Int)-1)=(k:Int)-1:=by rw[wrap64]<;>omega
 refine uN Kc (by simp) ?_
 simp[Yt,hcl]
 refine za b1 (by simp[f1]) (by simp) ?_
 simp
 refine za b2 (by simp[f2]) (by simp) ?_
 simp[m0,w0,w1,m1']
 refine za hh (by simp[f1]) (by simp) ?_
 simp[w2]
 have r0:val a/2^k%val c=val a/2^k:=Nat.mod_eq_of_lt s1
 refine zB (UD m1 m2 a c k) (fun _=>True) k (by simp[UD,qA,r0]) trivial (fun t ht _=>?_) (fun _=>?_)
 ·obtain ⟨j,hj⟩:∃ j,k-1-t=j:=⟨_,rfl⟩
  have hj1:k-t=j+1:=by omega
  have hj2:k-(t+1)=j:=by omega
  have hjz:(k:Int)-1-t=(j:Int):=by omega
  obtain ⟨p1,p2⟩:=FQ (x:=val a) (j:=j) hy
  have hb:=XS (m:=m1) (i:=j) ha (by omega) (by omega) f1
  have hQ:val a/2^(j+1)/val c<B^a.length:=Nat.lt_of_le_of_lt (Nat.le_trans (Nat.div_le_self _ _) (Nat.div_le_self _ _)) (wY ha)
  have hR:val a/2^(j+1)%val c<B^c.length:=Nat.lt_trans (Nat.mod_lt _ hy) (wY hc)
  have hbt:val a/2^j%2<2:=Nat.mod_lt _ (by omega)
  have hst:UD m1 m2 a c k (t+1)={env:=[(0,nl m1 a),(1,nl m2 c),(8,nD (val a/2^j/val c)),(9,nD (val a/2^j%val c)),(10,iv ((j:Int)-1))],sto:=[]}:=by
   rw[UD,hj2,qA,if_neg (by omega),show (k:Int)-1-((t+1:Nat):Int)=(j:Int)-1 by omega]
  rw[UD,hj1,hjz]
  have h2:∀ {z n:Nat},z<B^n→z+z<B^(n+1)∧z+z+1<B^(n+1):=fun {z n} h=>by
   rw[Nat.pow_succ]
   have:B^n*2≤B^n*B:=Nat.mul_le_mul_left _ (by decide)
   omega
  have q0:t=0→val a/2^(j+1)/val c=0:=fun h=>by
   have:j+1=k:=by omega
   rw[this]; exact Nat.div_eq_of_lt s1
  generalize val a/2^(j+1)/val c=Q at *
  generalize val a/2^(j+1)%val c=R at *
  generalize val a/2^j%2=d at *
  have lQ:=zJ.2 hQ
  have lR:=zJ.2 hR
  have lQQ:=zJ.2 (h2 hQ).1
  have lRR:=zJ.2 (h2 hR).1
  have lRR1:(zf (R+R+d)).length≤c.length+1:=zJ.2 (by have:=h2 hR; omega)
  have ld:(zf d).length≤1:=zJ.2 (by rw[Nat.pow_one,yc]; omega)
  have kq:=lq (m1:=.plain) (m2:=.plain) (zq Q) (zq Q) (by omega) (by omega) rfl rfl
  have kr:=lq (m1:=.plain) (m2:=.plain) (zq R) (zq R) (by omega) (by omega) rfl rfl
  have kf:=kH (x:=d) (by omega)
  have kr2:=lq (m1:=.plain) (m2:=.plain) (zq (R+R)) (zq d) (by omega) (by omega) rfl rfl
  have kc:=Nt (m1:=.plain) (m2:=m2) (zq (R+R+d)) hc (by omega) (by omega) rfl f2
  have ks:=UP (m1:=.plain) (m2:=m2) (zq (R+R+d)) hc (by omega) (by omega) rfl f2
  have kf1:=kH (x:=1) (by omega)
  have l1:(zf 1).length≤1:=zJ.2 (by decide)
  have kq1:=lq (m1:=.plain) (m2:=.plain) (zq (Q+Q)) (zq 1) (by omega) (by omega) rfl rfl
  simp only[zL] at kq kr kr2 kc ks kq1
  have w3:IntKind.i64.wrap ((j:Int)-1)=(j:Int)-1:=by rw[wrap64]<;>omega
  have kq':zc Try.prog rc [qA t Q,qA t Q] (nD (Q+Q))∧qA t Q=(if t=0 then .list 0 .full [] else nD Q):=by
   refine ⟨?_,rfl⟩
   unfold qA
   split
   ·rename_i h0
    have hq0:=q0 h0
    subst hq0
    exact dX (kI kq (tk (sz:=0))) (tk (sz:=0))
   ·exact kq
  have hsn:wu (fun _=>none) (qA t Q)=some (qA t Q):=by unfold qA; split<;>simp
  have hrf:([qA t Q,qA t Q]:List AV).any sH=false:=by unfold qA; split<;>simp
  simp[mI]
  refine za kq'.1 (by simp[hsn]) (.inl hrf) ?_
  simp
  refine za kr (by simp) (by simp) ?_
  simp
  refine za hb (by simp[f1]) (by simp) ?_
  simp
  refine za kf (by simp) (by simp) ?_
  simp
  refine za kr2 (by simp) (by simp) ?_
  simp
  refine za kc (by simp[f2]) (by simp) ?_
  have e2:R+R+d=2*R+d:=by omega
  have e3:Q+Q=2*Q:=by omega
  by_cases hlt:R+R+d<val c
  ·have hcm:¬ (0:Int)≤yW (R+R+d) (val c):=by simp[yW,hlt]
   obtain ⟨g1,g2⟩:=p1 (by omega)
   rw[g1,g2,← e2,← e3] at hst
   simp[hcm,w3,hst]
  ·have hcm:(0:Int)≤yW (R+R+d) (val c):=by simp only[yW,if_neg hlt]; split<;>omega
   obtain ⟨g1,g2⟩:=p2 (by omega)
   rw[g1,g2,← e2,← e3] at hst
   simp[hcm]
   refine za ks (by simp[f2]) (by simp) ?_
   simp
   refine za kf1 (by simp) (by simp) ?_
   simp
   refine za kq1 (by simp) (by simp) ?_
   simp[w3,hst]
 ·have hkk:¬ (k:Int)≤(k:Int)-1:=by omega
  have e0:¬ (0:Int)≤(k:Int)-1-k:=by omega
  simp[mI,UD,hkk,eX,Xb]
  rcases Nat.eq_zero_or_pos k with h0 | h0
  ·subst h0
   have hz:val a/val c=0:=by rw[Nat.pow_zero,Nat.div_one] at s1; exact Nat.div_eq_of_lt s1
   simp[qA]
   rw[fw,hz]
   exact Ry tk AV.imp.refl AV.imp.refl
  ·have hk0:¬ k=0:=by omega
   simp[qA,hk0]
   exact AV.imp.refl
theorem NF {A D:Nat} (hna:(zf A).length<68719476736) (hnc:(zf D).length<68719476736) :
  zc Try.prog ge [nD A,nD D] (nD (Nat.gcd A D)):=by
 obtain ⟨N,h1,h2⟩:=K5 D A
 obtain ⟨L,hL⟩:∃ L,L=68719476735:=⟨_,rfl⟩
 have hL1:A<B^L:=zJ.1 (by omega)
 have hL2:D<B^L:=zJ.1 (by omega)
 have hb:=fun k=>MO k A D hL1 hL2
 have hlen:∀ x,x<B^L→(zf x).length<68719476736:=fun x hx=>Nat.lt_of_le_of_lt (zJ.2 hx) (by omega)
 have hg:=hlen _ (show Nat.gcd A D<B^L by have:=(hb N).1; rw[h2] at this; exact this)
 refine zG aao (by simp) ?_
 simp[Nq]
 refine zB (fun k=>stG (eu A D k)) (fun _=>True) N (by simp[stG,eu]) trivial (fun k hk _=>?_) (fun _=>?_)
 ·have hne:=h1 k hk
  obtain ⟨b1,b2⟩:=hb k
  have b1':=hlen _ b1
  have b2':=hlen _ b2
  have hs:=X5 k A D
  obtain ⟨x,hx⟩:∃ x,(eu A D k).1=x:=⟨_,rfl⟩
  obtain ⟨y,hy⟩:∃ y,(eu A D k).2=y:=⟨_,rfl⟩
  rw[hx,hy] at hs
  rw[hx] at b1'
  rw[hy] at b2' hne
  have kd:=fu (m1:=.plain) (m2:=.plain) (zq x) (zq y) b1' b2' rfl rfl (by rw[zL]; exact hne)
  rw[zL,zL] at kd
  have hl0:0<(zf y).length:=by
   rcases Nat.eq_zero_or_pos (zf y).length with h | h
   ·rw[List.length_eq_zero_iff,yH] at h; exact absurd h hne
   ·exact h
  simp[fg,stG,hl0,hx,hy]
  refine za kd (by simp) (by simp) ?_
  simp[hs]
 ·simp only[h2]
  have kt:=qx (m:=.plain) (zq (Nat.gcd A D)) (by omega)
  rw[zL] at kt
  simp[fg,Yu,Me,stG,yt]
  refine za kt (by simp) (by simp) ?_
  simp
theorem kK {neg:Bool} {N D:Nat} (hN:(zf N).length<68719476736) (hD:(zf D).length<68719476736) (h0:D≠0) :
  zc Try.prog qd [bv neg,nD N,nD D] (.tuple [xr neg N D,iv 0]):=by
 obtain ⟨g0,g1,g2⟩:=Rt (N:=N) h0
 have kg:=NF hN hD
 have hgl:(zf (Nat.gcd N D)).length<68719476736:=by
  have h1:D<B^(zf D).length:=zJ.1 (Nat.le_refl _)
  exact Nat.lt_of_le_of_lt (zJ.2 (Nat.lt_of_le_of_lt g2 h1)) hD
 have hl0:¬ (zf D).length=0:=by rw[List.length_eq_zero_iff,yH]; exact h0
 have hl1:¬ zf D=[]:=by rw[yH]; exact h0
 unfold xr
 have hz:(zf (N/Nat.gcd N D)).length=0↔N=0:=by rw[List.length_eq_zero_iff,yH]; exact g1
 generalize Nat.gcd N D=g at *
 have kn:=fu (m1:=.plain) (m2:=.plain) (zq N) (zq g) (by omega) (by omega) rfl rfl (by rw[zL]; exact g0)
 have kd:=fu (m1:=.plain) (m2:=.plain) (zq D) (zq g) (by omega) (by omega) rfl rfl (by rw[zL]; exact g0)
 simp only[zL] at kn kd
 refine zG Cn (by simp) ?_
 simp[SW,hl0]
 refine za kg (by simp) (by simp) ?_
 simp
 refine za kn (by simp) (by simp) ?_
 simp
 refine za kd (by simp) (by simp) ?_
 cases neg
 ·simp[ee]
 ·by_cases hN0:N=0
  ·subst hN0
   simp[ee,yt]
  ·have:0<(zf N).length:=by
    rcases Nat.eq_zero_or_pos (zf N).length with h | h
    ·rw[List.length_eq_zero_iff,yH] at h; exact absurd h hN0
    ·exact h
   simp[ee,this,hN0]
theorem Xj {n:Int} (h1:-9223372036854775808≤n) (h2:n<9223372036854775808):zc Try.prog gR [iv n] (nD n.natAbs):=by
 obtain ⟨x,hx⟩:∃ x,n.natAbs=x:=⟨_,rfl⟩
 have hxl:x<18446744073709551616:=by omega
 have k:=kH (x:=x) hxl
 rw[hx]
 refine zG Cq (by simp) ?_
 by_cases h:n<0
 ·have w1:IntKind.i64.wrap (n+1)=n+1:=by rw[wrap64]<;>omega
  have w2:IntKind.i64.wrap (-(n+1))=(x:Int)-1:=by rw[wrap64]<;>omega
  have w2':IntKind.i64.wrap (-1+-n)=(x:Int)-1:=by rw[wrap64]<;>omega
  have w3:IntKind.u64.wrap ((x:Int)-1)=(x:Int)-1:=by rw[vm]<;>omega
  have w4:IntKind.u64.wrap (x:Int)=x:=w64 hxl
  simp[Zh,h,w1,RV,w2,w3,w4]
  refine za k (by simp) (by simp) ?_
  simp[ZH]
 ·have w4:IntKind.u64.wrap n=(x:Int):=by rw[vm]<;>omega
  simp[Zh,h,w4]
  refine za k (by simp) (by simp) ?_
  simp[ZH]
theorem B3 {n d:Int} (h1:-9223372036854775808≤n) (h2:n<9223372036854775808) (h3:-9223372036854775808≤d) (h4:d<9223372036854775808) (h0:d≠0) :
  zc Try.prog XL [iv n,iv d] (.tuple [xr (decide (n<0) != decide (d<0)) n.natAbs d.natAbs,iv 0]):=by
 have k1:=Xj h1 h2
 have k2:=Xj h3 h4
 have l1:=mY (x:=n.natAbs) (by omega)
 have l2:=mY (x:=d.natAbs) (by omega)
 have k3:=kK (neg:=decide (n<0) != decide (d<0)) (N:=n.natAbs) (D:=d.natAbs) (by omega) (by omega) (by omega)
 unfold xr at *
 generalize n.natAbs/Nat.gcd n.natAbs d.natAbs=p at *
 generalize d.natAbs/Nat.gcd n.natAbs d.natAbs=q at *
 generalize hb:(decide (n<0) != decide (d<0))=b at *
 refine zG aai (by simp) ?_
 have hu:Try.prog.underlying uu=some .bool:=by first | exact un_T_bool | rfl | kernel_rfl
 have hb':(!(decide (n<0) == decide (d<0)))=b:=hb
 simp[Nk,xD hu]
 rw[hb']
 refine za k1 (by simp) (by simp) ?_
 simp
 refine za k2 (by simp) (by simp) ?_
 simp
 refine za k3 (by simp) (by simp) ?_
 simp[N9]
theorem Pr {n:Int} (h1:-9223372036854775808≤n) (h2:n<9223372036854775808):zc Try.prog f4 [iv n] (xr (decide (n<0)) n.natAbs 1):=by
 have k:=B3 (n:=n) (d:=1) h1 h2 (by decide) (by decide) (by decide)
 have e:(decide (n<0) != decide ((1:Int)<0))=decide (n<0):=by simp
 rw[e,show (1:Int).natAbs=1 from rfl] at k
 unfold xr at *
 generalize n.natAbs/Nat.gcd n.natAbs 1=p at *
 generalize 1/Nat.gcd n.natAbs 1=q at *
 refine zG PZ (by simp) ?_
 simp[aw]
 refine za k (by simp) (by simp) ?_
 simp[aV]
end Go.Proofs.Ytbgnkodhpbkdoaa
