/- What the proof rests on, part 8: N2 N3c Dig2 N4f WB WA2 GA WE RS WG WA3 WH N1v N5 Dig3 Dig4 N6 N7 N8 N9 N10 Dig5 N11 N6b N12 N13 N14 F1 F3f F5 FR N3 N4. -/
import Derived.Test.YtpnliopaifpimaaGreatP7
set_option maxRecDepth 100000
set_option maxHeartbeats 4000000
namespace Go.Proofs.YtpnliopaifpimaaGreat
open Go Go.Am Go.Dig
theorem JB (n:Int):IntKind.u64.wrap n=n%18446744073709551616:=by simp[IntKind.wrap,IntKind.bits,IntKind.signed]
abbrev zU (n:Nat):AV:=.val (.int .u64 (n:Int))
theorem ZH (n:Nat):(n:Int).fdiv (2^min 32 IntKind.u64.bits)=((n/B:Nat):Int):=by
 have:min 32 IntKind.u64.bits=32:=rfl
 rw[this,Int.fdiv_eq_ediv_of_nonneg _ (by decide),z9]
 rfl
theorem xH {a:List Nat} {k d:Nat}:(zD a).set k [uv d]=zD (a.set k d):=by simp[List.map_set]
theorem pV {b:List Nat} {k:Nat} (h:b.length≤k):val (b.take k)=val b:=by rw[List.take_of_length_le h]
theorem Th {a:List Nat} (h:ok a) (k:Nat):val (a.take k)<B^k:=yS (sx h k) (by simp; omega)
def low (a b:List Nat) (k:Nat):Nat:=val (a.take k)+val (b.take k)
def car (a b:List Nat) (k:Nat):Nat:=low a b k/B^k
theorem S6 {a b:List Nat} (ha:ok a) (hb:ok b) (k:Nat):car a b k≤1:=by
 have h1:=Th ha k
 have h2:=Th hb k
 have:low a b k<2*B^k:=by unfold low; omega
 have:=Nat.div_lt_of_lt_mul (Nat.mul_comm 2 _▸this)
 unfold car
 omega
theorem Tt {a b:List Nat}:car a b 0=0:=by simp[car,low,val]
theorem Nk {a b:List Nat} {k t R:Nat} (h:low a b (k+1)=low a b k+B^k*t) (hs:val a+val b=low a b (k+1)+B^(k+1)*R) :
  (val a+val b)/B^k%B=(car a b k+t)%B∧car a b (k+1)=(car a b k+t)/B:=by
 constructor
 ·rw[hs,h,dZ]; rfl
 ·unfold car; rw[h,dY]
theorem abl (a b:List Nat) (k:Nat) (ha:k≤a.length) (hb:k≤b.length∨b.length≤k):∃ R,val a+val b=low a b k+B^k*R:=by
 have e1:=tE a k
 rw[Nat.min_eq_left ha] at e1
 rcases hb with hb | hb
 ·have e2:=tE b k
  rw[Nat.min_eq_left hb] at e2
  exact ⟨val (a.drop k)+val (b.drop k),by unfold low; rw[Nat.mul_add]; omega⟩
 ·exact ⟨val (a.drop k),by unfold low; rw[pV hb]; omega⟩
theorem Qq {a b:List Nat} {k:Nat} (hk:k<a.length) (hb:k<b.length∨b.length≤k):∃ t,t=car a b k+(a[k]+(b[k]?.getD 0))∧(val a+val b)/B^k%B=t%B∧car a b (k+1)=t/B:=by
 refine ⟨_,rfl,?_⟩
 obtain ⟨R,hR⟩:=abl a b (k+1) (by omega) (by omega)
 rcases hb with hb | hb
 ·rw[List.getElem?_eq_getElem hb,Option.getD_some]
  exact Nk (by unfold low; rw[x7 hk,x7 hb,Nat.mul_add]; omega) hR
 ·rw[List.getElem?_eq_none hb,Option.getD_none]
  exact Nk (by unfold low; rw[x7 hk,pV hb,pV (show b.length≤k+1 by omega)]; simp; omega) hR
def jU (m1 m2:Am.Mode) (a b:List Nat) (k:Nat):St :=
 {env:=[(0,nl m1 a),(1,nl m2 b),(5,.sl 19 1 0 (a.length+1)),(6,zU (car a b k)),(21,iv a.length),(22,iv k)],sto:=[(19,.arr 1 (zD (vo (a.length+1) k (val a+val b))))]}
theorem MP {m1 m2:Am.Mode} {a b:List Nat} (ha:ok a) (hb:ok b) (hl:b.length≤a.length) (hn:a.length<1099511627775) :
  awp Tryz.prog (.loop lX) (jU m1 m2 a b 0) (vi 0 (pS Tryz.prog aJ (ZB Q4 (nD (val a+val b))))):=by
 have hS:val a+val b<B^(a.length+1):=by
  have h1:=uC ha
  have h2:=yS hb hl
  rw[Nat.pow_succ,z9] at *
  omega
 refine zw (jU m1 m2 a b) (fun _=>True) a.length (by simp[jU]) trivial (fun k hk _=>?_) (fun _=>?_)
 ·have e:(k:Int)<a.length:=by omega
  have hc:=S6 ha hb k
  have hak:=xv ha hk
  have hfl:=d8 (n:=a.length+1) (k:=k) (S:=val a+val b) (by omega)
  have hfk:k<(vo (a.length+1) k (val a+val b)).length:=by omega
  have hset:=ca (n:=a.length+1) (k:=k) (S:=val a+val b) (by omega)
  have e1:IntKind.u64.wrap ((a[k]:Nat):Int)=(a[k]:Nat):=w64 (by rw[z9] at hak; omega)
  obtain ⟨t,ht,g1,g2⟩:=Qq (a:=a) (b:=b) hk (by omega)
  rw[g1] at hset
  obtain ⟨d,hd⟩:∃ d,t%B=d:=⟨_,rfl⟩
  obtain ⟨q,hq⟩:∃ q,t/B=q:=⟨_,rfl⟩
  have f1:IntKind.u32.wrap (t:Int)=(d:Int):=by rw[w32,hd]
  have f2:(t:Int).fdiv (2^min 32 IntKind.u64.bits)=(q:Int):=by rw[ZH,hq]
  rw[hd] at hset
  have hset':(zD (vo (a.length+1) k (val a+val b))).set k [uv d]=zD (vo (a.length+1) (k+1) (val a+val b)):=by rw[xH,hset]
  rw[hq] at g2
  rw[z9] at hak
  have e4:IntKind.u64.wrap ((a[k]:Int)+(car a b k:Int))=((a[k]:Int)+(car a b k:Int)):=by rw[vb]<;>omega
  by_cases hkb:k<b.length
  ·have e2:(k:Int)<b.length:=by omega
   have hbk:=xv hb hkb
   rw[z9] at hbk
   rw[List.getElem?_eq_getElem hkb,Option.getD_some] at ht
   have e3:IntKind.u64.wrap ((b[k]:Nat):Int)=(b[k]:Nat):=w64 (by omega)
   have e5:IntKind.u64.wrap ((a[k]:Int)+(car a b k:Int)+(b[k]:Int))=(t:Int):=by rw[vb]<;>omega
   simp[lX,jU,e,e2,hk,hkb,e1,e3,e4,e5,wG,hfk,splice,f1,f2,hset',g2,zm (show k<4611686018427387904 by omega)]
   omega
  ·have e2:¬ (k:Int)<b.length:=by omega
   rw[List.getElem?_eq_none (by omega),Option.getD_none] at ht
   have e5:(a[k]:Int)+(car a b k:Int)=(t:Int):=by omega
   rw[e5] at e4
   simp[lX,jU,e,e2,hk,e1,e5,e4,wG,hfk,splice,f1,f2,hset',g2,zm (show k<4611686018427387904 by omega)]
   omega
 ·have hfl:=d8 (n:=a.length+1) (k:=a.length) (S:=val a+val b) (by omega)
  have hfk:a.length<(vo (a.length+1) a.length (val a+val b)).length:=by omega
  have hset:=ca (n:=a.length+1) (k:=a.length) (S:=val a+val b) (by omega)
  have hc:=S6 ha hb a.length
  have hcl:(val a+val b)/B^a.length%B=car a b a.length:=by
   have h1:car a b a.length=(val a+val b)/B^a.length:=by
    unfold car low; rw[pV (Nat.le_refl _),pV hl]
   rw[← h1,Nat.mod_eq_of_lt (by rw[z9]; omega)]
  rw[hcl] at hset
  have hset':(zD (vo (a.length+1) a.length (val a+val b))).set a.length [uv (car a b a.length)]=zD (zt (a.length+1) (val a+val b)):=by rw[xH,hset,YO]
  have f1:IntKind.u32.wrap (car a b a.length:Int)=(car a b a.length:Int):=IntWalk.u32_in _ (by omega)
  have hle:a.length+1≤(zt (a.length+1) (val a+val b)).length:=by rw[zy]; exact Nat.le_refl _
  have htk:(zD (zt (a.length+1) (val a+val b))).take (a.length+1)=zD (zt (a.length+1) (val a+val b)):=List.take_of_length_le (by rw[List.length_map,zy]; exact Nat.le_refl _)
  have key:=xt (m:=.plain) (a:=zt (a.length+1) (val a+val b)) yM (by rw[zy]; omega)
  rw[yq hS] at key
  simp[lX,jU,aJ,hfk,splice,f1,hset',qK,rR,htk,hle]
  refine ⟨by omega,?_⟩
  refine za key (by simp) (by simp) ?_
  simp[Q4]
  exact AV.imp.refl
theorem dF {m1 m2:Am.Mode} {a b:List Nat} (ha:ok a) (hb:ok b) (hna:a.length<1099511627775) (hnb:b.length<1099511627775):ze Tryz.prog fw [nl m1 a,nl m2 b] (nD (val a+val b)):=by
 refine wW afK (by simp) ?_
 by_cases h:a.length<b.length
 ·have h':(a.length:Int)<b.length:=by omega
  have w:IntKind.i64.wrap ((b.length:Int)+1)=(b.length:Int)+1:=wrap64 (by omega) (by omega)
  have key:=MP (m1:=m2) (m2:=m1) hb ha (by omega) (by omega)
  rw[Nat.add_comm (val b)] at key
  have e1:((b.length:Int)+1).toNat=b.length+1:=by omega
  simp[Qw,h',w,eMk,e1]
  refine ⟨by omega,by omega,by omega,?_⟩
  have e2:jU m2 m1 b a 0={env:=[(0,nl m2 b),(1,nl m1 a),(5,.sl 19 1 0 (b.length+1)),(6,zU 0),(21,iv b.length),(22,iv 0)],sto:=[(19,.arr 1 (List.replicate (b.length+1) [uv 0]))]}:=by
   simp[jU,Tt,ff]
  rw[e2] at key
  exact key
 ·have h':¬ (a.length:Int)<b.length:=by omega
  have w:IntKind.i64.wrap ((a.length:Int)+1)=(a.length:Int)+1:=wrap64 (by omega) (by omega)
  have key:=MP (m1:=m1) (m2:=m2) ha hb (by omega) (by omega)
  have e1:((a.length:Int)+1).toNat=a.length+1:=by omega
  simp[Qw,h',w,eMk,e1]
  refine ⟨by omega,by omega,by omega,?_⟩
  have e2:jU m1 m2 a b 0={env:=[(0,nl m1 a),(1,nl m2 b),(5,.sl 19 1 0 (a.length+1)),(6,zU 0),(21,iv a.length),(22,iv 0)],sto:=[(19,.arr 1 (List.replicate (a.length+1) [uv 0]))]}:=by
   simp[jU,Tt,ff]
  rw[e2] at key
  exact key
def xk (x y:Nat):Int:=if x<y then -1 else if y<x then 1 else 0
def Us (x y:Nat) (k:Nat):St:={env:=[(0,nD x),(1,nD y),(22,iv (zh x).length),(23,iv k)],sto:=[]}
theorem j9 {m1 m2:Am.Mode} {a b:List Nat} (ha:ok a) (hb:ok b) (hna:a.length<1099511627776) (hnb:b.length<1099511627776):ze Tryz.prog mU [nl m1 a,nl m2 b] (iv (xk (val a) (val b))):=by
 refine zn afL (by simp) ?_
 simp[GG]
 refine za (xt (m:=stm m1) ha hna) (by simp[nw]) (by simp) ?_
 simp
 refine za (xt (m:=stm m2) hb hnb) (by simp[nw]) (by simp) ?_
 have lx:=wR ha
 have ly:=wR hb
 generalize val a=x at *
 generalize val b=y at *
 by_cases hl:(zh x).length=(zh y).length
 ·have hl':(((zh x).length:Nat):Int)=((zh y).length:Int):=by omega
  simp[hl']
  refine zw (Us x y) (fun k=>(zh x).drop ((zh x).length-k)=(zh y).drop ((zh x).length-k)) (zh x).length (by simp[Us,hl]) (by simp[hl]) (fun k hk hi=>?_) (fun hi=>?_)
  ·have e:(k:Int)<(zh x).length:=by omega
   have w:IntKind.i64.wrap (((zh x).length:Int)-1-k)=(((zh x).length-1-k:Nat):Int):=by rw[wrap64]<;>omega
   have w0:IntKind.i64.wrap (((zh x).length:Int)-1)=((zh x).length:Int)-1:=by rw[wrap64]<;>omega
   obtain ⟨j,hj⟩:∃ j,(zh x).length-1-k=j:=⟨_,rfl⟩
   rw[hj] at w
   have hjx:j<(zh x).length:=by omega
   have hjy:j<(zh y).length:=by omega
   have ejx:(j:Int)<(zh x).length:=by omega
   have ejy:(j:Int)<(zh y).length:=by omega
   have hd:(zh x).drop (j+1)=(zh y).drop (j+1):=by
    have:j+1=(zh x).length-k:=by omega
    rw[this]; exact hi
   rcases Nat.lt_trichotomy (zh x)[j] (zh y)[j] with h | h | h
   ·have hlt:=US (zx x) (zx y) hl hjx hd h
    rw[zJ,zJ] at hlt
    have hc:xk x y=-1:=by simp[xk,hlt]
    simp[lY,Us,e,w0,w,hjx,hjy,ejx,ejy,h,fK,hc]
   ·have hnext:(zh x).drop ((zh x).length-(k+1))=(zh y).drop ((zh x).length-(k+1)):=by
     have:(zh x).length-(k+1)=j:=by omega
     rw[this,List.drop_eq_getElem_cons hjx,List.drop_eq_getElem_cons hjy,h,hd]
    simp[lY,Us,e,w0,w,hjx,hjy,ejx,ejy,h,zm (show k<4611686018427387904 by omega),hnext]
   ·have hlt:=US (zx y) (zx x) hl.symm hjy hd.symm h
    rw[zJ,zJ] at hlt
    have hn:¬ (zh x)[j]<(zh y)[j]:=by omega
    have hc:xk x y=1:=by
     have:¬ x<y:=by omega
     simp[xk,hlt,this]
    simp[lY,Us,e,w0,w,hjx,hjy,ejx,ejy,h,hn,fK,hc]
  ·have hxy:x=y:=Lm (by simpa using hi)
   have hc:xk x y=0:=by simp[xk,hxy]
   simp[lY,Us,SR,fK,hc]
 ·have hl':¬ (((zh x).length:Nat):Int)=((zh y).length:Int):=by omega
  by_cases hlt:(zh x).length<(zh y).length
  ·have hlt':(((zh x).length:Nat):Int)<((zh y).length:Int):=by omega
   have hc:xk x y=-1:=by simp[xk,cm hlt]
   simp[hl',hlt',fK,hc]
  ·have hlt':¬ (((zh x).length:Nat):Int)<((zh y).length:Int):=by omega
   have h2:=cm (show (zh y).length<(zh x).length by omega)
   have hc:xk x y=1:=by
    have:¬ x<y:=by omega
    simp[xk,h2,this]
   simp[hl',hlt',fK,hc]
theorem adm (u v:Int):IntKind.u64.wrap (IntKind.u64.wrap u-v)=IntKind.u64.wrap (u-v):=by
 rw[JB,JB,JB]; omega
theorem MI (u:Int):IntKind.u32.wrap (IntKind.u64.wrap u)=u%4294967296:=by
 rw[JB,IntKind.wrap_u32]; omega
theorem MF {u:Int} (h1:-8589934592≤u) (h2:u<8589934592):(IntKind.u64.wrap u).fdiv (2^min 63 IntKind.u64.bits)=if u<0 then 1 else 0:=by
 have:min 63 IntKind.u64.bits=63:=rfl
 rw[this,Int.fdiv_eq_ediv_of_nonneg _ (by decide),JB]
 have:(2:Int)^63=9223372036854775808:=by decide
 rw[this]
 split<;>omega
end Go.Proofs.YtpnliopaifpimaaGreat

namespace Go.Dig
theorem UF {o:List Nat} {j d:Nat} (hj:j<o.length):val (o.set j d)+B^j*o[j]=val o+B^j*d:=by
 induction o generalizing j with
 | nil=>simp at hj
 | cons x o ih =>
  rcases j with _ | j
  ·simp[val]; omega
  ·simp only[List.length_cons,Nat.add_lt_add_iff_right] at hj
   have:=ih hj
   simp only[List.set_cons_succ,val,List.getElem_cons_succ,Nat.pow_succ]
   have e1:B^j*B*o[j]=B*(B^j*o[j]):=by rw[Nat.mul_comm (B^j) B,Nat.mul_assoc]
   have e2:B^j*B*d=B*(B^j*d):=by rw[Nat.mul_comm (B^j) B,Nat.mul_assoc]
   rw[e1,e2]
   have e3:B*(val (o.set j d)+B^j*o[j])=B*(val o+B^j*d):=by rw[this]
   rw[Nat.mul_add,Nat.mul_add] at e3
   omega
def jx (a b:List Nat) (i k:Nat) (s:List Nat × Nat):List Nat × Nat :=
 let t:=a.getD i 0*b.getD k 0+s.1.getD (i+k) 0+s.2
 (s.1.set (i+k) (t%B),t/B)
def qU (a b:List Nat):Nat→List Nat
 | 0=>List.replicate (a.length+b.length) 0
 | i+1=>let s:=itr (jx a b i) (qU a b i,0) b.length; s.1.set (i+b.length) s.2
def wH (a b:List Nat) (i k:Nat):List Nat × Nat:=itr (jx a b i) (qU a b i,0) k
theorem Bd {a b:List Nat} {i:Nat}:wH a b i 0=(qU a b i,0):=rfl
theorem Nn {a b:List Nat} {i:Nat}:qU a b (i+1)=(wH a b i b.length).1.set (i+b.length) (wH a b i b.length).2:=rfl
theorem Nm {a b:List Nat} {i k:Nat}:wH a b i (k+1)=jx a b i k (wH a b i k):=rfl
structure Yo (a b o:List Nat) (c i k:Nat):Prop where
 len:o.length=a.length+b.length
 ok:ok o
 lt:c<B
 val:val o+B^(i+k)*c=val (a.take i)*val b+B^i*(a.getD i 0*val (b.take k))
 zero:∀ j (hj:j<o.length),i+b.length≤j→o[j]=0
theorem tH {a:List Nat} (h:ok a) (i:Nat):a.getD i 0<B:=by
 rw[List.getD_eq_getElem?_getD]
 by_cases hi:i<a.length
 ·rw[List.getElem?_eq_getElem hi]; exact xv h hi
 ·rw[List.getElem?_eq_none (by omega)]; exact zX
theorem co {x y z w:Nat} (hx:x<B) (hy:y<B) (hz:z<B) (hw:w<B):x*y+z+w<B*B:=by
 have h:x*y≤(B-1)*(B-1):=Nat.mul_le_mul (by omega) (by omega)
 have:(B-1)*(B-1)+(B-1)+(B-1)<B*B:=by decide
 omega
theorem abs {a b o:List Nat} {c i k:Nat} (ha:ok a) (hb:ok b) (hi:i<a.length) (hk:k<b.length) (h:Yo a b o c i k) :
  Yo a b (jx a b i k (o,c)).1 (jx a b i k (o,c)).2 i (k+1):=by
 have hlen:=h.len
 have hik:i+k<o.length:=by omega
 obtain ⟨t,ht⟩:∃ t,t=a.getD i 0*b.getD k 0+o.getD (i+k) 0+c:=⟨_,rfl⟩
 have hbd:=co (tH ha i) (tH hb k) (tH h.ok (i+k)) h.lt
 rw[← ht] at hbd
 simp only[jx,← ht]
 constructor
 ·simp[hlen]
 ·exact RI h.ok (Nat.mod_lt _ zX)
 ·exact Nat.div_lt_of_lt_mul hbd
 ·have e1:=UF (o:=o) (j:=i+k) (d:=t%B) hik
  have e2:=Nat.mod_add_div t B
  have e3:=h.val
  have e4:=x7 hk
  have e5:o.getD (i+k) 0=o[i+k]:=by simp[hik]
  have e6:b.getD k 0=b[k]:=by simp[hk]
  rw[e5,e6] at ht
  rw[e4]
  have e7:B^(i+(k+1))*(t/B)=B^(i+k)*(B*(t/B)):=by rw[← Nat.add_assoc,Nat.pow_succ,Nat.mul_assoc]
  rw[e7]
  have e8:B^(i+k)*(t%B)+B^(i+k)*(B*(t/B))=B^(i+k)*t:=by rw[← Nat.mul_add,e2]
  have e9:B^(i+k)*t=B^(i+k)*(a.getD i 0*b[k])+B^(i+k)*o[i+k]+B^(i+k)*c:=by rw[ht,Nat.mul_add,Nat.mul_add]
  have e10:B^i*(a.getD i 0*(val (b.take k)+B^k*b[k]))=B^i*(a.getD i 0*val (b.take k))+B^(i+k)*(a.getD i 0*b[k]):=by
   rw[Nat.mul_add,Nat.mul_add,Nat.pow_add]
   congr 1
   rw[Nat.mul_assoc]
   congr 1
   rw[Nat.mul_left_comm]
  rw[e10]
  omega
 ·intro j hj hle
  simp only[List.length_set] at hj
  rw[List.getElem_set_ne (by omega)]
  exact h.zero j hj hle
theorem cq {a b:List Nat} {i:Nat} (ha:ok a) (hb:ok b) (hi:i<a.length) (h:Yo a b (qU a b i) 0 i 0):∀ k,k≤b.length→Yo a b (wH a b i k).1 (wH a b i k).2 i k
 | 0,_=>h
 | k+1,hk=>by rw[Nm]; exact abs ha hb hi (by omega) (cq ha hb hi h k (by omega))
theorem Y1 {a b:List Nat} (ha:ok a) (hb:ok b):∀ i,i≤a.length→Yo a b (qU a b i) 0 i 0
 | 0,_=>⟨by simp[qU],Ku _,zX,by simp[qU,UE,val],fun j hj _=>by simp[qU]⟩
 | i+1,hi=>by
  have ih:=Y1 ha hb i (by omega)
  have h:=cq ha hb (by omega) ih b.length (Nat.le_refl _)
  have hlen:=h.len
  have hib:i+b.length<(wH a b i b.length).1.length:=by omega
  rw[Nn]
  have hz:=h.zero (i+b.length) hib (Nat.le_refl _)
  have hv:=UF (d:=(wH a b i b.length).2) hib
  have h3:=h.val
  rw[hz,Nat.mul_zero,Nat.add_zero] at hv
  refine ⟨by simp[hlen],RI h.ok h.lt,zX,?_,?_⟩
  ·rw[hv,h3,List.take_of_length_le (Nat.le_refl b.length)]
   have:val (a.take (i+1))=val (a.take i)+B^i*a.getD i 0:=by
    rw[x7 (by omega)]; simp[show i<a.length by omega]
   rw[this,Nat.add_mul,Nat.mul_assoc]
   simp[val]
  ·intro j hj hle
   simp only[List.length_set] at hj
   rw[List.getElem_set_ne (by omega)]
   exact h.zero j hj (by omega)
theorem aeE {a b:List Nat} (ha:ok a) (hb:ok b):ok (qU a b a.length)∧(qU a b a.length).length=a.length+b.length∧val (qU a b a.length)=val a*val b:=by
 have h:=Y1 ha hb a.length (Nat.le_refl _)
 refine ⟨h.ok,h.len,?_⟩
 have:=h.val
 simp[val] at this
 exact this
def uB (n D i:Nat):List Nat:=List.replicate (n-i) 0++(zt n D).drop (n-i)
theorem Td {n D:Nat}:uB n D 0=List.replicate n 0:=by
 simp[uB,zy]
theorem RW {n D:Nat}:uB n D n=zt n D:=by simp[uB]
theorem RX {n D i:Nat} (_h:i≤n):(uB n D i).length=n:=by simp[uB,zy]; try omega
theorem RY {n D i:Nat} (h:i<n):(uB n D i).set (n-1-i) (D/B^(n-1-i)%B)=uB n D (i+1):=by
 obtain ⟨j,hj⟩:∃ j,n-1-i=j:=⟨_,rfl⟩
 have h1:n-i=j+1:=by omega
 have h2:n-(i+1)=j:=by omega
 unfold uB
 rw[hj,h1,h2,List.replicate_succ']
 rw[List.append_assoc,List.set_append_right _ _ (by simp)]
 simp only[List.length_replicate,Nat.sub_self]
 have hlt:j<(zt n D).length:=by rw[zy]; omega
 rw[List.drop_eq_getElem_cons hlt,ut]
 rfl
theorem RZ {A d:Nat} (hd:0<d):(A/B%d*B+A%B)/d=A/d%B∧(A/B%d*B+A%B)%d=A%d∧A/B%d*B+A%B<d*B:=by
 have hA:=Nat.div_add_mod A B
 have h1:=Nat.div_add_mod (A/B) d
 have hm:=Nat.mod_lt (A/B) hd
 have hb:=Nat.mod_lt A zX
 have hlt:A/B%d*B+A%B<d*B:=by
  have:(A/B%d+1)*B≤d*B:=Nat.mul_le_mul_right _ hm
  rw[Nat.add_mul] at this
  omega
 have key:A=d*(A/B/d*B)+(A/B%d*B+A%B):=by
  have e:B*(A/B)=B*(d*(A/B/d)+A/B%d):=by rw[h1]
  rw[Nat.mul_add] at e
  have e2:d*(A/B/d*B)=B*(d*(A/B/d)):=by rw[← Nat.mul_assoc,Nat.mul_comm]
  rw[e2,Nat.mul_comm (A/B%d)]
  omega
 generalize A/B%d*B+A%B=t at *
 generalize A/B/d=g at *
 have hq:t/d<B:=Nat.div_lt_of_lt_mul hlt
 refine ⟨?_,?_,hlt⟩
 ·rw[key,Nat.mul_add_div hd,Nat.add_comm (g*B) _,Nat.add_mul_mod_self_right,Nat.mod_eq_of_lt hq]
 ·rw[key,Nat.mul_add_mod]
end Go.Dig

namespace Go.Proofs.YtpnliopaifpimaaGreat
open Go Go.Am Go.Dig
theorem nh {x:Nat} (h:x<18446744073709551616):ze Tryz.prog tI [zU x] (nD x):=by
 have f2:(x:Int).fdiv (2^min 32 IntKind.u64.bits)=((x/B:Nat):Int):=ZH x
 have f1:=w32 x
 have f3:=w32 (x/B)
 obtain ⟨d0,h0⟩:∃ d,x%B=d:=⟨_,rfl⟩
 obtain ⟨q,hq⟩:∃ q,x/B=q:=⟨_,rfl⟩
 obtain ⟨d1,h1⟩:∃ d,q%B=d:=⟨_,rfl⟩
 rw[hq] at f2 f3
 rw[h0] at f1
 rw[h1] at f3
 have hok:ok [d0,d1]:=by
  intro d hd
  simp at hd
  rcases hd with rfl | rfl
  ·rw[← h0]; exact Nat.mod_lt _ zX
  ·rw[← h1]; exact Nat.mod_lt _ zX
 have hv:val [d0,d1]=x:=by
  have e1:=Nat.mod_add_div x B
  have hq2:q<B:=by rw[← hq,z9]; omega
  rw[Nat.mod_eq_of_lt hq2] at h1
  simp only[val,Nat.mul_zero,Nat.add_zero]
  rw[← h1,← h0,← hq]
  exact e1
 have key:=xt (m:=.full) (a:=[d0,d1]) hok (by simp)
 rw[hv] at key
 refine zn Jk (by simp) ?_
 simp[Yw,wG,f1,f2,f3,wt]
 refine za key (by simp) (by simp) ?_
 simp[Xd]
open Go.Wr
abbrev sv (l:List UInt8):AV:=.val (.string (str l))
abbrev ub (n:Nat):AV:=.val (.int .u8 (n:Int))
abbrev q7 (l:List UInt8):List (List AV):=l.map fun x=>[ub x.toNat]
theorem MX:∀ {l:List UInt8},qB (q7 l)=some (l.map fun x=>(x.toNat:Int))
 | []=>rfl
 | x::l=>by
  have h:qB (q7 (x::l))=(qB (q7 l)).map ((x.toNat:Int)::·):=rfl
  rw[h,MX (l:=l)]; rfl
theorem afz {l:List UInt8}:strOfNums (l.map fun x=>(x.toNat:Int))=str l:=by
 unfold strOfNums str
 congr 2
 rw[List.map_map]
 refine (List.map_congr_left fun x _=>?_).trans (List.map_id l)
 simp
theorem ah2:Zj Tryz.prog p8 yi=true:=by kernel_rfl
theorem Mt {l:List UInt8} {sz:Nat} {m:Am.Mode}:jQ Tryz.prog p8 yi (.list sz m (q7 l))=some (sv l):=by
 simp only[jQ,MX,ah2,if_true,afz]
theorem w8 {n:Nat}:IntKind.u8.wrap (n:Int)=((n%256:Nat):Int):=by
 rw[IntKind.wrap_u8]; omega
theorem ai7:∀ n:Nat,n<256→sX .or .u8 (n:Int) 128=((n%128+128:Nat):Int):=by decide +kernel
theorem DM:∀ n:Nat,n<256→sX .and .u8 (n:Int) 127=((n%128:Nat):Int):=by decide +kernel
theorem akK (x:Nat):(x:Int).fdiv (2^min 7 IntKind.u64.bits)=((x/128:Nat):Int):=by
 have:min 7 IntKind.u64.bits=7:=rfl
 rw[this]
 have:(2:Int)^7=128:=by decide
 rw[this,Int.fdiv_eq_ediv_of_nonneg _ (by omega)]
 omega
def stp (x:Nat):Nat:=if x<128 then 0 else stp (x/128)+1
termination_by x
decreasing_by omega
theorem ahD {x:Nat} (h:x<128):stp x=0:=by rw[stp,if_pos h]
theorem ahC {x:Nat} (h:¬ x<128):stp x=stp (x/128)+1:=by rw[stp,if_neg h]
def pre (x:Nat) (k:Nat):List UInt8:=(List.range k).map fun j=>UInt8.ofNat (x/128^j%128+128)
theorem ab6 {x k:Nat}:pre x (k+1)=pre x k++[UInt8.ofNat (x/128^k%128+128)]:=by simp[pre,List.range_succ]
theorem ab4 {x k:Nat}:pre x (k+1)=UInt8.ofNat (x%128+128)::pre (x/128) k:=by
 unfold pre
 rw[List.range_succ_eq_map,List.map_cons,List.map_map]
 simp only[Nat.pow_zero,Nat.div_one]
 congr 1
 refine List.map_congr_left fun j _=>?_
 simp only[Function.comp]
 rw[Nat.pow_succ',Nat.div_div_eq_div_mul]
theorem PF (x:Nat):(∀ k,k<stp x→¬ x/128^k<128)∧x/128^stp x<128∧enc x=pre x (stp x)++[UInt8.ofNat (x/128^stp x)]:=by
 induction x using Nat.strongRecOn with
 | _ x ih =>
  by_cases h:x<128
  ·rw[ahD h,bU h]
   refine ⟨fun k hk=>absurd hk (Nat.not_lt_zero _),by simpa using h,by simp[pre]⟩
  ·obtain ⟨h1,h2,h3⟩:=ih (x/128) (by omega)
   rw[ahC h,Rf h]
   have e:∀ k,x/128/128^k=x/128^(k+1):=fun k=>by rw[Nat.pow_succ',Nat.div_div_eq_div_mul]
   refine ⟨fun k hk=>?_,?_,?_⟩
   ·cases k with
    | zero=>simpa using h
    | succ k=>rw[← e]; exact h1 k (by omega)
   ·rw[← e]; exact h2
   ·rw[ab4,← e,List.cons_append,← h3]
theorem FZ {x:Nat} (h:x<18446744073709551616):stp x≤9:=by
 obtain ⟨h1,_,_⟩:=PF x
 apply Classical.byContradiction
 intro hn
 have:=h1 9 (by omega)
 have e:(128:Nat)^9=9223372036854775808:=by decide
 rw[e] at this
 omega
theorem vS {x:Nat} (h:x<18446744073709551616):1≤(enc x).length∧(enc x).length≤10:=by
 obtain ⟨_,_,h3⟩:=PF x
 have:=FZ h
 rw[h3]
 simp[pre]
 omega
def PE (x k:Nat):St:={env:=[(0,zU (x/128^k)),(3,yE 1 11 (q7 (pre x k)))],sto:=[]}
theorem pU {x:Nat} (h:x<18446744073709551616):ze Tryz.prog x6 [zU x] (sv (enc x)):=by
 refine zn Gt (by simp) ?_
 obtain ⟨h1,h2,h3⟩:=PF x
 have h9:=FZ h
 simp[UR]
 refine zw (PE x) (fun _=>True) (stp x) (by simp[PE,pre,fU]) trivial (fun k hk _=>?_) (fun _=>?_)
 ·have hst:PE x (k+1)={env:=[(0,zU (x/128^k/128)),(3,yE 1 11 (q7 (pre x k)++[[ub (x/128^k%128+128)]]))],sto:=[]}:=by
   rw[PE,ab6,Nat.pow_succ,← Nat.div_div_eq_div_mul]
   have e:(x/128^k%128+128)%256=x/128^k%128+128:=by omega
   simp[e]
  have hge:=h1 k hk
  rw[PE]
  have hpl:(pre x k).length=k:=by simp[pre]
  generalize pre x k=L at *
  generalize x/128^k=y at *
  have e1:=w8 (n:=y)
  obtain ⟨b,hb⟩:∃ b,y%256=b:=⟨_,rfl⟩
  obtain ⟨c,hc⟩:∃ c,y%128+128=c:=⟨_,rfl⟩
  have e2:=ai7 b (by omega)
  rw[show b%128+128=c by omega] at e2
  rw[hb] at e1
  rw[hc] at hst
  have e3:=akK y
  have hg:(128:Int)≤y:=by omega
  simp[jl,hg,e1,e2,wG,e3,wt,rO,hpl,hst]
  omega
 ·rw[PE]
  have hpl:(pre x (stp x)).length=stp x:=by simp[pre]
  rw[h3]
  generalize pre x (stp x)=L at *
  generalize x/128^stp x=y at *
  have e1:=w8 (n:=y)
  have hy:y%256=y:=by omega
  have hg:¬ (128:Int)≤y:=by omega
  have hby:(UInt8.ofNat y).toNat=y:=byte_of (by omega)
  simp[jl,bR,hg,e1,hy,wt]
  refine Yb (by decide) (.inr rfl) rfl rfl ?_ ?_ fun t ht=>?_
  ·simp[hpl]; omega
  ·simp[hpl]; omega
  ·have hr:q7 L++[[ub y]]=q7 (L++[UInt8.ofNat y]):=by simp[hy]
   rw[hr]
   simp[Mt,Ta,-List.map_append]
end Go.Proofs.YtpnliopaifpimaaGreat

namespace Go.Wr
def lead (i:Nat):List UInt8→Nat
 | []=>0
 | b::l=>if i=9∧1<b.toNat then 0 else if 128≤b.toNat then lead (i+1) l+1 else 0
abbrev byt (l:List UInt8) (k:Nat):Nat:=(l.getD k 0).toNat
def acc (l:List UInt8):Nat→Nat
 | 0=>0
 | k+1=>acc l k+byt l k%128*128^k
theorem Zk:∀ {l:List UInt8} {i k:Nat},k<lead i l→k<l.length∧i+k≠9∧128≤byt l k
 | [],i,k,h=>by simp[lead] at h
 | b::l,i,k,h=>by
  unfold lead at h
  split at h
  ·simp at h
  ·rename_i h1
   split at h
   ·rename_i h2
    cases k with
    | zero=>refine ⟨by simp,by omega,by simpa [byt] using h2⟩
    | succ k =>
     obtain ⟨a1,a2,a3⟩:=Zk (l:=l) (i:=i+1) (k:=k) (by omega)
     refine ⟨by simp; omega,by omega,by simpa [byt] using a3⟩
   ·simp at h
theorem L0:∀ {l:List UInt8} {i:Nat},lead i l=l.length∨(lead i l<l.length∧((i+lead i l=9∧1<byt l (lead i l))∨byt l (lead i l)<128))
 | [],i=>by simp[lead]
 | b::l,i=>by
  unfold lead
  split
  ·rename_i h1
   exact .inr ⟨by simp,.inl ⟨by omega,by simpa [byt] using h1.2⟩⟩
  ·split
   ·rcases L0 (l:=l) (i:=i+1) with h | ⟨h,h2⟩
    ·left; simp[h]
    ·right
     refine ⟨by simp; omega,?_⟩
     have e:byt (b::l) (lead (i+1) l+1)=byt l (lead (i+1) l):=by simp[byt]
     rw[e]
     rcases h2 with h2 | h2
     ·exact .inl ⟨by omega,h2.2⟩
     ·exact .inr h2
   ·rename_i h2
    exact .inr ⟨by simp,.inr (by simp[byt]; omega)⟩
theorem Fl {l:List UInt8}:lead 0 l≤9:=by
 apply Classical.byContradiction
 intro h
 exact (Zk (l:=l) (i:=0) (k:=9) (by omega)).2.1 rfl
theorem aX {l:List UInt8} {k:Nat} (h:k<l.length):∃ b,l.drop k=b::l.drop (k+1)∧b.toNat=byt l k:=by
 refine ⟨l[k],List.drop_eq_getElem_cons h,?_⟩
 simp[byt,List.getD,List.getElem?_eq_getElem h]
theorem eH {l:List UInt8}:∀ k,k≤lead 0 l→dec 0 0 l=dec k (acc l k) (l.drop k)
 | 0,_=>rfl
 | k+1,h=>by
  obtain ⟨a1,a2,a3⟩:=Zk (l:=l) (i:=0) (k:=k) (by omega)
  obtain ⟨b,e,eb⟩:=aX a1
  rw[eH k (by omega),e,dec,eb,if_neg (by omega),if_pos a3]
  rfl
theorem SB {l:List UInt8}:∀ k,acc l k<128^k
 | 0=>by simp[acc]
 | k+1=>by
  have:=SB (l:=l) k
  have h:byt l k%128*128^k≤127*128^k:=Nat.mul_le_mul_right _ (by omega)
  unfold acc
  rw[Nat.pow_succ]
  omega
theorem DD {most:Nat} {l:List UInt8} (h:lead 0 l=l.length):zL most (0,l)=(0,(1,[])):=by
 have:=eH (l:=l) _ (Nat.le_refl _)
 rw[h,List.drop_length] at this
 unfold zL
 simp[this,dec]
theorem adk {most:Nat} {l:List UInt8} (h:lead 0 l<l.length) (h9:lead 0 l=9) (hb:1<byt l (lead 0 l)):zL most (0,l)=(0,(2,[])):=by
 have:=eH (l:=l) _ (Nat.le_refl _)
 obtain ⟨b,e,eb⟩:=aX h
 rw[e,dec,eb,if_pos ⟨h9,hb⟩] at this
 unfold zL
 simp[this]
theorem A0 {most:Nat} {l:List UInt8} (h:lead 0 l<l.length) (hz:byt l (lead 0 l)=0) (hp:0<lead 0 l):zL most (0,l)=(0,(2,[])):=by
 have:=eH (l:=l) _ (Nat.le_refl _)
 obtain ⟨b,e,eb⟩:=aX h
 rw[e,dec,eb,if_neg (by omega),if_neg (by omega),if_pos ⟨hz,hp⟩] at this
 unfold zL
 simp[this]
theorem adi {most:Nat} {l:List UInt8} (h:lead 0 l<l.length) (h9:¬ (lead 0 l=9∧1<byt l (lead 0 l))) (hb:byt l (lead 0 l)<128) (hz:¬ (byt l (lead 0 l)=0∧0<lead 0 l)) :
  zL most (0,l)=if most<acc l (lead 0 l+1) then (0,(4,[])) else (acc l (lead 0 l+1),(0,l.drop (lead 0 l+1))):=by
 have:=eH (l:=l) _ (Nat.le_refl _)
 obtain ⟨b,e,eb⟩:=aX h
 rw[e,dec,eb,if_neg h9,if_neg (by omega),if_neg hz] at this
 have e2:acc l (lead 0 l+1)=acc l (lead 0 l)+byt l (lead 0 l)*128^lead 0 l:=by
  rw[acc,Nat.mod_eq_of_lt hb]
 unfold zL
 simp only[this,ne_eq,not_true,if_false,if_true,e2]
theorem DH {l:List UInt8} {k:Nat} (h9:k≤9) (hb:k=9→byt l k≤1):acc l k+byt l k%128*128^k<18446744073709551616:=by
 have h1:=SB (l:=l) k
 by_cases h:k=9
 ·subst h
  have:=hb rfl
  generalize byt l 9=c at *
  generalize acc l 9=d at *
  omega
 ·have h2:byt l k%128*128^k≤127*128^k:=Nat.mul_le_mul_right _ (by omega)
  have h3:128^k≤128^8:=Nat.pow_le_pow_right (by omega) (by omega)
  have h4:(128:Nat)^8=72057594037927936:=by decide
  omega
end Go.Wr

namespace Go.Proofs.YtpnliopaifpimaaGreat
open Go Go.Am
section
variable {ρ:List (Nat × zf)} {l:List (Nat × zf)} {k n B d:Nat} {e e0:zf}
theorem YY (h:yU B ρ) (hk:B≤k):lk ρ k=none:=by
 cases hl:lk ρ k with
 | none=>rfl
 | some e=>have:=(h _ (Rs hl)).1; simp at this; omega
theorem akl (h:lk ρ k=none):lk (ρ++l) k=lk l k:=by
 induction ρ with
 | nil=>rfl
 | cons p ρ ih =>
  obtain ⟨m,x⟩:=p
  simp only[lk,List.cons_append] at h ⊢
  split at h
  ·cases h
  ·rename_i hne; rw[if_neg hne]; exact ih h
theorem akn (h:lk ρ k=none):pt (ρ++l) k e=ρ++pt l k e:=by
 induction ρ with
 | nil=>rfl
 | cons p ρ ih =>
  obtain ⟨m,x⟩:=p
  simp only[lk] at h
  split at h
  ·cases h
  ·rename_i hne; simp only[List.cons_append,pt]; rw[if_neg hne,ih h]
theorem glk (h:yU B ρ):lk (ρ++l) (B+d)=lk l (B+d):=akl (YY h (Nat.le_add_right _ _))
theorem aa6 (h:yU B ρ):lk ρ (B+d)=none:=YY h (Nat.le_add_right _ _)
theorem gpt (h:yU B ρ):pt (ρ++l) (B+d) e=ρ++pt l (B+d) e:=akn (YY h (Nat.le_add_right _ _))
theorem aa8 (h:yU B ρ):pt ρ (B+d) e=ρ++[(B+d,e)]:=by
 have:=gpt (l:=[]) (d:=d) (e:=e) h
 rwa [List.append_nil] at this
theorem mG (h:lk ρ n=some e):lk (ρ++l) n=some e:=by
 induction ρ with
 | nil=>cases h
 | cons p ρ ih =>
  obtain ⟨m,x⟩:=p
  simp only[lk,List.cons_append] at h ⊢
  split at h
  ·rename_i he; rw[if_pos he]; exact h
  ·rename_i hne; rw[if_neg hne]; exact ih h
theorem eP (h:lk ρ n=some e0):pt (ρ++l) n e=pt ρ n e++l:=by
 induction ρ with
 | nil=>cases h
 | cons p ρ ih =>
  obtain ⟨m,x⟩:=p
  simp only[lk] at h
  simp only[List.cons_append,pt]
  split at h
  ·rename_i he; rw[if_pos he,if_pos he]; rfl
  ·rename_i hne; rw[if_neg hne,if_neg hne,ih h]; rfl
theorem aa5 {D:List Nat}:del D (ρ++l)=del D ρ++del D l:=by
 induction ρ with
 | nil=>rfl
 | cons p ρ ih =>
  obtain ⟨m,x⟩:=p
  simp only[List.cons_append,del]
  split
  ·exact ih
  ·rw[ih]; rfl
theorem aii {D:List Nat} (h:yU B ρ) (hD:(D.all fun k=>decide (B≤k))=true):del D ρ=ρ:=by
 induction ρ with
 | nil=>rfl
 | cons p ρ ih =>
  obtain ⟨m,x⟩:=p
  simp only[del]
  have h1:=(h (m,x) (by simp)).1
  have:D.elem m=false:=by
   cases hc:D.elem m with
   | false=>rfl
   | true=>have:=List.all_eq_true.1 hD m (by simpa using hc); simp at this h1; omega
  rw[this,ih fun p hp=>h p (by simp[hp])]; rfl
theorem eO {D:List Nat} (h:yU B ρ) (hD:(D.all fun k=>decide (B≤k))=true):del D (ρ++l)=ρ++del D l:=by rw[aa5,aii h hD]
theorem JU:tV k (ρ++l)=(tV k ρ&&tV k l):=by
 induction ρ with
 | nil=>rfl
 | cons p ρ ih =>
  obtain ⟨m,x⟩:=p
  simp only[List.cons_append,tV,ih,Bool.and_assoc]
theorem gno (h:yU B ρ):tV (B+d) (ρ++l)=tV (B+d) l:=by rw[JU,Rx (Nat.le_add_right B d) h]; rfl
theorem akm (h:yU B ρ):tV (B+d) ρ=true:=Rx (Nat.le_add_right B d) h
theorem bf {f:List (Nat × AV)} (h:qp B f):kG (B+d) f=true:=Rw (Nat.le_add_right B d) h
theorem bg {f:List (List (Nat × AV))} (h:pI B f):kH (B+d) f=true:=EF (Nat.le_add_right B d) h
theorem Uf (h:yU B ρ) (hn:n<B) (he:mH B e):yU B (pt ρ n e):=by
 intro p hp
 induction ρ with
 | nil=>simp[pt] at hp; subst hp; exact ⟨hn,he⟩
 | cons q ρ ih =>
  obtain ⟨m,x⟩:=q
  simp only[pt] at hp
  split at hp
  ·rcases List.mem_cons.1 hp with rfl | hp
   ·exact ⟨hn,he⟩
   ·exact h p (by simp[hp])
  ·rcases List.mem_cons.1 hp with rfl | hp
   ·exact h _ (by simp)
   ·exact ih (fun p hp=>h p (by simp[hp])) hp
theorem Nh {M N:Nat} (h:M≤N) {e:zf} (he:mH M e=true):mH N e=true:=by
 cases e with
 | var cells=>simp only[mH,List.all_eq_true] at he ⊢; exact fun x hx=>low_mono h (he x hx)
 | uarr sz rows=>simp only[mH,List.all_eq_true] at he ⊢; exact fun r hr x hx=>low_mono h (he r hr x hx)
 | arr=>rfl
 | map=>rfl
theorem cj {M N:Nat} (h:M≤N) {ρ:List (Nat × zf)} (hs:yU M ρ):yU N ρ:=fun p hp=>⟨Nat.lt_of_lt_of_le (hs p hp).1 h,Nh h (hs p hp).2⟩
theorem TR {M:Nat} {ρ l:List (Nat × zf)}:yU M (ρ++l)↔yU M ρ∧yU M l:=by
 unfold yU
 simp only[List.mem_append]
 exact ⟨fun h=>⟨fun p hp=>h p (.inl hp),fun p hp=>h p (.inr hp)⟩,fun h p hp=>hp.elim (h.1 p) (h.2 p)⟩
theorem tA {M k:Nat} {e:zf} {l:List (Nat × zf)}:yU M ((k,e)::l)↔(k<M∧mH M e=true)∧yU M l:=by simp[yU]
theorem jw {M:Nat}:yU M []:=fun _ h=>by cases h
end
section
variable {ρ:List (Nat × zf)} {l:List (Nat × zf)} {k n B d:Nat} {e e0:zf}
theorem kdg (h:yU B ρ) (hk:B≤k):(ρ.map fun p=>(p.1,dgE k p.2))=ρ:=tc fun p hp=>by rw[Fp hk (h p hp).2]
end
theorem yp {P:Program} {f:FuncId} {xs:List AV} {s:St} {dst:Option Nat} {K:St→Prop} (h:yH P f xs s fun r s'=>s'.base=s.base∧K (s'.put dst r)):qG P f xs s dst K:=h
def agE (f:FuncId) (ds:List Nat) (s:St) (d:Option Nat) (K:St→Prop) (xs:List AV):Prop :=
 rQ s.sto s.base ds∧∀ D:List Nat,yH Tryz.prog f xs {s with env:=del D s.env} fun r s'=>∃ A:St,s'={A with env:=del D A.env}∧A.base=s.base∧rQ A.sto A.base ds∧K (A.put d r)
@[simp] theorem ajT {f:FuncId} {ds:List Nat} {xs:List Opd} {d:Option Nat} {os:List zi} {s:St} {KS:St→Prop} :
  zl Tryz.prog (⟨d,.callM f ds,xs,none⟩::os) s KS=(yy Tryz.prog f=true∧agE f ds s d (bm Tryz.prog os KS) (xs.map (ev s))):=propext Iff.rfl
theorem abh {M:Nat} {D:List Nat} {env:List (Nat × AV)} (h:qp M env):qp M (del D env):=by
 intro p hp
 induction env with
 | nil=>cases hp
 | cons q env ih =>
  obtain ⟨m,x⟩:=q
  simp only[del] at hp
  split at hp
  ·exact ih (fun p hp=>h p (by simp[hp])) hp
  ·rcases List.mem_cons.1 hp with rfl | hp
   ·exact h _ (by simp)
   ·exact ih (fun p hp=>h p (by simp[hp])) hp
theorem L6 {M:Nat} {n:Int}:Am.low M (iv n)=true:=rfl
theorem C4 {M:Nat} {b:Bool}:Am.low M (bv b)=true:=rfl
theorem Ug {M k off:Nat}:Am.low M (.ptr k off)=decide (k<M):=rfl
open Go.Wr
abbrev rdE (b:ByteArray) (e:Nat):zf:=.var [.val (.string b),iv (e:Int)]
def tq (q:Rd) (b:ByteArray):Prop:=(q.1=0→b=str q.2)∧b.size≤1099511627776
theorem Q2 {α:Type} {l:List (Nat × α)} {n:Nat} {x:α} (h:lk l n=some x):pt l n x=l:=by
 induction l with
 | nil=>cases h
 | cons p l ih =>
  obtain ⟨m,y⟩:=p
  simp only[lk] at h
  simp only[pt]
  split at h
  ·rename_i he; rw[if_pos he]; cases h; rw[he]
  ·rename_i hne; rw[if_neg hne,ih h]
theorem RL:gd Tryz.prog qZ=true:=by kernel_rfl
theorem lE:yy Tryz.prog yj=true:=by kernel_rfl
theorem SJ {l:List UInt8} {k:Nat}:Yu (str l) k=byt l k:=by
 simp[Yu,str,byt,List.getD]
section
variable {s:St} {n:Nat} {b:ByteArray} {e c:Nat} {K:AV→St→Prop}
theorem cy {b:ByteArray} {e:Nat}:ze Tryz.prog xr [.ro [.val (.string b),iv (e:Int)]] (bv (decide (e=0))):=by
 refine zn ZT (by simp) ?_
 simp[lV,aeb RL,kL]
theorem di {b:ByteArray} {e:Nat}:ze Tryz.prog wJ [.ro [.val (.string b),iv (e:Int)]] (iv (e:Int)):=by
 refine zn ai (by simp) ?_
 simp[mW,aea RL,lF]
theorem kN (hs:lk s.sto n=some (rdE b e)) (h0:e=0→K (.tuple []) {s with sto:=pt s.sto n (rdE b c)}) (h1:e≠0→K (.tuple []) s):yH Tryz.prog yj [.ptr n 0,iv (c:Int)] s K:=by
 obtain ⟨env,σ,out,base⟩:=s
 simp only at hs
 refine nu 0 bt (by simp) ?_
 by_cases he:e=0
 ·simp[sY,G2 RL,hs,he,s7]
  exact h0 he
 ·simp[sY,G2 RL,hs,he,s7]
  exact h1 he
end
theorem DX {l:List UInt8} {k:Nat}:byt l k<256:=UInt8.toNat_lt _
theorem adw {x c k:Nat} (hx:x<128^k) (_hk:k≤9) (hs:x+c*128^k<18446744073709551616):sX .or .u64 (x:Int) ((c*128^k:Nat):Int)=((x+c*128^k:Nat):Int):=by
 have hbits:IntKind.u64.bits=64:=rfl
 have hp:(128:Nat)^k=2^(7*k):=by rw[show (128:Nat)=2^7 from rfl,← Nat.pow_mul]
 simp only[sX]
 rw[BitVec.toNat_or]
 have e1:(BitVec.ofInt IntKind.u64.bits ((c*128^k:Nat):Int)).toNat=c*128^k:=by rw[hbits,BitVec.toNat_ofInt]; omega
 have e2:(BitVec.ofInt IntKind.u64.bits (x:Int)).toNat=x:=by rw[hbits,BitVec.toNat_ofInt]; omega
 rw[e1,e2]
 have h3:=Nat.shiftLeft_add_eq_or_of_lt (i:=7*k) (b:=x) (by rw[← hp]; exact hx) c
 rw[Nat.shiftLeft_eq,← hp] at h3
 rw[Nat.or_comm,← h3,Nat.add_comm]
 exact w64 (by omega)
theorem Aa {c k:Nat} (hk:k≤9) (h:c*128^k<18446744073709551616):IntKind.u64.wrap ((c:Int)*2^(min (7*k) IntKind.u64.bits))=((c*128^k:Nat):Int):=by
 have:min (7*k) IntKind.u64.bits=7*k:=by
  have:IntKind.u64.bits=64:=rfl
  omega
 rw[this]
 have hp:(128:Nat)^k=2^(7*k):=by rw[show (128:Nat)=2^7 from rfl,← Nat.pow_mul]
 have:(c:Int)*2^(7*k)=((c*128^k:Nat):Int):=by rw[hp]; push_cast; rfl
 rw[this]
 exact w64 h
section
variable {s:St} {n most:Nat} {b:ByteArray} {q:Rd} {K:AV→St→Prop}
def Sk (n most:Nat) (l:List UInt8) (env:List (Nat × AV)) (σ:List (Nat × zf)) (out:List (List (Nat × AV))) (k:Nat):St:={env:=[(0,.ptr n 0),(1,zU most),(5,zU (acc l k)),(6,iv k)],sto:=σ,out:=env::out,base:=0}
theorem kO (hs:lk s.sto n=some (rdE b q.1)) (hm:tq q b) (_hmost:most<18446744073709551616)
  (hK:∀ b',tq (zL most q).2 b'→K (zU (zL most q).1) {s with sto:=pt s.sto n (rdE b' (zL most q).2.1)}):yH Tryz.prog z7 [.ptr n 0,zU most] s K:=by
 obtain ⟨env,σ,out,base⟩:=s
 obtain ⟨e,l⟩:=q
 simp only at hs hK
 refine nu 0 bu (by simp) ?_
 simp[nK]
 refine za (cy (b:=b) (e:=e)) (by simp[hs]) (.inr rfl) ?_
 by_cases he:e=0
 ·subst he
  have hb:=hm.1 rfl
  simp only at hb
  subst hb
  simp
  refine zw (Sk n most l env σ out) (fun _=>True) (lead 0 l) (by simp[Sk,acc]) trivial (fun k hk _=>?_) (fun _=>?_)
  ·obtain ⟨a1,a2,a3⟩:=Zk hk
   have hk9:k≤8:=by have:=Fl (l:=l); omega
   have h64:=DH (l:=l) (k:=k) (by omega) (by omega)
   have hst:Sk n most l env σ out (k+1)={env:=[(0,.ptr n 0),(1,zU most),(5,zU (acc l k+byt l k%128*128^k)),(6,iv ((k:Int)+1))],sto:=σ,out:=env::out,base:=0}:=by
    rw[Sk,acc]; rfl
   have hal:=SB (l:=l) k
   have hbl:=DX (l:=l) (k:=k)
   have w1:=zm (k:=k) (by omega)
   have e1:=DM (byt l k) hbl
   have e2:=Aa (c:=byt l k%128) (k:=k) (by omega) (by omega)
   have e3:=adw (c:=byt l k%128) hal (by omega) h64
   have hix:=TI (P:=Tryz.prog) (t:=yi) NU (xs:=str l) (ik:=.i64) (i:=(k:Int)) (by omega) (by rw[td]; omega)
   rw[Int.toNat_natCast,SJ] at hix
   have hne:¬ ((k:Int)=l.length):=by omega
   have h9:¬ ((k:Int)=9):=by omega
   rw[Sk]
   generalize acc l k+byt l k%128*128^k=x1 at *
   generalize byt l k%128*128^k=x2 at *
   obtain ⟨d,hd⟩:∃ d,byt l k%128=d:=⟨_,rfl⟩
   rw[hd] at e1 e2
   generalize byt l k=y at *
   generalize acc l k=x0 at *
   have w2:IntKind.u64.wrap (k:Int)=(k:Int):=w64 (by omega)
   obtain ⟨m,hm7⟩:∃ m,7*k=m:=⟨_,rfl⟩
   rw[hm7] at e2
   have w3:IntKind.u64.wrap (7*(k:Int))=(m:Int):=by rw[vb]<;>omega
   have w4:IntKind.u64.wrap (d:Int)=(d:Int):=w64 (by omega)
   have hsh:¬ ((m:Int)<0):=by omega
   have hge:(128:Int)≤y:=by omega
   simp[yh,hs,td,hne,hix,h9,e1,w2,w3,w4,xY hsh,e2,e3,hge,w1,hst]
  ·obtain ⟨N,hN⟩:∃ N,lead 0 l=N:=⟨_,rfl⟩
   have hN9:N≤9:=by rw[← hN]; exact Fl
   rw[hN]
   rcases L0 (l:=l) (i:=0) with hE | ⟨hE,hE2⟩
   ·have hu:=DD (most:=most) hE
    rw[hN] at hE
    rw[hu] at hK
    rw[Sk]
    have hNl:(N:Int)=l.length:=by omega
    simp[yh,hs,hNl,td,lE]
    refine yp (kN (b:=str l) (e:=0) (c:=1) (by exact hs) (fun _=>?_) (fun h=>absurd rfl h))
    simp[yo]
    exact hK (str l) ⟨fun h=>absurd h (by decide),hm.2⟩
   ·have hu2:=adk (most:=most) hE
    have hu3:=A0 (most:=most) hE
    have hu4:=adi (most:=most) hE
    have hbl:=DX (l:=l) (k:=N)
    have h64:=DH (l:=l) (k:=N) hN9
    have hal:=SB (l:=l) N
    rw[hN] at hE hE2 hu2 hu3 hu4
    have hac:acc l (N+1)=acc l N+byt l N%128*128^N:=rfl
    have hix:=TI (P:=Tryz.prog) (t:=yi) NU (xs:=str l) (ik:=.i64) (i:=(N:Int)) (by omega) (by rw[td]; omega)
    rw[Int.toNat_natCast,SJ] at hix
    have hNl:¬ ((N:Int)=l.length):=by omega
    have e1:=DM (byt l N) hbl
    have hsx:(str l).extract (N+1) l.length=str (l.drop (N+1)):=by rw[afB,List.take_length]
    rw[Sk]
    by_cases c1:N=9∧1<byt l N
    ·obtain ⟨h9,c2⟩:=c1
     rw[hu2 h9 c2] at hK
     have d9:decide ((N:Int)=9)=true:=decide_eq_true (by omega)
     have c2':(1:Int)<(byt l N:Int):=by omega
     generalize byt l N=y at *
     generalize acc l N=x0 at *
     simp[yh,hs,hNl,td,lE,hix,d9,c2']
     refine yp (kN (b:=str l) (e:=0) (c:=2) (by exact hs) (fun _=>?_) (fun h=>absurd rfl h))
     simp[yo]
     exact hK (str l) ⟨fun h=>absurd h (by decide),hm.2⟩
    ·have c3:byt l N<128:=by omega
     have h64':=h64 (by omega)
     have e2:=Aa (c:=byt l N%128) (k:=N) hN9 (by omega)
     have e3:=adw (c:=byt l N%128) hal hN9 h64'
     rw[← hac] at e3 h64'
     generalize acc l (N+1)=x1 at *
     generalize byt l N%128*128^N=x2 at *
     obtain ⟨d,hd⟩:∃ d,byt l N%128=d:=⟨_,rfl⟩
     rw[hd] at e1 e2
     generalize byt l N=y at *
     generalize acc l N=x0 at *
     obtain ⟨m,hm7⟩:∃ m,7*N=m:=⟨_,rfl⟩
     rw[hm7] at e2
     have w2:IntKind.u64.wrap (N:Int)=(N:Int):=w64 (by omega)
     have w3:IntKind.u64.wrap (7*(N:Int))=(m:Int):=by rw[vb]<;>omega
     have w4:IntKind.u64.wrap (d:Int)=(d:Int):=w64 (by omega)
     have hsh:¬ ((m:Int)<0):=by omega
     have hge:¬ (128:Int)≤y:=by omega
     have w1:=zm (k:=N) (by omega)
     have c1':(N:Int)=9→¬ (1:Int)<(y:Int):=by omega
     by_cases c2:y=0∧0<N
     ·obtain ⟨rfl,c2⟩:=c2
      rw[hu3 rfl c2] at hK
      have c2':0<N:=c2
      by_cases h9:(N:Int)=9
      ·have d9:=decide_eq_true h9
       simp[yh,hs,hNl,td,lE,hix,d9,c2',w2,w3,xY hsh]
       refine yp (kN (b:=str l) (e:=0) (c:=2) (by exact hs) (fun _=>?_) (fun h=>absurd rfl h))
       simp[yo]
       exact hK (str l) ⟨fun h=>absurd h (by decide),hm.2⟩
      ·have d9:=decide_eq_false h9
       simp[yh,hs,hNl,td,lE,hix,d9,c2',w2,w3,xY hsh]
       refine yp (kN (b:=str l) (e:=0) (c:=2) (by exact hs) (fun _=>?_) (fun h=>absurd rfl h))
       simp[yo]
       exact hK (str l) ⟨fun h=>absurd h (by decide),hm.2⟩
     ·have hu:=hu4 c1 c3 c2
      rw[hu] at hK
      have fin:∀ (g1 g2:Bool),decide ((N:Int)=9)=g1→decide (y=0)=g2→(g1=true→¬ (1:Int)<y)→(g2=true→¬ 0<N) →
        awp Tryz.prog yh {env:=[(0,.ptr n 0),(1,zU most),(5,zU x0),(6,iv N)],sto:=σ,out:=env::out,base:=0} (t7 (vi 0 (Sb yo base K))):=by
       intro g1 g2 d1 d2 d3 d4
       by_cases c4:most<x1
       ·rw[if_pos c4] at hK
        have c4':(most:Int)<x1:=by omega
        cases g1<;>cases g2
        all_goals
         simp only[true_implies,reduceCtorEq,false_implies] at d3 d4
         simp[yh,hs,hNl,td,lE,hix,d1,d2,d3,d4,e1,w2,w3,w4,xY hsh,e2,e3,hge,c4']
         refine yp (kN (b:=str l) (e:=0) (c:=4) (by exact hs) (fun _=>?_) (fun h=>absurd rfl h))
         simp[yo]
         exact hK (str l) ⟨fun h=>absurd h (by decide),hm.2⟩
       ·rw[if_neg c4] at hK
        have c4':¬ (most:Int)<x1:=by omega
        have hfin:=hK (str (l.drop (N+1))) ⟨fun _=>rfl,by have:=hm.2; simp only[td,List.length_drop] at this ⊢; omega⟩
        have wn:((N:Int)+1).toNat=N+1:=by omega
        cases g1<;>cases g2
        all_goals
         simp only[true_implies,reduceCtorEq,false_implies] at d3 d4
         simp[yh,hs,hNl,td,hix,d1,d2,d3,d4,e1,w1,w2,w3,w4,xY hsh,e2,e3,hge,c4',wn,hsx,yo]
         exact ⟨by omega,by omega,hfin⟩
      exact fin _ _ rfl rfl (by simp; omega) (by simp; omega)
 ·have hu:=adj (most:=most) (s:=(e,l)) he
  rw[hu] at hK
  simp[he,yo]
  have:=hK b ⟨fun h=>absurd h he,hm.2⟩
  rw[Q2 hs] at this
  exact this
def c9 (q:Rd):Rd:=if q.1=0∧q.2≠[] then (3,[]) else (q.1,[])
theorem F0 {l:List UInt8}:(str l=⟨#[]⟩)↔l=[]:=⟨fun h=>afC (b:=[]) h,fun h=>by subst h; rfl⟩
theorem ajd (hs:lk s.sto n=some (rdE b q.1)) (hm:tq q b) (hK:∀ b',K (iv ((c9 q).1:Int)) {s with sto:=pt s.sto n (rdE b' (c9 q).1)}):yH Tryz.prog uD [.ptr n 0] s K:=by
 obtain ⟨env,σ,out,base⟩:=s
 obtain ⟨e,l⟩:=q
 simp only at hs hK
 refine nu 0 ah (by simp) ?_
 simp[mV]
 refine za (cy (b:=b) (e:=e)) (by simp[hs]) (.inr rfl) ?_
 by_cases he:e=0
 ·subst he
  have hb:=hm.1 rfl
  simp only at hb
  subst hb
  by_cases hl:l=[]
  ·have hr:(c9 (0,l)).1=0:=by unfold c9; rw[if_neg (by simp[hl])]
   have hd:decide (str l=⟨#[]⟩)=true:=decide_eq_true (F0.2 hl)
   have:=hK (str l)
   rw[hr,Q2 hs] at this
   simp[hs,hd]
   refine za (di (b:=str l) (e:=0)) (by simp[hs]) (.inr rfl) ?_
   simp[uU]
   exact this
  ·have hr:(c9 (0,l)).1=3:=by unfold c9; rw[if_pos ⟨rfl,hl⟩]
   have hd:decide (str l=⟨#[]⟩)=false:=decide_eq_false fun h=>hl (F0.1 h)
   have:=hK (str l)
   rw[hr] at this
   simp[hs,hd,lE]
   refine yp (kN (b:=str l) (e:=0) (c:=3) (by exact hs) (fun _=>?_) (fun h=>absurd rfl h))
   simp
   refine za (di (b:=str l) (e:=3)) (by simp) (.inr rfl) ?_
   simp[uU]
   exact this
 ·have hr:(c9 (e,l)).1=e:=by unfold c9; rw[if_neg (fun h=>he h.1)]
  have:=hK b
  rw[hr,Q2 hs] at this
  simp[he]
  refine za (di (b:=b) (e:=e)) (by simp[hs]) (.inr rfl) ?_
  simp[uU]
  exact this
theorem ajk {ρ:List (Nat × zf)} {l:List UInt8} {B:Nat} (hs:s.sto=ρ) (hρ:yU B ρ) (h:K (.ptr (B+5) 0) {s with sto:=ρ++[(B+5,rdE (str l) 0)]}):yH Tryz.prog qa [sv l] s K:=by
 obtain ⟨env,σ,out,base⟩:=s
 simp only at hs h
 subst hs
 refine nu B Ss (by simp) ?_
 simp[eD,aa6 hρ,aa8 hρ,dh]
 exact h
end
end Go.Proofs.YtpnliopaifpimaaGreat

namespace Go.Am
open Go.RowKit
section
variable {P:Program}
def St.frozen (k:Nat) (en:zf) (s:St):St:={s with env:=s.env.map fun p=>(p.1,frz k en p.2),sto:=(del [k] s.sto).map fun p=>(p.1,rR k en p.2),out:=s.out.map fun f=>f.map fun p=>(p.1,frz k en p.2)}
theorem Rn {F:yd} {I:Nat→Nat→Prop} {w:World} {β:zY} {lam:yg} {a:Act} {s:St} {k:Nat} {en:zf} (hen:lk s.sto k=some en) (h:Inv F s.look (lk s.sto) I β lam a w) (hu:(s.frozen k en).unmet k=true) :
  ∃ I' β' lam',Inv F (s.frozen k en).look (lk (s.frozen k en).sto) I' β' lam' a w∧∀ x v,R I w β lam x v→zP k (frz k en x)=false→R I' w β' lam' (frz k en x) v:=by
 unfold St.frozen at hu ⊢
 obtain ⟨Q,hQe⟩:∃ Q:Prop,Q=∃ I' β' lam',Inv F (St.look {s with env:=s.env.map fun p=>(p.1,frz k en p.2),sto:=(del [k] s.sto).map fun p=>(p.1,rR k en p.2),out:=s.out.map fun f=>f.map fun p=>(p.1,frz k en p.2)}) (lk (St.sto {s with env:=s.env.map fun p=>(p.1,frz k en p.2),sto:=(del [k] s.sto).map fun p=>(p.1,rR k en p.2),out:=s.out.map fun f=>f.map fun p=>(p.1,frz k en p.2)})) I' β' lam' a w∧∀ x v,R I w β lam x v→zP k (frz k en x)=false→R I' w β' lam' (frz k en x) v:=⟨_,rfl⟩
 have hQ:=hQe.mpr
 rw[← hQe]
 have look:∀ t,(St.look {s with env:=s.env.map fun p=>(p.1,frz k en p.2),sto:=(del [k] s.sto).map fun p=>(p.1,rR k en p.2),out:=s.out.map fun f=>f.map fun p=>(p.1,frz k en p.2)}) t=(s.look t).map (frz k en):=by
  intro t
  obtain ⟨f,t⟩:=t
  cases f with
  | zero=>exact qH _ _ _
  | succ f =>
   simp only[St.look,List.getElem?_map]
   cases s.out[f]? with
   | none=>rfl
   | some q=>exact qH _ _ _
 have main:∀ (X:Nat→Nat→Prop),(∀ b o,X b o→F.w0.heap.size≤b∧b<w.heap.size∧(∀ k',wX β [k] k'≠some b) ∧
    ∀ l o' len cap sz c,mD lam en.isU [k] l=some (some ⟨b,o',none⟩,len,cap,sz)→o=o'+c→len*sz≤c→c<cap*sz→False) →
   MJ I (fun b o=>I b o∨X b o) w β lam k en→Q:=by
  intro X hX hF
  refine hQ ⟨_,wX β [k],mD lam en.isU [k],h.forget X rfl (fun k b hk=>(vy hk).1) (fun l q hq=>(fE hq).1) hX (fun t x ht=>?_) (fun k' en' hk hU=>?_) (fun l sz rows hk=>?_) (fun k' b hk=>?_),fun x v hx hn=>Zd hF hx hn⟩
  ·have hn:=ZV hu ht
   rw[look] at ht
   simp only[Option.map_eq_some_iff] at ht
   obtain ⟨x',ht,rfl⟩:=ht
   obtain ⟨v,h1,h2⟩:=h.env t x' ht
   exact ⟨v,h1,Zd hF h2 hn⟩
  ·have hn:=lI hu hk
   obtain ⟨en0,h1,h2,rfl⟩:=cf hk
   rw[Zc] at hU
   obtain ⟨b,hb,hE⟩:=h.sto k' en0 h1 hU
   refine ⟨b,by unfold wX; rw[if_neg (by simpa using h2)]; exact hb,?_⟩
   cases en0 with
   | var cells =>
    intro j c hj
    have hc:=dG hn hj
    simp only[List.getElem?_map,Option.map_eq_some_iff] at hj
    obtain ⟨c',hj,rfl⟩:=hj
    obtain ⟨v,g1,g2,g3,g4⟩:=hE j c' hj
    exact ⟨v,g1,g2,g3,Zd hF g4 hc⟩
   | arr sz rows =>
    refine ⟨hE.1,fun i r j c hi hj=>?_⟩
    obtain ⟨v,g1,g2,g3,g4⟩:=hE.2 i r j c hi hj
    exact ⟨v,g1,g2,g3,g4.mono hF.sub (fun _ _ _ _ h=>h)⟩
   | uarr sz rows=>cases hU
   | map es clock=>exact hE
  ·have hn:=lI hu hk
   obtain ⟨en0,h1,h2,e⟩:=cf hk
   cases en0 with
   | var cells=>cases e
   | arr sz rows=>cases e
   | map es clock=>cases e
   | uarr sz0 rows0 =>
    cases e
    obtain ⟨av,cap,g1,g2,g3,g4⟩:=h.usto l _ _ h1
    refine ⟨av,cap,by unfold mD; rw[if_neg (by simp[h2])]; exact g1,by simpa using g2,fun i r hi=>?_,fun hne=>?_⟩
    ·simp only[List.getElem?_map,Option.map_eq_some_iff] at hi
     obtain ⟨r0,hi,rfl⟩:=hi
     rw[List.length_map]; exact g3 i r0 hi
    ·obtain ⟨b,q,rfl,g5⟩:=g4 (by intro e; subst e; exact hne rfl)
     refine ⟨b,q,rfl,fun i r j c hi hj=>?_⟩
     have hc:=dG (gz hn r (List.mem_iff_getElem?.2 ⟨i,hi⟩)) hj
     simp only[List.getElem?_map,Option.map_eq_some_iff] at hi
     obtain ⟨r0,hi,rfl⟩:=hi
     simp only[List.getElem?_map,Option.map_eq_some_iff] at hj
     obtain ⟨c',hj,rfl⟩:=hj
     obtain ⟨v,q1,q2,q3⟩:=g5 i r0 j c' hi hj
     exact ⟨v,q1,q2,Zd hF q3 hc⟩
  ·obtain ⟨h1,h2⟩:=vy hk
   obtain ⟨en',hen',hU⟩:=h.bdom k' b h1
   refine ⟨rR k en en',?_,by rw[Zc]; exact hU⟩
   simp only
   rw[qH,pH,if_neg (by rw[h2]; simp),hen']
   rfl
 cases hU:en.isU with
 | false =>
  obtain ⟨b,hb,hE⟩:=h.sto k en hen hU
  refine main (fun b' _=>b'=b) ?_ ⟨fun b o hi=>.inl hi,fun _=>⟨b,hb,hE,fun o=>.inr rfl⟩,fun sz rows e=>by subst e; cases hU⟩
  rintro b' o rfl
  obtain ⟨g1,g2,g3⟩:=h.bnew k b' hb
  refine ⟨g1,g2,fun k' hk'=>?_,fun l o' len cap sz c hl _ h1 h2=>?_⟩
  ·obtain ⟨q1,q2⟩:=vy hk'
   have:=h.binj k k' b' hb q1
   subst this
   simp at q2
  ·obtain ⟨b2,o'',e1,_,_,_,_,e6⟩:=h.spare l _ len cap sz (fE hl).1 c h1 h2
   simp only[Option.some.injEq,Addr.mk.injEq] at e1
   obtain ⟨rfl,_⟩:=e1
   exact e6 k hb
 | true =>
  cases en with
  | var cells=>cases hU
  | arr sz rows=>cases hU
  | map es clock=>cases hU
  | uarr sz rows =>
   have hR:=h.usto k _ _ hen
   refine main (fun b q=>∃ o cap,lam k=some (some ⟨b,o,none⟩,0,cap,sz)∧o≤q∧q<o+cap*sz) ?_
    ⟨fun b o hi=>.inl hi,fun hf=>(by cases hf),fun sz' rows' e=>by cases e; exact ⟨hR,fun b o cap q hl hq=>.inr ⟨o,cap,hl,by omega,by omega⟩⟩⟩
   rintro b q ⟨o,cap,hl,h1,h2⟩
   obtain ⟨g1,g2,g3,_⟩:=h.ublock hl (by omega)
   refine ⟨g1,g2,fun k' hk'=>g3 k' (vy hk').1,fun l o' len cap' sz' c hl' _ q1 q2=>?_⟩
   obtain ⟨q3,q4⟩:=fE hl'
   have hne:k≠l:=by
    intro e; subst e
    simp[zf.isU] at q4
   exact h.ldis k l b o o' 0 len cap cap' sz sz' hne hl q3 (by omega) (by omega)
theorem yH.frz {f:FuncId} {xs:List AV} {s:St} {K:AV→St→Prop} {k:Nat} {en:zf} (hen:lk s.sto k=some en) (hu:(s.frozen k en).unmet k=true) (hx:∀ x∈xs,zP k (frz k en x)=false)
  (hc:yH P f (xs.map (Am.frz k en)) (s.frozen k en) K):yH P f xs s K:=by
 intro F a w I β lam hI vs hs hR
 obtain ⟨I',β',lam',h1,h2⟩:=Rn hen hI hu
 refine hc F a w I' β' lam' h1 vs (by simpa using hs) fun i y hy=>?_
 simp only[List.getElem?_map,Option.map_eq_some_iff] at hy
 obtain ⟨x,hy,rfl⟩:=hy
 exact h2 x _ (hR i x hy) (hx x (List.mem_iff_getElem?.2 ⟨i,hy⟩))
theorem aos {α:Type} {D:List Nat} {f:α→α} (l:List (Nat × α)):(del D l).map (fun p=>(p.1,f p.2))=del D (l.map fun p=>(p.1,f p.2)):=by
 induction l with
 | nil=>rfl
 | cons p l ih =>
  obtain ⟨k,x⟩:=p
  simp only[del,List.map_cons]
  split
  ·exact ih
  ·rw[List.map_cons,ih]
end
section
variable {P:Program} {s:St} {K:Exit→St→Prop} {X:Type}
def MH (st:Nat→X→St) (I:Nat→X→Prop) (k:Nat) (K:Exit→St→Prop):Exit→St→Prop
 | .normal,s=>∃ x,St.imp s (st k x)∧I k x
 | e,s=>K e s
@[simp] theorem ahA {st:Nat→X→St} {I:Nat→X→Prop} {k:Nat}:MH st I k K .normal s=(∃ x,St.imp s (st k x)∧I k x):=rfl
@[simp] theorem ajr {st:Nat→X→St} {I:Nat→X→Prop} {k j:Nat}:MH st I k K (.exit j) s=K (.exit j) s:=rfl
@[simp] theorem aj4 {st:Nat→X→St} {I:Nat→X→Prop} {k:Nat}:MH st I k K .ret s=K .ret s:=rfl
theorem Tp {a:zd} (st:Nat→X→St) (I:Nat→X→Prop) (N:Nat) (x0:X) (h0:St.imp s (st 0 x0)) (i0:I 0 x0)
  (h1:∀ k x,k<N→I k x→awp P a (st k x) (MH st I (k+1) K)) (h2:∀ x,I N x→awp P a (st N x) (t7 K)):awp P (.loop a) s K:=by
 refine ⟨fun n s=>∃ k x,k≤N∧n=N-k∧s=st k x∧I k x,N,st 0 x0,h0,⟨0,x0,by omega,by omega,rfl,i0⟩,?_⟩
 rintro n s ⟨k,x,hk,rfl,rfl,hi⟩
 by_cases h:k<N
 ·refine vh (fun e s hs=>?_) (h1 k x h hi)
  cases e with
  | normal =>
   obtain ⟨x',h3,h4⟩:=hs
   exact ⟨N-(k+1),st (k+1) x',by omega,h3,k+1,x',by omega,rfl,rfl,h4⟩
  | _=>exact hs
 ·obtain rfl:k=N:=by omega
  refine vh (fun e s hs=>?_) (h2 x hi)
  cases e with
  | normal=>exact hs.elim
  | _=>exact hs
end
end Go.Am
namespace Go.Proofs.YtpnliopaifpimaaGreat
open Go Go.Am Go.Wr
theorem S4 {f:FuncId} {xs:List AV} {s:St} {K K1:AV→St→Prop} {env:List (Nat × AV)} {out:List (List (Nat × AV))} {B base:Nat} (d:Nat) (hE:qp B env) (hO:pI B out) (hc:yH Tryz.prog f xs s K1)
  (h:∀ r s',K1 r s'→∃ e ρ',yU B ρ'∧s'=⟨env,ρ'++[(B+d,e)],out,base⟩∧frz (B+d) e r=r∧zP (B+d) r=false∧K r ⟨env,ρ',out,base⟩):yH Tryz.prog f xs s K :=
 fun F a w I β lam hI vs hn hv=>Calls.mono (hc F a w I β lam hI vs hn hv) fun e w' ⟨v,e1,r,s',I',β',lam',hK,hI',hR⟩=>by
  obtain ⟨en,ρ',hρ,rfl,hr1,hr2,hk⟩:=h r s' hK
  have hB:B≤B+d:=Nat.le_add_right _ _
  have hz:St.frozen (B+d) en ⟨env,ρ'++[(B+d,en)],out,base⟩=⟨env,ρ',out,base⟩:=by
   unfold St.frozen
   have e1:(env.map fun p=>(p.1,frz (B+d) en p.2))=env:=L5 hB hE
   have e2:((del [B+d] (ρ'++[(B+d,en)])).map fun p=>(p.1,rR (B+d) en p.2))=ρ':=by
    rw[eO hρ (by simp)]
    have:del [B+d] [(B+d,en)]=[]:=by simp[del]
    rw[this,List.append_nil]
    exact tc fun p hp=>by rw[abg hB (hρ p hp).2]
   have e3:(out.map fun f=>f.map fun p=>(p.1,frz (B+d) en p.2))=out:=abi hB hO
   simp only[e1,e2,e3]
  obtain ⟨I2,β2,lam2,h1,h2⟩:=Rn (s:=⟨env,ρ'++[(B+d,en)],out,base⟩) (k:=B+d) (en:=en) (by rw[glk hρ]; simp[lk]) hI' (by
   rw[hz]
   show (kG (B+d) env&&tV (B+d) ρ'&&kH (B+d) out)=true
   rw[bf hE,akm hρ,bg hO]; rfl)
  rw[hz] at h1
  have h3:=h2 r v hR (by rw[hr1]; exact hr2)
  rw[hr1] at h3
  exact ⟨v,e1,r,_,I2,β2,lam2,hk,h1,h3⟩
end Go.Proofs.YtpnliopaifpimaaGreat

namespace Go.Wr
theorem gf {most:Nat}:∀ {k:Nat} {s:Rd},nums most (k+1) s=if (nums most k s).2.1≠0 then nums most k s else ((nums most k s).1++[(zL most (nums most k s).2).1],(zL most (nums most k s).2).2)
 | 0,s=>by by_cases h:s.1=0<;>simp[nums,h]
 | k+1,s=>by
  by_cases h:s.1=0
  ·have e1:∀ j,nums most (j+1) s=((zL most s).1::(nums most j (zL most s).2).1,(nums most j (zL most s).2).2):=fun j=>by rw[nums,if_neg (by simp[h])]
   rw[e1 (k+1),e1 k,gf (k:=k) (s:=(zL most s).2)]
   simp only
   split<;>simp
  ·rw[Kn h,Kn h,if_pos h]
theorem Nq {most:Nat}:∀ {k:Nat} {s:Rd},(nums most k s).2.1=0→(nums most k s).1.length=k
 | 0,s,_=>rfl
 | k+1,s,h=>by
  rw[gf] at h ⊢
  by_cases h1:(nums most k s).2.1=0
  ·rw[if_neg (by simp[h1])]
   simp[Nq h1]
  ·rw[if_pos h1] at h
   exact absurd h h1
theorem Nr {most k:Nat} {s:Rd} (h:(nums most k s).2.1≠0):∀ j,nums most (k+j) s=nums most k s
 | 0=>rfl
 | j+1=>by
  have:=Nr h j
  rw[← Nat.add_assoc,gf,this,if_pos h]
theorem Ns {most:Nat} {s:Rd}:∀ N,∃ L,L≤N∧(∀ k,k<L→(nums most k s).2.1=0)∧(L=N∨(nums most L s).2.1≠0)∧nums most N s=nums most L s
 | 0=>⟨0,Nat.le_refl _,fun k hk=>absurd hk (Nat.not_lt_zero k),.inl rfl,rfl⟩
 | N+1=>by
  obtain ⟨L,h1,h2,h3,h4⟩:=Ns (most:=most) (s:=s) N
  by_cases h:(nums most L s).2.1=0
  ·have hL:L=N:=h3.resolve_right (fun h'=>h' h)
   subst hL
   exact ⟨L+1,Nat.le_refl _,fun k hk=>by
    by_cases hk2:k=L
    ·subst hk2; exact h
    ·exact h2 k (by omega),.inl rfl,rfl⟩
  ·refine ⟨L,by omega,h2,.inr h,?_⟩
   have:=Nr h (N+1-L)
   rwa [show L+(N+1-L)=N+1 by omega] at this
theorem QW {most:Nat}:∀ {k:Nat} {s:Rd},∀ d∈(nums most k s).1,d≤most
 | 0,s,d,h=>by simp[nums] at h
 | k+1,s,d,h=>by
  rw[gf] at h
  split at h
  ·exact QW d h
  ·rcases List.mem_append.1 h with h | h
   ·exact QW d h
   ·rw[List.mem_singleton] at h
    rw[h]
    exact qR.1
def se (q:Rd):List Nat × Rd:=nums 4294967295 (zL 2000 q).1 (zL 2000 q).2
end Go.Wr

namespace Go.Proofs.YtpnliopaifpimaaGreat
open Go Go.Am Go.Wr Go.Dig
section
variable {s:St} {n:Nat} {b:ByteArray} {q:Rd} {K:AV→St→Prop} {env:List (Nat × AV)} {out:List (List (Nat × AV))} {σ:List (Nat × zf)} {B base:Nat}
def tW (q:Rd) (k:Nat):List Nat × Rd:=nums 4294967295 k (zL 2000 q).2
theorem Bn:tW q 0=([],(zL 2000 q).2):=rfl
theorem Bm {k:Nat} (h:(tW q k).2.1=0):tW q (k+1)=((tW q k).1++[(zL 4294967295 (tW q k).2).1],(zL 4294967295 (tW q k).2).2):=by
 have:=gf (most:=4294967295) (k:=k) (s:=(zL 2000 q).2)
 rw[if_neg (fun hne=>hne h)] at this
 exact this
theorem Bl:∃ L,L≤(zL 2000 q).1∧(∀ k,k<L→(tW q k).2.1=0)∧(L=(zL 2000 q).1∨(tW q L).2.1≠0)∧se q=tW q L:=Ns _
theorem Bk {k:Nat} (h:(tW q k).2.1=0):(tW q k).1.length=k:=Nq h
theorem abF {k:Nat}:(tW q k).1.length≤k:=TX
theorem DZ {f:FuncId} {xs:List AV} {s:St} {K:AV→St→Prop} (hc:yH Tryz.prog f xs s fun r s'=>∃ rows,r=Zt 1 rows∧K (.list 1 .plain rows) s'):yH Tryz.prog f xs s K :=
 fun F a w I β lam hI vs hn hv=>Calls.mono (hc F a w I β lam hI vs hn hv) fun e w' ⟨v,e1,r,s',I',β',lam',⟨rows,hr,hk⟩,hI',hR⟩=>by
  subst hr
  refine ⟨v,e1,_,s',I',β',lam',hk,hI',?_⟩
  have:R0 I' w' (Zt 1 rows) v:=by
   unfold Zt at hR ⊢
   by_cases h:rows=[]
   ·simp only[h,if_true] at hR ⊢
    cases hR with
    | base h=>exact h
   ·simp only[h,if_false] at hR ⊢
    cases hR with
    | base h=>exact h
  exact .base (jt _ _ _ this)
theorem P3 {f:FuncId} {xs:List AV} {s:St} {K:AV→St→Prop} (hc:yH Tryz.prog f xs s fun r s'=>∃ c c',r=.agg c∧AV.imp (.agg c) (.agg c')∧K (.agg c') s'):yH Tryz.prog f xs s K :=
 fun F a w I β lam hI vs hn hv=>Calls.mono (hc F a w I β lam hI vs hn hv) fun e w' ⟨v,e1,r,s',I',β',lam',⟨c,c',hr,hi,hk⟩,hI',hR⟩=>by
  subst hr
  refine ⟨v,e1,_,s',I',β',lam',hk,hI',?_⟩
  cases hR with
  | base h=>exact .base (hi _ _ _ h)
end
theorem Ti {m:Am.Mode} {a:List Nat} (ha:ok a) (hn:a.length<1099511627776):ze Tryz.prog dC [nl m a] (bv (decide (a=zh (val a)))):=by
 refine zn AM (by simp) ?_
 simp[PX]
 refine za (xt (m:=stm m) ha hn) (by simp[nw]) (by simp) ?_
 obtain ⟨h1,h2,h3,h4⟩:=YX ha
 have:decide ((((zh (val a)).length:Nat):Int)=(a.length:Int))=decide (a=zh (val a)):=by
  by_cases h:(zh (val a)).length=a.length
  ·have:a=zh (val a):=by rw[← h4,h]; simp
   simp[← this]
  ·have:a≠zh (val a):=fun e=>h (congrArg List.length e.symm)
   have h':¬ (((zh (val a)).length:Nat):Int)=(a.length:Int):=by omega
   simp[this]
   omega
 simp[NB]
 simpa using this
theorem or_hi {r a:Nat} (hr:r<B) (ha:a<B):sX .or .u64 ((r*B:Nat):Int) (a:Int)=((r*B+a:Nat):Int):=by
 rw[z9] at *
 have hbits:IntKind.u64.bits=64:=rfl
 simp only[sX]
 rw[BitVec.toNat_or]
 have e1:(BitVec.ofInt IntKind.u64.bits ((r*4294967296:Nat):Int)).toNat=r*4294967296:=by rw[hbits,BitVec.toNat_ofInt]; omega
 have e2:(BitVec.ofInt IntKind.u64.bits (a:Int)).toNat=a:=by rw[hbits,BitVec.toNat_ofInt]; omega
 rw[e1,e2]
 have h3:=Nat.shiftLeft_add_eq_or_of_lt (i:=32) (b:=a) (by omega) r
 rw[Nat.shiftLeft_eq] at h3
 have:(2:Nat)^32=4294967296:=by decide
 rw[this] at h3
 rw[← h3]
 exact w64 (by omega)
theorem ME {r:Nat} (hr:r<B):IntKind.u64.wrap ((r:Int)*2^min 32 IntKind.u64.bits)=((r*B:Nat):Int):=by
 have:min 32 IntKind.u64.bits=32:=rfl
 rw[this]
 have:(2:Int)^32=4294967296:=by decide
 rw[this]
 rw[z9] at *
 rw[vb]<;>omega
def Dq (m:Am.Mode) (a:List Nat) (d i:Nat):St :=
 {env:=[(0,nl m a),(1,uv d),(6,.sl 13 1 0 a.length),(7,zU (val a/B^(a.length-i)%d)),(15,iv a.length),(16,iv i)],sto:=[(13,.arr 1 (zD (uB a.length (val a/d) i)))]}
theorem Gj {m:Am.Mode} {a:List Nat} {d:Nat} (ha:ok a) (hn:a.length<1099511627776) (h0:0<d) (hd:d<B) (f1:stm m=m) :
  ze Tryz.prog Yl [nl m a,uv d] (.tuple [nD (val a/d),uv (val a%d)]):=by
 refine wW AO (by simp) ?_
 simp[PZ,eMk]
 refine ⟨by omega,by omega,?_⟩
 have hz:val a/B^a.length%d=0:=by rw[Nat.div_eq_of_lt (uC ha)]; exact Nat.zero_mod _
 refine zw (Dq m a d) (fun _=>True) a.length (by simp[Dq,Td,hz]) trivial (fun i hi _=>?_) (fun _=>?_)
 ·have e:(i:Int)<a.length:=by omega
  obtain ⟨k,hk⟩:∃ k,a.length-1-i=k:=⟨_,rfl⟩
  have hk1:a.length-i=k+1:=by omega
  have hk2:a.length-(i+1)=k:=by omega
  have hka:k<a.length:=by omega
  have w0:IntKind.i64.wrap ((a.length:Int)-1)=(a.length:Int)-1:=by rw[wrap64]<;>omega
  have w1:IntKind.i64.wrap ((a.length:Int)-1-i)=(k:Int):=by rw[wrap64]<;>omega
  obtain ⟨s1,s2,s3⟩:=RZ (A:=val a/B^k) h0
  rw[← js ha hka,Nat.div_div_eq_div_mul,← Nat.pow_succ] at s1 s2 s3
  obtain ⟨r,hr⟩:∃ r,val a/B^(k+1)%d=r:=⟨_,rfl⟩
  have hrd:r<d:=by rw[← hr]; exact Nat.mod_lt _ h0
  have hrB:r<B:=by omega
  have hak:=xv ha hka
  have hor:=or_hi hrB hak
  have hsh:=ME hrB
  rw[Nat.succ_eq_add_one,hr] at s1 s2 s3
  obtain ⟨t,ht⟩:∃ t,r*B+a[k]=t:=⟨_,rfl⟩
  obtain ⟨rb,hrb⟩:∃ rb,r*B=rb:=⟨_,rfl⟩
  rw[ht] at hor s1 s2 s3
  rw[hrb] at hor hsh
  have hset:=RY (n:=a.length) (D:=val a/d) hi
  rw[hk,Nat.div_div_eq_div_mul,Nat.mul_comm d,← Nat.div_div_eq_div_mul,← s1] at hset
  obtain ⟨q,hq⟩:∃ q,t/d=q:=⟨_,rfl⟩
  obtain ⟨r2,hr2⟩:∃ r2,t%d=r2:=⟨_,rfl⟩
  rw[hq] at hset s1
  rw[hr2] at s2
  have hqB:q<B:=by rw[s1]; exact Nat.mod_lt _ zX
  have hset':(zD (uB a.length (val a/d) i)).set k [uv q]=zD (uB a.length (val a/d) (i+1)):=by rw[xH,hset]
  have htB:t<18446744073709551616:=by
   have:d*B≤B*B:=Nat.mul_le_mul_right _ (by omega)
   have hBB:B*B=18446744073709551616:=by decide
   omega
  have hfl:=RX (D:=val a/d) (show i≤a.length by omega)
  have hkl:k<(uB a.length (val a/d) i).length:=by omega
  rw[z9] at hak hqB hd
  have u1:IntKind.u64.wrap ((a[k]:Nat):Int)=(a[k]:Nat):=w64 (by omega)
  have u2:IntKind.u64.wrap (d:Int)=d:=w64 (by omega)
  have hd0:¬ (d:Int)=0:=by omega
  have hd0n:¬ d=0:=by omega
  have u3:IntKind.u64.wrap ((t:Int).tdiv d)=(q:Int):=by
   rw[show (t:Int).tdiv d=((t/d:Nat):Int) from rfl,hq]; exact w64 (by omega)
  have u3':IntKind.u64.wrap ((t:Int)/d)=(q:Int):=by
   rw[show (t:Int)/d=((t/d:Nat):Int) by simp,hq]; exact w64 (by omega)
  have u4:(t:Int).tmod d=(r2:Int):=by rw[show (t:Int).tmod d=((t%d:Nat):Int) from rfl,hr2]
  have u5:IntKind.u32.wrap (q:Int)=q:=IntWalk.u32_in _ (by omega)
  simp[apK,Dq,e,w0,w1,hka,hkl,hk1,hk2,hr,xY,hsh,u1,hor,u2,tR,qk,hd0n,u3',u4,u5,splice,hset',s2,zm (show i<4611686018427387904 by omega)]
 ·have htk:(zD (zt a.length (val a/d))).take a.length=zD (zt a.length (val a/d)):=List.take_of_length_le (by rw[List.length_map,zy]; exact Nat.le_refl _)
  have hle2:a.length≤(zt a.length (val a/d)).length:=by rw[zy]; exact Nat.le_refl _
  have key:=xt (m:=.plain) (a:=zt a.length (val a/d)) yM (by rw[zy]; omega)
  have hlt:val a/d<B^a.length:=Nat.lt_of_le_of_lt (Nat.div_le_self _ _) (uC ha)
  rw[yq hlt] at key
  have hr:val a%d<d:=Nat.mod_lt _ h0
  have u5:IntKind.u32.wrap ((val a%d:Nat):Int)=(val a%d:Nat):=IntWalk.u32_in _ (by rw[z9] at hd; omega)
  obtain ⟨r,hr2⟩:∃ r,val a%d=r:=⟨_,rfl⟩
  have hr3:val a/B^(a.length-a.length)%d=r:=by simp[hr2]
  rw[hr2] at u5 ⊢
  simp[apK,Dq,RW,Yx,qK,TF f1,rR,htk,hle2,hr2]
  refine za key (by simp) (by simp) ?_
  simp[ND,u5]
  exact AV.imp.refl
end Go.Proofs.YtpnliopaifpimaaGreat

namespace Go.Dig
def kK (w u2 v1 v2:Nat):Nat:=min (B-1) ((w*B+u2)/(v1*B+v2))
def Jr (g r u2 v2:Nat):Prop:=B≤g∨r*B+u2<g*v2
theorem ae8 {w u2 v1 v2:Nat} (h1:0<v1) (hu:u2<B):kK w u2 v1 v2≤w/v1:=by
 unfold kK
 refine Nat.le_trans (Nat.min_le_right _ _) ?_
 rw[Nat.le_div_iff_mul_le h1]
 have h:=Nat.div_mul_le_self (w*B+u2) (v1*B+v2)
 generalize (w*B+u2)/(v1*B+v2)=q at *
 rw[Nat.mul_add,← Nat.mul_assoc] at h
 apply Nat.le_of_not_lt
 intro hlt
 have:(w+1)*B≤q*v1*B:=Nat.mul_le_mul_right _ hlt
 rw[Nat.add_mul] at this
 omega
theorem ZU {g r w u2 v1 v2:Nat} (h1:0<v1) (hr:w=g*v1+r):Jr g r u2 v2↔kK w u2 v1 v2<g:=by
 have hV:0<v1*B+v2:=by have:=Nat.mul_pos h1 zX; omega
 have key:g≤(w*B+u2)/(v1*B+v2)↔g*v2≤r*B+u2:=by
  rw[Nat.le_div_iff_mul_le hV,hr,Nat.mul_add,Nat.add_mul,← Nat.mul_assoc]
  omega
 unfold Jr kK
 have hB:=zX
 constructor
 ·rintro (h | h)
  ·exact Nat.lt_of_le_of_lt (Nat.min_le_left _ _) (by omega)
  ·exact Nat.lt_of_le_of_lt (Nat.min_le_right _ _) (by omega)
 ·intro h
  apply Classical.byContradiction
  intro hno
  have h2:g≤B-1:=by
   apply Nat.le_of_not_lt; intro h3; exact hno (.inl (by omega))
  have h3:g≤(w*B+u2)/(v1*B+v2):=key.2 (by
   apply Nat.le_of_not_lt; intro h4; exact hno (.inr h4))
  have:=Nat.le_min.2 ⟨h2,h3⟩
  omega
theorem aap {g r w u2 v1 v2:Nat} (_h1:0<v1) (hr:w=g*v1+r) (hw:w≤v1*B+(B-1)) (hv2:v2<B) (hrB:B≤r):¬ Jr g r u2 v2:=by
 have hg:g≤B-1:=by
  apply Nat.le_of_not_lt
  intro h
  have:B*v1≤g*v1:=Nat.mul_le_mul_right _ (by omega)
  rw[Nat.mul_comm v1] at hw
  have:=zX
  omega
 rintro (h | h)
 ·have:=zX; omega
 ·have h2:g*v2≤(B-1)*(B-1):=Nat.mul_le_mul hg (by omega)
  have h3:B*B≤r*B:=Nat.mul_le_mul_right _ hrB
  have h4:(B-1)*(B-1)<B*B:=by decide
  omega
theorem EV {w u2 v1 v2 U V P Q R:Nat} (h1:0<v1) (hu2:u2<B) (hv2:v2<B) (hU:U=(w*B+u2)*P+R) (hR:R<P) (hV:V=(v1*B+v2)*P+Q) (hQ:Q<P) (hUV:U<V*B) :
  U/V≤kK w u2 v1 v2∧kK w u2 v1 v2≤U/V+1:=by
 have hP:0<P:=by omega
 have hV2:0<v1*B+v2:=by have:=Nat.mul_pos h1 zX; omega
 have hVpos:0<V:=by have:=Nat.mul_pos hV2 hP; omega
 constructor
 ·unfold kK
  refine Nat.le_min.2 ⟨?_,?_⟩
  ·have:U/V<B:=Nat.div_lt_of_lt_mul hUV
   omega
  ·rw[Nat.le_div_iff_mul_le hV2]
   have h:=Nat.div_mul_le_self U V
   generalize U/V=q at *
   have h2:q*((v1*B+v2)*P)≤q*V:=Nat.mul_le_mul_left _ (by omega)
   rw[← Nat.mul_assoc] at h2
   apply Nat.le_of_not_lt
   intro hlt
   have:(w*B+u2+1)*P≤q*(v1*B+v2)*P:=Nat.mul_le_mul_right _ hlt
   rw[Nat.add_mul] at this
   omega
 ·have hq1:kK w u2 v1 v2≤B-1:=Nat.min_le_left _ _
  have hq2:kK w u2 v1 v2*(v1*B+v2)≤w*B+u2:=by
   have:kK w u2 v1 v2≤(w*B+u2)/(v1*B+v2):=Nat.min_le_right _ _
   exact Nat.le_trans (Nat.mul_le_mul_right _ this) (Nat.div_mul_le_self _ _)
  generalize kK w u2 v1 v2=g at *
  rcases g with _ | g
  ·exact Nat.zero_le _
  ·have:g≤U/V:=by
    rw[Nat.le_div_iff_mul_le hVpos]
    -- (g+1) V2 P≤U,and V<(V2+1) P,g+1≤B-1≤v1 B
    have e1:(g+1)*(v1*B+v2)*P≤(w*B+u2)*P:=Nat.mul_le_mul_right _ hq2
    have e2:g*V≤g*((v1*B+v2)*P+P):=Nat.mul_le_mul_left _ (by omega)
    have e3:g*P≤(v1*B+v2)*P:=Nat.mul_le_mul_right _ (by
     have:1*B≤v1*B:=Nat.mul_le_mul_right _ h1
     omega)
    rw[Nat.add_mul,Nat.one_mul,Nat.add_mul] at e1
    rw[Nat.mul_add,← Nat.mul_assoc] at e2
    omega
   omega
theorem aeD {g:Nat} {v:List Nat} {k:Nat} (hk:k<v.length):(g*val v)/B^k%B=(g*v[k]+g*val (v.take k)/B^k)%B∧g*val (v.take (k+1))/B^(k+1)=(g*v[k]+g*val (v.take k)/B^k)/B:=by
 have e1:=x7 hk
 have e2:=tE v (k+1)
 rw[Nat.min_eq_left (by omega)] at e2
 constructor
 ·rw[e2,e1,Nat.mul_add,Nat.mul_add,Nat.mul_left_comm g (B^k),Nat.mul_left_comm g (B^(k+1)),dZ,Nat.add_comm]
 ·rw[e1,Nat.mul_add,Nat.mul_left_comm g (B^k),dY,Nat.add_comm]
theorem Y0 {g:Nat} {v:List Nat} (hv:ok v) (hg:g<B) (k:Nat):g*val (v.take k)/B^k<B:=by
 apply Nat.div_lt_of_lt_mul
 have h1:=yS (sx hv k) (n:=k) (by simp; omega)
 have:g*val (v.take k)≤B*val (v.take k):=Nat.mul_le_mul_right _ (by omega)
 have h2:B*val (v.take k)<B*B^k:=Nat.mul_lt_mul_of_pos_left h1 zX
 rw[Nat.mul_comm (B^k)]
 omega
def xd (Z:Nat) (u:List Nat) (k:Nat):List Nat:=zt k Z++u.drop k
theorem YZ {Z:Nat} {u:List Nat}:xd Z u 0=u:=by simp[xd,zt]
theorem eW {Z:Nat} {u:List Nat} {k:Nat} (h:k≤u.length):(xd Z u k).length=u.length:=by simp[xd,zy]; omega
theorem Zo {Z:Nat} {u:List Nat} {k:Nat} (h:k<u.length):(xd Z u k)[k]'(by rw[eW (by omega)]; exact h)=u[k]:=by
 unfold xd
 rw[List.getElem_append_right (by rw[zy]; exact Nat.le_refl _)]
 simp[zy]
theorem Zp {Z:Nat} {u:List Nat} {k:Nat} (h:k<u.length):(xd Z u k).set k (Z/B^k%B)=xd Z u (k+1):=by
 unfold xd
 rw[List.set_append_right _ _ (by rw[zy]; exact Nat.le_refl _),zy,Nat.sub_self,List.drop_eq_getElem_cons h,List.set_cons_zero,qi]
 simp
theorem Ke {Z:Nat} {u:List Nat} {n:Nat} (h:u.length=n):xd Z u n=zt n Z:=by
 unfold xd; rw[List.drop_of_length_le (by omega)]; simp
theorem P8 {n x:Nat}:zt n (x+B^n)=zt n x:=by
 refine UD yM yM (by rw[zy,zy]) ?_
 rw[cJ,cJ,Nat.add_mod_right]
theorem Ci {U n k:Nat} (hk:k<n):(U+B^n)/B^k%B=U/B^k%B:=by
 have h:=P8 (n:=n) (x:=U)
 have h1:k<(zt n (U+B^n)).length:=by rw[zy]; exact hk
 have h2:k<(zt n U).length:=by rw[zy]; exact hk
 rw[← ut h1,← ut h2]
 simp only[h]
def seg (W:List Nat) (off:Nat) (X:List Nat):List Nat:=W.take off++X++W.drop (off+X.length)
theorem fM {W X:List Nat} {off:Nat} (h:off+X.length≤W.length):(seg W off X).length=W.length:=by simp[seg]; omega
theorem Up {W X:List Nat} {off i:Nat} (h:off+X.length≤W.length) (hi:i<X.length):(seg W off X)[off+i]'(by rw[fM h]; omega)=X[i]:=by
 unfold seg
 rw[List.getElem_append_left (by simp; omega),List.getElem_append_right (by simp; omega)]
 congr 1
 simp; omega
theorem Uq {W X:List Nat} {off i d:Nat} (h:off+X.length≤W.length) (hi:i<X.length):(seg W off X).set (off+i) d=seg W off (X.set i d):=by
 unfold seg
 rw[List.length_set,List.set_append_left _ _ (by simp; omega),List.set_append_right _ _ (by simp; omega)]
 have:off+i-(List.take off W).length=i:=by simp; omega
 rw[this]
theorem acv {W:List Nat} {off n:Nat} (h:off+n≤W.length):seg W off ((W.drop off).take n)=W:=by
 unfold seg
 have:((W.drop off).take n).length=n:=by simp; omega
 rw[this]
 rw[List.append_assoc,← List.drop_drop,List.take_append_drop,List.take_append_drop]
theorem RT {N L i t:Nat} (hL:L<B^(i+1)) (hi:i+1<N) (hlt:L+B^i*t<B^N) (ht:(L/B^i+t)/B<B) :
  ((zt N L).set i ((L/B^i+t)%B)).set (i+1) ((L/B^i+t)/B)=zt N (L+B^i*t):=by
 have hLN:L<B^N:=Nat.lt_of_lt_of_le hL (Nat.pow_le_pow_right zX (by omega))
 have hlen:=zy (n:=N) (x:=L)
 have ho:ok (zt N L):=yM
 have hd1:(L/B^i+t)%B<B:=Nat.mod_lt _ zX
 refine UD (RI (RI ho hd1) ht) yM (by simp[zy]) ?_
 rw[yq hlt]
 have e1:=UF (o:=zt N L) (j:=i) (d:=(L/B^i+t)%B) (by omega)
 have e2:=UF (o:=(zt N L).set i ((L/B^i+t)%B)) (j:=i+1) (d:=(L/B^i+t)/B) (by simp; omega)
 rw[yq hLN,ut] at e1
 rw[List.getElem_set_ne (by omega),ut,Nat.div_eq_of_lt hL] at e2
 have h0:0%B=0:=rfl
 rw[h0,Nat.mul_zero,Nat.add_zero] at e2
 have hc:L/B^i<B:=Nat.div_lt_of_lt_mul (by rw[← Nat.pow_succ]; exact hL)
 rw[Nat.mod_eq_of_lt hc] at e1
 have e3:=Nat.mod_add_div (L/B^i+t) B
 have e4:B^(i+1)*((L/B^i+t)/B)=B^i*(B*((L/B^i+t)/B)):=by rw[Nat.pow_succ,Nat.mul_assoc]
 have e5:B^i*((L/B^i+t)%B)+B^i*(B*((L/B^i+t)/B))=B^i*(L/B^i)+B^i*t:=by rw[← Nat.mul_add,e3,Nat.mul_add]
 rw[e2,e4]
 omega
theorem C6 {c a bits:Nat} (hb:bits<32) (hc:c<2^bits) (_ha:a<B):c ||| (a*2^bits%B)=c+a*2^bits%B∧c+a*2^bits%B=(c+a*2^bits)%B∧a*2^bits/B=(c+a*2^bits)/B∧c+a*2^bits%B<B:=by
 have hB:B=2^(32-bits)*2^bits:=by
  rw[← Nat.pow_add,Nat.sub_add_cancel (by omega)]; rfl
 have hm:a*2^bits%B=(a%2^(32-bits))*2^bits:=by
  rw[hB,Nat.mul_mod_mul_right]
 have hlt:a%2^(32-bits)<2^(32-bits):=Nat.mod_lt _ (Nat.pow_pos (by omega))
 have hd:=Nat.div_add_mod (a*2^bits) B
 have hsum:c+a*2^bits%B<B:=by
  rw[hm]
  have:(a%2^(32-bits)+1)*2^bits≤2^(32-bits)*2^bits:=Nat.mul_le_mul_right _ hlt
  rw[Nat.add_mul,← hB] at this
  omega
 refine ⟨?_,?_,?_,hsum⟩
 ·rw[hm]
  have h:=Nat.shiftLeft_add_eq_or_of_lt hc (a%2^(32-bits))
  rw[Nat.shiftLeft_eq] at h
  rw[Nat.or_comm,← h]; omega
 ·have:c+a*2^bits=c+a*2^bits%B+B*(a*2^bits/B):=by omega
  rw[this,Nat.add_mul_mod_self_left,Nat.mod_eq_of_lt hsum]
 ·have:c+a*2^bits=c+a*2^bits%B+B*(a*2^bits/B):=by omega
  rw[this,Nat.add_mul_div_left _ _ zX,Nat.div_eq_of_lt hsum,Nat.zero_add]
def shL (a:List Nat) (bits i:Nat):Nat:=val (a.take i)*2^bits
theorem KW {a:List Nat} {bits:Nat}:shL a bits 0=0:=by simp[shL,val]
theorem eY {bits:Nat} (hb:bits<32):2^bits<B:=by
 have:2^bits<2^32:=Nat.pow_lt_pow_right (by omega) hb
 exact this
theorem RS {a:List Nat} {bits i:Nat} (ha:ok a):shL a bits i<B^i*2^bits:=by
 unfold shL
 exact Nat.mul_lt_mul_of_pos_right (yS (sx ha i) (by simp; omega)) (Nat.pow_pos (by omega))
theorem KV {a:List Nat} {bits i:Nat} (hi:i<a.length):shL a bits (i+1)=shL a bits i+B^i*(a[i]*2^bits):=by
 unfold shL
 rw[x7 hi,Nat.add_mul,Nat.mul_assoc]
theorem FW {a:List Nat} {bits:Nat}:shL a bits a.length=val a*2^bits:=by
 unfold shL; rw[List.take_of_length_le (Nat.le_refl _)]
theorem Rc {n:Nat}:zt n 0=List.replicate n 0:=by
 refine UD yM (Ku n) (by simp[zy]) ?_
 rw[cJ,UE,Nat.zero_mod]
end Go.Dig

namespace Go.Proofs.YtpnliopaifpimaaGreat
open Go Go.Am Go.Dig
theorem abV {c x:Nat} (hc:c<B) (hx:x<B) (h:c ||| x<B):sX .or .u32 (c:Int) (x:Int)=((c ||| x:Nat):Int):=by
 rw[z9] at *
 have hbits:IntKind.u32.bits=32:=rfl
 simp only[sX]
 rw[BitVec.toNat_or]
 have e1:(BitVec.ofInt IntKind.u32.bits (c:Int)).toNat=c:=by rw[hbits,BitVec.toNat_ofInt]; omega
 have e2:(BitVec.ofInt IntKind.u32.bits (x:Int)).toNat=x:=by rw[hbits,BitVec.toNat_ofInt]; omega
 rw[e1,e2]
 exact IntWalk.u32_in _ (by omega)
def Xw (a:List Nat) (m:Am.Mode) (σ:List (Nat × zf)) (out:List (List (Nat × AV))) (b bits i:Nat):St :=
 {env:=[(0,nl m a),(1,zU bits),(5,.sl (b+11) 1 0 (a.length+1)),(13,iv a.length),(14,iv i)],sto:=pt σ (b+11) (.arr 1 (zD (zt (a.length+1) (shL a bits i)))),out:=out,base:=b}
theorem acy {m:Am.Mode} {a:List Nat} {bits:Nat} {s:St} {K:AV→St→Prop} (b:Nat) (ha:ok a) (hn:a.length<1099511627775) (hb:bits<32) (hf:lk s.sto (b+11)=none)
  (h:K (.sl (b+11) 1 0 (a.length+1)) ⟨s.env,pt s.sto (b+11) (.arr 1 (zD (zt (a.length+1) (val a*2^bits)))),s.out,s.base⟩):yH Tryz.prog nI [nl m a,zU bits] s K:=by
 obtain ⟨env,σ,out,base⟩:=s
 simp only at hf h
 refine nu b Tf (by simp) ?_
 have w:IntKind.i64.wrap ((a.length:Int)+1)=(a.length:Int)+1:=wrap64 (by omega) (by omega)
 have e1:((a.length:Int)+1).toNat=a.length+1:=by omega
 simp[cV,w,eMk,e1,hf]
 refine ⟨by omega,by omega,by omega,?_⟩
 refine zw (Xw a m σ (env::out) b bits) (fun _=>True) a.length (by simp[Xw,KW,Rc]; exact .inl rfl) trivial (fun i hi _=>?_) (fun _=>?_)
 ·have e:(i:Int)<a.length:=by omega
  have hpow:=eY hb
  have hak:=xv ha hi
  have hL:=RS (bits:=bits) (i:=i) ha
  have hLB:shL a bits i<B^(i+1):=by
   have:B^i*2^bits≤B^i*B:=Nat.mul_le_mul_left _ (by omega)
   rw[Nat.pow_succ]; omega
  have hc:shL a bits i/B^i<2^bits:=Nat.div_lt_of_lt_mul hL
  obtain ⟨o1,o2,o3,o4⟩:=C6 (c:=shL a bits i/B^i) (a:=a[i]) hb hc hak
  have hsucc:=KV (bits:=bits) hi
  have hL2:=RS (bits:=bits) (i:=i+1) ha
  have hLN:shL a bits (i+1)<B^(a.length+1):=by
   have h1:B^(i+1)*2^bits≤B^(i+1)*B:=Nat.mul_le_mul_left _ (by omega)
   have h3:B^(i+1+1)=B^(i+1)*B:=Nat.pow_succ _ _
   have h2:B^(i+1+1)≤B^(a.length+1):=Nat.pow_le_pow_right zX (by omega)
   omega
  have htB:(shL a bits i/B^i+a[i]*2^bits)/B<B:=by
   rw[← o3]
   apply Nat.div_lt_of_lt_mul
   exact Nat.mul_lt_mul_of_lt_of_lt hak hpow
  have hstep:=RT (N:=a.length+1) (i:=i) (t:=a[i]*2^bits) hLB (by omega) (by rw[← hsucc]; exact hLN) htB
  rw[← hsucc,← o2,← o3] at hstep
  have hlen:=zy (n:=a.length+1) (x:=shL a bits i)
  have hi1:i<(zt (a.length+1) (shL a bits i)).length:=by omega
  have hget:(zt (a.length+1) (shL a bits i))[i]=shL a bits i/B^i:=by
   rw[ut,Nat.mod_eq_of_lt (Nat.lt_trans hc hpow)]
  obtain ⟨c,hcE⟩:∃ c,shL a bits i/B^i=c:=⟨_,rfl⟩
  obtain ⟨t,htE⟩:∃ t,a[i]*2^bits=t:=⟨_,rfl⟩
  have htlt:t<B*B:=by rw[← htE]; exact Nat.mul_lt_mul_of_lt_of_lt hak hpow
  rw[hcE,htE] at o1 o4 hstep
  rw[hcE] at hget hc
  obtain ⟨x,hxE⟩:∃ x,t%B=x:=⟨_,rfl⟩
  obtain ⟨q,hqE⟩:∃ q,t/B=q:=⟨_,rfl⟩
  rw[hxE] at o1 o4 hstep
  rw[hqE] at hstep
  have hxB:x<B:=by rw[← hxE]; exact Nat.mod_lt _ zX
  have hqB:q<B:=by rw[← hqE]; exact Nat.div_lt_of_lt_mul htlt
  have hor:=abV (c:=c) (x:=x) (by omega) hxB (by rw[o1]; exact o4)
  rw[o1] at hor
  obtain ⟨y,hyE⟩:∃ y,c+x=y:=⟨_,rfl⟩
  rw[hyE] at hor hstep
  have hBB:B*B=18446744073709551616:=by decide
  rw[hBB] at htlt
  have f1:IntKind.u32.wrap (t:Int)=(x:Int):=by rw[w32,hxE]
  have f2:(t:Int).fdiv (2^min 32 IntKind.u64.bits)=(q:Int):=by rw[ZH,hqE]
  have f3:IntKind.u32.wrap (q:Int)=q:=IntWalk.u32_in _ (by rw[z9] at hqB; omega)
  have u1:IntKind.u64.wrap ((a[i]:Nat):Int)=(a[i]:Nat):=w64 (by rw[z9] at hak; omega)
  have hmin:min bits IntKind.u64.bits=bits:=by
   have:IntKind.u64.bits=64:=rfl
   omega
  have u2:IntKind.u64.wrap (((a[i]:Nat):Int)*2^bits)=(t:Int):=by
   rw[show ((a[i]:Nat):Int)*2^bits=((a[i]*2^bits:Nat):Int) by simp,htE]; exact w64 htlt
  have hset:((zD (zt (a.length+1) (shL a bits i))).set i [uv y]).set (i+1) [uv q]=zD (zt (a.length+1) (shL a bits (i+1))):=by
   rw[xH,xH,hstep]
  have wi:IntKind.i64.wrap ((i:Int)+1)=(i:Int)+1:=wrap64 (by omega) (by omega)
  have ei1:(i:Int)<a.length+1:=by omega
  have e2:((i:Int)+1).toNat=i+1:=by omega
  have e3:(0:Int)≤(i:Int)+1:=by omega
  have hi2:i+1<(zt (a.length+1) (shL a bits i)).length:=by omega
  have hnb:¬ ((bits:Int)<0):=by omega
  simp[rG,Xw,e,hi,hi1,hi2,ei1,e2,e3,hget,hor,u1,xY,wG,hmin,u2,f1,f2,f3,wi,splice,hset]
 ·have:zt (a.length+1) (shL a bits a.length)=zt (a.length+1) (val a*2^bits):=by rw[FW]
  simp[rG,Xw,jh,bq,this]
  exact h
def gK (w v1 k:Nat):Nat:=w/v1-k
def rK (w v1 k:Nat):Nat:=w%v1+k*v1
theorem Ey {w v1 k:Nat} (hk:k≤w/v1):w=gK w v1 k*v1+rK w v1 k:=by
 unfold gK rK
 have h:=Nat.div_add_mod w v1
 have:(w/v1-k)*v1+k*v1=v1*(w/v1):=by rw[← Nat.add_mul,Nat.sub_add_cancel hk,Nat.mul_comm]
 omega
structure az (W v:List Nat) (off e:Nat):Prop where
 okW:ok W
 okv:ok v
 hv:v.length=e+2
 hW:off+e+3≤W.length
 small:W.length<1099511627776
def qX (W:List Nat) (off e:Nat):Nat:=W.getD (off+(e+2)) 0*B+W.getD (off+(e+1)) 0
def Xr (m:Am.Mode) (W v:List Nat) (σ:List (Nat × zf)) (out:List (List (Nat × AV))) (b j off e k:Nat):St :=
 {env:=[(0,.sl j 1 off (e+3)),(1,nl m v),(5,iv ((e:Int)+2)),(7,zU (gK (qX W off e) (v.getD (e+1) 0) k)),(8,zU (rK (qX W off e) (v.getD (e+1) 0) k))],sto:=σ,out:=out,base:=b}
theorem JL {m:Am.Mode} {W v:List Nat} {σ:List (Nat × zf)} {out:List (List (Nat × AV))} {b j off e:Nat} {K:Exit→St→Prop} (h:az W v off e) (hj:lk σ j=some (.arr 1 (zD W)))
  (h1:0<v.getD (e+1) 0) (hw:qX W off e≤v.getD (e+1) 0*B+(B-1)) (g:Nat) (hg:g=kK (qX W off e) (W.getD (off+e) 0) (v.getD (e+1) 0) (v.getD e 0))
  (hK:∀ r q y,(q=69∨q=81)→awp Tryz.prog uq {env:=[(0,.sl j 1 off (e+3)),(1,nl m v),(5,iv ((e:Int)+2)),(7,zU g),(8,r),(q,y)],sto:=σ,out:=out,base:=b} K) :
  awp Tryz.prog (.loop vj) (Xr m W v σ out b j off e 0) (vi 0 (pS Tryz.prog uq K)):=by
 have hvl:=h.hv
 have hWl:=h.hW
 have hsm:=h.small
 have hv0:e<v.length:=by omega
 have hv1:e+1<v.length:=by omega
 have hW0:off+e<W.length:=by omega
 have q1:v.getD (e+1) 0=v[e+1]:=by simp[hv1]
 have q2:v.getD e 0=v[e]:=by simp[hv0]
 have q3:W.getD (off+e) 0=W[off+e]:=by simp[hW0]
 have hu2:W.getD (off+e) 0<B:=tH h.okW _
 have hv2B:v.getD e 0<B:=tH h.okv _
 have hv1B:v.getD (e+1) 0<B:=tH h.okv _
 have hwB:qX W off e<B*B:=by
  have a1:=tH h.okW (off+(e+2))
  have a2:=tH h.okW (off+(e+1))
  have:(W.getD (off+(e+2)) 0+1)*B≤B*B:=Nat.mul_le_mul_right _ a1
  unfold qX
  rw[Nat.add_mul] at this
  omega
 generalize hwe:qX W off e=w at *
 generalize hv1e:v.getD (e+1) 0=v1 at *
 generalize hu2e:W.getD (off+e) 0=u2 at *
 generalize hv2e:v.getD e 0=v2 at *
 have hle:=ae8 (w:=w) (v2:=v2) h1 hu2
 rw[← hg] at hle
 rw[show B*B=18446744073709551616 by decide] at hwB
 have hst:∀ k,Xr m W v σ out b j off e k={env:=[(0,.sl j 1 off (e+3)),(1,nl m v),(5,iv ((e:Int)+2)),(7,zU (gK w v1 k)),(8,zU (rK w v1 k))],sto:=σ,out:=out,base:=b}:=fun k=>by
  rw[Xr,hwe,hv1e]
 have i1:IntKind.i64.wrap ((e:Int))=e:=wrap64 (by omega) (by omega)
 have i2:IntKind.i64.wrap ((e:Int)+1)=(e:Int)+1:=wrap64 (by omega) (by omega)
 have i5:IntKind.i64.wrap ((e:Int)+2-1)=(e:Int)+1:=by rw[wrap64]<;>omega
 have i6:IntKind.i64.wrap ((e:Int)+2-2)=(e:Int):=by rw[wrap64]<;>omega
 have i3:((e:Int)+1).toNat=e+1:=by omega
 have i4:(0:Int)≤(e:Int)+1:=by omega
 have c1:IntKind.u64.wrap (v1:Int)=v1:=w64 (by rw[z9] at hv1B; omega)
 have c2:IntKind.u64.wrap (v2:Int)=v2:=w64 (by rw[z9] at hv2B; omega)
 have c3:IntKind.u64.wrap (u2:Int)=u2:=w64 (by rw[z9] at hu2; omega)
 have p1:v[e+1]=v1:=by rw[← q1]
 have p2:v[e]=v2:=by rw[← q2]
 have p3:W[off+e]=u2:=by rw[← q3]
 have x1:(e:Int)<v.length:=by omega
 have x2:(e:Int)+1<v.length:=by omega
 have x3:(e:Int)<(e:Int)+3:=by omega
 refine zw (Xr m W v σ out b j off e) (fun k=>rK w v1 k<B) (w/v1-g) (by rw[hst]; simp) ?_ (fun k hk hr=>?_) (fun hr=>?_)
 ·show rK w v1 0<B
  unfold rK
  rw[Nat.zero_mul,Nat.add_zero]
  exact Nat.lt_trans (Nat.mod_lt w h1) hv1B
 ·have hkw:k≤w/v1:=Nat.le_trans (Nat.le_of_lt hk) (Nat.sub_le _ _)
  have hkw2:k+1≤w/v1:=Nat.le_trans hk (Nat.sub_le _ _)
  have heq:=Ey (w:=w) (v1:=v1) (k:=k) hkw
  have hbig:=(ZU (u2:=u2) (v2:=v2) h1 heq).2 (by rw[← hg]; unfold gK; omega)
  have hgk:gK w v1 (k+1)+1=gK w v1 k:=by unfold gK; omega
  have hrk:rK w v1 (k+1)=rK w v1 k+v1:=by unfold rK; rw[Nat.add_mul]; omega
  have heq2:=Ey (w:=w) (v1:=v1) (k:=k+1) (by omega)
  have hbrk:=fun hB=>aap (u2:=u2) (v2:=v2) h1 heq2 hw hv2B hB
  have hgle:gK w v1 k≤w:=by
   have:w/v1≤w:=Nat.div_le_self _ _
   unfold gK; omega
  have hend:B≤rK w v1 (k+1)→gK w v1 (k+1)=g:=fun hB=>by
   have:=hbrk hB
   rw[ZU h1 heq2,← hg] at this
   unfold gK at *
   omega
  rw[hst]
  have hgsub:IntKind.u64.wrap ((gK w v1 k:Int)-1)=(gK w v1 (k+1):Int):=by rw[vb]<;>omega
  have hradd:IntKind.u64.wrap ((rK w v1 k:Int)+(v1:Int))=(rK w v1 (k+1):Int):=by
   rw[z9] at hr hv1B
   rw[vb]<;>omega
  have rest:∀ K2,(∀ q y,(q=69∨q=81)→(¬ B≤rK w v1 (k+1)→K2 Exit.normal {env:=[(0,.sl j 1 off (e+3)),(1,nl m v),(5,iv ((e:Int)+2)),(7,zU (gK w v1 (k+1))),(8,zU (rK w v1 (k+1))),(q,y)],sto:=σ,out:=out,base:=b}) ∧
    (B≤rK w v1 (k+1)→K2 (Exit.exit 0) {env:=[(0,.sl j 1 off (e+3)),(1,nl m v),(5,iv ((e:Int)+2)),(7,zU (gK w v1 (k+1))),(8,zU (rK w v1 (k+1))),(q,y)],sto:=σ,out:=out,base:=b})) →
    awp Tryz.prog vj {env:=[(0,.sl j 1 off (e+3)),(1,nl m v),(5,iv ((e:Int)+2)),(7,zU (gK w v1 k)),(8,zU (rK w v1 k))],sto:=σ,out:=out,base:=b} K2:=by
   intro K2 hK2
   by_cases hB:B≤gK w v1 k
   ·have hB':(4294967296:Int)≤gK w v1 k:=by rw[z9] at hB; omega
    by_cases hBr:B≤rK w v1 (k+1)
    ·have hBr':(4294967296:Int)≤rK w v1 (k+1):=by rw[z9] at hBr; omega
     simp[vj,hB',hBr',hgsub,i5,i3,i4,x2,hv1,p1,c1,hradd]
     exact (hK2 _ _ (by simp)).2 hBr
    ·have hBr':¬ (4294967296:Int)≤rK w v1 (k+1):=by rw[z9] at hBr; omega
     simp[vj,hB',hBr',hgsub,i5,i3,i4,x2,hv1,p1,c1,hradd]
     exact (hK2 _ _ (by simp)).1 hBr
   ·have hB':¬ (4294967296:Int)≤gK w v1 k:=by rw[z9] at hB; omega
    have hlt:rK w v1 k*B+u2<gK w v1 k*v2:=hbig.resolve_left hB
    have hor:=or_hi hr hu2
    have hsh:=ME hr
    have hpl:gK w v1 k*v2<18446744073709551616:=by
     have:gK w v1 k*v2≤(B-1)*(B-1):=Nat.mul_le_mul (by omega) (by omega)
     have:(B-1)*(B-1)<18446744073709551616:=by decide
     omega
    obtain ⟨p,hp⟩:∃ p,gK w v1 k*v2=p:=⟨_,rfl⟩
    obtain ⟨rb,hrb⟩:∃ rb,rK w v1 k*B=rb:=⟨_,rfl⟩
    rw[hp] at hlt hpl
    rw[hrb] at hlt hor hsh
    have hmul:IntKind.u64.wrap ((gK w v1 k:Int)*(v2:Int))=(p:Int):=by
     rw[show (gK w v1 k:Int)*(v2:Int)=((gK w v1 k*v2:Nat):Int) by simp,hp]; exact w64 hpl
    have hlt':(rb:Int)+(u2:Int)<(p:Int):=by omega
    simp only[Int.natCast_add] at hor
    by_cases hBr:B≤rK w v1 (k+1)
    ·have hBr':(4294967296:Int)≤rK w v1 (k+1):=by rw[z9] at hBr; omega
     simp[vj,hB',hBr',hgsub,i1,i5,i3,i4,x1,x2,x3,hv0,hv1,hW0,p1,p2,p3,c1,c2,c3,hj,hmul,xY,hsh,hor,hlt',hradd]
     exact (hK2 _ _ (by simp)).2 hBr
    ·have hBr':¬ (4294967296:Int)≤rK w v1 (k+1):=by rw[z9] at hBr; omega
     simp[vj,hB',hBr',hgsub,i1,i5,i3,i4,x1,x2,x3,hv0,hv1,hW0,p1,p2,p3,c1,c2,c3,hj,hmul,xY,hsh,hor,hlt',hradd]
     exact (hK2 _ _ (by simp)).1 hBr
  refine rest _ fun q y hq=>⟨fun hB=>?_,fun hB=>?_⟩
  ·rw[XA,hst]
   refine ⟨by rcases hq with rfl | rfl<;>simp,by omega⟩
  ·have:=hend hB
   rw[this]
   exact hK _ _ _ hq
 ·have hgk:gK w v1 (w/v1-g)=g:=by unfold gK; omega
  have heq:=Ey (w:=w) (v1:=v1) (k:=w/v1-g) (by omega)
  have hnb:=fun hb=>(ZU (u2:=u2) (v2:=v2) h1 heq).1 hb
  rw[hgk,← hg] at hnb
  have hB:¬ B≤g:=fun hb=>Nat.lt_irrefl _ (hnb (.inl hb))
  have hlt:¬ rK w v1 (w/v1-g)*B+u2<g*v2:=fun hb=>Nat.lt_irrefl _ (hnb (.inr hb))
  have hB':¬ (4294967296:Int)≤g:=by rw[z9] at hB; omega
  have hor:=or_hi hr hu2
  have hsh:=ME hr
  have hst2:Xr m W v σ out b j off e (w/v1-g)={env:=[(0,.sl j 1 off (e+3)),(1,nl m v),(5,iv ((e:Int)+2)),(7,zU g),(8,zU (rK w v1 (w/v1-g)))],sto:=σ,out:=out,base:=b}:=by
   rw[hst,hgk]
  rw[hst2]
  clear hst2 heq
  generalize rK w v1 (w/v1-g)=r at *
  obtain ⟨p,hp⟩:∃ p,g*v2=p:=⟨_,rfl⟩
  obtain ⟨rb,hrb⟩:∃ rb,r*B=rb:=⟨_,rfl⟩
  have hpl:g*v2<18446744073709551616:=by
   have:g*v2≤(B-1)*(B-1):=Nat.mul_le_mul (by omega) (by omega)
   have:(B-1)*(B-1)<18446744073709551616:=by decide
   omega
  rw[hp] at hlt hpl
  rw[hrb] at hlt hor hsh
  have hmul:IntKind.u64.wrap ((g:Int)*(v2:Int))=(p:Int):=by
   rw[show (g:Int)*(v2:Int)=((g*v2:Nat):Int) by simp,hp]; exact w64 hpl
  have hlt':¬ (rb:Int)+(u2:Int)<(p:Int):=by omega
  simp only[Int.natCast_add] at hor
  simp[vj,hB',i1,x1,x3,hv0,hW0,p2,p3,c2,c3,hj,hmul,xY,hsh,hor,hlt']
  exact hK _ _ _ (by simp)
theorem adG {p:Nat} (hp:p<18446744073709551616):sX .and .u64 (p:Int) 4294967295=((p%B:Nat):Int):=by
 have hbits:IntKind.u64.bits=64:=rfl
 simp only[sX]
 rw[BitVec.toNat_and]
 have e1:(BitVec.ofInt IntKind.u64.bits (p:Int)).toNat=p:=by rw[hbits,BitVec.toNat_ofInt]; omega
 have e2:(BitVec.ofInt IntKind.u64.bits 4294967295).toNat=4294967295:=rfl
 rw[e1,e2]
 have h:=Nat.and_two_pow_sub_one_eq_mod p 32
 have:(2:Nat)^32-1=4294967295:=by decide
 rw[this] at h
 rw[h,show (2:Nat)^32=B from rfl]
 exact w64 (Nat.lt_trans (Nat.mod_lt _ zX) (by decide))
def cK (g:Nat) (v:List Nat) (k:Nat):Nat:=g*val (v.take k)/B^k
def Xs (m:Am.Mode) (W v u:List Nat) (σ:List (Nat × zf)) (out:List (List (Nat × AV))) (b j off e g x T k:Nat):St :=
 {env:=[(0,.sl j 1 off (e+3)),(1,nl m v),(5,iv ((e:Int)+2)),(7,zU g),(9,zU (cK g v k)),(10,zU (bor x T k)),(82,iv ((e:Int)+2)),(83,iv k)],sto:=pt σ j (.arr 1 (zD (seg W off (xd (x-T) u k)))),out:=out,base:=b}
section
variable {m:Am.Mode} {W v:List Nat} {σ:List (Nat × zf)} {out:List (List (Nat × AV))} {b j off e g x:Nat} {K:Exit→St→Prop} (h:az W v off e) (hj:lk σ j=some (.arr 1 (zD W)))
  (hg:g<B) (hx:∀ k,k<e+3→x/B^k%B=W.getD (off+k) 0) (hT:g*val v≤x)
include h hj hg hx hT
omit hj in
theorem P7 {s:St} (hs:bh s (Xs m W v ((W.drop off).take (e+3)) σ out b j off e g x (g*val v) 0))
  (hK:awp Tryz.prog rF {env:=[(0,.sl j 1 off (e+3)),(1,nl m v),(5,iv ((e:Int)+2)),(7,zU g),(9,zU (cK g v (e+2))),(10,zU (bor x (g*val v) (e+2))),(82,iv ((e:Int)+2)),(83,iv ((e:Int)+2)),(84,bv false)],sto:=pt σ j (.arr 1 (zD (seg W off (xd (x-g*val v) ((W.drop off).take (e+3)) (e+2))))),out:=out,base:=b} K) :
  awp Tryz.prog (.loop lZ) s (vi 2 (pS Tryz.prog rF K)):=by
 have hvl:=h.hv
 have hWl:=h.hW
 have hsm:=h.small
 generalize hue:(W.drop off).take (e+3)=u at *
 have hul:u.length=e+3:=by rw[← hue]; simp; omega
 refine zw (Xs m W v u σ out b j off e g x (g*val v)) (fun _=>True) (e+2) hs trivial (fun k hk _=>?_) (fun _=>?_)
 ·have hkv:k<v.length:=by omega
  have hku:k<u.length:=by omega
  have hvB:=xv h.okv hkv
  have hWk:off+k<W.length:=by omega
  have huk:u[k]=W[off+k]:=by subst hue; simp
  have hq:W.getD (off+k) 0=W[off+k]:=by simp[hWk]
  have hukB:u[k]<B:=by rw[huk]; exact xv h.okW hWk
  have hcB:cK g v k<B:=Y0 h.okv hg k
  obtain ⟨m1,m2⟩:=aeD (g:=g) hkv
  have hsd:=cG (k:=k) hT
  have hbs:=aG (x:=x) (y:=g*val v) (k:=k)
  have hb1:=SH (x:=x) (y:=g*val v) (k:=k)
  rw[hx k (by omega),hq,← huk,m1] at hsd hbs
  have hck:cK g v (k+1)=(g*v[k]+cK g v k)/B:=m2
  change (((x-g*val v)/B^k%B:Nat):Int)=((u[k]:Nat)-((g*v[k]+cK g v k)%B:Nat)-(bor x (g*val v) k:Nat):Int)%4294967296 at hsd
  change bor x (g*val v) (k+1)=if u[k]<(g*v[k]+cK g v k)%B+bor x (g*val v) k then 1 else 0 at hbs
  have hpB:g*v[k]+cK g v k<18446744073709551616:=by
   have:=co hg hvB hcB zX
   have hBB:B*B=18446744073709551616:=by decide
   omega
  have hmx:=Zp (Z:=x-g*val v) hku
  have hml:=eW (Z:=x-g*val v) (u:=u) (k:=k) (by omega)
  have hmg:=Zo (Z:=x-g*val v) hku
  have hsl:=fM (W:=W) (X:=xd (x-g*val v) u k) (off:=off) (by rw[hml]; omega)
  have hsg:=Up (W:=W) (X:=xd (x-g*val v) u k) (off:=off) (i:=k) (by rw[hml]; omega) (by omega)
  have hss:=Uq (W:=W) (X:=xd (x-g*val v) u k) (off:=off) (i:=k) (d:=(x-g*val v)/B^k%B) (by rw[hml]; omega) (by omega)
  rw[hmx] at hss
  rw[hmg] at hsg
  obtain ⟨d,hd⟩:∃ d,(x-g*val v)/B^k%B=d:=⟨_,rfl⟩
  rw[hd] at hss hsd
  obtain ⟨p,hp⟩:∃ p,g*v[k]+cK g v k=p:=⟨_,rfl⟩
  obtain ⟨gv,hgv⟩:∃ gv,g*v[k]=gv:=⟨_,rfl⟩
  rw[hp] at hsd hbs hck hpB
  rw[hgv] at hp
  obtain ⟨pl,hpl⟩:∃ pl,p%B=pl:=⟨_,rfl⟩
  rw[hpl] at hsd hbs
  have hplB:pl<B:=by rw[← hpl]; exact Nat.mod_lt _ zX
  obtain ⟨c2,hc2⟩:∃ c2,p/B=c2:=⟨_,rfl⟩
  rw[hc2] at hck
  rw[Xs]
  generalize bor x (g*val v) k=b0 at *
  generalize hb2:bor x (g*val v) (k+1)=b2 at *
  have hA:off+k<(seg W off (xd (x-g*val v) u k)).length:=by omega
  have hset:(zD (seg W off (xd (x-g*val v) u k))).set (off+k) [uv d]=zD (seg W off (xd (x-g*val v) u (k+1))):=by rw[xH,hss]
  have hst1:Xs m W v u σ out b j off e g x (g*val v) (k+1)={env:=[(0,.sl j 1 off (e+3)),(1,nl m v),(5,iv ((e:Int)+2)),(7,zU g),(9,zU c2),(10,zU b2),(82,iv ((e:Int)+2)),(83,iv ((k:Int)+1))],sto:=pt σ j (.arr 1 (zD (seg W off (xd (x-g*val v) u (k+1))))),out:=out,base:=b}:=by
   rw[Xs,hck,hb2]; rfl
  clear hd
  generalize huk2:u[k]=uk at *
  have ek:(k:Int)<(e:Int)+2:=by omega
  have ekv:(k:Int)<v.length:=by omega
  have ek3:(k:Int)<(e:Int)+3:=by omega
  have u1:IntKind.u64.wrap ((v[k]:Nat):Int)=(v[k]:Nat):=w64 (Nat.lt_trans hvB (by decide))
  have u2:IntKind.u64.wrap ((g:Int)*(v[k]:Int))=(gv:Int):=by
   rw[show (g:Int)*(v[k]:Int)=((g*v[k]:Nat):Int) by simp,hgv]; exact w64 (by omega)
  have u3:IntKind.u64.wrap ((gv:Int)+(cK g v k:Int))=(p:Int):=by rw[vb]<;>omega
  have u4:(p:Int).fdiv (2^min 32 IntKind.u64.bits)=(c2:Int):=by rw[ZH,hc2]
  have u5:=adG hpB
  rw[hpl] at u5
  rw[z9] at hukB hplB
  have u6:IntKind.u64.wrap (uk:Int)=uk:=w64 (by omega)
  have u7:=adm ((uk:Int)-(pl:Int)) (b0:Int)
  have u8:=MI ((uk:Int)-(pl:Int)-(b0:Int))
  rw[← hsd] at u8
  have u9:=MF (u:=(uk:Int)-(pl:Int)-(b0:Int)) (by omega) (by omega)
  have u10:(if (uk:Int)-(pl:Int)-(b0:Int)<0 then (1:Int) else 0)=(b2:Int):=by
   rw[hbs]; split<;>split<;>omega
  rw[u10] at u9
  have w1:IntKind.i64.wrap ((k:Int)+1)=(k:Int)+1:=wrap64 (by omega) (by omega)
  simp[lZ,ek,ekv,ek3,hkv,u1,u2,u3,u4,u5,u6,u7,u8,u9,hA,hsg,splice,hset,w1,wG,hst1]
 ·simp[lZ,Xs]
  exact hK
end
def Sg (m:Am.Mode) (W v z:List Nat) (σ:List (Nat × zf)) (out:List (List (Nat × AV))) (b j off e g k:Nat):St :=
 {env:=[(0,.sl j 1 off (e+3)),(1,nl m v),(5,iv ((e:Int)+2)),(7,zU g),(9,zU (car z v k)),(134,iv ((e:Int)+2)),(135,iv k)],sto:=pt σ j (.arr 1 (zD (seg W off (xd (val z+val v) z k)))),out:=out,base:=b}
section
variable {m:Am.Mode} {W v z:List Nat} {σ:List (Nat × zf)} {out:List (List (Nat × AV))} {b j off e g:Nat} {K:Exit→St→Prop} (h:az W v off e) (hz:ok z) (hzl:z.length=e+3)
include h hz hzl
theorem El {s:St} (hs:bh s (Sg m W v z σ out b j off e g 0))
  (hK:awp Tryz.prog pB {env:=[(0,.sl j 1 off (e+3)),(1,nl m v),(5,iv ((e:Int)+2)),(7,zU g),(9,zU (car z v (e+2))),(134,iv ((e:Int)+2)),(135,iv ((e:Int)+2)),(136,bv false)],sto:=pt σ j (.arr 1 (zD (seg W off (xd (val z+val v) z (e+2))))),out:=out,base:=b} K) :
  awp Tryz.prog (.loop l0) s (vi 4 (pS Tryz.prog pB K)):=by
 have hvl:=h.hv
 have hWl:=h.hW
 have hsm:=h.small
 refine zw (Sg m W v z σ out b j off e g) (fun _=>True) (e+2) hs trivial (fun k hk _=>?_) (fun _=>?_)
 ·have hkv:k<v.length:=by omega
  have hkz:k<z.length:=by omega
  have hvB:=xv h.okv hkv
  have hzB:=xv hz hkz
  have hc:=S6 hz h.okv k
  obtain ⟨t,ht,g1,g2⟩:=Qq (a:=z) (b:=v) hkz (by omega)
  rw[List.getElem?_eq_getElem hkv,Option.getD_some] at ht
  have hmx:=Zp (Z:=val z+val v) hkz
  have hml:=eW (Z:=val z+val v) (u:=z) (k:=k) (by omega)
  have hmg:=Zo (Z:=val z+val v) hkz
  have hsl:=fM (W:=W) (X:=xd (val z+val v) z k) (off:=off) (by rw[hml]; omega)
  have hsg:=Up (W:=W) (X:=xd (val z+val v) z k) (off:=off) (i:=k) (by rw[hml]; omega) (by omega)
  have hss:=Uq (W:=W) (X:=xd (val z+val v) z k) (off:=off) (i:=k) (d:=(val z+val v)/B^k%B) (by rw[hml]; omega) (by omega)
  rw[hmx,g1] at hss
  rw[hmg] at hsg
  obtain ⟨d,hd⟩:∃ d,t%B=d:=⟨_,rfl⟩
  obtain ⟨q,hq⟩:∃ q,t/B=q:=⟨_,rfl⟩
  rw[hd] at hss
  rw[hq] at g2
  have hA:off+k<(seg W off (xd (val z+val v) z k)).length:=by omega
  have hset:(zD (seg W off (xd (val z+val v) z k))).set (off+k) [uv d]=zD (seg W off (xd (val z+val v) z (k+1))):=by rw[xH,hss]
  have hst1:Sg m W v z σ out b j off e g (k+1)={env:=[(0,.sl j 1 off (e+3)),(1,nl m v),(5,iv ((e:Int)+2)),(7,zU g),(9,zU q),(134,iv ((e:Int)+2)),(135,iv ((k:Int)+1))],sto:=pt σ j (.arr 1 (zD (seg W off (xd (val z+val v) z (k+1))))),out:=out,base:=b}:=by
   rw[Sg,g2]; rfl
  rw[Sg]
  generalize car z v k=c at *
  generalize hzk:z[k]=zk at *
  generalize hvk:v[k]=vk at *
  rw[z9] at hvB hzB
  have ek:(k:Int)<(e:Int)+2:=by omega
  have ekv:(k:Int)<v.length:=by omega
  have ek3:(k:Int)<(e:Int)+3:=by omega
  have f1:IntKind.u32.wrap (t:Int)=(d:Int):=by rw[w32,hd]
  have f2:(t:Int).fdiv (2^min 32 IntKind.u64.bits)=(q:Int):=by rw[ZH,hq]
  have u1:IntKind.u64.wrap (vk:Int)=vk:=w64 (by omega)
  have u2:IntKind.u64.wrap (zk:Int)=zk:=w64 (by omega)
  have u3:IntKind.u64.wrap ((zk:Int)+(vk:Int))=(zk:Int)+vk:=by rw[vb]<;>omega
  have u4:IntKind.u64.wrap ((zk:Int)+(vk:Int)+(c:Int))=(t:Int):=by rw[vb]<;>omega
  have w1:IntKind.i64.wrap ((k:Int)+1)=(k:Int)+1:=wrap64 (by omega) (by omega)
  simp[l0,ek,ekv,ek3,hkv,hvk,u1,u2,u3,u4,f1,f2,hA,hsg,splice,hset,w1,wG,hst1]
 ·simp[l0,Sg]
  exact hK
theorem aal (hg:0<g) (hgB:g<B):awp Tryz.prog pB {env:=[(0,.sl j 1 off (e+3)),(1,nl m v),(5,iv ((e:Int)+2)),(7,zU g),(9,zU (car z v (e+2))),(134,iv ((e:Int)+2)),(135,iv ((e:Int)+2)),(136,bv false)],sto:=pt σ j (.arr 1 (zD (seg W off (xd (val z+val v) z (e+2))))),out:=out,base:=b}
  (fun ex s=>ex=.ret∧s={env:=[(4,uv (g-1))],sto:=pt σ j (.arr 1 (zD (seg W off (zt (e+3) (val z+val v))))),out:=out,base:=b}):=by
 have hvl:=h.hv
 have hWl:=h.hW
 have hsm:=h.small
 have hkz:e+2<z.length:=by omega
 have hzB:=xv hz hkz
 have hc:=S6 hz h.okv (e+2)
 obtain ⟨t,ht,g1,g2⟩:=Qq (a:=z) (b:=v) hkz (by omega)
 rw[List.getElem?_eq_none (by omega),Option.getD_none] at ht
 have hmx:=Zp (Z:=val z+val v) hkz
 have hml:=eW (Z:=val z+val v) (u:=z) (k:=e+2) (by omega)
 have hmg:=Zo (Z:=val z+val v) hkz
 have hsl:=fM (W:=W) (X:=xd (val z+val v) z (e+2)) (off:=off) (by rw[hml]; omega)
 have hsg:=Up (W:=W) (X:=xd (val z+val v) z (e+2)) (off:=off) (i:=e+2) (by rw[hml]; omega) (by omega)
 have hss:=Uq (W:=W) (X:=xd (val z+val v) z (e+2)) (off:=off) (i:=e+2) (d:=(val z+val v)/B^(e+2)%B) (by rw[hml]; omega) (by omega)
 rw[hmx,g1,show e+2+1=e+3 from rfl,Ke hzl] at hss
 rw[hmg] at hsg
 obtain ⟨d,hd⟩:∃ d,t%B=d:=⟨_,rfl⟩
 rw[hd] at hss
 have hA:off+(e+2)<(seg W off (xd (val z+val v) z (e+2))).length:=by omega
 have hset:(zD (seg W off (xd (val z+val v) z (e+2)))).set (off+(e+2)) [uv d]=zD (seg W off (zt (e+3) (val z+val v))):=by rw[xH,hss]
 generalize car z v (e+2)=c at *
 generalize hzk:z[e+2]=zk at *
 have e1:((e:Int)+2).toNat=e+2:=by omega
 have e2:(0:Int)≤(e:Int)+2:=by omega
 have e3:(e:Int)+2<(e:Int)+3:=by omega
 have u1:IntKind.u32.wrap (c:Int)=c:=IntWalk.u32_in _ (by omega)
 have u2:IntKind.u32.wrap ((zk:Int)+(c:Int))=(d:Int):=by
  have:(zk:Int)+(c:Int)=(t:Int):=by omega
  rw[this,w32,hd]
 rw[z9] at hgB
 have u3:IntKind.u64.wrap ((g:Int)-1)=((g-1:Nat):Int):=by rw[vb]<;>omega
 have u4:IntKind.u32.wrap ((g-1:Nat):Int)=((g-1:Nat):Int):=IntWalk.u32_in _ (by omega)
 simp[pB,e1,e2,e3,hA,hsg,u1,u2,u3,u4,splice,hset]
end
theorem Rt {α:Type} {l:List (Nat × α)} {n:Nat} {x:α} (h:lk l n=some x):lk (pt l n x)=lk l:=by
 funext i
 rw[ua]
 split
 ·subst i; exact h.symm
 ·rfl
section
variable {m:Am.Mode} {W v:List Nat} {σ:List (Nat × zf)} {out:List (List (Nat × AV))} {b j off e g x:Nat} {K:Exit→St→Prop} (h:az W v off e)
  (hg:g<B) (hx:∀ k,k<e+3→x/B^k%B=W.getD (off+k) 0) (hT:g*val v≤x) (hZ:x-g*val v<B^(e+3))
include h hg hx hT hZ
theorem Em (hK0:bor x (g*val v) (e+3)=0→K .ret {env:=[(4,uv g)],sto:=pt σ j (.arr 1 (zD (seg W off (zt (e+3) (x-g*val v))))),out:=out,base:=b})
  (hK1:bor x (g*val v) (e+3)=1→0<g∧K .ret {env:=[(4,uv (g-1))],sto:=pt σ j (.arr 1 (zD (seg W off (zt (e+3) (x-g*val v+val v))))),out:=out,base:=b}) :
  awp Tryz.prog rF {env:=[(0,.sl j 1 off (e+3)),(1,nl m v),(5,iv ((e:Int)+2)),(7,zU g),(9,zU (cK g v (e+2))),(10,zU (bor x (g*val v) (e+2))),(82,iv ((e:Int)+2)),(83,iv ((e:Int)+2)),(84,bv false)],sto:=pt σ j (.arr 1 (zD (seg W off (xd (x-g*val v) ((W.drop off).take (e+3)) (e+2))))),out:=out,base:=b} K:=by
 have hvl:=h.hv
 have hWl:=h.hW
 have hsm:=h.small
 generalize hue:(W.drop off).take (e+3)=u at *
 have hul:u.length=e+3:=by rw[← hue]; simp; omega
 have hku:e+2<u.length:=by omega
 have hWk:off+(e+2)<W.length:=by omega
 have huk:u[e+2]=W[off+(e+2)]:=by subst hue; simp
 have hq:W.getD (off+(e+2)) 0=W[off+(e+2)]:=by simp[hWk]
 have hukB:u[e+2]<B:=by rw[huk]; exact xv h.okW hWk
 have hcB:cK g v (e+2)<B:=Y0 h.okv hg (e+2)
 have hcT:g*val v/B^(e+2)%B=cK g v (e+2):=by
  have:cK g v (e+2)=g*val v/B^(e+2):=by unfold cK; rw[List.take_of_length_le (by omega)]
  rw[← this,Nat.mod_eq_of_lt hcB]
 have hsd:=cG (k:=e+2) hT
 have hbs:=aG (x:=x) (y:=g*val v) (k:=e+2)
 have hb1:=SH (x:=x) (y:=g*val v) (k:=e+2)
 rw[hx (e+2) (by omega),hq,← huk,hcT] at hsd hbs
 have hmx:=Zp (Z:=x-g*val v) hku
 rw[show e+2+1=e+3 from rfl,Ke hul] at hmx
 have hml:=eW (Z:=x-g*val v) (u:=u) (k:=e+2) (by omega)
 have hmg:=Zo (Z:=x-g*val v) hku
 have hsl:=fM (W:=W) (X:=xd (x-g*val v) u (e+2)) (off:=off) (by rw[hml]; omega)
 have hsg:=Up (W:=W) (X:=xd (x-g*val v) u (e+2)) (off:=off) (i:=e+2) (by rw[hml]; omega) (by omega)
 have hss:=Uq (W:=W) (X:=xd (x-g*val v) u (e+2)) (off:=off) (i:=e+2) (d:=(x-g*val v)/B^(e+2)%B) (by rw[hml]; omega) (by omega)
 rw[hmx] at hss
 rw[hmg] at hsg
 obtain ⟨d,hd⟩:∃ d,(x-g*val v)/B^(e+2)%B=d:=⟨_,rfl⟩
 rw[hd] at hss hsd
 rw[show e+2+1=e+3 from rfl] at hbs
 have hA:off+(e+2)<(seg W off (xd (x-g*val v) u (e+2))).length:=by omega
 have hset:(zD (seg W off (xd (x-g*val v) u (e+2)))).set (off+(e+2)) [uv d]=zD (seg W off (zt (e+3) (x-g*val v))):=by rw[xH,hss]
 have hg0:bor x (g*val v) (e+3)=1→0<g:=fun h1=>by
  rcases Nat.eq_zero_or_pos g with h0 | h0
  ·exfalso
   rw[h0,Nat.zero_mul] at h1
   simp[bor] at h1
  ·exact h0
 generalize cK g v (e+2)=c at *
 generalize bor x (g*val v) (e+2)=b0 at *
 generalize hb2:bor x (g*val v) (e+3)=b2 at *
 generalize huk2:u[e+2]=uk at *
 clear hd
 have e1:((e:Int)+2).toNat=e+2:=by omega
 have e2:(0:Int)≤(e:Int)+2:=by omega
 have e3:(e:Int)+2<(e:Int)+3:=by omega
 rw[z9] at hukB hcB
 have u6:IntKind.u64.wrap (uk:Int)=uk:=w64 (by omega)
 have u7:=adm ((uk:Int)-(c:Int)) (b0:Int)
 have u8:=MI ((uk:Int)-(c:Int)-(b0:Int))
 have hsd':((d:Nat):Int)=((uk:Int)-(c:Int)-(b0:Int))%4294967296:=hsd
 rw[← hsd'] at u8
 have u9:=MF (u:=(uk:Int)-(c:Int)-(b0:Int)) (by omega) (by omega)
 have u10:(if (uk:Int)-(c:Int)-(b0:Int)<0 then (1:Int) else 0)=(b2:Int):=by
  rw[hbs]; split<;>split<;>omega
 rw[u10] at u9
 have hgB:=hg
 rw[z9] at hgB
 have u11:IntKind.u32.wrap (g:Int)=(g:Int):=IntWalk.u32_in _ (by omega)
 have hb2v:b2=0∨b2=1:=by rw[hbs]; split<;>simp
 rcases hb2v with h0 | h0
 ·subst h0
  simp[rF,e1,e2,e3,hA,hsg,u6,u7,u8,u9,u11,wG,splice,hset]
  exact hK0 rfl
 ·subst h0
  obtain ⟨hgp,hfin⟩:=hK1 rfl
  simp[rF,e1,e2,e3,hA,hsg,u6,u7,u8,u9,wG,splice,hset]
  refine El (m:=m) (σ:=σ) (out:=out) (b:=b) (j:=j) (g:=g) h (yM (n:=e+3) (x:=x-g*val v)) zy ?_ ?_
  ·simp[Sg,YZ,Tt]
  ·refine vh (fun ex s hs=>?_) (aal h (yM (n:=e+3) (x:=x-g*val v)) zy hgp hg)
   rw[yq hZ] at hs
   obtain ⟨rfl,rfl⟩:=hs
   exact hfin
theorem P6 (hj:lk σ j=some (.arr 1 (zD W))) {r y:AV} {q:Nat} (hq:q=69∨q=81) (hK0:bor x (g*val v) (e+3)=0→K .ret {env:=[(4,uv g)],sto:=pt σ j (.arr 1 (zD (seg W off (zt (e+3) (x-g*val v))))),out:=out,base:=b})
  (hK1:bor x (g*val v) (e+3)=1→0<g∧K .ret {env:=[(4,uv (g-1))],sto:=pt σ j (.arr 1 (zD (seg W off (zt (e+3) (x-g*val v+val v))))),out:=out,base:=b}) :
  awp Tryz.prog uq {env:=[(0,.sl j 1 off (e+3)),(1,nl m v),(5,iv ((e:Int)+2)),(7,zU g),(8,r),(q,y)],sto:=σ,out:=out,base:=b} K:=by
 have hl:=Em (m:=m) (σ:=σ) (out:=out) (b:=b) (j:=j) h hg hx hT hZ hK0 hK1
 have hc0:cK g v 0=0:=by simp[cK,val]
 have hs:=acv (W:=W) (off:=off) (n:=e+3) (by have:=h.hW; omega)
 rcases hq with rfl | rfl
 ·simp[uq]
  refine P7 h hg hx hT ?_ hl
  simp[Xs,YZ,hs,hc0,aH]
  exact .inr (.inl (Rt hj))
 ·simp[uq]
  refine P7 h hg hx hT ?_ hl
  simp[Xs,YZ,hs,hc0,aH]
  exact .inr (.inl (Rt hj))
end
theorem A4 {v:List Nat} {e:Nat} (h:v.length=e+2):val v=(v.getD (e+1) 0*B+v.getD e 0)*B^e+val (v.take e):=by
 have h1:=tE v e
 have h2:v.drop e=[v[e],v[e+1]]:=by
  rw[List.drop_eq_getElem_cons (by omega),List.drop_eq_getElem_cons (by omega),List.drop_of_length_le (by omega)]
 rw[Nat.min_eq_left (by omega),h2] at h1
 have q1:v.getD (e+1) 0=v[e+1]:=by simp[h]
 have q2:v.getD e 0=v[e]:=by simp[h]
 rw[h1,q1,q2]
 simp only[val,Nat.mul_zero,Nat.add_zero]
 grind
theorem A5 {u:List Nat} {e:Nat} (h:u.length=e+3):val u=((u.getD (e+2) 0*B+u.getD (e+1) 0)*B+u.getD e 0)*B^e+val (u.take e):=by
 have h1:=tE u e
 have h2:u.drop e=[u[e],u[e+1],u[e+2]]:=by
  rw[List.drop_eq_getElem_cons (by omega),List.drop_eq_getElem_cons (by omega),List.drop_eq_getElem_cons (by omega),List.drop_of_length_le (by omega)]
 rw[Nat.min_eq_left (by omega),h2] at h1
 have q0:u.getD (e+2) 0=u[e+2]:=by simp[h]
 have q1:u.getD (e+1) 0=u[e+1]:=by simp[h]
 have q2:u.getD e 0=u[e]:=by simp[h]
 rw[h1,q0,q1,q2]
 simp only[val,Nat.mul_zero,Nat.add_zero]
 grind
theorem ahH {t v1 v2 u2 P Q R U V:Nat} (_hP:0<P) (hU:U=(t*B+u2)*P+R) (hV:V=(v1*B+v2)*P+Q) (hQ:Q<P) (hv2:v2<B) (hlt:U<V*B):t≤v1*B+(B-1):=by
 have a1:t*B*P≤U:=by
  rw[hU]
  have:t*B*P≤(t*B+u2)*P:=Nat.mul_le_mul_right _ (Nat.le_add_right _ _)
  exact Nat.le_trans this (Nat.le_add_right _ _)
 have a2:V≤(v1*B+B)*P:=by
  rw[hV]
  have h1:(v1*B+v2+1)*P≤(v1*B+B)*P:=Nat.mul_le_mul_right _ (by omega)
  rw[Nat.add_mul,Nat.one_mul] at h1
  exact Nat.le_trans (Nat.add_le_add_left (Nat.le_of_lt hQ) _) h1
 have a3:V*B≤(v1*B+B)*P*B:=Nat.mul_le_mul_right _ a2
 have a4:t*(P*B)<(v1*B+B)*(P*B):=by
  rw[← Nat.mul_assoc,← Nat.mul_assoc]
  rw[Nat.mul_assoc t,Nat.mul_comm B P,← Nat.mul_assoc] at a1
  exact Nat.lt_of_le_of_lt a1 (Nat.lt_of_lt_of_le hlt a3)
 have a5:=Nat.lt_of_mul_lt_mul_right a4
 have:=zX
 generalize v1*B=q at *
 omega
theorem aeo {w v1:Nat}:gK w v1 0=w/v1:=Nat.sub_zero _
theorem ae9 {w v1:Nat}:rK w v1 0=w%v1:=by unfold rK; rw[Nat.zero_mul,Nat.add_zero]
theorem Qk {a c:Nat} (ha:a<B) (hc:c<B):a*B+c<18446744073709551616:=by
 have:(a+1)*B≤B*B:=Nat.mul_le_mul_right _ ha
 have hBB:B*B=18446744073709551616:=by decide
 rw[Nat.add_mul,hBB,Nat.one_mul] at this
 exact Nat.lt_of_lt_of_le (Nat.add_lt_add_left hc _) this
theorem aaG {z n:Nat}:zt n (z+B^n)=zt n z:=P8
theorem ad6 {m:Am.Mode} {W v:List Nat} {σ:List (Nat × zf)} {out:List (List (Nat × AV))} {b j off e g U Q R:Nat} {K:Exit→St→Prop} (h:az W v off e) (hg:g<B) (hj:lk σ j=some (.arr 1 (zD W)))
  {r y:AV} {q:Nat} (hq:q=69∨q=81) (hx:∀ k,k<e+3→U/B^k%B=W.getD (off+k) 0) (hUN:U<B^(e+3)) (hTN:g*val v<B^(e+3)) (hmod:val v*Q+R=U) (hR:R<val v) (hc:Q≤g∧g≤Q+1)
  (hK:∀ ex s,ex=.ret→s={env:=[(4,uv Q)],sto:=pt σ j (.arr 1 (zD (seg W off (zt (e+3) R)))),out:=out,base:=b}→K ex s) :
  awp Tryz.prog uq {env:=[(0,.sl j 1 off (e+3)),(1,nl m v),(5,iv ((e:Int)+2)),(7,zU g),(8,r),(q,y)],sto:=σ,out:=out,base:=b} K:=by
 rcases Nat.lt_or_ge U (g*val v) with hlt | hle
 ·have hgQ:g=Q+1:=by
   rcases Nat.lt_or_ge Q g with h1 | h1
   ·omega
   ·exfalso
    have:g*val v≤Q*val v:=Nat.mul_le_mul_right _ h1
    rw[Nat.mul_comm] at hmod
    omega
  subst hgQ
  have hz:U+B^(e+3)-(Q+1)*val v+val v=R+B^(e+3):=by
   rw[Nat.add_mul,Nat.one_mul] at *
   rw[Nat.mul_comm] at hmod
   omega
  refine P6 (x:=U+B^(e+3)) h hg (fun k hk=>?_) (by omega) (by omega) hj hq (fun h0=>?_) (fun _=>⟨by omega,?_⟩)
  ·rw[Ci hk]; exact hx k hk
  ·exfalso
   simp only[bor,Nat.add_mod_right,Nat.mod_eq_of_lt hUN,Nat.mod_eq_of_lt hTN,if_pos hlt] at h0
   exact absurd h0 (by decide)
  ·refine hK _ _ rfl ?_
   rw[hz,aaG,Nat.add_sub_cancel]
 ·have hgQ:g=Q:=by
   rcases Nat.lt_or_ge Q g with h1 | h1
   ·exfalso
    have:(Q+1)*val v≤g*val v:=Nat.mul_le_mul_right _ h1
    rw[Nat.add_mul,Nat.one_mul] at this
    rw[Nat.mul_comm] at hmod
    omega
   ·omega
  subst hgQ
  have hz:U-g*val v=R:=by
   rw[Nat.mul_comm] at hmod
   omega
  refine P6 (x:=U) h hg hx hle (by omega) hj hq (fun _=>?_) (fun h1=>?_)
  ·exact hK _ _ rfl (by rw[hz])
  ·exfalso
   simp only[bor,Nat.mod_eq_of_lt hUN,Nat.mod_eq_of_lt hTN,if_neg (Nat.not_lt.mpr hle)] at h1
   exact absurd h1 (by decide)
theorem agB {m:Am.Mode} {W v:List Nat} {s:St} {K:AV→St→Prop} (b:Nat) {j off e U:Nat} (h:az W v off e) (hj:lk s.sto j=some (.arr 1 (zD W)))
  (h1:0<v.getD (e+1) 0) (hU:U=val ((W.drop off).take (e+3))) (hlt:U<val v*B)
  (hK:K (uv (U/val v)) ⟨s.env,pt s.sto j (.arr 1 (zD (seg W off (zt (e+3) (U%val v))))),s.out,s.base⟩):yH Tryz.prog Yk [.sl j 1 off (e+3),nl m v] s K:=by
 obtain ⟨env,σ,out,base⟩:=s
 simp only at hj hK
 have hvl:=h.hv
 have hWl:=h.hW
 have hsm:=h.small
 have hul:((W.drop off).take (e+3)).length=e+3:=by simp; omega
 have hug:∀ k,k<e+3→((W.drop off).take (e+3)).getD k 0=W.getD (off+k) 0:=fun k hk=>by
  simp[List.getD,hk]
 have hvV:=A4 hvl
 have huU:=A5 hul
 rw[← hU,hug _ (by omega),hug _ (by omega),hug _ (by omega)] at huU
 have okv2:ok ((W.drop off).take (e+3)):=sx (QZ h.okW off) _
 have hv2:v.getD e 0<B:=tH h.okv _
 have hu2:W.getD (off+e) 0<B:=tH h.okW _
 have hQ:val (v.take e)<B^e:=yS (sx h.okv e) (by simp; omega)
 have hR:val (((W.drop off).take (e+3)).take e)<B^e:=yS (sx okv2 e) (by simp; omega)
 have hclose:=EV (w:=qX W off e) h1 hu2 hv2 huU hR hvV hQ hlt
 have hw:qX W off e≤v.getD (e+1) 0*B+(B-1):=by
  exact ahH (Nat.pow_pos zX) huU hvV hQ hv2 hlt
 have hv1:e+1<v.length:=by omega
 have hWa:off+(e+2)<W.length:=by omega
 have hWb:off+(e+1)<W.length:=by omega
 refine nu b AN (by simp) ?_
 have p1:v.getD (e+1) 0=v[e+1]:=by simp[hv1]
 have p2:W.getD (off+(e+2)) 0=W[off+(e+2)]:=by simp[hWa]
 have p3:W.getD (off+(e+1)) 0=W[off+(e+1)]:=by simp[hWb]
 have b1:v[e+1]<B:=xv h.okv hv1
 have b2:W[off+(e+2)]<B:=xv h.okW hWa
 have b3:W[off+(e+1)]<B:=xv h.okW hWb
 have hsh:=ME b2
 have hwe:qX W off e=W[off+(e+2)]*B+W[off+(e+1)]:=by rw[qX,p2,p3]
 have hor:sX .or .u64 ((W[off+(e+2)]*B:Nat):Int) (W[off+(e+1)]:Int)=((qX W off e:Nat):Int):=by rw[hwe]; exact or_hi b2 b3
 have hwB:qX W off e<18446744073709551616:=by rw[hwe]; exact Qk b2 b3
 have fin:∀ K2:Exit→St→Prop,(∀ ex s,ex=.ret→s={env:=[(4,uv (U/val v))],sto:=pt σ j (.arr 1 (zD (seg W off (zt (e+3) (U%val v))))),out:=env::out,base:=b}→K2 ex s) →
   awp Tryz.prog (.loop vj) (Xr m W v σ (env::out) b j off e 0) (vi 0 (pS Tryz.prog uq K2)):=by
  intro K2 hK2
  have hw3:∀ k,k<e+3→U/B^k%B=W.getD (off+k) 0:=fun k hk=>by
   have hd:=YK okv2
   rw[hul,← hU] at hd
   have h2:k<(zt (e+3) U).length:=by rw[zy]; exact hk
   rw[← ut h2,← hug k hk,← hd]
   simp[List.getD,h2]
  have hUN:U<B^(e+3):=by rw[hU]; exact yS okv2 (Nat.le_of_eq hul)
  have hVpos:0<val v:=by
   have hpp:=Nat.pow_pos (n:=e) zX
   rw[hvV]
   exact Nat.lt_of_lt_of_le (Nat.mul_pos (Nat.lt_of_lt_of_le (Nat.mul_pos h1 zX) (Nat.le_add_right _ _)) hpp) (Nat.le_add_right _ _)
  have hgB:kK (qX W off e) (W.getD (off+e) 0) (v.getD (e+1) 0) (v.getD e 0)<B:=Nat.lt_of_le_of_lt (Nat.min_le_left _ _) (by decide)
  refine JL h hj h1 hw _ rfl fun r q y hq=>?_
  generalize kK (qX W off e) (W.getD (off+e) 0) (v.getD (e+1) 0) (v.getD e 0)=g at *
  have hmod:val v*(U/val v)+U%val v=U:=Nat.div_add_mod U (val v)
  have hml:=Nat.mod_lt U hVpos
  have hVN:val v<B^(e+2):=yS h.okv (Nat.le_of_eq hvl)
  have hTN:g*val v<B^(e+3):=by
   rw[show e+3=(e+2)+1 from rfl,Nat.pow_succ,Nat.mul_comm]
   exact Nat.mul_lt_mul_of_lt_of_lt hVN hgB
  exact ad6 h hgB hj hq hw3 hUN hTN hmod hml hclose hK2
 have st0:Xr m W v σ (env::out) b j off e 0={env:=[(0,.sl j 1 off (e+3)),(1,nl m v),(5,iv ((e:Int)+2)),(7,zU (qX W off e/v.getD (e+1) 0)),(8,zU (qX W off e%v.getD (e+1) 0))],sto:=σ,out:=env::out,base:=b}:=by
  rw[Xr,aeo,ae9]
 rw[st0] at fin
 clear hwe
 clear st0 hclose hw huU hvV
 obtain ⟨rb,hrb⟩:∃ rb,W[off+(e+2)]*B=rb:=⟨_,rfl⟩
 rw[hrb] at hor hsh
 generalize qX W off e=w at *
 rw[p1] at fin h1
 generalize g1:v[e+1]=v1 at *
 generalize g2:W[off+(e+2)]=w3 at *
 generalize g3:W[off+(e+1)]=w2 at *
 have t1:IntKind.u64.wrap ((w:Int).tdiv v1)=((w/v1:Nat):Int):=by
  rw[← Int.ofNat_tdiv]
  exact w64 (Nat.lt_of_le_of_lt (Nat.div_le_self _ _) hwB)
 have t2:((w:Int).tmod v1)=((w%v1:Nat):Int):=by rw[← Int.ofNat_tmod]
 have t3:IntKind.u64.wrap ((w:Int)/v1)=((w/v1:Nat):Int):=by
  rw[← Int.natCast_ediv]
  exact w64 (Nat.lt_of_le_of_lt (Nat.div_le_self _ _) hwB)
 generalize w/v1=q at *
 generalize w%v1=r at *
 have hv10:¬ v1=0:=by omega
 have c0:(e:Int)+2<(e:Int)+3:=by omega
 have c1:((e:Int)+2).toNat=e+2:=by omega
 have c2:((e:Int)+1).toNat=e+1:=by omega
 have c3:(0:Int)≤(e:Int)+2:=by omega
 have c4:(0:Int)≤(e:Int)+1:=by omega
 have c5:(e:Int)+1<(e:Int)+3:=by omega
 have i5:IntKind.i64.wrap ((e:Int)+2-1)=(e:Int)+1:=by rw[wrap64]<;>omega
 have hlen:(v.length:Int)=(e:Int)+2:=by omega
 rw[z9] at b1 b2 b3
 have u1:IntKind.u64.wrap (v1:Int)=v1:=w64 (by omega)
 have u2:IntKind.u64.wrap (w3:Int)=w3:=w64 (by omega)
 have u3:IntKind.u64.wrap (w2:Int)=w2:=w64 (by omega)
 simp[PY,hj,g1,g2,g3,c0,c1,c2,c3,c4,c5,i5,hlen,u1,u2,u3,hWa,hWb,hv1,hv10,xY,hsh,hor,tR,qk,t2,t3]
 refine fin _ fun ex s he hs=>?_
 subst he hs
 simp[NC]
 exact hK
end Go.Proofs.YtpnliopaifpimaaGreat

namespace Go.Dig
def lz (t:Nat):Nat:=31-Nat.log2 t
theorem MB {t:Nat}:lz t<32:=by unfold lz; omega
theorem ag4 {t:Nat} (ht:t<B):Nat.log2 t<32:=by
 rcases Nat.eq_zero_or_pos t with h | h
 ·subst h; decide
 ·exact (Nat.log2_lt (by omega)).2 ht
theorem abm {t k:Nat} (_ht:t<B) (hk:k<lz t):t*2^k<2147483648:=by
 have h1:t<2^(Nat.log2 t+1):=Nat.lt_log2_self
 have h2:t*2^k<2^(Nat.log2 t+1)*2^k:=Nat.mul_lt_mul_of_pos_right h1 (Nat.pow_pos (by omega))
 rw[← Nat.pow_add] at h2
 have h3:2^(Nat.log2 t+1+k)≤2^31:=Nat.pow_le_pow_right (by omega) (by unfold lz at hk; omega)
 have h4:(2:Nat)^31=2147483648:=by decide
 omega
theorem L9 {t:Nat} (h0:0<t) (ht:t<B):2147483648≤t*2^lz t∧t*2^lz t<B:=by
 have hl:=ag4 ht
 constructor
 ·have h1:2^Nat.log2 t≤t:=Nat.log2_self_le (by omega)
  have h2:2^Nat.log2 t*2^lz t≤t*2^lz t:=Nat.mul_le_mul_right _ h1
  rw[← Nat.pow_add,show Nat.log2 t+lz t=31 by unfold lz; omega] at h2
  have h4:(2:Nat)^31=2147483648:=by decide
  omega
 ·have h1:t<2^(Nat.log2 t+1):=Nat.lt_log2_self
  have h2:t*2^lz t<2^(Nat.log2 t+1)*2^lz t:=Nat.mul_lt_mul_of_pos_right h1 (Nat.pow_pos (by omega))
  rw[← Nat.pow_add,show Nat.log2 t+1+lz t=32 by unfold lz; omega] at h2
  exact h2
theorem JM {x n:Nat} (h1:B^n≤x) (h2:x<B^(n+1)):(zh x).length=n+1:=by
 have a:=zE.2 h2
 have b:=c8.2 h1
 omega
theorem cH {D n:Nat} (h:(zh D).length=n+1):B^n≤D∧D<B^(n+1)∧0<D/B^n∧D/B^n<B:=by
 have a:B^n≤D:=c8.1 (by omega)
 have b:D<B^(n+1):=zE.1 (by omega)
 refine ⟨a,b,Nat.div_pos a (uy n),Nat.div_lt_of_lt_mul ?_⟩
 rw[← Nat.pow_succ]; exact b
theorem B8 {D n N:Nat} (h:(zh D).length=n+1) (hN:N=lz (D/B^n)):B^n≤D*2^N∧D*2^N<B^(n+1)∧(zh (D*2^N)).length=n+1:=by
 obtain ⟨a,b,c,d⟩:=cH h
 have hl:=(L9 c d).2
 rw[← hN] at hl
 have hN32:N<32:=by rw[hN]; exact MB
 have hB:B=2^(32-N)*2^N:=by
  rw[← Nat.pow_add,Nat.sub_add_cancel (by omega)]; rfl
 have h1:D/B^n+1≤2^(32-N):=by
  have h0:=hl
  generalize D/B^n=t at *
  rw[hB] at h0
  exact Nat.lt_of_mul_lt_mul_right h0
 have h2:D<(D/B^n+1)*B^n:=by
  have:=Nat.lt_mul_div_succ D (uy n)
  rw[Nat.mul_comm] at this
  exact this
 have h3:D<2^(32-N)*B^n:=Nat.lt_of_lt_of_le h2 (Nat.mul_le_mul_right _ h1)
 have h4:D*2^N<2^(32-N)*B^n*2^N:=Nat.mul_lt_mul_of_pos_right h3 (Nat.pow_pos (by omega))
 have h5:2^(32-N)*B^n*2^N=B^(n+1):=by
  rw[Nat.mul_right_comm,← hB,Nat.pow_succ,Nat.mul_comm]
 have h6:B^n≤D*2^N:=Nat.le_trans a (Nat.le_mul_of_pos_right _ (Nat.pow_pos (by omega)))
 rw[h5] at h4
 exact ⟨h6,h4,JM h6 h4⟩
def rst (A V j:Nat):Nat:=A/B^j%V*B^j+A%B^j
theorem RP {A V j n:Nat} (hV:V<B^n) (h0:0<V):rst A V j<B^(j+n):=by
 have h1:A/B^j%V+1≤B^n:=Nat.le_trans (Nat.mod_lt _ h0) (Nat.le_of_lt hV)
 have h2:(A/B^j%V+1)*B^j≤B^n*B^j:=Nat.mul_le_mul_right _ h1
 have h3:A%B^j<B^j:=Nat.mod_lt _ (uy j)
 have h4:B^(j+n)=B^n*B^j:=by rw[Nat.pow_add,Nat.mul_comm]
 unfold rst
 rw[h4]
 rw[Nat.add_mul,Nat.one_mul] at h2
 omega
theorem acq {A V:Nat}:rst A V 0=A%V:=by simp[rst,Nat.mod_one]
theorem afj {A V j:Nat} (h:A/B^j<V):rst A V j=A:=by
 unfold rst
 rw[Nat.mod_eq_of_lt h,Nat.mul_comm]
 exact Nat.div_add_mod A (B^j)
theorem afh {A V j:Nat}:rst A V j%B^j=A%B^j:=by
 unfold rst
 rw[Nat.add_comm,Nat.add_mul_mod_self_right,Nat.mod_mod]
theorem afi {A V j:Nat}:rst A V (j+1)/B^j=A/B^j/B%V*B+A/B^j%B:=by
 unfold rst
 rw[show A/B^(j+1)=A/B^j/B by rw[Nat.pow_succ,Nat.div_div_eq_div_mul]]
 have h1:A%B^(j+1)=A%B^j+B^j*(A/B^j%B):=by rw[Nat.pow_succ,Nat.mod_mul]
 rw[h1,Nat.pow_succ]
 have h2:A/B^j/B%V*(B^j*B)+(A%B^j+B^j*(A/B^j%B))=A%B^j+(A/B^j/B%V*B+A/B^j%B)*B^j:=by grind
 rw[h2,Nat.add_mul_div_right _ _ (uy j),Nat.div_eq_of_lt (Nat.mod_lt _ (uy j)),Nat.zero_add]
theorem acp {A V j L n:Nat} (hV:V<B^n) (h0:0<V) (hL:j+n+1≤L):seg (zt L (rst A V (j+1))) j (zt (n+1) (A/B^j%V))=zt L (rst A V j):=by
 have hlen:j+(zt (n+1) (A/B^j%V)).length≤(zt L (rst A V (j+1))).length:=by rw[zy,zy]; omega
 have hlt1:=RP (A:=A) (j:=j+1) hV h0
 have hlt0:=RP (A:=A) (j:=j) hV h0
 have hle:B^(j+1+n)≤B^L:=Nat.pow_le_pow_right zX (by omega)
 have hle0:B^(j+n)≤B^L:=Nat.pow_le_pow_right zX (by omega)
 have hL1:rst A V (j+1)<B^L:=Nat.lt_of_lt_of_le hlt1 hle
 have o1:ok (zt L (rst A V (j+1))):=yM
 refine UD ?_ yM (by rw[fM hlen,zy,zy]) ?_
 ·unfold seg
  exact Y5.2 ⟨Y5.2 ⟨sx o1 _,yM⟩,QZ o1 _⟩
 ·unfold seg
  rw[val_append,val_append,Jz o1 (by rw[zy]; omega),Sw o1 (by rw[zy,zy]; omega),yq hL1,yq (Nat.lt_of_lt_of_le hlt0 hle0)]
  have hz:rst A V (j+1)/B^(j+(zt (n+1) (A/B^j%V)).length)=0:=by
   rw[zy]
   exact Nat.div_eq_of_lt (by rw[show j+(n+1)=j+1+n by omega]; exact hlt1)
  have hl:(List.take j (zt L (rst A V (j+1)))).length=j:=by simp[zy]; omega
  have hx:A/B^j%V<B^(n+1):=Nat.lt_trans (Nat.lt_trans (Nat.mod_lt _ h0) hV) (Nat.pow_lt_pow_right (by decide) (by omega))
  rw[hz,hl,yq hx,Nat.mul_zero,Nat.add_zero]
  have h1:rst A V (j+1)%B^j=A%B^j:=by
   have h2:rst A V (j+1)%B^(j+1)%B^j=A%B^(j+1)%B^j:=by rw[afh]
   rw[Nat.mod_mod_of_dvd _ (Nat.pow_dvd_pow B (by omega)),Nat.mod_mod_of_dvd _ (Nat.pow_dvd_pow B (by omega))] at h2
   exact h2
  rw[h1]
  unfold rst
  rw[Nat.mul_comm,Nat.add_comm]
theorem B1 {A V j:Nat} (h0:0<V):(rst A V (j+1)/B^j)/V=A/V/B^j%B∧(rst A V (j+1)/B^j)%V=A/B^j%V∧rst A V (j+1)/B^j<V*B:=by
 obtain ⟨s1,s2,s3⟩:=RZ (A:=A/B^j) h0
 rw[afi]
 refine ⟨?_,s2,s3⟩
 rw[s1,Nat.div_div_eq_div_mul,Nat.div_div_eq_div_mul,Nat.mul_comm]
theorem Ab {X N i:Nat} (hN:N<32):(X/2^N)/B^i%B=(X/B^i%B)/2^N+(X/B^(i+1)%B)*2^(32-N)%B ∧
  (X/B^i%B)/2^N ||| (X/B^(i+1)%B)*2^(32-N)%B=(X/B^i%B)/2^N+(X/B^(i+1)%B)*2^(32-N)%B:=by
 have hB:B=2^(32-N)*2^N:=by
  rw[← Nat.pow_add,Nat.sub_add_cancel (by omega)]; rfl
 have hP:0<2^N:=Nat.pow_pos (by omega)
 have hM:0<2^(32-N):=Nat.pow_pos (by omega)
 rw[show X/2^N/B^i=X/B^i/2^N by rw[Nat.div_div_eq_div_mul,Nat.div_div_eq_div_mul,Nat.mul_comm],show X/B^(i+1)=X/B^i/B by rw[Nat.pow_succ,Nat.div_div_eq_div_mul]]
 generalize X/B^i=Y
 have hx:Y%B/2^N<2^(32-N):=by
  apply Nat.div_lt_of_lt_mul
  rw[Nat.mul_comm,← hB]; exact Nat.mod_lt _ zX
 have hc:∀ q,q*2^(32-N)%B=(q%2^N)*2^(32-N):=fun q=>by
  have h:=Nat.mul_mod_mul_right (2^(32-N)) q (2^N)
  rw[Nat.mul_comm (2^N) (2^(32-N)),← hB] at h
  exact h
 have hY:Y/2^N=Y/B*2^(32-N)+Y%B/2^N:=by
  have h1:Y=Y%B+2^N*(Y/B*2^(32-N)):=by
   have h2:=Nat.mod_add_div Y B
   have h3:2^N*(Y/B*2^(32-N))=B*(Y/B):=by
    have:2^N*(Y/B*2^(32-N))=2^(32-N)*2^N*(Y/B):=by
     generalize Y/B=z
     generalize (2:Nat)^N=p
     generalize (2:Nat)^(32-N)=m
     grind
    rw[this,← hB]
   rw[h3]; exact h2.symm
  have h4:Y/2^N=(Y%B+2^N*(Y/B*2^(32-N)))/2^N:=by rw[← h1]
  rw[h4,Nat.add_mul_div_left _ _ hP,Nat.add_comm]
 have hd:2^N ∣ B:=⟨2^(32-N),by rw[hB,Nat.mul_comm]⟩
 rw[hY,hc (Y/B%B),Nat.mod_mod_of_dvd _ hd]
 generalize hq:Y/B%2^N=a
 have ha:a<2^N:=by rw[← hq]; exact Nat.mod_lt _ hP
 generalize Y%B/2^N=c at *
 have hlt:a*2^(32-N)+c<B:=by
  have h1:(a+1)*2^(32-N)≤2^N*2^(32-N):=Nat.mul_le_mul_right _ ha
  rw[Nat.mul_comm (2^N),← hB,Nat.add_mul,Nat.one_mul] at h1
  omega
 constructor
 ·have h2:=hc (Y/B)
  rw[hq] at h2
  rw[Nat.add_mod,h2,Nat.mod_eq_of_lt (a:=c) (by omega),Nat.mod_eq_of_lt hlt,Nat.add_comm]
 ·have h:=Nat.two_pow_add_eq_or_of_lt hx a
  rw[Nat.or_comm,Nat.mul_comm a,← h,Nat.add_comm]
structure Ml (A D n m N X V:Nat):Prop where
 N32:N<32
 X_eq:X=A*2^N
 V_eq:V=D*2^N
 Xlt:X<B^(n+2+m+1)
 Vlen:(zh V).length=n+2
 Vpos:0<V
 Vlt:V<B^(n+2)
 top:X/B^(m+1)<V
 q:X/V=A/D
 r:X%V=(A%D)*2^N
 vtop:0<(zh V).getD (n+1) 0
theorem aid {A D n m:Nat} (hA:(zh A).length=n+2+m) (hD:(zh D).length=n+2):Ml A D n m (lz (D/B^(n+1))) (A*2^lz (D/B^(n+1))) (D*2^lz (D/B^(n+1))):=by
 have hN32:lz (D/B^(n+1))<32:=MB
 obtain ⟨h1,h2,h3⟩:=B8 (n:=n+1) hD rfl
 obtain ⟨h4,h5,h6,h7⟩:=cH (n:=n+1) hD
 have hP:0<2^lz (D/B^(n+1)):=Nat.pow_pos (by omega)
 have hAlt:A<B^(n+2+m):=zE.1 (Nat.le_of_eq hA)
 generalize lz (D/B^(n+1))=N at *
 obtain ⟨k1,k2,k3,k4⟩:=cH (n:=n+1) h3
 refine ⟨hN32,rfl,rfl,?_,h3,Nat.lt_of_lt_of_le (uy _) h1,h2,?_,Nat.mul_div_mul_right _ _ hP,Nat.mul_mod_mul_right _ _ _,?_⟩
 ·have:2^N≤B:=Nat.le_of_lt (eY hN32)
  rw[Nat.pow_succ]
  exact Nat.lt_of_lt_of_le (Nat.mul_lt_mul_of_pos_right hAlt hP) (Nat.mul_le_mul_left _ this)
 ·apply Nat.div_lt_of_lt_mul
  have a1:A*2^N<B^(n+2+m)*2^N:=Nat.mul_lt_mul_of_pos_right hAlt hP
  have a2:B^(n+1)*2^N≤D*2^N:=Nat.mul_le_mul_right _ h4
  have a3:B^(m+1)*(B^(n+1)*2^N)≤B^(m+1)*(D*2^N):=Nat.mul_le_mul_left _ a2
  have a4:B^(n+2+m)=B^(m+1)*B^(n+1):=by rw[← Nat.pow_add]; congr 1; omega
  rw[a4,Nat.mul_assoc] at a1
  exact Nat.lt_of_lt_of_le a1 a3
 ·have hl:n+1<(zh (D*2^N)).length:=by rw[h3]; omega
  have:(zh (D*2^N)).getD (n+1) 0=D*2^N/B^(n+1):=by
   rw[List.getD_eq_getElem?_getD,List.getElem?_eq_getElem hl,Option.getD_some,mF,Nat.mod_eq_of_lt k4]
  rw[this]
  exact k3
theorem afk {A V j n L:Nat} (hV:V<B^n) (h0:0<V) (hL:j+n+1≤L):rst A V (j+1)/B^j=val (((zt L (rst A V (j+1))).drop j).take (n+1)):=by
 have o1:ok (zt L (rst A V (j+1))):=yM
 have hlt1:=RP (A:=A) (j:=j+1) hV h0
 have hL1:rst A V (j+1)<B^L:=Nat.lt_of_lt_of_le hlt1 (Nat.pow_le_pow_right zX (by omega))
 have hlen:n+1≤((zt L (rst A V (j+1))).drop j).length:=by rw[List.length_drop,zy]; omega
 rw[Jz (QZ o1 _) hlen,Sw o1 (by rw[zy]; omega),yq hL1,Nat.mod_eq_of_lt]
 apply Nat.div_lt_of_lt_mul
 rw[← Nat.pow_add,show j+(n+1)=j+1+n by omega]
 exact hlt1
end Go.Dig

namespace Go.Proofs.YtpnliopaifpimaaGreat
open Go Go.Am Go.Dig
def Ut (A D k:Nat):St:={env:=[(0,nD A),(1,nD D),(9,zU k)],sto:=[]}
abbrev aW (A D:Nat):AV:=AV.tuple [nD (A/D),nD (A%D),iv 0]
theorem LV {x1 x2 x3 y1 y2 y3:AV} (h1:AV.imp x1 y1) (h2:AV.imp x2 y2) (h3:AV.imp x3 y3):AV.imp (.tuple [x1,x2,x3]) (.tuple [y1,y2,y3]):=fun I w v hv=>by
 cases hv with
 | tuple cells vs hs hc =>
  refine .tuple _ _ (by simpa using hs) fun i c hi=>?_
  match i,hi with
  | 0,hi=>simp at hi; subst hi; exact h1 _ _ _ (hc 0 x1 rfl)
  | 1,hi=>simp at hi; subst hi; exact h2 _ _ _ (hc 1 x2 rfl)
  | 2,hi=>simp at hi; subst hi; exact h3 _ _ _ (hc 2 x3 rfl)
  | i+3,hi=>simp at hi
theorem eQ {f:FuncId} {x y y' r:AV} (h:ze Tryz.prog f [x,y'] r) (hy:AV.imp y y'):ze Tryz.prog f [x,y] r:=fun I vs w h1 h2 h3 =>
 h I vs w h1 h2 fun i a hi=>by
  match i,hi with
  | 0,hi=>exact h3 0 a hi
  | 1,hi=>simp at hi; subst hi; exact hy _ _ _ (h3 1 y rfl)
  | i+2,hi=>simp at hi
theorem qx {sz:Nat}:AV.imp (.list sz .full []) (nD 0):=by
 rw[nD,yz]
 exact AV.imp_nil rfl
theorem Ck {m1 m2:Am.Mode} {a c:List Nat} (ha:ok a) (hc:ok c) (hna:a.length<549755813888) (hnc:c.length<549755813888) (f1:stm m1=m1) (f2:stm m2=m2) (hD:val c≠0)
  (hmain:∀ n m,(zh (val c)).length=n+2→(zh (val a)).length=n+2+m→val c≤val a →
   awp Tryz.prog (.loop qD) (Ut (val a) (val c) 0) (vi 0 (pS Tryz.prog sr (ZB qt (aW (val a) (val c)))))) :
  ze Tryz.prog pX [nl m1 a,nl m2 c] (aW (val a) (val c)):=by
 have k1:=xt (m:=m1) ha (by omega)
 have k2:=xt (m:=m2) hc (by omega)
 have hla:=wR ha
 have hlc:=wR hc
 generalize val a=A at *
 generalize val c=D at *
 have kc:=j9 (m1:=.plain) (m2:=.plain) (zx A) (zx D) (by omega) (by omega)
 rw[zJ,zJ] at kc
 have hl0:¬ (zh D).length=0:=by rw[List.length_eq_zero_iff,xj]; exact hD
 have hl0':¬ zh D=[]:=by rw[xj]; exact hD
 refine wW Dy (by simp) ?_
 simp[SS]
 refine za k1 (by simp[f1]) (by simp) ?_
 simp
 refine za k2 (by simp[f2]) (by simp) ?_
 simp[hl0]
 refine za kc (by simp) (by simp) ?_
 by_cases hlt:A<D
 ·have hc1:xk A D=-1:=by simp[xk,hlt]
  simp[hc1]
  have ka:=dF (m1:=.plain) (m2:=.plain) (a:=zh A) (b:=[]) (zx A) Kt (by omega) (by simp)
  rw[zJ] at ka
  refine za (eQ ka (AV.imp_nil (sz:=0) rfl)) (by simp) (by simp) ?_
  simp[qt,val]
  rw[aW,Nat.div_eq_of_lt hlt,Nat.mod_eq_of_lt hlt]
  exact LV qx AV.imp.refl AV.imp.refl
 ·have hc1:¬ xk A D<0:=by simp only[xk,if_neg hlt]; split<;>omega
  by_cases h1:(zh D).length=1
  ·have h1z:((zh D).length:Int)=1:=by omega
   have h10:0<(zh D).length:=by omega
   have hDB:D<B:=by
    have:=zE.1 (Nat.le_of_eq h1)
    simpa using this
   have hg:(zh D)[0]=D:=by rw[mF]; simp[Nat.mod_eq_of_lt hDB]
   have ks:=Gj (m:=.plain) (a:=zh A) (d:=D) (zx A) (by omega) (by omega) hDB rfl
   rw[zJ] at ks
   have hm:A%D<D:=Nat.mod_lt _ (by omega)
   generalize hq:A%D=r at *
   rw[z9] at hDB
   have kf:=nh (x:=r) (by omega)
   have u1:IntKind.u64.wrap (r:Int)=r:=w64 (by omega)
   simp[hc1,h1z,h10,hg]
   refine za ks (by simp) (by simp) ?_
   simp[u1]
   refine za kf (by simp) (by simp) ?_
   simp[qt]
   rw[aW,hq]
   exact AV.imp.refl
  ·have h1z:¬ ((zh D).length:Int)=1:=by omega
   simp[hc1,h1z]
   obtain ⟨n,hn⟩:∃ n,(zh D).length=n+2:=⟨(zh D).length-2,by omega⟩
   have hle:(zh D).length≤(zh A).length:=by
    rcases Nat.lt_or_ge (zh A).length (zh D).length with h2 | h2
    ·exact absurd (cm h2) hlt
    ·exact h2
   obtain ⟨m,hm⟩:∃ m,(zh A).length=n+2+m:=⟨(zh A).length-(n+2),by omega⟩
   exact hmain n m hn hm (by omega)
theorem N5 {m:Am.Mode} {a:List Nat} {bits:Nat} (ha:ok a) (hn:a.length<1099511627775) (hb:bits<32):ze Tryz.prog nI [nl m a,zU bits] (nl .plain (zt (a.length+1) (val a*2^bits))):=by
 refine wW Tf (by simp) ?_
 have w:IntKind.i64.wrap ((a.length:Int)+1)=(a.length:Int)+1:=wrap64 (by omega) (by omega)
 have e1:((a.length:Int)+1).toNat=a.length+1:=by omega
 simp[cV,w,eMk,e1]
 refine ⟨by omega,by omega,by omega,?_⟩
 refine zw (Xw a m [] [] 0 bits) (fun _=>True) a.length (by simp[Xw,KW,Rc]) trivial (fun i hi _=>?_) (fun _=>?_)
 ·have e:(i:Int)<a.length:=by omega
  have hpow:=eY hb
  have hak:=xv ha hi
  have hL:=RS (bits:=bits) (i:=i) ha
  have hLB:shL a bits i<B^(i+1):=by
   have:B^i*2^bits≤B^i*B:=Nat.mul_le_mul_left _ (by omega)
   rw[Nat.pow_succ]; omega
  have hc:shL a bits i/B^i<2^bits:=Nat.div_lt_of_lt_mul hL
  obtain ⟨o1,o2,o3,o4⟩:=C6 (c:=shL a bits i/B^i) (a:=a[i]) hb hc hak
  have hsucc:=KV (bits:=bits) hi
  have hL2:=RS (bits:=bits) (i:=i+1) ha
  have hLN:shL a bits (i+1)<B^(a.length+1):=by
   have h1:B^(i+1)*2^bits≤B^(i+1)*B:=Nat.mul_le_mul_left _ (by omega)
   have h3:B^(i+1+1)=B^(i+1)*B:=Nat.pow_succ _ _
   have h2:B^(i+1+1)≤B^(a.length+1):=Nat.pow_le_pow_right zX (by omega)
   omega
  have htB:(shL a bits i/B^i+a[i]*2^bits)/B<B:=by
   rw[← o3]
   apply Nat.div_lt_of_lt_mul
   exact Nat.mul_lt_mul_of_lt_of_lt hak hpow
  have hstep:=RT (N:=a.length+1) (i:=i) (t:=a[i]*2^bits) hLB (by omega) (by rw[← hsucc]; exact hLN) htB
  rw[← hsucc,← o2,← o3] at hstep
  have hlen:=zy (n:=a.length+1) (x:=shL a bits i)
  have hi1:i<(zt (a.length+1) (shL a bits i)).length:=by omega
  have hget:(zt (a.length+1) (shL a bits i))[i]=shL a bits i/B^i:=by
   rw[ut,Nat.mod_eq_of_lt (Nat.lt_trans hc hpow)]
  obtain ⟨c,hcE⟩:∃ c,shL a bits i/B^i=c:=⟨_,rfl⟩
  obtain ⟨t,htE⟩:∃ t,a[i]*2^bits=t:=⟨_,rfl⟩
  have htlt:t<B*B:=by rw[← htE]; exact Nat.mul_lt_mul_of_lt_of_lt hak hpow
  rw[hcE,htE] at o1 o4 hstep
  rw[hcE] at hget hc
  obtain ⟨x,hxE⟩:∃ x,t%B=x:=⟨_,rfl⟩
  obtain ⟨q,hqE⟩:∃ q,t/B=q:=⟨_,rfl⟩
  rw[hxE] at o1 o4 hstep
  rw[hqE] at hstep
  have hxB:x<B:=by rw[← hxE]; exact Nat.mod_lt _ zX
  have hqB:q<B:=by rw[← hqE]; exact Nat.div_lt_of_lt_mul htlt
  have hor:=abV (c:=c) (x:=x) (by omega) hxB (by rw[o1]; exact o4)
  rw[o1] at hor
  obtain ⟨y,hyE⟩:∃ y,c+x=y:=⟨_,rfl⟩
  rw[hyE] at hor hstep
  have hBB:B*B=18446744073709551616:=by decide
  rw[hBB] at htlt
  have f1:IntKind.u32.wrap (t:Int)=(x:Int):=by rw[w32,hxE]
  have f2:(t:Int).fdiv (2^min 32 IntKind.u64.bits)=(q:Int):=by rw[ZH,hqE]
  have f3:IntKind.u32.wrap (q:Int)=q:=IntWalk.u32_in _ (by rw[z9] at hqB; omega)
  have u1:IntKind.u64.wrap ((a[i]:Nat):Int)=(a[i]:Nat):=w64 (by rw[z9] at hak; omega)
  have hmin:min bits IntKind.u64.bits=bits:=by
   have:IntKind.u64.bits=64:=rfl
   omega
  have u2:IntKind.u64.wrap (((a[i]:Nat):Int)*2^bits)=(t:Int):=by
   rw[show ((a[i]:Nat):Int)*2^bits=((a[i]*2^bits:Nat):Int) by simp,htE]; exact w64 htlt
  have hset:((zD (zt (a.length+1) (shL a bits i))).set i [uv y]).set (i+1) [uv q]=zD (zt (a.length+1) (shL a bits (i+1))):=by
   rw[xH,xH,hstep]
  have wi:IntKind.i64.wrap ((i:Int)+1)=(i:Int)+1:=wrap64 (by omega) (by omega)
  have ei1:(i:Int)<a.length+1:=by omega
  have e2:((i:Int)+1).toNat=i+1:=by omega
  have e3:(0:Int)≤(i:Int)+1:=by omega
  have hi2:i+1<(zt (a.length+1) (shL a bits i)).length:=by omega
  have hnb:¬ ((bits:Int)<0):=by omega
  simp[rG,Xw,e,hi,hi1,hi2,ei1,e2,e3,hget,hor,u1,xY,wG,hmin,u2,f1,f2,f3,wi,splice,hset]
 ·have:zt (a.length+1) (shL a bits a.length)=zt (a.length+1) (val a*2^bits):=by rw[FW]
  have hlt:(zt (a.length+1) (val a*2^bits)).length=a.length+1:=zy
  have ht:List.take (a.length+1) (zD (zt (a.length+1) (val a*2^bits)))=zD (zt (a.length+1) (val a*2^bits)):=List.take_of_length_le (by rw[List.length_map,hlt]; exact Nat.le_refl _)
  simp[rG,Xw,jh,bq,this,hlt,ht]
  exact AV.imp.refl
theorem aey {t:Nat} (h0:0<t) (ht:t<B):∃ p,t*2^lz t=p∧2147483648≤p∧p<4294967296:=⟨_,rfl,(L9 h0 ht).1,(L9 h0 ht).2⟩
theorem aaH {A D n _m:Nat} {K:Exit→St→Prop} (hD:(zh D).length=n+2) (hn:n<549755813888)
  (hK:∀ q y,(q=53)→awp Tryz.prog sr {env:=[(0,nD A),(1,nD D),(9,zU (lz (D/B^(n+1)))),(q,y)],sto:=[]} K) :
  awp Tryz.prog (.loop qD) (Ut A D 0) (vi 0 (pS Tryz.prog sr K)):=by
 obtain ⟨_,_,ht0,htB⟩:True∧True∧0<D/B^(n+1)∧D/B^(n+1)<B:=⟨trivial,trivial,(cH (n:=n+1) hD).2.2⟩
 have hg:(zh D)[n+1]'(by omega)=D/B^(n+1):=by rw[mF,Nat.mod_eq_of_lt htB]
 have hlen:((zh D).length:Int)=(n:Int)+2:=by omega
 have w0:IntKind.i64.wrap ((n:Int)+2-1)=(n:Int)+1:=by rw[wrap64]<;>omega
 have e1:((n:Int)+1).toNat=n+1:=by omega
 have e2:(0:Int)≤(n:Int)+1:=by omega
 have e3:n+1<(zh D).length:=by omega
 generalize D/B^(n+1)=t at *
 refine zw (Ut A D) (fun _=>True) (lz t) (by simp[Ut]) trivial (fun k hk _=>?_) (fun _=>?_)
 ·have hs:=abm htB hk
  have h32:=MB (t:=t)
  obtain ⟨p,hp⟩:∃ p,t*2^k=p:=⟨_,rfl⟩
  rw[hp] at hs
  have hmin:min k IntKind.u32.bits=k:=by
   have:IntKind.u32.bits=32:=rfl
   omega
  have u1:IntKind.u32.wrap ((t:Int)*2^k)=(p:Int):=by
   rw[show (t:Int)*2^k=((t*2^k:Nat):Int) by simp,hp]; exact IntWalk.u32_in _ (by omega)
  have u2:IntKind.u64.wrap ((k:Int)+1)=(k:Int)+1:=vb (by omega) (by omega)
  have c1:(p:Int)<2147483648:=by omega
  have c2:¬ ((k:Int)<0):=by omega
  simp[qD,Ut,hlen,w0,e1,e2,e3,hg,xY,hmin,u1,u2,c1,c2]
 ·have h32:=MB (t:=t)
  obtain ⟨p,hp,h1,h2⟩:=aey ht0 htB
  have hk0:=hK _ (bv false) rfl
  clear hK
  generalize lz t=k at *
  have hmin:min k IntKind.u32.bits=k:=by
   have:IntKind.u32.bits=32:=rfl
   omega
  have u1:IntKind.u32.wrap ((t:Int)*2^k)=(p:Int):=by
   rw[show (t:Int)*2^k=((t*2^k:Nat):Int) by simp,hp]; exact IntWalk.u32_in _ (by omega)
  have c1:¬ (p:Int)<2147483648:=by omega
  have c3:¬ p<2147483648:=by omega
  have c2:¬ ((k:Int)<0):=by omega
  simp[qD,Ut,hlen,w0,e1,e2,e3,hg]
  rw[xY c2,Int.toNat_natCast,hmin,u1]
  generalize (p:Int)=z at *
  simp[c1]
  exact hk0
def nv (A D n m N X V k:Nat):St :=
 {env:=[(4,.sl 72 1 0 (m+1)),(9,zU N),(10,.sl 1011 1 0 (n+2+m+1)),(11,nD V),(12,iv ((n:Int)+2)),(13,iv m),(74,iv ((m:Int)+1)),(75,iv k)],
  sto:=[(72,.arr 1 (zD (uB (m+1) (A/D) k))),(1011,.arr 1 (zD (zt (n+2+m+1) (rst X V (m+1-k)))))]}
theorem ad8 {A D n m N X V:Nat} {K:Exit→St→Prop} (hA:(zh A).length=n+2+m) (hD:(zh D).length=n+2) (hn:n+m<274877906944) {y:AV} (h:Ml A D n m N X V)
  (hK:∀ s,bh s (nv A D n m N X V 0)→awp Tryz.prog (.loop qE) s (vi 2 (pS Tryz.prog so K))) :
  awp Tryz.prog sr {env:=[(0,nD A),(1,nD D),(9,zU N),(53,y)],sto:=[]} K:=by
 have hN32:=h.N32
 have kt:=xt (m:=.plain) (a:=zt (n+2+1) V) yM (by rw[zy]; omega)
 have hVlt:V<B^(n+2+1):=Nat.lt_trans h.Vlt (Nat.pow_lt_pow_right (by decide) (by omega))
 rw[yq hVlt] at kt
 have hVl:=h.Vlen
 have w1:IntKind.i64.wrap ((n:Int)+2+m-(n+2))=(m:Int):=by rw[wrap64]<;>omega
 have w2:IntKind.i64.wrap ((m:Int)+1)=(m:Int)+1:=by rw[wrap64]<;>omega
 have e1:((m:Int)+1).toNat=m+1:=by omega
 have e2:(zt (n+2+1) V).length=n+2+1:=zy
 have e3:(zD (zt (n+2+1) V)).length=n+2+1:=by rw[List.length_map,e2]
 simp[sr]
 refine ⟨rfl,?_⟩
 refine acy 1000 (zx A) (by omega) hN32 (by simp) ?_
 simp
 have ks:=N5 (m:=.plain) (bits:=N) (zx D) (by omega) hN32
 rw[zJ,← h.V_eq,hD] at ks
 refine za ks (by simp) (by simp) ?_
 simp
 refine za kt (by simp) (by simp) ?_
 simp[hVl,hA,hD,w1,w2,eMk,e1]
 refine ⟨by omega,by omega,by omega,?_⟩
 rw[zJ,← h.X_eq]
 have hz:rst X V (m+1)=X:=afj h.top
 refine hK _ ?_
 simp[nv,hz,Td,mN]
theorem aaI {A D n m N X V:Nat} {K:Exit→St→Prop} (hn:n+m<274877906944) (h:Ml A D n m N X V)
  (hK:∀ q y,q=76→awp Tryz.prog so {(nv A D n m N X V (m+1)) with env:=(nv A D n m N X V (m+1)).env++[(q,y)]} K) :
  ∀ s,bh s (nv A D n m N X V 0)→awp Tryz.prog (.loop qE) s (vi 2 (pS Tryz.prog so K)):=by
 intro s hs
 refine zw (nv A D n m N X V) (fun _=>True) (m+1) hs trivial (fun k hk _=>?_) (fun _=>?_)
 ·obtain ⟨j,hj⟩:∃ j,m-k=j:=⟨_,rfl⟩
  have hj1:m+1-k=j+1:=by omega
  have hj2:m+1-(k+1)=j:=by omega
  have hj3:m+1-1-k=j:=by omega
  have hlt:=RP (A:=X) (j:=j+1) h.Vlt h.Vpos
  obtain ⟨d1,d2,d3⟩:=B1 (A:=X) (j:=j) h.Vpos
  have hstep:=acp (A:=X) (V:=V) (j:=j) (L:=n+2+m+1) h.Vlt h.Vpos (by omega)
  have hval:=afk (A:=X) (V:=V) (j:=j) (n:=n+2) (L:=n+2+m+1) h.Vlt h.Vpos (by omega)
  have hset:=RY (n:=m+1) (D:=A/D) (i:=k) hk
  rw[hj3] at hset
  rw[h.q] at d1
  have hql:=RX (D:=A/D) (show k≤m+1 by omega)
  have hVl:=h.Vlen
  have e:(k:Int)<(m:Int)+1:=by omega
  have w1:IntKind.i64.wrap ((m:Int)-k)=(j:Int):=by rw[wrap64]<;>omega
  have w2:IntKind.i64.wrap ((j:Int)+(n+2))=(j:Int)+(n+2):=by rw[wrap64]<;>omega
  have w3:IntKind.i64.wrap ((j:Int)+(n+2)+1)=(j:Int)+(n+2)+1:=by rw[wrap64]<;>omega
  have w4:IntKind.i64.wrap ((k:Int)+1)=(k:Int)+1:=by rw[wrap64]<;>omega
  have w5:((j:Int)+(n+2)+1).toNat-j=n+3:=by omega
  have ok:az (zt (n+2+m+1) (rst X V (j+1))) (zh V) j n:=⟨yM,zx _,hVl,by rw[zy]; omega,by rw[zy]; omega⟩
  simp[qE,nv,e,w1,w2,w3,hj1,w5]
  refine ⟨by omega,by omega,rfl,?_⟩
  refine agB 3000 ok (by simp) h.vtop hval (by rw[zJ]; exact d3) ?_
  have w6:j<(uB (m+1) (A/D) k).length:=by omega
  have w7:(j:Int)<(m:Int)+1:=by omega
  simp only[zJ,d1,d2,hstep]
  generalize hd:A/D/B^j%B=d at *
  have hset':(zD (uB (m+1) (A/D) k)).set j [uv d]=zD (uB (m+1) (A/D) (k+1)):=by rw[xH,hset]
  simp[w6,w7,splice,hset',w4,hj2,nv]
 ·simp[qE,nv]
  have:=hK _ (bv false) rfl
  simp[nv] at this
  exact this
def Uu (Q R n m N Y k:Nat):St :=
 {env:=[(4,.sl 72 1 0 (m+1)),(5,.sl 99 1 0 (n+2)),(9,zU N),(10,.sl 1011 1 0 (n+2+m+1)),(100,iv ((n:Int)+2)),(101,iv k)],
  sto:=[(72,.arr 1 (zD (zt (m+1) Q))),(1011,.arr 1 (zD (zt (n+2+m+1) Y))),(99,.arr 1 (zD (vo (n+2) k R)))]}
theorem Cj {R N i:Nat} (hN:N<32):∃ a c d,R*2^N/B^i%B/2^N=a∧(R*2^N/B^(i+1)%B)*2^(32-N)%B=c∧R/B^i%B=d∧a ||| c=d∧a<B∧c<B∧d<B∧(N=0→a=d):=by
 obtain ⟨h1,h2⟩:=Ab (X:=R*2^N) (i:=i) hN
 have hP:0<2^N:=Nat.pow_pos (by omega)
 rw[Nat.mul_div_cancel _ hP] at h1
 refine ⟨_,_,_,rfl,rfl,rfl,by rw[h2,← h1],Nat.lt_of_le_of_lt (Nat.div_le_self _ _) (Nat.mod_lt _ zX),Nat.mod_lt _ zX,Nat.mod_lt _ zX,fun h0=>?_⟩
 subst h0
 rw[Nat.pow_zero,Nat.mul_one,Nat.div_one]
theorem ai8 {a c d:Nat} (ha:a<B) (hc:c<B) (h:a ||| c=d) (hd:d<B):sX .or .u32 (a:Int) (c:Int)=(d:Int):=by
 have:=abV (c:=a) (x:=c) ha hc (by rw[h]; exact hd)
 rw[h] at this
 exact this
theorem ad7 {A D n m N X V:Nat} (hn:n+m<274877906944) (hD:(zh D).length=n+2) (h:Ml A D n m N X V) :
  ∀ q y,q=76→awp Tryz.prog so {(nv A D n m N X V (m+1)) with env:=(nv A D n m N X V (m+1)).env++[(q,y)]} (ZB qt (aW A D)):=by
 intro q y hq
 subst hq
 have hN:=h.N32
 have hY:rst X V 0=A%D*2^N:=by rw[acq,h.r]
 have hDlt:D<B^(n+2):=zE.1 (Nat.le_of_eq hD)
 have hD0:0<D:=by
  rcases Nat.eq_zero_or_pos D with h0 | h0
  ·subst h0; simp[yz] at hD
  ·exact h0
 have hRlt:A%D<B^(n+2):=Nat.lt_trans (Nat.mod_lt _ hD0) hDlt
 have hQlt:A/D<B^(m+1):=by
  rw[← h.q]
  apply Nat.div_lt_of_lt_mul
  have h1:=Nat.lt_mul_div_succ X (uy (m+1))
  have h2:B^(m+1)*(X/B^(m+1)+1)≤B^(m+1)*V:=Nat.mul_le_mul_left _ h.top
  rw[Nat.mul_comm V]
  exact Nat.lt_of_lt_of_le h1 h2
 have w1:((n:Int)+2).toNat=n+2:=by omega
 have kq:=xt (m:=.plain) (a:=zt (m+1) (A/D)) yM (by rw[zy]; omega)
 have kr:=xt (m:=.plain) (a:=zt (n+2) (A%D)) yM (by rw[zy]; omega)
 rw[yq hQlt] at kq
 rw[yq hRlt] at kr
 have lp:∀ s,bh s (Uu (A/D) (A%D) n m N (A%D*2^N) 0)→awp Tryz.prog (.loop qF) s (vi 4 (pS Tryz.prog gB (ZB qt (aW A D)))):=by
  intro s hs
  refine zw (Uu (A/D) (A%D) n m N (A%D*2^N)) (fun _=>True) (n+2) hs trivial (fun i hi _=>?_) (fun _=>?_)
  ·obtain ⟨a,c,d,h1,h2,h3,h4,h5,h6,h7,h8⟩:=Cj (R:=A%D) (i:=i) hN
   have hL:=zy (n:=n+2+m+1) (x:=A%D*2^N)
   have i1:i<(zt (n+2+m+1) (A%D*2^N)).length:=by omega
   have i2:i+1<(zt (n+2+m+1) (A%D*2^N)).length:=by omega
   have g1:=ut i1
   have g2:=ut i2
   have hset:=ca (S:=A%D) hi
   rw[h3] at hset
   have hfl:=d8 (n:=n+2) (k:=i) (S:=A%D) (by omega)
   have i3:i<(vo (n+2) i (A%D)).length:=by omega
   have hor:=ai8 h5 h6 h4 h7
   have hmin:min N IntKind.u32.bits=N:=by
    have:IntKind.u32.bits=32:=rfl
    omega
   have hmin2:min (32-N) IntKind.u32.bits=32-N:=by
    have:IntKind.u32.bits=32:=rfl
    omega
   have i4:i+1<n+2+m+1:=by omega
   have s1:∀ y0 a:Nat,y0/2^N=a→(y0:Int).fdiv (2^N)=(a:Int):=fun y0 a h=>by
    rw[show (2:Int)^N=((2^N:Nat):Int) by simp,← Int.ofNat_fdiv,h]
   have s2:∀ y1 c:Nat,y1*2^(32-N)%B=c→IntKind.u32.wrap ((y1:Int)*2^(32-N))=(c:Int):=fun y1 c h=>by
    rw[show (y1:Int)*2^(32-N)=((y1*2^(32-N):Nat):Int) by simp,w32,h]
   have s1':=s1 _ _ h1
   have s2':=s2 _ _ h2
   clear s1 s2 h1 h2
   rw[← g1] at s1'
   rw[← g2] at s2'
   clear g1 g2
   generalize A%D*2^N=Y at *
   generalize A%D=R at *
   generalize hy0:(zt (n+2+m+1) Y)[i]=y0 at *
   generalize hy1:(zt (n+2+m+1) Y)[i+1]=y1 at *
   have hset':(zD (vo (n+2) i R)).set i [uv d]=zD (vo (n+2) (i+1) R):=by rw[xH,hset]
   have e:(i:Int)<(n:Int)+2:=by omega
   have e2:(i:Int)<(n:Int)+2+m+1:=by omega
   have e3:(i:Int)+1<(n:Int)+2+m+1:=by omega
   have e4:((i:Int)+1).toNat=i+1:=by omega
   have e5:(0:Int)≤(i:Int)+1:=by omega
   have w2:IntKind.i64.wrap ((i:Int)+1)=(i:Int)+1:=by rw[wrap64]<;>omega
   have w3:IntKind.u64.wrap ((32:Int)-N)=32-N:=vb (by omega) (by omega)
   have w4:((32:Int)-N).toNat=32-N:=by omega
   have w5:¬ ((32:Int)-N<0):=by omega
   rcases Nat.eq_zero_or_pos N with hN0 | hN0
   ·have ha:=h8 hN0
    have hN1:¬ 0<N:=by omega
    subst ha
    simp[qF,Uu,e,e2,hy0,i1,i3,wG,hmin,s1',hN1,splice,hset',w2]
   ·simp[qF,Uu,e,e2,e3,e4,e5,hy0,hy1,i1,i2,i3,wG,xY,hmin,hmin2,s1',s2',hN0,splice,hset',w2,w3,w4,w5,hor]
  ·have l1:∀ k z,k≤(zt k z).length:=fun k z=>Nat.le_of_eq zy.symm
   have l2:∀ k z,List.take k (zD (zt k z))=zD (zt k z):=fun k z=>List.take_of_length_le (by rw[List.length_map,zy]; exact Nat.le_refl _)
   simp[qF,Uu,YO,gB,qK,rR,l1,l2]
   refine za kq (by simp) (by simp) ?_
   simp
   refine za kr (by simp) (by simp) ?_
   simp[qt]
   exact AV.imp.refl
 simp[so,nv,RW,hY,eMk,w1]
 refine ⟨by omega,by omega,by omega,?_⟩
 refine lp _ ?_
 simp[Uu,ff,mN]
theorem eJ {m1 m2:Am.Mode} {a c:List Nat} (ha:ok a) (hc:ok c) (hna:a.length<137438953472) (hnc:c.length<137438953472) (f1:stm m1=m1) (f2:stm m2=m2) (hD:val c≠0) :
  ze Tryz.prog pX [nl m1 a,nl m2 c] (aW (val a) (val c)):=by
 refine Ck ha hc (by omega) (by omega) f1 f2 hD fun n m h1 h2 hle=>?_
 have hla:=wR ha
 have hn:n+m<274877906944:=by omega
 have h:=aid h2 h1
 exact aaH (_m:=m) h1 (by omega) fun q y hq=>by
  subst hq
  exact ad8 h2 h1 hn h (aaI hn h (ad7 hn h1 h))
def eu:Nat→Nat→Nat→Nat × Nat
 | a,b,0=>(a,b)
 | a,b,k+1=>eu b (a%b) k
theorem QG:∀ (k a b:Nat),eu a b (k+1)=((eu a b k).2,(eu a b k).1%(eu a b k).2)
 | 0,_,_=>rfl
 | k+1,a,b=>by rw[eu,QG k b (a%b)]; rfl
theorem Cv:∀ (b a:Nat),∃ N,(∀ k,k<N→(eu a b k).2≠0)∧eu a b N=(Nat.gcd a b,0):=by
 intro b
 induction b using Nat.strongRecOn with
 | ind b ih =>
  intro a
  rcases Nat.eq_zero_or_pos b with h | h
  ·subst h
   exact ⟨0,fun k hk=>absurd hk (Nat.not_lt_zero _),by rw[eu,Nat.gcd_zero_right]⟩
  ·obtain ⟨N,h1,h2⟩:=ih (a%b) (Nat.mod_lt _ h) b
   refine ⟨N+1,fun k hk=>?_,?_⟩
   ·match k with
    | 0=>exact Nat.ne_of_gt h
    | k+1=>exact h1 k (by omega)
   ·rw[eu,h2,Nat.gcd_comm b,← Nat.gcd_rec,Nat.gcd_comm]
theorem Eu {M:Nat}:∀ (k a b:Nat),a<M→b<M→(eu a b k).1<M∧(eu a b k).2<M
 | 0,_,_,h1,h2=>⟨h1,h2⟩
 | k+1,a,b,h1,h2=>Eu k b (a%b) h2 (Nat.lt_of_le_of_lt (Nat.mod_le _ _) h1)
def stG (p:Nat × Nat):St:={env:=[(0,nD p.1),(1,nD p.2)],sto:=[]}
theorem Na {m1 m2:Am.Mode} {a c:List Nat} (ha:ok a) (hc:ok c) (hna:a.length<137438953472) (hnc:c.length<137438953472) (f1:stm m1=m1) (f2:stm m2=m2) :
  ze Tryz.prog XS [nl m1 a,nl m2 c] (nD (Nat.gcd (val a) (val c))):=by
 have k1:=dF (m1:=m1) (m2:=.plain) (b:=[]) ha Kt (by omega) (by simp)
 have k2:=dF (m1:=m2) (m2:=.plain) (b:=[]) hc Kt (by omega) (by simp)
 obtain ⟨N,h1,h2⟩:=Cv (val c) (val a)
 obtain ⟨L,hL⟩:∃ L,L=137438953471:=⟨_,rfl⟩
 have hL1:val a<B^L:=yS ha (by omega)
 have hL2:val c<B^L:=yS hc (by omega)
 have hb:=fun k=>Eu k (val a) (val c) hL1 hL2
 generalize hM:B^L=M at *
 have hlen:∀ x,x<M→(zh x).length<137438953472:=fun x hx=>by
  rw[← hM] at hx
  exact Nat.lt_of_le_of_lt (zE.2 hx) (by omega)
 clear hM
 have v0:val []=0:=rfl
 rw[v0,Nat.add_zero] at k1 k2
 generalize val a=A at *
 generalize val c=D at *
 refine zn afM (by simp) ?_
 simp[GH]
 refine za (eQ k1 (AV.imp_nil (sz:=0) rfl)) (by simp[f1]) (by simp) ?_
 simp
 refine za (eQ k2 (AV.imp_nil (sz:=0) rfl)) (by simp[f2]) (by simp) ?_
 simp
 refine zw (fun k=>stG (eu A D k)) (fun _=>True) N (by simp[stG,eu]) trivial (fun k hk _=>?_) (fun _=>?_)
 ·have hne:=h1 k hk
  obtain ⟨b1,b2⟩:=hb k
  have b1':=hlen _ b1
  have b2':=hlen _ b2
  have hs:=QG k A D
  obtain ⟨x,hx⟩:∃ x,(eu A D k).1=x:=⟨_,rfl⟩
  obtain ⟨y,hy⟩:∃ y,(eu A D k).2=y:=⟨_,rfl⟩
  rw[hx,hy] at hs
  rw[hx] at b1'
  rw[hy] at b2' hne
  have kd:=eJ (m1:=.plain) (m2:=.plain) (zx x) (zx y) b1' b2' rfl rfl (by rw[zJ]; exact hne)
  rw[zJ,zJ] at kd
  have hl0:0<(zh y).length:=by
   rcases Nat.eq_zero_or_pos (zh y).length with h | h
   ·rw[List.length_eq_zero_iff,xj] at h; exact absurd h hne
   ·exact h
  simp[aK,stG,hl0,hx,hy]
  refine za kd (by simp) (by simp) ?_
  simp[hs]
 ·simp only[h2]
  simp[aK,SU,FJ,stG,yz]
def ws (neg:Bool) (N D:Nat):AV:=.agg [bv (neg&&decide (N≠0)),nD (N/Nat.gcd N D),nD (D/Nat.gcd N D)]
theorem LO {N D:Nat} (hD:D≠0):Nat.gcd N D≠0∧(N/Nat.gcd N D=0↔N=0)∧Nat.gcd N D≤D:=by
 have hg:0<Nat.gcd N D:=Nat.gcd_pos_of_pos_right _ (by omega)
 refine ⟨by omega,?_,Nat.gcd_le_right _ (by omega)⟩
 constructor
 ·intro h
  have:=Nat.div_mul_cancel (Nat.gcd_dvd_left N D)
  rw[h,Nat.zero_mul] at this
  exact this.symm
 ·intro h
  rw[h,Nat.zero_div]
theorem EG {neg:Bool} {N D:Nat} (hN:(zh N).length<68719476736) (hD:(zh D).length<68719476736) (h0:D≠0) :
  ze Tryz.prog Tj [bv neg,nD N,nD D] (.tuple [ws neg N D,iv 0]):=by
 obtain ⟨g0,g1,g2⟩:=LO (N:=N) h0
 have kg:=Na (m1:=.plain) (m2:=.plain) (zx N) (zx D) (by omega) (by omega) rfl rfl
 rw[zJ,zJ] at kg
 have hgl:(zh (Nat.gcd N D)).length<68719476736:=by
  have h1:D<B^(zh D).length:=zE.1 (Nat.le_refl _)
  exact Nat.lt_of_le_of_lt (zE.2 (Nat.lt_of_le_of_lt g2 h1)) hD
 have hl0:¬ (zh D).length=0:=by rw[List.length_eq_zero_iff,xj]; exact h0
 have hl1:¬ zh D=[]:=by rw[xj]; exact h0
 unfold ws
 have hz:(zh (N/Nat.gcd N D)).length=0↔N=0:=by rw[List.length_eq_zero_iff,xj]; exact g1
 generalize Nat.gcd N D=g at *
 have kn:=eJ (m1:=.plain) (m2:=.plain) (zx N) (zx g) (by omega) (by omega) rfl rfl (by rw[zJ]; exact g0)
 have kd:=eJ (m1:=.plain) (m2:=.plain) (zx D) (zx g) (by omega) (by omega) rfl rfl (by rw[zJ]; exact g0)
 simp only[zJ] at kn kd
 refine zn ac3 (by simp) ?_
 simp[MY,hl0]
 refine za kg (by simp) (by simp) ?_
 simp
 refine za kn (by simp) (by simp) ?_
 simp
 refine za kd (by simp) (by simp) ?_
 cases neg
 ·simp[Zx]
 ·by_cases hN0:N=0
  ·have:=hz.2 hN0
   simp[Zx,hN0,yz]
  ·have:0<(zh (N/g)).length:=by omega
   simp[Zx,this,hN0]
theorem nj {neg:Bool} {N D:Nat} (hN:(zh N).length<68719476736) (hD:(zh D).length<68719476736) (h0:D≠0) :
  ze Tryz.prog pn [bv neg,nD N,nD D] (ws neg N D):=by
 have k:=EG (neg:=neg) hN hD h0
 unfold ws at *
 generalize N/Nat.gcd N D=n at *
 generalize D/Nat.gcd N D=d at *
 refine zn ac5 (by simp) ?_
 simp[MZ]
 refine za k (by simp) (by simp) ?_
 simp[KD]
theorem Kh {P:Program} {k:IntKind} {a:Int}:zr P (Op.unary .neg (Value.int k a))=some (Value.int k (k.wrap (-a))):=by
 simp[zr,Op.unary,Op.intArith,pure]
theorem aeQ {k:IntKind} {a:Int}:ofV (Value.int k a)=.val (.int k a):=rfl
theorem gZ {x:Nat} (h:x<18446744073709551616):(zh x).length≤2:=zE.2 (by
 have:B^2=18446744073709551616:=by decide
 omega)
theorem N6 {n:Int} (h1:-9223372036854775808≤n) (h2:n<9223372036854775808):ze Tryz.prog Tk [iv n] (nD n.natAbs):=by
 obtain ⟨x,hx⟩:∃ x,n.natAbs=x:=⟨_,rfl⟩
 have hxl:x<18446744073709551616:=by omega
 have k:=nh (x:=x) hxl
 rw[hx]
 refine zn ac6 (by simp) ?_
 by_cases h:n<0
 ·have w1:IntKind.i64.wrap (n+1)=n+1:=by rw[wrap64]<;>omega
  have w2:IntKind.i64.wrap (-(n+1))=(x:Int)-1:=by rw[wrap64]<;>omega
  have w2':IntKind.i64.wrap (-1+-n)=(x:Int)-1:=by rw[wrap64]<;>omega
  have w3:IntKind.u64.wrap ((x:Int)-1)=(x:Int)-1:=by rw[vb]<;>omega
  have w4:IntKind.u64.wrap (x:Int)=x:=w64 hxl
  simp[Tq,h,w1,Kh,w2,w3,w4]
  refine za k (by simp) (by simp) ?_
  simp[T4]
 ·have w4:IntKind.u64.wrap n=(x:Int):=by rw[vb]<;>omega
  simp[Tq,h,w4]
  refine za k (by simp) (by simp) ?_
  simp[T4]
theorem N0 {n:Int} (h1:-9223372036854775808≤n) (h2:n<9223372036854775808):ze Tryz.prog vc [iv n] (ws (decide (n<0)) n.natAbs 1):=by
 have k1:=N6 h1 h2
 have k2:=nh (x:=1) (by omega)
 have l1:=gZ (x:=n.natAbs) (by omega)
 have l2:=gZ (x:=1) (by omega)
 have k3:=nj (neg:=decide (n<0)) (N:=n.natAbs) (D:=1) (by omega) (by omega) (by omega)
 unfold ws at *
 generalize n.natAbs/Nat.gcd n.natAbs 1=p at *
 generalize 1/Nat.gcd n.natAbs 1=q at *
 refine zn Gn (by simp) ?_
 simp[UM]
 refine za k1 (by simp) (by simp) ?_
 simp
 refine za k2 (by simp) (by simp) ?_
 simp
 refine za k3 (by simp) (by simp) ?_
 simp[U8]
abbrev frA (s:Bool) (N D:Nat):AV:=.agg [bv s,nD N,nD D]
abbrev y4 (q:Rat):AV:=frA (decide (q.num<0)) q.num.natAbs q.den
def sg (s:Bool) (N:Nat):Int:=if s then -(N:Int) else N
theorem lu {s:Bool} {N D:Nat} (h:D≠0):ws s N D=y4 (mkRat (sg s N) D):=by
 have hab:(sg s N).natAbs=N:=by unfold sg; split<;>omega
 have hm:mkRat (sg s N) D=Rat.normalize (sg s N) D h:=by simp[mkRat,h]
 rw[hm,Rat.normalize_eq]
 unfold ws y4
 simp only[hab]
 have hg:0<Nat.gcd N D:=Nat.gcd_pos_of_pos_right _ (by omega)
 obtain ⟨c,hc⟩:=Nat.gcd_dvd_left N D
 generalize Nat.gcd N D=g at *
 subst hc
 have e1:(sg s (g*c))/(g:Int)=sg s c:=by
  unfold sg
  split
  ·rw[show -((g*c:Nat):Int)=(g:Int)*(-(c:Int)) by rw[Int.natCast_mul,Int.mul_neg]]
   exact Int.mul_ediv_cancel_left _ (by omega)
  ·rw[Int.natCast_mul]
   exact Int.mul_ediv_cancel_left _ (by omega)
 have e2:g*c/g=c:=Nat.mul_div_cancel_left _ hg
 rw[e1,e2]
 have e3:(sg s c).natAbs=c:=by unfold sg; split<;>omega
 have e4:(s&&decide (g*c≠0))=decide (sg s c<0):=by
  have hg0:¬ g=0:=by omega
  unfold sg
  rcases Nat.eq_zero_or_pos c with h0 | h0
  ·subst h0; cases s<;>simp
  ·have hc0:¬ c=0:=by omega
   have hcl:0<c:=h0
   have hng:¬ (c:Int)<0:=by omega
   have hneg:-(c:Int)<0:=by omega
   have hgc:¬ g*c=0:=Nat.mul_ne_zero hg0 hc0
   cases s<;>simp[hng,hgc,hcl]
 rw[e3,e4]
theorem dk (n:Int):sg (decide (n<0)) n.natAbs=n:=by
 unfold sg
 by_cases h:n<0
 ·simp[h]; omega
 ·simp[h]; omega
theorem Ff (n:Int):ws (decide (n<0)) n.natAbs 1=y4 (n:Rat):=by
 rw[lu (by decide),dk]
 congr 1
 rw[← Rat.mkRat_self (n:Rat)]; rfl
theorem LG {n:Int} (h1:-9223372036854775808≤n) (h2:n<9223372036854775808):ze Tryz.prog vc [iv n] (y4 n):=by
 rw[← Ff]; exact N0 h1 h2
theorem n9 (x:AV):∃ y:AV,y=x:=⟨_,rfl⟩
noncomputable def f0 (q:Rat):AV:=Classical.choose (n9 (bv (decide (q.num<0))))
noncomputable def f1 (q:Rat):AV:=Classical.choose (n9 (nD q.num.natAbs))
noncomputable def f2 (q:Rat):AV:=Classical.choose (n9 (nD q.den))
theorem fa (q:Rat):f0 q=bv (decide (q.num<0)):=Classical.choose_spec (n9 _)
theorem fb (q:Rat):f1 q=nD q.num.natAbs:=Classical.choose_spec (n9 _)
theorem fc (q:Rat):f2 q=nD q.den:=Classical.choose_spec (n9 _)
noncomputable def fr (q:Rat):List AV:=[f0 q,f1 q,f2 q]
@[simp] theorem X6 (q:Rat):[f0 q,f1 q,f2 q]=fr q:=rfl
theorem kw (q:Rat):fr q=[bv (decide (q.num<0)),nD q.num.natAbs,nD q.den]:=by unfold fr; rw[fa,fb,fc]
noncomputable abbrev fq (q:Rat):AV:=.agg (fr q)
theorem su (q:Rat):y4 q=fq q:=by unfold fq; rw[kw]
abbrev zz:List AV:=[.val (.bool false),.list 0 .full [],.list 0 .full []]
@[simp] theorem alZ (q:Rat):rf (f0 q)=true:=by rw[fa]; rfl
@[simp] theorem aki (q:Rat):strip (f0 q)=f0 q:=by rw[fa]; rfl
@[simp] theorem alY (q:Rat) (l:Nat):dg l (f0 q)=f0 q:=by rw[fa]; simp
@[simp] theorem ali (q:Rat) (l:Nat) (e:zf):frz l e (f0 q)=f0 q:=by rw[fa]; rfl
@[simp] theorem alj (q:Rat) (M:Nat):Am.low M (f0 q)=true:=by rw[fa]; rfl
@[simp] theorem akQ (q:Rat) (k:Nat):zP k (f0 q)=false:=by rw[fa]; rfl
@[simp] theorem alk (q:Rat) (k:Nat):mP k (f0 q)=false:=by rw[fa]; rfl
@[simp] theorem al1 (q:Rat):rf (f1 q)=true:=by rw[fb]; rfl
@[simp] theorem akj (q:Rat):strip (f1 q)=f1 q:=by rw[fb]; rfl
@[simp] theorem al0 (q:Rat) (l:Nat):dg l (f1 q)=f1 q:=by rw[fb]; simp
@[simp] theorem alm (q:Rat) (l:Nat) (e:zf):frz l e (f1 q)=f1 q:=by rw[fb]; rfl
@[simp] theorem aln (q:Rat) (M:Nat):Am.low M (f1 q)=true:=by rw[fb]; rfl
@[simp] theorem akR (q:Rat) (k:Nat):zP k (f1 q)=false:=by rw[fb]; rfl
@[simp] theorem alo (q:Rat) (k:Nat):mP k (f1 q)=false:=by rw[fb]; rfl
@[simp] theorem al3 (q:Rat):rf (f2 q)=true:=by rw[fc]; rfl
@[simp] theorem akk (q:Rat):strip (f2 q)=f2 q:=by rw[fc]; rfl
@[simp] theorem al2 (q:Rat) (l:Nat):dg l (f2 q)=f2 q:=by rw[fc]; simp
@[simp] theorem alp (q:Rat) (l:Nat) (e:zf):frz l e (f2 q)=f2 q:=by rw[fc]; rfl
@[simp] theorem alq (q:Rat) (M:Nat):Am.low M (f2 q)=true:=by rw[fc]; rfl
@[simp] theorem akS (q:Rat) (k:Nat):zP k (f2 q)=false:=by rw[fc]; rfl
@[simp] theorem alr (q:Rat) (k:Nat):mP k (f2 q)=false:=by rw[fc]; rfl
@[simp] theorem agO {q:Rat}:(fr q).length=3:=by simp[kw]
@[simp] theorem Ex {q:Rat}:(fr q).all rf=true:=by rw[kw]; simp
@[simp] theorem TE {q:Rat}:(fr q).map strip=fr q:=by rw[kw]; simp
@[simp] theorem aih {q:Rat} {l:Nat}:(fr q).map (dg l)=fr q:=by rw[kw]; simp
@[simp] theorem agN {q:Rat} {l:Nat} {e:zf}:(fr q).map (frz l e)=fr q:=by rw[kw]; rfl
@[simp] theorem agP {q:Rat} {M:Nat}:(fr q).all (Am.low M)=true:=by rw[kw]; rfl
@[simp] theorem agQ {q:Rat} {k:Nat}:wy k (fr q)=false:=by rw[kw]; simp
@[simp] theorem alx {q:Rat} {k:Nat}:(fr q).any (mP k)=false:=by rw[kw]; rfl
@[simp] theorem ajK {q:Rat}:zH (fr q) 0 (some 3)=some (fq q):=by
 rw[sM agO Ex,TE]
@[simp] theorem ajZ {q:Rat} {a b c:AV}:splice [a,b,c] 0 (fr q)=fr q:=by rw[kw]; simp[splice]
@[simp] theorem ajp {p q:Rat}:splice (fr p) 0 (fr q)=fr q:=by simp[splice]
@[simp] theorem ajq {q:Rat} {a b c d e x y z g h:AV}:splice [a,b,c,d,e,x,y,z,g,h] 5 (fr q)=[a,b,c,d,e,f0 q,f1 q,f2 q,g,h]:=by unfold fr; simp[splice,-X6]
@[simp] theorem akV {q:Rat}:(fr q).drop 3=[]:=by rw[kw]; rfl
theorem lw {n:Int} (h1:-9223372036854775808≤n) (h2:n<9223372036854775808):ze Tryz.prog vc [iv n] (fq n):=by rw[← su]; exact LG h1 h2
def R8 (x y:Nat) (k:Nat):St :=
 {env:=[(0,nD x),(1,nD y),(6,.sl 20 1 0 (zh x).length),(7,zU (bor x y k)),(22,iv (zh x).length),(23,iv k)],sto:=[(20,.arr 1 (zD (vo (zh x).length k (x-y))))]}
theorem NR {m1 m2:Am.Mode} {a b:List Nat} (ha:ok a) (hb:ok b) (hna:a.length<1099511627776) (hnb:b.length<1099511627776) :
  ze Tryz.prog XT [nl m1 a,nl m2 b] (if val a<val b then .tuple [.list 0 .full [],bv false] else .tuple [nD (val a-val b),bv true]):=by
 refine wW afO (by simp) ?_
 simp[GJ]
 refine za (xt (m:=stm m1) ha hna) (by simp[nw]) (by simp) ?_
 simp
 refine za (xt (m:=stm m2) hb hnb) (by simp[nw]) (by simp) ?_
 simp
 have lx:=wR ha
 have ly:=wR hb
 have key:=j9 (m1:=.plain) (m2:=.plain) (zx (val a)) (zx (val b)) (by omega) (by omega)
 rw[zJ,zJ] at key
 refine za key (by simp) (by simp) ?_
 generalize val a=x at *
 generalize val b=y at *
 by_cases hlt:x<y
 ·simp[xk,hlt,Q5]
  exact AV.imp.refl
 ·have hle:y≤x:=by omega
  have hly:(zh y).length≤(zh x).length:=by
   apply Nat.le_of_not_lt
   intro h
   have:=cm h
   omega
  have hS:x-y<B^(zh x).length:=by
   have:=zE.1 (Nat.le_refl (zh x).length)
   omega
  have hc:¬ xk x y<0:=by
   simp only[xk,hlt,if_false]
   split<;>omega
  simp[hc,hlt,eMk]
  refine ⟨by omega,by omega,?_⟩
  refine zw (R8 x y) (fun _=>True) (zh x).length (by simp[R8,aH,ff]) trivial (fun k hk _=>?_) (fun _=>?_)
  ·have e:(k:Int)<(zh x).length:=by omega
   have hak:=xv (zx x) hk
   have hb1:=SH (x:=x) (y:=y) (k:=k)
   have hfl:=d8 (n:=(zh x).length) (k:=k) (S:=x-y) (by omega)
   have hfk:k<(vo (zh x).length k (x-y)).length:=by omega
   have hset:=ca (n:=(zh x).length) (k:=k) (S:=x-y) (by omega)
   have hsd:=cG (k:=k) hle
   have hbs:=aG (x:=x) (y:=y) (k:=k)
   rw[← mF hk] at hsd hbs
   obtain ⟨d,hd⟩:∃ d,(x-y)/B^k%B=d:=⟨_,rfl⟩
   rw[hd] at hset hsd
   have hset':(zD (vo (zh x).length k (x-y))).set k [uv d]=zD (vo (zh x).length (k+1) (x-y)):=by rw[xH,hset]
   have e1:IntKind.u64.wrap (((zh x)[k]:Nat):Int)=((zh x)[k]:Nat):=w64 (by rw[z9] at hak; omega)
   rw[z9] at hak
   by_cases hkb:k<(zh y).length
   ·have e2:(k:Int)<(zh y).length:=by omega
    have hbk:=xv (zx y) hkb
    rw[z9] at hbk
    rw[← mF hkb] at hsd hbs
    have e3:IntKind.u64.wrap (((zh y)[k]:Nat):Int)=((zh y)[k]:Nat):=w64 (by omega)
    have e5:=adm (((zh x)[k]:Nat)-(bor x y k:Nat):Int) ((zh y)[k]:Nat)
    have e6:=MI (((zh x)[k]:Nat)-(bor x y k:Nat)-((zh y)[k]:Nat):Int)
    have e7:=MF (u:=(((zh x)[k]:Nat)-(bor x y k:Nat)-((zh y)[k]:Nat):Int)) (by omega) (by omega)
    have e8:(((zh x)[k]:Nat)-(bor x y k:Nat)-((zh y)[k]:Nat):Int)%4294967296=(d:Int):=by omega
    rw[e8] at e6
    have e9:(if (((zh x)[k]:Nat)-(bor x y k:Nat)-((zh y)[k]:Nat):Int)<0 then (1:Int) else 0)=(bor x y (k+1):Int):=by
     rw[hbs]
     split<;>split<;>omega
    rw[e9] at e7
    simp[gW,R8,e,e2,hk,hkb,e1,e3,e5,e6,e7,wG,hfk,splice,hset',zm (show k<4611686018427387904 by omega)]
   ·have e2:¬ (k:Int)<(zh y).length:=by omega
    have hy0:y/B^k%B=0:=by rw[← CO,List.getElem?_eq_none (by omega)]; rfl
    rw[hy0] at hsd hbs
    have e6:=MI (((zh x)[k]:Nat)-(bor x y k:Nat):Int)
    have e7:=MF (u:=(((zh x)[k]:Nat)-(bor x y k:Nat):Int)) (by omega) (by omega)
    have e8:(((zh x)[k]:Nat)-(bor x y k:Nat):Int)%4294967296=(d:Int):=by omega
    rw[e8] at e6
    have e9:(if (((zh x)[k]:Nat)-(bor x y k:Nat):Int)<0 then (1:Int) else 0)=(bor x y (k+1):Int):=by
     rw[hbs]
     split<;>split<;>omega
    rw[e9] at e7
    simp[gW,R8,e,e2,hk,e1,e6,e7,wG,hfk,splice,hset',zm (show k<4611686018427387904 by omega)]
  ·have htk:(zD (zt (zh x).length (x-y))).take (zh x).length=zD (zt (zh x).length (x-y)):=List.take_of_length_le (by rw[List.length_map,zy]; exact Nat.le_refl _)
   have hle2:(zh x).length≤(zt (zh x).length (x-y)).length:=by rw[zy]; exact Nat.le_refl _
   have key:=xt (m:=.plain) (a:=zt (zh x).length (x-y)) yM (by rw[zy]; omega)
   rw[yq hS] at key
   simp[gW,R8,YO,SY,qK,rR,htk,hle2]
   refine za key (by simp) (by simp) ?_
   simp[Q5]
   exact AV.imp.refl
def R3 (m1 m2:Am.Mode) (a b:List Nat) (i k:Nat):St :=
 {env:=[(0,nl m1 a),(1,nl m2 b),(5,.sl 15 1 0 (a.length+b.length)),(17,iv a.length),(18,iv i),(6,iv i),(7,zU (wH a b i k).2),(22,iv b.length),(23,iv k)],sto:=[(15,.arr 1 (zD (wH a b i k).1))]}
def Xt (m1 m2:Am.Mode) (a b:List Nat) (i:Nat):St :=
 {env:=[(0,nl m1 a),(1,nl m2 b),(5,.sl 15 1 0 (a.length+b.length)),(17,iv a.length),(18,iv i)],sto:=[(15,.arr 1 (zD (qU a b i)))]}
theorem ge {m1 m2:Am.Mode} {a b:List Nat} (ha:ok a) (hb:ok b) (hna:a.length<1099511627776) (hnb:b.length<1099511627776) (hs:a.length+b.length<1099511627776) (f1:stm m1=m1) (f2:stm m2=m2) :
  ze Tryz.prog je [nl m1 a,nl m2 b] (nD (val a*val b)):=by
 refine wW afN (by simp) ?_
 have w:IntKind.i64.wrap ((a.length:Int)+b.length)=(a.length:Int)+b.length:=wrap64 (by omega) (by omega)
 have e1:((a.length:Int)+b.length).toNat=a.length+b.length:=by omega
 simp[GI,w,eMk,e1]
 refine ⟨by omega,by omega,by omega,?_⟩
 refine zw (Xt m1 m2 a b) (fun _=>True) a.length (by simp[Xt,qU]) trivial (fun i hi _=>?_) (fun _=>?_)
 ·have hO:=Y1 ha hb i (by omega)
  have ei:(i:Int)<a.length:=by omega
  simp[aM,Xt,ei]
  refine zw (R3 m1 m2 a b i) (fun _=>True) b.length (by simp[R3,Bd]) trivial (fun k hk _=>?_) (fun _=>?_)
  ·have hI:=cq ha hb hi hO k (by omega)
   have ek:(k:Int)<b.length:=by omega
   have hst:=Nm (a:=a) (b:=b) (i:=i) (k:=k)
   have hlen:=hI.len
   have hik:i+k<(wH a b i k).1.length:=by omega
   have eik:((i:Int)+k)<(wH a b i k).1.length:=by omega
   have wik:IntKind.i64.wrap ((i:Int)+k)=((i+k:Nat):Int):=by rw[wrap64]<;>omega
   have hbd:=co (tH ha i) (tH hb k) (tH hI.ok (i+k)) hI.lt
   have g1:=xv ha hi
   have g2:=xv hb hk
   have g3:=xv hI.ok hik
   have g4:=hI.lt
   simp only[jx] at hst
   have q1:a.getD i 0=a[i]:=by simp[hi]
   have q2:b.getD k 0=b[k]:=by simp[hk]
   have q3:(wH a b i k).1.getD (i+k) 0=(wH a b i k).1[i+k]:=by simp[hik]
   rw[q1,q2,q3] at hst hbd
   obtain ⟨t,ht⟩:∃ t,a[i]*b[k]+(wH a b i k).1[i+k]+(wH a b i k).2=t:=⟨_,rfl⟩
   obtain ⟨p,hp⟩:∃ p,a[i]*b[k]=p:=⟨_,rfl⟩
   rw[ht] at hst hbd
   rw[hp] at ht
   obtain ⟨d,hd⟩:∃ d,t%B=d:=⟨_,rfl⟩
   obtain ⟨q,hq⟩:∃ q,t/B=q:=⟨_,rfl⟩
   rw[hd,hq] at hst
   have f1:IntKind.u32.wrap (t:Int)=(d:Int):=by rw[w32,hd]
   have f2:(t:Int).fdiv (2^min 32 IntKind.u64.bits)=(q:Int):=by rw[ZH,hq]
   have hBB:B*B=18446744073709551616:=by decide
   rw[hBB] at hbd
   rw[z9] at g1 g2 g3 g4
   have u1:IntKind.u64.wrap ((a[i]:Nat):Int)=(a[i]:Nat):=w64 (by omega)
   have u2:IntKind.u64.wrap ((b[k]:Nat):Int)=(b[k]:Nat):=w64 (by omega)
   have u3:IntKind.u64.wrap (((wH a b i k).1[i+k]:Nat):Int)=((wH a b i k).1[i+k]:Nat):=w64 (by omega)
   have u4:IntKind.u64.wrap ((a[i]:Int)*(b[k]:Int))=(p:Int):=by
    rw[show (a[i]:Int)*(b[k]:Int)=((a[i]*b[k]:Nat):Int) by simp,hp]; exact w64 (by omega)
   have u5:IntKind.u64.wrap ((p:Int)+((wH a b i k).1[i+k]:Nat))=(p:Int)+((wH a b i k).1[i+k]:Nat):=by rw[vb]<;>omega
   have u6:IntKind.u64.wrap ((p:Int)+((wH a b i k).1[i+k]:Nat)+((wH a b i k).2:Nat))=(t:Int):=by rw[vb]<;>omega
   have hset:(zD (wH a b i k).1).set (i+k) [uv d]=zD (wH a b i (k+1)).1:=by rw[xH,hst]
   have hq2:(wH a b i (k+1)).2=q:=by rw[hst]
   have en:((i:Int)+k).toNat=i+k:=by omega
   have e0:(0:Int)≤(i:Int)+k:=by omega
   have elt:(i:Int)+k<(a.length:Int)+b.length:=by omega
   simp only[Int.natCast_add] at wik
   simp[aL,R3,ek,hi,hk,ei,wik,en,e0,elt,hik,u1,u2,u3,u4,u5,u6,wG,splice,f1,f2,hset,hq2,zm (show k<4611686018427387904 by omega)]
  ·have hI:=cq ha hb hi hO b.length (Nat.le_refl _)
   have hlen:=hI.len
   have hik:i+b.length<(wH a b i b.length).1.length:=by omega
   have wik:IntKind.i64.wrap ((i:Int)+b.length)=(i:Int)+b.length:=by rw[wrap64]<;>omega
   have en:((i:Int)+b.length).toNat=i+b.length:=by omega
   have e0:(0:Int)≤(i:Int)+b.length:=by omega
   have hset:(zD (wH a b i b.length).1).set (i+b.length) [uv (wH a b i b.length).2]=zD (qU a b (i+1)):=by rw[Nn]; exact xH
   have g4:=hI.lt
   rw[z9] at g4
   have f1:IntKind.u32.wrap ((wH a b i b.length).2:Int)=((wH a b i b.length).2:Int):=IntWalk.u32_in _ (by omega)
   simp[aL,R3,Xt,SV,SW,wik,en,e0,hik,f1,splice,hset,ei,zm (show i<4611686018427387904 by omega)]
 ·obtain ⟨h1,h2,h3⟩:=aeE ha hb
  have htk:(zD (qU a b a.length)).take (a.length+b.length)=zD (qU a b a.length):=List.take_of_length_le (by rw[List.length_map,h2]; exact Nat.le_refl _)
  have hle2:a.length+b.length≤(qU a b a.length).length:=by rw[h2]; exact Nat.le_refl _
  have key:=xt (m:=.plain) h1 (by rw[h2]; omega)
  rw[h3] at key
  simp[aM,Xt,SX,qK,TF f1,TF f2,rR,htk,hle2]
  refine za key (by simp) (by simp) ?_
  simp[FL]
  exact AV.imp.refl
end Go.Proofs.YtpnliopaifpimaaGreat
