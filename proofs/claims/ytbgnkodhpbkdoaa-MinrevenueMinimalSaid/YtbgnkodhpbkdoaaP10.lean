/- What the proof rests on, part 10: LP5 X9 X10 X11 X12 X13 Y0 Y1 LM M1 M2 M3 M4 M5 M6 M8 M10 M11 M12 M7 M9. -/
import Derived.Test.YtbgnkodhpbkdoaaP9
set_option maxRecDepth 100000
set_option maxHeartbeats 4000000
namespace Go.LP
def sk (j k:Nat):Nat:=if k<j then k else k+1
theorem CT {j k:Nat}:sk j k≠j:=by unfold sk; split<;>omega
theorem Sx {j k n:Nat} (hj:j<n) (h:k<n-1):sk j k<n:=by unfold sk; split<;>omega
theorem cO {j:Nat} {f:Nat→Rat}:∀ {n:Nat},j<n+1→zg (n+1) f=zg n (fun k=>f (sk j k))+f j
 | 0,h=>by
  obtain rfl:j=0:=by omega
  simp[zg]
 | n+1,h=>by
  by_cases e:j=n+1
  ·subst e
   simp only[zg]
   rw[zu (n:=n) (f:=fun k=>f (sk (n+1) k)) (g:=f) fun k hk=>by unfold sk; rw[if_pos (by omega)]]
   unfold sk; rw[if_pos (by omega)]
  ·have ih:=cO (f:=f) (n:=n) (show j<n+1 by omega)
   rw[show zg (n+1+1) f=zg (n+1) f+f (n+1) from rfl,ih]
   simp only[zg]
   rw[show sk j n=n+1 by unfold sk; rw[if_neg (by omega)]]
   grind
def pz (d:zn) (j:Nat):zn:=⟨d.r,d.c-1,fun i k=>d.a i (sk j k),d.b,fun k=>d.cst (sk j k),d.v,d.bas,fun k=>d.fre (sk j k)⟩
theorem EA {d:zn} {p q:Nat} (h:feas d) (hb:d.b p=0):feas (pivot d p q):=by
 intro i hi
 have:=h i hi
 simp only[pivot,hb]
 split<;>grind
section
variable {n m:Nat} {A:Nat→Nat→Rat} {bb gg:Nat→Rat}
theorem Mn {p:Nat}:(dA n m A bb).a p n≠0:=by
 simp only[dA,Nat.lt_irrefl,if_false]
 grind
theorem L3 {p:Nat} (hp:p<m):Same (pivot (dA n m A bb) p n) (dA n m A bb) (n+m+1):=Same.pivot aaP hp (Nat.lt_succ_self n) Mn
theorem L2 {p:Nat} (h0:bb p<0) (hmin:∀ i,i<m→bb p≤bb i):feas (pivot (dA n m A bb) p n):=by
 intro i hi
 have:=hmin i hi
 simp only[pivot,dA,Nat.lt_irrefl,if_false]
 split<;>grind
section
variable {d:zn} (h:Same d (dA n m A bb) (n+m+1))
include h
theorem Uo {x:Nat→Rat} (hx:sol d x):obj d x=- x (n+m):=by rw[h.obj x hx,JT]
theorem CO (hf:feas d):d.v≤0:=by
 have h1:=Uo h (k8 h.bd)
 rw[cW h.bd] at h1
 have:=mF h.bd hf (n+m)
 grind
theorem PD (hf:feas d) {q:Nat} (hq:q<d.c) (hc:0<d.cst q) (ha:∀ i,i<d.r→d.a i q≤0):False:=by
 have hv:=CO h hf
 have hy0:0≤1/d.cst q:=by have:=fK hc; grind
 have hy:0≤(1-d.v)*(1/d.cst q):=Rat.mul_nonneg (by grind) hy0
 have h1:=Uo h (rB h.bd hq (y:=(1-d.v)*(1/d.cst q)))
 rw[bL h.bd hq] at h1
 have h2:d.v+d.cst q*((1-d.v)*(1/d.cst q))=1:=by grind
 have h3:0≤ptq d q ((1-d.v)*(1/d.cst q)) (n+m):=by
  unfold ptq
  generalize (1-d.v)*(1/d.cst q)=y at *
  have:0≤zg d.r (fun i=>if d.bas i=n+m then d.b i-d.a i q*y else 0):=vv fun i hi=>by
   split
   ·have h4:=hf i hi
    have h5:=Rat.mul_nonneg (show 0≤- d.a i q by have:=ha i hi; grind) hy
    grind
   ·grind
  split<;>grind
 rw[h2] at h1
 grind
theorem Ag {i:Nat} (hi:i<d.r) (hb:d.bas i=n+m):∃ j,j<d.c∧d.a i j≠0:=by
 apply Classical.byContradiction
 intro hno
 have hz:∀ j,j<d.c→d.a i j=0:=fun j hj=>Classical.byContradiction fun e=>hno ⟨j,hj,e⟩
 have hx:=(h.sol _).2 (Ux (n:=n) (m:=m) (A:=A) (bb:=bb) (x:=fun k=>if k<n then 0 else if k=n+m then d.b i+1 else bb (k-n)+(d.b i+1)) fun l hl=>by
  rw[if_neg (by omega),if_neg (by omega),if_neg (by omega),if_pos rfl,Nat.add_sub_cancel_left,zV fun j hj=>by rw[if_pos hj]; grind]
  grind)
 have h1:=hx i hi
 rw[hb,zV fun j hj=>by rw[hz j hj]; grind] at h1
 dsimp only at h1
 rw[if_neg (by omega),if_pos rfl] at h1
 grind
theorem abn {i:Nat} (hi:i<d.r) (hb:d.bas i=n+m) (hv:d.v=0):d.b i=0:=by
 have h1:=Uo h (k8 h.bd)
 rw[cW h.bd,← hb,cV h.bd hi] at h1
 grind
theorem Eh {j:Nat} (hj:j<d.c) (hfre:d.fre j=n+m):Bij (pz d j) (n+m):=by
 intro g
 have h1:=h.bd fun k=>if k=n+m then 0 else g k
 obtain ⟨c,hc⟩:∃ c,d.c=c+1:=⟨d.c-1,by omega⟩
 simp only[zg,if_true] at h1
 rw[hc,cO (j:=j) (by omega)] at h1
 simp only[pz,hc,Nat.add_sub_cancel]
 rw[hfre,if_pos rfl,zu (n:=n+m) (g:=g) fun k hk=>if_neg (by omega),
  zu (n:=c) (g:=fun k=>g (d.fre (sk j k))) fun k hk=>if_neg fun e=>CT (nr h.bd (Sx (n:=d.c) (k:=k) hj (by omega)) hj (by rw[e,hfre])),
  zu (n:=d.r) (g:=fun i=>g (d.bas i)) fun i hi=>if_neg fun e=>v4 h.bd hi hj (by rw[e,hfre])] at h1
 grind
theorem Ei {j:Nat} (hj:j<d.c) (hfre:d.fre j=n+m) (x:Nat→Rat):sol (pz d j) x↔sol (dG n m A bb gg) x:=by
 obtain ⟨c,hc⟩:∃ c,d.c=c+1:=⟨d.c-1,by omega⟩
 have e1:sol (pz d j) x↔sol d (fun k=>if k=n+m then 0 else x k):=by
  refine forall_congr' fun i=>forall_congr' fun hi=>?_
  simp only[pz,hc,Nat.add_sub_cancel]
  rw[if_neg fun e=>v4 h.bd hi hj (by rw[e,hfre]),cO (j:=j) (by omega),hfre,if_pos rfl,
   zu (n:=c) (f:=fun k=>d.a i (sk j k)*(if d.fre (sk j k)=n+m then 0 else x (d.fre (sk j k)))) (g:=fun k=>d.a i (sk j k)*x (d.fre (sk j k))) fun k hk=>by
    rw[if_neg fun e=>CT (nr h.bd (Sx (n:=d.c) (k:=k) hj (by omega)) hj (by rw[e,hfre]))]]
  grind
 rw[e1,h.sol]
 constructor
 ·intro hx i hi
  have:=abF hx hi
  rw[if_neg (by simp only[dG] at hi; omega),if_pos rfl,zu (n:=n) (g:=fun j=>A i j*x j) fun k hk=>by rw[if_neg (by omega)]] at this
  simp only[dG]
  grind
 ·intro hx
  refine Ux fun i hi=>?_
  have:=Xo hx hi
  rw[if_neg (by omega),if_pos rfl,zu (n:=n) (g:=fun j=>A i j*x j) fun k hk=>by rw[if_neg (by omega)]]
  grind
end
end
theorem CW {d:zn} {N L:Nat} (hb:Bij d N) (hs:szD L d) (k:Nat):sz L (vl d k):=by
 by_cases h:inB d k
 ·obtain ⟨i,hi,rfl⟩:=h
  rw[cV hb hi]; exact hs.b i hi
 ·rw[k6 h]; exact y8
theorem Cz {d:zn} {N L:Nat} (hb:Bij d N) (hs:szD L d) (k:Nat):sz L (cv d k):=by
 by_cases h:∃ j,j<d.c∧d.fre j=k
 ·obtain ⟨j,hj,rfl⟩:=h
  rw[YA hb hj]; exact hs.cst j hj
 ·have:cv d k=0:=zV fun j hj=>if_neg fun e=>h ⟨j,hj,e⟩
  rw[this]; exact y8
theorem Ar {d:zn} {N L q:Nat} (hb:Bij d N) (hs:szD L d) (hq:q<d.c) (k:Nat):sz L (j5 d q k):=by
 by_cases h:inB d k
 ·obtain ⟨i,hi,rfl⟩:=h
  have e:j5 d q (d.bas i)=- d.a i q:=by rw[bR,gF hb hq hi,gF hb hq hi]; grind
  rw[e]; exact sW (hs.a i q hi hq)
 ·unfold j5
  rw[zV fun i hi=>if_neg fun e=>h ⟨i,hi,e⟩]
  split
  ·rw[show (0:Rat)+1=1 by grind]; exact v6
  ·rw[show (0:Rat)+0=0 by grind]; exact y8
def sgV (n:Nat) (g:Nat→Rat) (d:zn) (k:Nat):Rat:=zg k fun i=>if d.bas i<n then g (d.bas i)*d.b i else 0
def sgC (n:Nat) (g:Nat→Rat) (d:zn) (k j:Nat):Rat:=(if d.fre j<n then g (d.fre j) else 0)-zg k fun i=>if d.bas i<n then g (d.bas i)*d.a i j else 0
def mb (n:Nat) (g:Nat→Rat) (d:zn):zn:={d with cst:=sgC n g d d.r,v:=sgV n g d d.r}
section
variable {n m:Nat} {A:Nat→Nat→Rat} {bb gg:Nat→Rat}
theorem Jm {d:zn} (hb:Bij d (n+m)) (hs:∀ x,sol d x↔sol (dG n m A bb gg) x):Same (mb n gg d) (dG n m A bb gg) (n+m):=by
 refine ⟨hb,KP,hs,fun x hx=>?_⟩
 have hx':sol d x:=hx
 rw[Y4]
 have h1:=hb fun k=>if k<n then gg k*x k else 0
 rw[agQ,zu (n:=n) (g:=fun k=>gg k*x k) fun k hk=>if_pos hk,zV (n:=m) fun k hk=>if_neg (by omega)] at h1
 have h2:zg d.r (fun i=>if d.bas i<n then gg (d.bas i)*x (d.bas i) else 0)=sgV n gg d d.r-zg d.c fun j=>zg d.r (fun i=>if d.bas i<n then gg (d.bas i)*d.a i j else 0)*x (d.fre j):=by
  rw[zu (n:=d.c) (g:=fun j=>zg d.r fun i=>if d.bas i<n then gg (d.bas i)*d.a i j*x (d.fre j) else 0) fun j hj=>by
   rw[← cN]; exact zu fun i hi=>by split<;>grind]
  rw[← TM,sgV,← sV]
  refine zu fun i hi=>?_
  by_cases e:d.bas i<n
  ·simp only[if_pos e]
   rw[hx' i hi,zu (n:=d.c) (f:=fun j=>gg (d.bas i)*d.a i j*x (d.fre j)) (g:=fun j=>gg (d.bas i)*(d.a i j*x (d.fre j))) fun j hj=>by grind,eJ]
   grind
  ·simp only[if_neg e]
   rw[zV fun j hj=>rfl]
   grind
 have h3:zg d.c (fun j=>sgC n gg d d.r j*x (d.fre j))=zg d.c (fun j=>if d.fre j<n then gg (d.fre j)*x (d.fre j) else 0)-zg d.c fun j=>zg d.r (fun i=>if d.bas i<n then gg (d.bas i)*d.a i j else 0)*x (d.fre j):=by
  rw[← sV]
  refine zu fun j hj=>?_
  unfold sgC
  split<;>grind
 show sgV n gg d d.r+zg d.c (fun j=>sgC n gg d d.r j*x (d.fre j))=_
 rw[h3]
 grind
end
end Go.LP

namespace Go.Proofs.Ytbgnkodhpbkdoaa
open Go Go.Am Go.Dig Go.LP
theorem abA {n k L:Nat} {g:Nat→Rat} {d:zn} (hg:∀ j,j<n→sz L (g j)) (hb:∀ i,i<k→sz L (d.b i)):sz (k*(2*L+1)) (sgV n g d k):=by
 induction k with
 | zero=>exact y8
 | succ k ih =>
  have h1:=ih fun i hi=>hb i (by omega)
  have e:(k+1)*(2*L+1)=k*(2*L+1)+(L+L)+1:=by rw[Nat.succ_mul]; omega
  rw[e]
  refine cP h1 ?_
  dsimp only
  split
  ·rename_i h; exact yG (hg _ h) (hb k (by omega))
  ·exact y8
theorem abz {n k L j:Nat} {g:Nat→Rat} {d:zn} (hg:∀ j,j<n→sz L (g j)) (ha:∀ i,i<k→sz L (d.a i j)):sz (L+k*(2*L+1)+1) (sgC n g d k j):=by
 refine pU ?_ ?_
 ·split
  ·rename_i h; exact hg _ h
  ·exact y8
 ·induction k with
  | zero=>exact y8
  | succ k ih =>
   have h1:=ih fun i hi=>ha i (by omega)
   have e:(k+1)*(2*L+1)=k*(2*L+1)+(L+L)+1:=by rw[Nat.succ_mul]; omega
   rw[e]
   refine cP h1 ?_
   dsimp only
   split
   ·rename_i h; exact yG (hg _ h) (ha k (by omega))
   ·exact y8
def wv (d:zn) (v:Rat):zn:={d with v:=v}
noncomputable def ZU (n m:Nat) (g:Nat→Rat) (d:zn) (ρ:List (Nat × zb)) (out:List (List (Nat × AV))) (k:Nat):St :=
 {env:=[(0,.ptr 1015 0),(1,fL g n),(4,.sl 5020 3 0 d.c),(24,.us 2029 1 0 d.c),(25,iv d.c),(26,iv k)],
  sto:=ρ++(tL n m (wv d 0)++[(5020,.arr 3 (fZ (sgC n g d 0) k d.c))]),out:=out,base:=5000}
noncomputable def pT (n m:Nat) (g:Nat→Rat) (d:zn) (ρ:List (Nat × zb)) (out:List (List (Nat × AV))) (k:Nat):St :=
 {env:=[(0,.ptr 1015 0),(1,fL g n),(4,.sl 5020 3 0 d.c),(52,.us 1987 1 0 m),(53,iv m),(54,iv k)],
  sto:=ρ++(tL n m (wv d (sgV n g d k))++[(5020,.arr 3 (fR (sgC n g d k) d.c))]),out:=out,base:=5000}
noncomputable def QE (n m:Nat) (g:Nat→Rat) (d:zn) (ρ:List (Nat × zb)) (out:List (List (Nat × AV))) (k:Nat):St :=
 if k=m then ⟨[(0,.ptr 1015 0),(1,fL g n),(4,fL (sgC n g d k) d.c),(52,.us 1987 1 0 m),(53,iv m),(54,iv k)],
  ρ++tL n m (wv d (sgV n g d k)),out,5000⟩ else pT n m g d ρ out k
theorem AX {n m:Nat} {g:Nat→Rat} {d:zn} {ρ:List (Nat × zb)} {out:List (List (Nat × AV))} {k:Nat} (h:k<m):QE n m g d ρ out k=pT n m g d ρ out k:=if_neg (by omega)
theorem D9 {n m:Nat} {g:Nat→Rat} {d:zn} {ρ:List (Nat × zb)} {out:List (List (Nat × AV))}:QE n m g d ρ out m=⟨[(0,.ptr 1015 0),(1,fL g n),(4,fL (sgC n g d m) d.c),(52,.us 1987 1 0 m),(53,iv m),(54,iv m)],
  ρ++tL n m (wv d (sgV n g d m)),out,5000⟩:=if_pos rfl
theorem QF {n m:Nat} {g:Nat→Rat} {d:zn} {ρ:List (Nat × zb)} {out:List (List (Nat × AV))} (hρ:rest ρ) (hO:yh 2000 out) (k:Nat):St.imp (pT n m g d ρ out k) (QE n m g d ρ out k):=by
 unfold QE
 split
 ·refine St.imp_freeze (k:=5020) ?_
  simp[xf,pT,tL,rlk hρ,wb hρ,xd hρ,ono hO,Dx hρ,Lg hO,far,wv,vL,sF,vr,rQ]
 ·exact St.imp.refl
noncomputable def ZV (n m:Nat) (g:Nat→Rat) (d:zn) (ρ:List (Nat × zb)) (out:List (List (Nat × AV))) (k:Nat) (l:Nat):St :=
 {env:=[(0,.ptr 1015 0),(1,fL g n),(4,.sl 5020 3 0 d.c),(8,iv (d.bas k)),(52,.us 1987 1 0 m),(53,iv m),(54,iv k),(99,fL (d.a k) d.c),(100,iv d.c),(101,iv l)],
  sto:=ρ++(tL n m (wv d (sgV n g d (k+1)))++[(5020,.arr 3 (fR (fun j=>if j<l then sgC n g d (k+1) j else sgC n g d k j) d.c))]),out:=out,base:=5000}
theorem Qt {n m L:Nat} {g:Nat→Rat} {d:zn} {ρ:List (Nat × zb)} {s:St} {K:AV→St→Prop} (hs:s.sto=ρ++tL n m d) (hρ:rest ρ) (hE:yS 2000 s.env) (hO:yh 2000 s.out) (hm:m<1000000) (_hn:n<1000000) (hc:d.c<1000000) (hr:d.r=m)
  (hL:L+(m+1)*(2*L+1)≤100000000000) (hsz:szD L d) (hg:∀ j,j<n→sz L (g j)) (h:K (.tuple []) ⟨s.env,ρ++tL n m (mb n g d),s.out,s.base⟩) :
  afN Try.prog rV [.ptr 1015 0,fL g n] s K:=by
 obtain ⟨env,σ,out,base⟩:=s
 simp only at hs hE hO h
 subst hs
 have g0:zc Try.prog zI [iv 0] (fq 0):=xy (n:=0) (by decide) (by decide)
 have v0:sgV n g d 0=0:=rfl
 refine xL 5000 T3 (by simp) ?_
 simp[eT,tL]
 refine za g0 (by simp) (by simp) ?_
 simp[rlk hρ,rpt hρ,far,eMk]
 refine ⟨by omega,by omega,?_⟩
 rw[nn (f:=sgC n g d 0)]
 refine zB (ZU n m g d ρ (env::out)) (fun _=>True) d.c (by simp[ZU,tL,wv]) trivial (fun k hk _=>?_) (fun _=>?_)
 ·have e:(k:Int)<d.c:=by omega
  have w:=zC (k:=k) (by omega)
  have hset:=kD (f:=sgC n g d 0) hk
  obtain ⟨f,hfe⟩:∃ f,d.fre k=f:=⟨_,rfl⟩
  by_cases h1:f<n
  ·have h1':(f:Int)<n:=by omega
   have ev:sgC n g d 0 k=g f:=by simp only[sgC,zg]; rw[hfe,if_pos h1]; grind
   rw[ev] at hset
   simp[uU,ZU,tL,rlk hρ,far,wv,e,hk,hfe]
   refine za g0 (by simp) (by simp) ?_
   simp[tL,rlk hρ,rpt hρ,far,wv,e,hk,h1,h1',w,splice,hset,ZU]
  ·have h1':¬ (f:Int)<n:=by omega
   have ev:sgC n g d 0 k=0:=by simp only[sgC,zg]; rw[hfe,if_neg h1]; grind
   rw[ev] at hset
   simp[uU,ZU,tL,rlk hρ,far,wv,e,hk,hfe]
   refine za g0 (by simp) (by simp) ?_
   simp[tL,rlk hρ,rpt hρ,far,wv,e,hk,h1',w,splice,hset,ZU]
 ·simp[uU,ZU,lT,tL,rlk hρ,far,wv,nk]
  have hO2:yh 2000 (env::out):=qU.2 ⟨hE,hO⟩
  refine sj (QE n m g d ρ (env::out)) (fun _=>True) m (St.imp.trans (St.imp_of (by simp[pT,tL,wv,v0])) (QF hρ hO2 0)) trivial (fun k hk _=>?_) (fun _=>?_)
  ·rw[AX hk]
   have fin:=QF (n:=n) (m:=m) (g:=g) (d:=d) hρ hO2 (k+1)
   have e:(k:Int)<m:=by omega
   have w:=zC (k:=k) (by omega)
   have hkm:k*(2*L+1)≤m*(2*L+1):=Nat.mul_le_mul_right _ (by omega)
   have hms:(m+1)*(2*L+1)=m*(2*L+1)+(2*L+1):=Nat.succ_mul _ _
   rw[hms] at hL
   obtain ⟨v,hve⟩:∃ v,d.bas k=v:=⟨_,rfl⟩
   by_cases h1:n≤v
   ·have h1':(n:Int)≤v:=by omega
    have h1n:¬ v<n:=by omega
    have ev:sgV n g d (k+1)=sgV n g d k:=by simp only[sgV,zg]; rw[hve,if_neg (by omega)]; grind
    have ec:sgC n g d (k+1)=sgC n g d k:=by funext j; simp only[sgC,zg]; rw[hve,if_neg h1n]; grind
    simp[vI,uT,pT,tL,rlk hρ,far,wv,e,hk,hve,h1',w]
    refine St.imp.trans (St.imp_of ?_) fin
    simp[pT,tL,wv,ev,ec]
   ·have hvn:v<n:=by omega
    have hvn':(v:Int)<n:=by omega
    have h1':¬ (n:Int)≤v:=by omega
    have s1:=sQ (q:=g v)
    by_cases h2:g v=0
    ·have s2:xm (g v)=0:=vu.2 h2
     have ev:sgV n g d (k+1)=sgV n g d k:=by simp only[sgV,zg]; rw[hve,if_pos hvn,h2]; grind
     have ec:sgC n g d (k+1)=sgC n g d k:=by funext j; simp only[sgC,zg]; rw[hve,if_pos hvn,h2]; grind
     simp[vI,uT,pT,tL,rlk hρ,far,wv,e,hk,hve,h1',hvn,hvn']
     refine za s1 (by simp) (by simp) ?_
     simp[w,s2]
     refine St.imp.trans (St.imp_of ?_) fin
     simp[pT,tL,wv,ev,ec]
    ·have s2:¬ xm (g v)=0:=fun h=>h2 (vu.1 h)
     have sb:=hsz.b k (by omega)
     have sv:=abA (k:=k) hg (fun i hi=>hsz.b i (by omega))
     have g1:=lf (K:=L) (by omega) (hg v hvn) sb
     have g2:=ba (K:=L+(m+1)*(2*L+1)) (by omega) (zM sv (by omega)) (zM (yG (hg v hvn) sb) (by omega))
     have ev:sgV n g d k+g v*d.b k=sgV n g d (k+1):=by simp only[sgV,zg]; rw[hve,if_pos hvn]
     rw[ev] at g2
     have ec:∀ j,sgC n g d k j-g v*d.a k j=sgC n g d (k+1) j:=fun j=>by simp only[sgC,zg]; rw[hve,if_pos hvn]; grind
     simp[vI,uT,pT,tL,rlk hρ,far,wv,e,hk,hve,h1',hvn,hvn']
     refine za s1 (by simp) (by simp) ?_
     simp[rlk hρ,far,e,hk,hvn,hvn',s2]
     refine za g1 (by simp) (by simp) ?_
     simp
     refine za g2 (by simp) (by simp) ?_
     simp[rlk hρ,rpt hρ,far,e,hk]
     refine zB (ZV n m g d ρ (env::out) k) (fun _=>True) d.c (by simp[ZV,tL,wv,hve]) trivial (fun l hl _=>?_) (fun _=>?_)
     ·have e2:(l:Int)<d.c:=by omega
      have w2:=zC (k:=l) (by omega)
      have t1:=sQ (q:=d.a k l)
      have sa:=hsz.a k l (by omega) hl
      have sc:=abz (k:=k) (j:=l) hg (fun i hi=>hsz.a i l (by omega) hl)
      have mx:∀ x,x=sgC n g d (k+1) l→(fR (fun j=>if j<l then sgC n g d (k+1) j else sgC n g d k j) d.c).set l (fr x)=fR (fun j=>if j<l+1 then sgC n g d (k+1) j else sgC n g d k j) d.c:=fun x hx=>by
       rw[tu]
       refine yI fun j _=>?_
       unfold upd
       by_cases ej:j=l
       ·subst ej; rw[if_pos rfl,if_pos (by omega),hx]
       ·rw[if_neg ej]
        dsimp only
        by_cases ej2:j<l
        ·rw[if_pos ej2,if_pos (by omega)]
        ·rw[if_neg ej2,if_neg (by omega)]
      have mg:(fR (fun j=>if j<l then sgC n g d (k+1) j else sgC n g d k j) d.c)[l]?=some (fr (sgC n g d k l)):=by rw[YE hl,if_neg (Nat.lt_irrefl l)]
      have ecl:=ec l
      by_cases h3:d.a k l=0
      ·have s3:xm (d.a k l)=0:=vu.2 h3
       have ms:fR (fun j=>if j<l then sgC n g d (k+1) j else sgC n g d k j) d.c=fR (fun j=>if j<l+1 then sgC n g d (k+1) j else sgC n g d k j) d.c:=by
        refine yI fun j _=>?_
        by_cases ej:j=l
        ·subst ej; rw[if_neg (Nat.lt_irrefl j),if_pos (by omega),← ecl,h3]; grind
        ·by_cases ej2:j<l
         ·rw[if_pos ej2,if_pos (by omega)]
         ·rw[if_neg ej2,if_neg (by omega)]
       simp[uV,ZV,tL,rlk hρ,rpt hρ,far,wv,e2,hl,hve]
       refine za t1 (by simp) (by simp) ?_
       simp[tL,rlk hρ,wb hρ,xd hρ,eno hE,ono hO,far,wv,s3,w2,ZV,hve,ms]
      ·have s3:¬ xm (d.a k l)=0:=fun h=>h3 (vu.1 h)
       have t2:=lf (K:=L) (by omega) (hg v hvn) sa
       have t3:=Xy (K:=L+(m+1)*(2*L+1)) (by omega) (zM sc (by omega)) (zM (yG (hg v hvn) sa) (by omega))
       rw[ecl] at t3
       have mx:=mx _ rfl
       simp[uV,ZV,tL,rlk hρ,rpt hρ,far,wv,e2,hl,hve]
       refine za t1 (by simp) (by simp) ?_
       simp[rlk hρ,far,e2,hl,s3,hvn,hvn']
       refine za t2 (by simp) (by simp) ?_
       simp
       refine za t3 (by simp) (by simp) ?_
       simp[tL,rlk hρ,rpt hρ,wb hρ,xd hρ,eno hE,ono hO,far,wv,e2,hl,splice,mx,w2,ZV,hve]
     ·have hfull:fR (fun j=>if j<d.c then sgC n g d (k+1) j else sgC n g d k j) d.c=fR (sgC n g d (k+1)) d.c:=yI fun j hj=>if_pos hj
      simp[uV,ZV,tL,wv,hfull,w]
      refine St.imp.trans (St.imp_of ?_) fin
      simp[pT,tL,wv]
  ·rw[D9]
   simp[vI,lS,dc,tL,rlk hρ,rpt hρ,far,wv]
   simpa [mb,tL,tC,hr] using h
@[simp] theorem aaz {sz by_ d n j sz' off len:Nat} {rows:List (List AV)} {s:St} {K:St→Prop} (h:lk s.sto j=some (.uarr sz rows)) :
  yQ sz by_ s (some d) K [.list n .full [],.us j sz' off len]=(sz'=sz∧off+len≤rows.length∧0<sz∧((rows.drop off).take len).length*by_≤140737488355328∧((rows.drop off).take len).length≤9223372036854775807∧lk s.sto (s.base+d)=none ∧
   K (((s.dg (s.base+d)).put (some d) (.us (s.base+d) sz 0 ((rows.drop off).take len).length)).new (some d) (some (.uarr sz (zU (s.base+d) ((rows.drop off).take len)))))):=by
 simp[yQ,y9,h]
@[simp] theorem Bz {sz by_ d l j sz1 off1 ahJ sz' off len:Nat} {rows1 rows:List (List AV)} {s:St} {K:St→Prop} (h1:lk s.sto l=some (.uarr sz rows1)) (h:lk s.sto j=some (.uarr sz rows)) :
  yQ sz by_ s (some d) K [.us l sz1 off1 ahJ,.us j sz' off len]=(sz'=sz∧off+len≤rows.length∧0<sz∧(ahJ+((rows.drop off).take len).length)*by_≤140737488355328∧ahJ+((rows.drop off).take len).length≤9223372036854775807∧sz1=sz∧off1=0∧ahJ=rows1.length ∧
   K ({(s.dg l) with sto:=pt (s.dg l).sto l (.uarr sz (zU l (rows1++((rows.drop off).take len))))}.put (some d) (.us l sz 0 (ahJ+((rows.drop off).take len).length)))):=by
 simp[yQ,y9,h,h1]
theorem NS {g:Nat→List AV} {j c:Nat} (hj:j<c):(mR g c).take j++(mR g c).drop (j+1)=mR (fun k=>g (sk j k)) (c-1):=by
 apply List.ext_getElem?
 intro i
 by_cases h:i<j
 ·rw[List.getElem?_append_left (by simp; omega),List.getElem?_take,if_pos h,tw (by omega),tw (by omega)]
  unfold sk; rw[if_pos h]
 ·rw[List.getElem?_append_right (by simp; omega),List.getElem?_drop]
  have e:j+1+(i-((mR g c).take j).length)=i+1:=by simp; omega
  rw[e]
  by_cases h2:i<c-1
  ·rw[tw (by omega),tw h2]
   unfold sk; rw[if_neg h]
  ·rw[List.getElem?_eq_none (by simp; omega),List.getElem?_eq_none (by simp; omega)]
theorem NB {f:Nat→Rat} {j c:Nat} (hj:j<c):(fR f c).take j++(fR f c).drop (j+1)=fR (fun k=>f (sk j k)) (c-1):=NS (g:=fun k=>fr (f k)) hj
theorem BX {f:Nat→Nat} {j c:Nat} (hj:j<c):(nR f c).take j++(nR f c).drop (j+1)=nR (fun k=>f (sk j k)) (c-1):=NS (g:=fun k=>[iv (f k)]) hj
theorem BY {f:Nat→Nat} {j c l:Nat}:zU l ((nR f c).take j)=(nR f c).take j:=yK fun r hr=>by
 obtain ⟨i,_,rfl⟩:=List.mem_map.1 (List.mem_of_mem_take hr)
 rfl
theorem BW {f:Nat→Nat} {j c l:Nat}:zU l ((nR f c).drop j)=(nR f c).drop j:=yK fun r hr=>by
 obtain ⟨i,_,rfl⟩:=List.mem_map.1 (List.mem_of_mem_drop hr)
 rfl
theorem BZ {f:Nat→Nat} {j c:Nat}:((nR f c).drop j).take (c-j)=(nR f c).drop j:=List.take_of_length_le (by simp)
theorem least {p:Nat→Prop}:∀ {n:Nat},(∃ i,i<n∧p i)→∃ i,i<n∧p i∧∀ k,k<i→¬ p k
 | 0,⟨i,h,_⟩=>by omega
 | n+1,⟨i,h,hp⟩=>by
  by_cases e:∃ i,i<n∧p i
  ·obtain ⟨i,h1,h2,h3⟩:=least e
   exact ⟨i,by omega,h2,h3⟩
  ·refine ⟨i,h,hp,fun k hk hpk=>e ⟨k,by omega,hpk⟩⟩
theorem d7 {M n:Nat} {f:Nat→Rat}:Am.low M (fL f n)=true:=rfl
theorem JU:yM Try.prog wZ=true:=by kernel_rfl
noncomputable def cH (n m:Nat) (d:zn) (ρ:List (Nat × zb)) (out:List (List (Nat × AV))) (k:Nat):St :=
 {env:=[(0,.ptr 1015 0),(2,iv (n+m:Nat)),(23,.us 1987 1 0 m),(24,iv m),(25,iv k)],sto:=ρ++tL n m d,out:=out,base:=4500}
noncomputable def QN (n m i:Nat) (d:zn) (ρ:List (Nat × zb)) (out:List (List (Nat × AV))) (k:Nat):St :=
 {env:=[(0,.ptr 1015 0),(2,iv (n+m:Nat)),(3,iv i),(39,fL (d.a i) d.c),(40,iv d.c),(41,iv k)],sto:=ρ++tL n m d,out:=out,base:=4500}
noncomputable def ZZ (n m:Nat) (d:zn) (ρ:List (Nat × zb)) (out:List (List (Nat × AV))) (k:Nat):St :=
 {env:=[(0,.ptr 1015 0),(2,iv (n+m:Nat)),(58,.us 2029 1 0 d.c),(59,iv d.c),(60,iv k)],sto:=ρ++tL n m d,out:=out,base:=4500}
noncomputable def sR (d:zn) (j k m:Nat):List (List AV):=mR (fun i=>if i<k then [fL (fun l=>d.a i (sk j l)) (d.c-1)] else [fL (d.a i) d.c]) m
theorem CR {d:zn} {j k m l:Nat}:zU l (sR d j k m)=sR d j k m:=wS fun i=>by split<;>simp
@[simp] theorem aeW {d:zn} {j k m l:Nat}:yN l (sR d j k m)=false:=gA fun i=>by split<;>simp
@[simp] theorem aeV {d:zn} {j k m:Nat}:(sR d j k m).length=m:=vP
noncomputable def tS (n m j k:Nat) (d:zn):List (Nat × zb) :=
 [(1015,.var (tC n m d)),(1961,.uarr 1 (sR d j k m)),(1972,.uarr 3 (fR d.b m)),(1987,.uarr 1 (nR d.bas m)),(2029,.uarr 1 (nR d.fre d.c))]
noncomputable def LZ (n m j:Nat) (d:zn) (ρ:List (Nat × zb)) (out:List (List (Nat × AV))) (k:Nat):St :=
 {env:=[(0,.ptr 1015 0),(7,iv j),(71,.us 1961 1 0 m),(72,iv m),(73,iv k)],sto:=ρ++tS n m j k d,out:=out,base:=4500}
@[simp] theorem ab7 {a':Nat→Nat→Rat} {cl:Nat→Nat} {n a b:Nat}:((cR a' cl n).map fun r=>r.map (rn a b))=cR a' cl n:=wS fun _=>by simp[rn,rn1]
noncomputable def tW (n m j:Nat) (d:zn):List (Nat × zb) :=
 [(1015,.var [iv n,iv m,.us 1961 1 0 m,.us 1972 3 0 m,.list 3 (.own 4622) (fR (fun k=>d.cst (sk j k)) (d.c-1)),f0 d.v,f1 d.v,f2 d.v,.us 1987 1 0 m,.us 4603 1 0 (d.c-1)]),
  (1961,.uarr 1 (sR d j m m)),(1972,.uarr 3 (fR d.b m)),(1987,.uarr 1 (nR d.bas m)),(2029,.uarr 1 (nR d.fre d.c)),(4603,.uarr 1 (nR (fun k=>d.fre (sk j k)) (d.c-1)))]
theorem AH {d:zn} {j m:Nat}:sR d j m m=cR (fun i k=>d.a i (sk j k)) (fun _=>d.c-1) m:=wq fun _i hi=>if_pos hi
theorem abR {n m j:Nat} {d:zn} {ρ:List (Nat × zb)} {env:List (Nat × AV)} {out:List (List (Nat × AV))} {base:Nat} (hρ:rest ρ) (hE:yS 2000 env) (hO:yh 2000 out) :
  St.imp ⟨env,ρ++tW n m j d,out,base⟩ ⟨env,ρ++tL n m (pz d j),out,base⟩:=by
 refine St.imp.trans (St.imp_cell_weak (k:=1015) (j:=4) (y:=fL (fun k=>d.cst (sk j k)) (d.c-1)) (by simp[tW,rlk hρ,far]; rfl) (by simp; rfl) wB.list) ?_
 simp[tW,rpt hρ,far]
 refine St.imp.trans (St.impW_drop (l:=2029) (by simp[rlk hρ,far]; exact ⟨rfl,rfl⟩)).imp ?_
 simp[wb hρ,far]
 refine St.imp.trans (St.imp_rn 4603 2029) ?_
 have hr0:=DB (k:=4603) (l:=2029) hρ rfl rfl
 have he:=bE (k:=4603) (by omega) (j:=2029) (by omega) hE
 have ho:=Ug (k:=4603) (by omega) (j:=2029) (by omega) hO
 simp only[St.rn,List.map_append,hr0,he,ho]
 simp only[List.map_cons,List.map_nil,bT,eh,Su,Xc,eo,Le,CC,ab7,AH,MQ,MR,MS,sw,Nat.reduceEqDiff,if_true,if_false]
 exact St.imp.refl
theorem At {n m:Nat} {d:zn} {ρ:List (Nat × zb)} {env:List (Nat × AV)} {out:List (List (Nat × AV))} {base:Nat} {K:AV→St→Prop} (hρ:rest ρ) (hE:yS 2000 env) (hO:yh 2000 out) (hm:m<1000000) (_hn:n<1000000) (hc:d.c<1000000)
  {j0:Nat} (hj0:j0<d.c) (hf0:d.fre j0=n+m) (hmin:∀ k,k<j0→¬ d.fre k=n+m) (h:K (.tuple []) ⟨env,ρ++tW n m j0 d,out,base⟩) :
  awp Try.prog (.loop wh) (ZZ n m d ρ (env::out) 0) (wN 4 (ZM uK base K)):=by
 refine zB (ZZ n m d ρ (env::out)) (fun _=>True) j0 (by simp[ZZ]) trivial (fun k hk _=>?_) (fun _=>?_)
 ·have e:(k:Int)<d.c:=by omega
  have hkc:k<d.c:=by omega
  have w:=zC (k:=k) (by omega)
  have hne:¬ d.fre k=n+m:=hmin k hk
  have hne':¬ (d.fre k:Int)=(n:Int)+m:=by omega
  simp[wh,ZZ,tL,e,hkc,rlk hρ,far,hne',w,sx]
 ·have e:(j0:Int)<d.c:=by omega
  have hf0':(d.fre j0:Int)=(n:Int)+m:=by omega
  simp[wh,ZZ,tL,e,hj0,rlk hρ,far,hf0']
  have hj1:(j0:Int)≤d.c:=by omega
  have hj2:j0≤d.c:=by omega
  have wj:IntKind.i64.wrap ((j0:Int)+1)=((j0+1:Nat):Int):=zC (by omega)
  have hj3:(j0:Int)+1≤d.c:=by omega
  have hj5:(0:Int)≤(j0:Int)+1:=by omega
  have hj4:j0+1≤d.c:=by omega
  refine sj (LZ n m j0 d ρ (env::out)) (fun _=>True) m ?_ trivial (fun k hk _=>?_) (fun _=>?_)
  ·exact St.imp_of (by simp[LZ,tS,sR,cR])
  ·have e:(k:Int)<m:=by omega
   have w:=zC (k:=k) (by omega)
   have g:(sR d j0 k m)[k]?=some [fL (d.a k) d.c]:=by unfold sR; rw[tw hk,if_neg (by omega)]
   have gE:∀ h,(sR d j0 k m)[k]'h=[fL (d.a k) d.c]:=fun h=>(List.getElem?_eq_some_iff.1 g).2
   simp[vH,LZ,tS,e,hk,gE,rlk hρ,rpt hρ,wb hρ,far,pO hρ,edg hE,odg hO,-dgE,ww,wm,CR,w,hj1,hj2,wj,hj3,hj5]
   refine ⟨by omega,by omega,by omega,by omega,?_⟩
   rw[NB hj0]
   have hset:(sR d j0 k m).set k [fL (fun l=>d.a k (sk j0 l)) (d.c-1)]=sR d j0 (k+1) m:=by
    unfold sR
    rw[YX]
    refine wq fun i _=>?_
    unfold upd
    by_cases ei:i=k
    ·subst ei; rw[if_pos rfl,if_pos (by omega)]
    ·rw[if_neg ei]
     dsimp only
     by_cases ei2:i<k
     ·rw[if_pos ei2,if_pos (by omega)]
     ·rw[if_neg ei2,if_neg (by omega)]
   refine St.imp.trans (St.imp_uarr (l:=1961) (sz:=1) (rows':=sR d j0 (k+1) m) (by simp[rlk hρ,far]; rfl) (by simp) fun i r r' hr hr'=>?_) ?_
   ·rw[← hset] at hr'
    rw[List.getElem?_set] at hr hr'
    by_cases ei:k=i
    ·subst ei
     rw[if_pos rfl] at hr hr'
     split at hr
     ·rename_i h1
      rw[if_pos h1] at hr'
      simp only[Option.some.injEq] at hr hr'
      subst hr hr'
      exact ⟨rfl,fun j c c' hj hj'=>by
       cases j with
       | zero=>simp only[List.getElem?_cons_zero,Option.some.injEq] at hj hj'; subst hj hj'; exact wB.list
       | succ j=>simp at hj⟩
     ·cases hr
    ·rw[if_neg ei] at hr hr'
     rw[hr] at hr'
     cases hr'
     exact ⟨rfl,fun j c c' hj hj'=>by rw[hj] at hj'; cases hj'; exact wB.refl⟩
   ·simp[rpt hρ,far]
    exact St.imp.refl
  ·simp[vH,LZ,tS,rlk hρ,rpt hρ,wb hρ,far,pO hρ,edg hE,odg hO,-dgE,ww,wm,CR,su,uK,BY,BW,BZ,BX hj0,NB hj0,ahM,hj1,hj2,wj,hj3,hj4,hj5]
   rw[show j0+(d.c-(j0+1))=d.c-1 by omega]
   exact ⟨by omega,by omega,by omega,by omega,by omega,by omega,by omega,by omega,h⟩
theorem Au {n m L:Nat} {d d1:zn} {ρ:List (Nat × zb)} {s:St} {K:AV→St→Prop} (hs:s.sto=ρ++tL n m d) (hρ:rest ρ) (hE:yS 2000 s.env) (hO:yh 2000 s.out) (hm:m<1000000) (hn:n<1000000) (hc:d.c<1000000) (hr:d.r=m)
  (hL:L≤10000000000) (hsz:szD L d)
  (h1:(d1=d∧∀ i,i<m→d.bas i≠n+m)∨∃ i q,i<m∧q<d.c∧d.bas i=n+m∧(∀ k,k<i→d.bas k≠n+m)∧d.a i q≠0∧(∀ k,k<q→d.a i k=0)∧d1=pivot d i q)
  {j0:Nat} (hj0:j0<d1.c) (hf0:d1.fre j0=n+m) (hmin:∀ k,k<j0→¬ d1.fre k=n+m) (h:K (.tuple []) ⟨s.env,ρ++tL n m (pz d1 j0),s.out,s.base⟩) :
  afN Try.prog wZ [.ptr 1015 0] s K:=by
 obtain ⟨env,σ,out,base⟩:=s
 simp only at hs hE hO h
 subst hs
 have hO2:yh 2000 (env::out):=qU.2 ⟨hE,hO⟩
 have wnm:IntKind.i64.wrap ((n:Int)+m)=(n:Int)+m:=by rw[wrap64]<;>omega
 refine afN.post (K:=fun r s'=>r=.tuple []∧s'=⟨env,ρ++tW n m j0 d1,out,base⟩) ?_ fun r s' ⟨e1,e2⟩=>.inr ⟨e1,⟨env,ρ++tL n m (pz d1 j0),out,base⟩,by subst e2; exact abR hρ hE hO,by subst e1; exact h⟩
 refine xL 4500 gI (by simp) ?_
 have k7:=At (n:=n) (m:=m) (d:=d1) (K:=fun r s'=>r=.tuple []∧s'=⟨env,ρ++tW n m j0 d1,out,base⟩) (base:=base) hρ hE hO hm hn (by rcases h1 with ⟨rfl,_⟩ | ⟨i,q,_,_,_,_,_,_,rfl⟩<;>exact hc) hj0 hf0 hmin ⟨rfl,rfl⟩
 rcases h1 with ⟨rfl,hno⟩ | ⟨i0,q0,hi0,hq0,hb0,hbmin,ha0,hamin,rfl⟩
 ·simp[ux,tL,rlk hρ,far,wnm]
  refine zB (cH n m d1 ρ (env::out)) (fun _=>True) m (by simp[cH,tL]) trivial (fun k hk _=>?_) (fun _=>?_)
  ·have e:(k:Int)<m:=by omega
   have w:=zC (k:=k) (by omega)
   have hne:¬ (d1.bas k:Int)=(n:Int)+m:=by have:=hno k hk; omega
   simp[xv,cH,tL,e,hk,rlk hρ,far,hne,w,vE]
  ·simp[xv,cH,tL,rlk hρ,far,vF]
   simpa [ZZ,tL] using k7
 ·simp[ux,tL,rlk hρ,far,wnm]
  refine zB (cH n m d ρ (env::out)) (fun _=>True) i0 (by simp[cH,tL]) trivial (fun k hk _=>?_) (fun _=>?_)
  ·have hkm:k<m:=by omega
   have e:(k:Int)<m:=by omega
   have w:=zC (k:=k) (by omega)
   have hne:¬ (d.bas k:Int)=(n:Int)+m:=by have:=hbmin k hk; omega
   simp[xv,cH,tL,e,hkm,rlk hρ,far,hne,w,vE]
  ·have e:(i0:Int)<m:=by omega
   have heq:(d.bas i0:Int)=(n:Int)+m:=by omega
   simp[xv,cH,tL,e,hi0,rlk hρ,far,heq]
   refine zB (QN n m i0 d ρ (env::out)) (fun _=>True) q0 (by simp[QN,tL]) trivial (fun k hk _=>?_) (fun _=>?_)
   ·have hkc:k<d.c:=by omega
    have e2:(k:Int)<d.c:=by omega
    have w:=zC (k:=k) (by omega)
    have g:=sQ (q:=d.a i0 k)
    have z:xm (d.a i0 k)=0:=vu.2 (hamin k hk)
    simp[vG,QN,tL,e2,hkc,rlk hρ,rpt hρ,far]
    refine za g (by simp) (by simp) ?_
    simp[z,w,QN,tL,rlk hρ,wb hρ,xd hρ,eno hE,ono hO,far]
   ·have e2:(q0:Int)<d.c:=by omega
    have g:=sQ (q:=d.a i0 q0)
    have z:¬ xm (d.a i0 q0)=0:=fun h=>ha0 (vu.1 h)
    simp[vG,QN,tL,e2,hq0,rlk hρ,rpt hρ,far]
    refine za g (by simp) (by simp) ?_
    simp[z,fV,rlk hρ,wb hρ,xd hρ,eno hE,ono hO,far]
    refine afM (Qc (s:=⟨_,ρ++tL n m d,env::out,4500⟩) (d:=d) (ρ:=ρ) (n:=n) (m:=m) (L:=L) rfl hρ ?_ hO2 hm hc hr hi0 hq0 hL hsz ha0 ?_)
    ·simp[yo,yy,vO,uJ,y7,d7]
    simp[ss,vF,tL,rlk hρ,far]
    simpa [ZZ,tL] using k7
theorem NY {n m i:Nat} {d:zn} (hi:i<m):∀ k,(∀ a b,a<k→b<k→d.fre a=d.fre b→a=b)→xJ n m d k i=- zg k fun j=>if d.fre j=n+i then d.cst j else 0
 | 0,_=>by simp only[xJ,zg]; grind
 | k+1,hinj=>by
  have ih:=NY hi (d:=d) (n:=n) k fun a b ha hb=>hinj a b (by omega) (by omega)
  simp only[xJ,zg]
  by_cases e:d.fre k=n+i
  ·rw[if_pos ⟨by omega,by omega⟩,if_pos e,zV fun j hj=>if_neg fun e2=>by have:=hinj j k (by omega) (by omega) (by rw[e,e2]); omega]
   have:d.fre k-n=i:=by omega
   rw[this]
   simp only[upd,if_true]
   grind
  ·rw[if_neg e]
   split
   ·rename_i hc
    have:¬ i=d.fre k-n:=by omega
    simp only[upd,if_neg this]
    rw[ih]; grind
   ·rw[ih]; grind
theorem Ge {n m i N:Nat} {d:zn} (hb:Bij d N) (hi:i<m):xJ n m d d.c i=- cv d (n+i):=NY hi d.c fun _ _ ha hb'=>nr hb ha hb'
theorem NX {n j:Nat} {d:zn} (hj:j<n):∀ k,(∀ a b,a<k→b<k→d.bas a=d.bas b→a=b)→qt n d k j=zg k fun i=>if d.bas i=j then d.b i else 0
 | 0,_=>rfl
 | k+1,hinj=>by
  have ih:=NX hj (d:=d) k fun a b ha hb=>hinj a b (by omega) (by omega)
  simp only[qt,zg]
  by_cases e:d.bas k=j
  ·rw[if_pos (by omega),if_pos e,zV fun i hi=>if_neg fun e2=>by have:=hinj i k (by omega) (by omega) (by rw[e,e2]); omega]
   rw[e]
   simp only[upd,if_true]
   grind
  ·rw[if_neg e]
   split
   ·have:¬ j=d.bas k:=fun h=>e h.symm
    simp only[upd,if_neg this]
    rw[ih]; grind
   ·rw[ih]; grind
theorem abp {n j N:Nat} {d:zn} (hb:Bij d N) (hj:j<n):qt n d d.r j=vl d j:=NX hj d.r fun _ _ ha hb'=>lu hb ha hb'
theorem Mf {n j q:Nat} {d:zn} (hj:j<n):∀ k,(∀ a b,a<k→b<k→d.bas a=d.bas b→a=b)→(∀ a,a<k→d.bas a≠d.fre q)→uL n d q k j=(zg k fun i=>if d.bas i=j then-d.a i q else 0)+if d.fre q=j then 1 else 0
 | 0,_,_=>by
  simp only[uL,zg]
  by_cases e:d.fre q=j
  ·rw[if_pos (by omega),if_pos e,e]
   simp only[upd,if_true]; grind
  ·rw[if_neg e]
   split
   ·have:¬ j=d.fre q:=fun h=>e h.symm
    simp only[upd,if_neg this]; grind
   ·grind
 | k+1,hinj,hne=>by
  have ih:=Mf hj (d:=d) (q:=q) k (fun a b ha hb=>hinj a b (by omega) (by omega)) fun a ha=>hne a (by omega)
  simp only[uL,zg]
  by_cases e:d.bas k=j
  ·rw[if_pos (by omega),if_pos e,zV fun i hi=>if_neg fun e2=>by have:=hinj i k (by omega) (by omega) (by rw[e,e2]); omega]
   have h2:¬ d.fre q=j:=fun h=>hne k (by omega) (by rw[e,h])
   rw[if_neg h2,e]
   simp only[upd,if_true]
   grind
  ·rw[if_neg e]
   split
   ·have:¬ j=d.bas k:=fun h=>e h.symm
    simp only[upd,if_neg this]
    rw[ih]; grind
   ·rw[ih]; grind
theorem acD {n j q N:Nat} {d:zn} (hb:Bij d N) (hq:q<d.c) (hj:j<n):uL n d q d.r j=j5 d q j :=
 Mf hj d.r (fun _ _ ha hb'=>lu hb ha hb') fun _a ha e=>v4 hb ha hq e.symm
def yY (bb:Nat→Rat):Nat→Int
 | 0=>-1
 | k+1=>if bb k<0∧(yY bb k<0∨bb k<bb (yY bb k).toNat) then k else yY bb k
theorem ah (bb:Nat→Rat):∀ k,-1≤yY bb k∧yY bb k<k
 | 0=>by simp[yY]
 | k+1=>by have:=ah bb k; simp only[yY]; split<;>omega
theorem Z5 {bb:Nat→Rat}:∀ k,yY bb k<0→∀ i,i<k→0≤bb i
 | 0,_,i,hi=>by omega
 | k+1,h,i,hi=>by
  simp only[yY] at h
  split at h
  ·omega
  ·rename_i hn
   by_cases e:i=k
   ·subst e
    have:¬ bb i<0:=fun h0=>hn ⟨h0,.inl h⟩
    grind
   ·exact Z5 k h i (by omega)
theorem Z6 {bb:Nat→Rat}:∀ k,0≤yY bb k→bb (yY bb k).toNat<0∧∀ i,i<k→bb (yY bb k).toNat≤bb i
 | 0,h=>by simp[yY] at h
 | k+1,h=>by
  have b:=ah bb k
  simp only[yY] at h ⊢
  split
  ·rename_i hc
   refine ⟨by simpa using hc.1,fun i hi=>?_⟩
   simp only[Int.toNat_natCast]
   by_cases e:i=k
   ·subst e; grind
   ·by_cases h1:yY bb k<0
    ·have:=Z5 k h1 i (by omega); have:=hc.1; grind
    ·have h2:=hc.2.resolve_left h1
     have:=(Z6 (bb:=bb) k (by omega)).2 i (by omega)
     grind
  ·rename_i hc
   rw[if_neg hc] at h
   obtain ⟨h1,h2⟩:=Z6 k h
   refine ⟨h1,fun i hi=>?_⟩
   by_cases e:i=k
   ·subst e
    have:¬ bb i<bb (yY bb i).toNat:=fun h3=>hc ⟨by grind,.inr h3⟩
    grind
   ·exact h2 i (by omega)
noncomputable def tN (n m:Nat) (A:Nat→Nat→Rat) (bb:Nat→Rat):List (Nat × zb) :=
 [(1015,.var [iv n,iv m,.us 1961 1 0 m,.us 1972 3 0 m,vh n,f0 0,f1 0,f2 0,.us 1987 1 0 m,.us 2029 1 0 n]),(2029,.uarr 1 (nR id n)),
   (1961,.uarr 1 (oR A om (fun _=>n) m)),(1972,.uarr 3 (fR bb m)),(1987,.uarr 1 (nR (fun i=>n+i) m))]
theorem KO {n:Nat}:wB (vh n) (fL (fun _=>0) n):=by
 unfold vh
 split
 ·rename_i h; subst h; exact wB.nil
 ·exact wB.list
theorem NU {g h:Nat→List AV} {n:Nat} (e:∀ i,i<n→∃ x y,g i=[x]∧h i=[y]∧wB x y):∀ (i:Nat) r r',(mR g n)[i]?=some r→(mR h n)[i]?=some r'→r'.length=r.length∧∀ (j:Nat) c c',r[j]?=some c→r'[j]?=some c'→wB c c':=by
 intro i r r' hr hr'
 have hi:i<n:=by have:=(List.getElem?_eq_some_iff.1 hr).1; simpa using this
 rw[tw hi] at hr hr'
 obtain ⟨x,y,e1,e2,hw⟩:=e i hi
 simp only[Option.some.injEq] at hr hr'
 subst hr hr'
 rw[e1,e2]
 refine ⟨rfl,fun j c c' hj hj'=>?_⟩
 cases j with
 | zero=>simp only[List.getElem?_cons_zero,Option.some.injEq] at hj hj'; subst hj hj'; exact hw
 | succ j=>simp at hj
def dZ (n m:Nat) (A:Nat→Nat→Rat) (bb:Nat→Rat):zn:=dG n m A bb fun _=>0
theorem d6 {ρ l l':List (Nat × zb)} (h:lk l=lk l'):lk (ρ++l)=lk (ρ++l'):=by
 funext k
 induction ρ with
 | nil=>exact congrFun h k
 | cons p ρ ih =>
  obtain ⟨q,x⟩:=p
  simp only[List.cons_append,lk]
  split
  ·rfl
  ·exact ih
theorem Uc {s t:St} (h1:s.env=t.env) (h2:lk s.sto=lk t.sto) (h3:s.out=t.out):St.impW s t:=by
 intro F a w I β lam hI
 have e:t.look=s.look:=by
  funext ⟨d,k⟩
  cases d<;>simp only[St.look,h1,h3]
 rw[e,← h2]
 exact hI
theorem Rx {s:St} {env:List (Nat × AV)} (h:sS s.env env):St.impW s {s with env:=env}:=by
 intro F a w I β lam hI
 refine {hI with env:=fun t x hx=>hI.env t x ?_}
 obtain ⟨d,t⟩:=t
 cases d with
 | zero=>exact b7 h hx
 | succ d=>exact hx
theorem A2 {n m:Nat} {A:Nat→Nat→Rat} {bb:Nat→Rat} {ρ:List (Nat × zb)} {env:List (Nat × AV)} {out:List (List (Nat × AV))} {base:Nat} (hρ:rest ρ) :
  St.impW ⟨env,ρ++tN n m A bb,out,base⟩ ⟨env,ρ++tL n m (dZ n m A bb),out,base⟩:=by
 refine St.impW.trans (St.impW_cell_weak (k:=1015) (j:=4) (y:=fL (fun _=>0) n) (by simp[tN,rlk hρ,far]; rfl) rfl KO) ?_
 simp[tN,rpt hρ,far]
 refine St.impW.trans (St.impW_uarr (l:=1961) (sz:=1) (rows':=cR A (fun _=>n) m) (by simp[rlk hρ,far]; rfl) (by simp) (NU fun i hi=>⟨_,_,rfl,rfl,wB.list⟩)) ?_
 simp[rpt hρ,far]
 refine Uc rfl (d6 (UO ?_ ?_)) rfl
 ·simp[tL,dZ,dG,uQ,sU]; rfl
 ·simp[tL,dZ,dG,uQ,sU]; rfl
theorem Ts:yM Try.prog uo=true:=by kernel_rfl
theorem me:yM Try.prog x7=true:=by kernel_rfl
noncomputable def eF (n m:Nat) (A:Nat→Nat→Rat) (bb:Nat→Rat) (ρ:List (Nat × zb)) (out:List (List (Nat × AV))) (k:Nat):St :=
 {env:=[(0,.ptr 1015 0),(4,iv (yY bb k)),(12,.us 1972 3 0 m),(13,iv m),(14,iv k)],sto:=ρ++tN n m A bb,out:=out,base:=4000}
noncomputable def aR (A:Nat→Nat→Rat) (n k m:Nat):List (List AV):=mR (fun i=>if i<k then [fL (fun j=>if j<n then A i j else -1) (n+1)] else [.list 3 (om i) (fR (A i) n)]) m
noncomputable def L0 (n m p:Nat) (A:Nat→Nat→Rat) (bb:Nat→Rat) (ρ:List (Nat × zb)) (out:List (List (Nat × AV))) (k:Nat):St :=
 {env:=[(0,.ptr 1015 0),(4,iv p),(7,.ptr 4007 0),(47,iv m),(48,iv k)],
  sto:=ρ++[(1015,.var [iv n,iv m,.us 1961 1 0 m,.us 1972 3 0 m,vh n,f0 0,f1 0,f2 0,.us 1987 1 0 m,.us 2029 1 0 n]),(2029,.uarr 1 (nR id n)),
   (1961,.uarr 1 (aR A n k m)),(1972,.uarr 3 (fR bb m)),(1987,.uarr 1 (nR (fun i=>n+i) m)),(4007,.var (fr (-1)))],out:=out,base:=4000}
structure Ready (n m L:Nat) (A:Nat→Nat→Rat) (bb:Nat→Rat) (e:zn):Prop where
 bij:Bij e (n+m)
 sol:∀ x,sol e x↔sol (dZ n m A bb) x
 feas:feas e
 r:e.r=m
 c:e.c=n
 sz:szD L e
theorem QS {n m L:Nat} {A:Nat→Nat→Rat} {bb:Nat→Rat} {ρ:List (Nat × zb)} {env:List (Nat × AV)} {out:List (List (Nat × AV))} {Q:Exit→St→Prop} (hρ:rest ρ) (hE:yS 2000 env) (hO:yh 2000 out) (hm:m<900000) (hL:L≤10000000000) (hb:∀ i,i<m→sz L (bb i))
  (h:Q (.exit 0) ⟨[(0,.ptr 1015 0),(4,iv (yY bb m)),(12,.us 1972 3 0 m),(13,iv m),(14,iv m),(15,bv false)],ρ++tN n m A bb,env::out,4000⟩) :
  awp Try.prog (.loop ri) (eF n m A bb ρ (env::out) 0) Q:=by
 refine zB (eF n m A bb ρ (env::out)) (fun _=>True) m (by simp[eF]) trivial (fun k hk _=>?_) (fun _=>?_)
 ·have e:(k:Int)<m:=by omega
  have w:=zC (k:=k) (by omega)
  obtain ⟨b1,b2⟩:=ah bb k
  have g1:=sQ (q:=bb k)
  simp[ri,eF,tN,e,hk,rlk hρ,rpt hρ,far]
  refine za g1 (by simp) (by simp) ?_
  by_cases h0:bb k<0
  ·have h0':xm (bb k)<0:=ug.2 h0
   by_cases h1:yY bb k<0
   ·have ev:yY bb (k+1)=k:=by simp only[yY]; rw[if_pos ⟨h0,.inl h1⟩]
    simp[h0',h1,w,eF,tN,ev,rlk hρ,wb hρ,xd hρ,eno hE,ono hO,far]
   ·have b3:(yY bb k).toNat<m:=by omega
    have b4:(0:Int)≤yY bb k:=by omega
    have b5:yY bb k<m:=by omega
    have g2:=fk (by omega) (hb k hk) (hb _ b3)
    simp[h0',h1,b3,b4,b5,rlk hρ,far]
    refine za g2 (by simp) (by simp) ?_
    by_cases h2:bb k<bb (yY bb k).toNat
    ·have ev:yY bb (k+1)=k:=by simp only[yY]; rw[if_pos ⟨h0,.inr h2⟩]
     have h2':wa (bb k) (bb (yY bb k).toNat)<0:=qJ.2 h2
     simp[h2',w,eF,tN,ev,rlk hρ,wb hρ,xd hρ,eno hE,ono hO,far]
    ·have ev:yY bb (k+1)=yY bb k:=by simp only[yY]; rw[if_neg fun h=>h.2.elim h1 h2]
     have h2':¬ wa (bb k) (bb (yY bb k).toNat)<0:=fun h=>h2 (qJ.1 h)
     simp[h2',w,eF,tN,ev,rlk hρ,wb hρ,xd hρ,eno hE,ono hO,far]
  ·have h0':¬ xm (bb k)<0:=fun h=>h0 (ug.1 h)
   have ev:yY bb (k+1)=yY bb k:=by simp only[yY]; rw[if_neg fun h=>h0 h.1]
   simp[h0',w,eF,tN,ev,rlk hρ,wb hρ,xd hρ,eno hE,ono hO,far]
 ·simp[ri,eF]
  exact h
def sec:ze→ze
 | .seq _ b=>b
 | c=>c
def Next (n m:Nat) (e:zn) (res:AV) (e2:zn):Prop :=
 (e.v<0∧res=.tuple [fL (xJ n m e e.c) m,bv false]∧e2=e) ∨
 (¬ e.v<0∧res=.tuple [zK,bv true]∧∃ d1 j0,((d1=e∧∀ i,i<m→e.bas i≠n+m)∨∃ i q,i<m∧q<e.c∧e.bas i=n+m∧(∀ k,k<i→e.bas k≠n+m)∧e.a i q≠0∧(∀ k,k<q→e.a i k=0)∧d1=pivot e i q) ∧
  j0<d1.c∧d1.fre j0=n+m∧(∀ k,k<j0→¬ d1.fre k=n+m)∧e2=pz d1 j0)
noncomputable def tM (X n m:Nat) (A:Nat→Nat→Rat) (bb:Nat→Rat):List (Nat × zb) :=
 [(1015,.var [iv n,iv m,.us 1961 1 0 m,.us 1972 3 0 m,.list 3 (.own X) (fR (dA n m A bb).cst (n+1)),f0 0,f1 0,f2 0,.us 1987 1 0 m,.us 2029 1 0 (n+1)]),(2029,.uarr 1 (nR (dA n m A bb).fre (n+1))),
  (1961,.uarr 1 (cR (dA n m A bb).a (fun _=>n+1) m)),(1972,.uarr 3 (fR bb m)),(1987,.uarr 1 (nR (fun i=>n+i) m))]
theorem A1 {X n m:Nat} {A:Nat→Nat→Rat} {bb:Nat→Rat} {ρ:List (Nat × zb)} {env:List (Nat × AV)} {out:List (List (Nat × AV))} {base:Nat} (hρ:rest ρ) :
  St.impW ⟨env,ρ++tM X n m A bb,out,base⟩ ⟨env,ρ++tL n m (dA n m A bb),out,base⟩:=by
 refine St.impW.trans (St.impW_cell_weak (k:=1015) (j:=4) (y:=fL (dA n m A bb).cst (n+1)) (by simp[tM,rlk hρ,far]; rfl) rfl wB.list) ?_
 simp[tM,rpt hρ,far]
 refine Uc rfl (d6 (UO ?_ ?_)) rfl
 ·simp[tL,dA,uQ,sU]
 ·simp[tL,dA,uQ,sU]
theorem CY {A:Nat→Nat→Rat} {n m:Nat}:aR A n 0 m=oR A om (fun _=>n) m:=wq fun i _=>if_neg (by omega)
theorem CX {A:Nat→Nat→Rat} {bb:Nat→Rat} {n m:Nat}:aR A n m m=cR (dA n m A bb).a (fun _=>n+1) m:=wq fun _i hi=>if_pos hi
theorem L4 {n m p L:Nat} {A:Nat→Nat→Rat} {bb:Nat→Rat} {e e2:zn} {res:AV} (hm:m<900000) (hn:n<900000) (hL:L≤10000000000) (hb:∀ i,i<m→sz L (bb i)) (hw:yY bb m=(p:Nat)) (hp:p<m)
  (szA:szD L (dA n m A bb)) (sze:szD L e) (her:e.r=m) (hec:e.c=n+1) (hfre:∀ j,j<e.c→e.fre j<4000000)
  (hopt:∀ {ρ:List (Nat × zb)} {s:St} {K:AV→St→Prop},s.sto=ρ++tL n m (pivot (dA n m A bb) p n)→rest ρ→yS 2000 s.env→yh 2000 s.out→K (jY e) ⟨s.env,ρ++tL n m e,s.out,s.base⟩→afN Try.prog x7 [.ptr 1015 0] s K)
  (hx:Next n m e res e2) {ρ:List (Nat × zb)} {s:St} {K:AV→St→Prop} (hs:s.sto=ρ++tN n m A bb) (hρ:rest ρ) (hE:yS 2000 s.env) (hO:yh 2000 s.out) (h:K res ⟨s.env,ρ++tL n m e2,s.out,s.base⟩) :
  afN Try.prog ud [.ptr 1015 0] s K:=by
 obtain ⟨env,σ,out,base⟩:=s
 simp only at hs hE hO h
 subst hs
 have hO2:yh 2000 (env::out):=qU.2 ⟨hE,hO⟩
 have g0:zc Try.prog zI [iv (-1)] (fq (-1)):=xy (n:=-1) (by decide) (by decide)
 refine xL 4000 a6 (by simp) ?_
 simp[jQ,tN,rlk hρ,far]
 refine QS (n:=n) (A:=A) hρ hE hO hm hL hb ?_
 have hp0:¬ (p:Int)<0:=by omega
 simp[p9,hw,hp0,tH]
 refine za g0 (by simp) (by simp) ?_
 simp[tN,rlk hρ,rpt hρ,far]
 refine sj (L0 n m p A bb ρ (env::out)) (fun _=>True) m (St.imp_of (by simp[L0,CY])) trivial (fun k hk _=>?_) (fun _=>?_)
 ·have e1:(k:Int)<m:=by omega
  have w:=zC (k:=k) (by omega)
  have g:(aR A n k m)[k]?=some [.list 3 (om k) (fR (A k) n)]:=by unfold aR; rw[tw hk,if_neg (by omega)]
  have gE:∀ h,(aR A n k m)[k]'h=[.list 3 (om k) (fR (A k) n)]:=fun h=>(List.getElem?_eq_some_iff.1 g).2
  have aL:(aR A n k m).length=m:=vP
  have hf:far (1000000+k)=true:=decide_eq_true (by omega)
  have l1:∀ l,lk (ρ++l) (1000000+k)=lk l (1000000+k):=fun l=>rlk hρ hf
  have hd0:=pO (k:=1000000+k) hρ (by omega)
  have hd1:=edg (k:=1000000+k) hE (by omega)
  have hd2:=odg (k:=1000000+k) hO (by omega)
  have hd3:=bp (l:=1000000+k) (k:=n) (by omega)
  have n0:∀ j,j<1000000→¬ j=1000000+k:=fun j hj=>by omega
  have hdg:zU (1000000+k) (aR A n k m)=mR (fun i=>if i<k then [fL (fun j=>if j<n then A i j else -1) (n+1)] else [.list 3 (if i=k then .plain else om i) (fR (A i) n)]) m:=by
   unfold aR zU
   refine mu fun i hi=>?_
   by_cases h1:i<k
   ·rw[if_pos h1,if_pos h1]; simp
   ·rw[if_neg h1,if_neg h1]
    by_cases h2:i=k
    ·subst h2; simp[om,dg]
    ·rw[if_neg h2]
     simp[om,dg,h2]
  have wn:(n+1)*56≤140737488355328:=by omega
  have wn2:n≤9223372036854775806:=by omega
  have hfa:fR (A k) n++[fr (-1)]=fR (fun j=>if j<n then A k j else -1) (n+1):=by
   rw[nj,if_neg (Nat.lt_irrefl n)]
   rw[yI (f:=fun j=>if j<n then A k j else -1) (g:=A k) fun j hj=>if_pos hj]
  simp[na,L0,e1,hk,gE,aL,om,rlk hρ,rpt hρ,wb hρ,far,w,l1,hd0,hd1,hd2,hd3,n0,hdg,-dgE,ww,wm,wn,wn2,hfa]
  rw[YX]
  refine St.imp.trans (St.imp_uarr (l:=1961) (sz:=1) (rows':=aR A n (k+1) m) (by simp[rlk hρ,far]; rfl) (by simp[aR]) ?_) ?_
  ·unfold aR
   refine NU fun i hi=>?_
   by_cases h1:i=k
   ·subst h1
    exact ⟨.list 3 (.own (1000000+i)) (fR (fun j=>if j<n then A i j else -1) (n+1)),fL (fun j=>if j<n then A i j else -1) (n+1),by simp[upd],by rw[if_pos (by omega)],wB.list⟩
   ·by_cases h2:i<k
    ·exact ⟨fL (fun j=>if j<n then A i j else -1) (n+1),_,by simp only[upd,if_neg h1,if_pos h2],by rw[if_pos (by omega)],wB.refl⟩
    ·exact ⟨.list 3 (om i) (fR (A i) n),.list 3 (om i) (fR (A i) n),by simp only[upd,if_neg h1,if_neg h2]; rfl,by rw[if_neg (by omega)],wB.refl⟩
  ·simp[rpt hρ,far]
   exact St.imp.refl
 ·have wn1:(n+1)*8≤140737488355328:=by omega
  have wn:(n+1)*56≤140737488355328:=by omega
  have wn2:n≤9223372036854775806:=by omega
  have wnm:IntKind.i64.wrap ((n:Int)+m)=((n+m:Nat):Int):=by rw[wrap64]<;>omega
  have hdg:=bp (l:=2029) (k:=n) (by omega)
  have hfe:nR id n++[[iv ((n:Int)+m)]]=nR (dA n m A bb).fre (n+1):=by
   unfold nR
   rw[bF]
   simp only[dA,Nat.lt_irrefl,if_false,Int.natCast_add]
   congr 1
   exact wq fun i hi=>by rw[if_pos hi]; rfl
  simp[na,L0,rh,rlk hρ,rpt hρ,far,pO hρ,edg hE,odg hO,-dgE,ww,wm,hdg,wn1,wn2,wnm,CX (bb:=bb),hfe]
  have hcs:fR (fun _=>0) n++[fr (-1)]=fR (dA n m A bb).cst (n+1):=by
   rw[nj]
   simp only[dA,Nat.lt_irrefl,if_false]
   rw[yI (f:=fun j=>if j<n then (0:Rat) else -1) (g:=fun _=>0) fun j hj=>if_pos hj]
  have hc0:(n=0∧vh n=zK)∨vh n=.list 3 (.own 2039) (fR (fun _=>0) n):=by
   unfold vh
   split
   ·exact .inl ⟨by assumption,rfl⟩
   ·exact .inr rfl
  have wn3:IntKind.i64.wrap (n:Int)=n:=by rw[wrap64]<;>omega
  have hds:(dA n m A bb).c=n+1:=rfl
  have pv:∀ (X:Nat) (env0:List (Nat × AV)),sS env0 [(0,.ptr 1015 0)]→∀ {K:AV→St→Prop},K (.tuple []) ⟨[(0,.ptr 1015 0)],ρ++tL n m (pivot (dA n m A bb) p n),env::out,4000⟩→afN Try.prog uc [.ptr 1015 0,iv p,iv n] ⟨env0,ρ++tM X n m A bb,env::out,4000⟩ K:=fun X env0 h0 K hK =>
   afN.pre (St.impW.trans (A1 hρ) (Rx h0)) (Qc (s:=⟨[(0,.ptr 1015 0)],ρ++tL n m (dA n m A bb),env::out,4000⟩) (d:=dA n m A bb) (ρ:=ρ) (n:=n) (m:=m) (L:=L) rfl hρ (by simp[yo,yy,y7]) hO2 (by omega) (by simp only[dA]; omega) rfl hp (by simp only[dA]; omega) hL szA Mn hK)
  have sg:=sQ (q:=e.v)
  have fin:uF Try.prog x7 [AV.ptr 1015 0]
    {env:=[(0,AV.ptr 1015 0),(105,AV.ptr 1015 0)],sto:=ρ++tL n m (pivot (dA n m A bb) p n),out:=env::out,base:=4000} (some 106)
    (kP Try.prog [] (Rg [105,106] [] (sP Try.prog (sec (sec (sec (sec rh)))) (ZM tH base K)))):=by
   refine afM (hopt rfl hρ (by simp[yo,yy,y7]) hO2 ?_)
   simp[sec,rh,tL,rlk hρ,far]
   refine za sg (by simp) (by simp) ?_
   rcases hx with ⟨hv,rfl,rfl⟩ | ⟨hv,rfl,d1,j0,h1,hj0,hf0,hmin,rfl⟩
   ·have hv':xm e2.v<0:=ug.2 hv
    simp[hv',Ts]
    refine afM (Aj (s:=⟨_,ρ++tL n m e2,env::out,4000⟩) (n:=n) (m:=m) (d:=e2) (ρ:=ρ) (L:=L) rfl hρ ?_ hO2 (by omega) (by omega) (by omega) hfre (by omega) sze.cst ?_)
    ·simp[yo,yy,uJ,y7]
    simp[tH]
    exact h
   ·have hv':¬ xm e.v<0:=fun h=>hv (ug.1 h)
    simp[hv',JU]
    refine afM (Au (s:=⟨_,ρ++tL n m e,env::out,4000⟩) (d:=e) (d1:=d1) (ρ:=ρ) (n:=n) (m:=m) (L:=L) rfl hρ (by simp[yo,yy,uJ,y7]) hO2 (by omega) (by omega) (by omega) her hL sze h1 hj0 hf0 hmin ?_)
    simp[tH]
    exact h
  rcases hc0 with ⟨hn0,hc⟩ | hc
  ·have hcs2:[fr (-1)]=fR (dA n m A bb).cst (n+1):=by rw[← hcs,hn0]; rfl
   simp[hc,hcs2,rlk hρ,rpt hρ,wb hρ,far,pO hρ,edg hE,odg hO,-dgE,ww,wm,wn,wn2,wn3,xd hρ,eno hE,ono hO,fV]
   refine afM (pv 4093 _ (by simp[uQ,sU]) ?_)
   simp[me]
   exact fin
  ·simp[hc,hcs,rlk hρ,rpt hρ,wb hρ,far,pO hρ,edg hE,odg hO,-dgE,ww,wm,wn,wn2,wn3,xd hρ,eno hE,ono hO,fV]
   refine afM (pv 2039 _ (by simp[uQ,sU]) ?_)
   simp[me]
   exact fin
theorem abL {n m S t:Nat} {A:Nat→Nat→Rat} {bb:Nat→Rat} (ht:m≤t∨n+1≤t) (hm:m<900000) (hn:n<900000) (hS:grow S t≤10000000000) (ha:∀ i j,i<m→j<n→sz S (A i j)) (hb:∀ i,i<m→sz S (bb i)) :
  (∃ e y,(Inf n m A bb y∧∀ i,sz (grow S t) (y i))∧∀ {ρ:List (Nat × zb)} {s:St} {K:AV→St→Prop},s.sto=ρ++tN n m A bb→rest ρ→yS 2000 s.env→yh 2000 s.out→K (.tuple [fL y m,bv false]) ⟨s.env,ρ++tL n m e,s.out,s.base⟩→afN Try.prog ud [.ptr 1015 0] s K) ∨
  (∃ e,Ready n m (grow S t) A bb e∧∀ {ρ:List (Nat × zb)} {s:St} {K:AV→St→Prop},s.sto=ρ++tN n m A bb→rest ρ→yS 2000 s.env→yh 2000 s.out→K (.tuple [zK,bv true]) ⟨s.env,ρ++tL n m e,s.out,s.base⟩→afN Try.prog ud [.ptr 1015 0] s K):=by
 have hSm:S≤grow S t:=mq (m:=0) (Nat.zero_le t)
 have sm1:sz S (-1):=sW v6
 have szA:szD S (dA n m A bb):=⟨fun i j hi hj=>by
   simp only[dA] at hi ⊢
   split
   ·exact ha i j hi (by assumption)
   ·exact sm1,fun i hi=>hb i hi,fun j hj=>by
   simp only[dA]
   split
   ·exact y8
   ·exact sm1,y8⟩
 have szZ:szD (grow S t) (dZ n m A bb):=Z1 ⟨fun i j hi hj=>ha i j hi hj,fun i hi=>hb i hi,fun j hj=>y8,y8⟩ hSm
 have bw:=ah bb m
 by_cases hw:yY bb m<0
 ·refine .inr ⟨dZ n m A bb,⟨KP,fun _=>Iff.rfl,fun i hi=>Z5 m hw i hi,rfl,rfl,szZ⟩,?_⟩
  intro ρ s K hs hρ hE hO h
  obtain ⟨env,σ,out,base⟩:=s
  simp only at hs hE hO h
  subst hs
  refine afN.post (K:=fun r s'=>r=.tuple [zK,bv true]∧s'=⟨env,ρ++tN n m A bb,out,base⟩) ?_ fun r s' ⟨e1,e2⟩=>.inl ⟨_,by subst e2; exact A2 hρ,by subst e1; exact h⟩
  refine xL 4000 a6 (by simp) ?_
  simp[jQ,tN,rlk hρ,far]
  refine QS (n:=n) (A:=A) hρ hE hO hm hS (fun i hi=>zM (hb i hi) hSm) ?_
  simp[p9,hw,tH]
  rfl
 ·obtain ⟨p,hp⟩:∃ p:Nat,yY bb m=p:=⟨(yY bb m).toNat,by omega⟩
  have hpm:p<m:=by omega
  obtain ⟨w1,w2⟩:=Z6 m (by omega:0≤yY bb m)
  rw[hp] at w1 w2
  simp only[Int.toNat_natCast] at w1 w2
  have hS1:Same (pivot (dA n m A bb) p n) (dA n m A bb) (n+m+1):=L3 hpm
  have hF1:feas (pivot (dA n m A bb) p n):=L2 w1 w2
  have hsize:∀ e,Same e (pivot (dA n m A bb) p n) (n+m+1)→e.r=(pivot (dA n m A bb) p n).r→e.c=(pivot (dA n m A bb) p n).c→szD (grow S t) e:=fun e he h1 h2 =>
   Same.size_t (d:=dA n m A bb) szA (he.trans hS1).symm h1 h2 ht
  obtain ⟨e,hfin,hopt⟩:=Tu hS1.bd hF1
  have hSe:Same e (dA n m A bb) (n+m+1):=hfin.same.trans hS1
  have her:e.r=m:=hfin.r
  have hec:e.c=n+1:=hfin.c
  have sze:szD (grow S t) e:=hsize e hfin.same hfin.r hfin.c
  have hcst:∀ j,j<e.c→e.cst j≤0:=by
   rcases hfin.out with ⟨_,h⟩ | ⟨q,_,hq,hc,hall⟩
   ·exact h
   ·exact absurd (PD hSe hfin.feas hq hc hall) id
  have hfre:∀ j,j<e.c→e.fre j<4000000:=fun j hj=>by have:=mn hSe.bd hj; omega
  have hwalk:=fun {e2:zn} {res:AV} (hx:Next n m e res e2) {ρ:List (Nat × zb)} {s:St} {K:AV→St→Prop}=>L4 (n:=n) (m:=m) (p:=p) (L:=grow S t) (A:=A) (bb:=bb) (e:=e) (ρ:=ρ) (s:=s) (K:=K) hm hn hS (fun i hi=>zM (hb i hi) hSm) hp hpm (Z1 szA hSm) sze her hec hfre
   (fun {ρ s K} hs hρ hE hO hK=>hopt hs hρ hE hO (by omega) (by simp only[pivot,dA]; omega) rfl hS hsize hK) hx
  by_cases hv:e.v<0
  ·refine .inl ⟨e,_,⟨abd hSe hcst hv,fun i=>sW (Cz hSe.bd sze (n+i))⟩,?_⟩
   have hy:fL (fun i=>- cv e (n+i)) m=fL (xJ n m e e.c) m:=congrArg _ (yI fun i hi=>(Ge hSe.bd hi).symm)
   rw[hy]
   exact fun {ρ s K} hs hρ hE hO h=>hwalk (.inl ⟨hv,rfl,rfl⟩) hs hρ hE hO h
  ·have hv0:e.v=0:=by have:=CO hSe hfin.feas; grind
   have fin:∀ d1:zn,((d1=e∧∀ i,i<m→e.bas i≠n+m)∨∃ i q,i<m∧q<e.c∧e.bas i=n+m∧(∀ k,k<i→e.bas k≠n+m)∧e.a i q≠0∧(∀ k,k<q→e.a i k=0)∧d1=pivot e i q) →
     Same d1 (dA n m A bb) (n+m+1)→feas d1→d1.r=m→d1.c=n+1→(∃ j,j<d1.c∧d1.fre j=n+m)→szD (grow S t) d1 →
     (∃ e,Ready n m (grow S t) A bb e∧∀ {ρ:List (Nat × zb)} {s:St} {K:AV→St→Prop},s.sto=ρ++tN n m A bb→rest ρ→yS 2000 s.env→yh 2000 s.out→K (.tuple [zK,bv true]) ⟨s.env,ρ++tL n m e,s.out,s.base⟩→afN Try.prog ud [.ptr 1015 0] s K):=by
    intro d1 h1 hS hF hr hc hex hz
    obtain ⟨j0,hj0,hf0,hmin⟩:=least hex
    refine ⟨pz d1 j0,⟨Eh hS hj0 hf0,fun x=>Ei hS hj0 hf0 x,fun i hi=>hF i hi,hr,by simp only[pz]; omega,
     ⟨fun i j hi hj=>hz.a i _ hi (Sx hj0 hj),fun i hi=>hz.b i hi,fun j hj=>hz.cst _ (Sx hj0 hj),hz.v⟩⟩,?_⟩
    exact fun {ρ s K} hs hρ hE hO h=>hwalk (.inr ⟨hv,rfl,d1,j0,h1,hj0,hf0,hmin,rfl⟩) hs hρ hE hO h
   refine .inr ?_
   by_cases hb0:∃ i,i<m∧e.bas i=n+m
   ·obtain ⟨i,hi,hbi,hmin⟩:=least hb0
    obtain ⟨q,hq,haq,hqm⟩:=least (Ag hSe (by omega) hbi)
    have hS2:Same (pivot e i q) (dA n m A bb) (n+m+1):=(Same.pivot hSe.bd (by omega) hq haq).trans hSe
    refine fin (pivot e i q) (.inr ⟨i,q,hi,hq,hbi,hmin,haq,fun k hk=>Classical.byContradiction fun h=>hqm k hk h,rfl⟩) hS2 (EA hfin.feas (abn hSe (by omega) hbi hv0)) her hec ⟨q,hq,by simp only[pivot,upd,if_true]; exact hbi⟩ ?_
    exact Same.size_t (d:=dA n m A bb) szA hS2.symm her hec ht
   ·refine fin e (.inl ⟨rfl,fun i hi h=>hb0 ⟨i,hi,h⟩⟩) hSe hfin.feas her hec ?_ sze
    rcases eZ hSe.bd (show n+m<n+m+1 by omega) with h | ⟨i,hi,h⟩
    ·exact h
    ·exact absurd ⟨i,by omega,h⟩ hb0
@[simp] theorem NT {g:Nat→List AV} {n:Nat}:(mR g n).take n=mR g n:=List.take_of_length_le (by simp)
@[simp] theorem adP {a:Nat→Nat→Rat} {cl:Nat→Nat} {n:Nat}:(cR a cl n).take n=cR a cl n:=NT
@[simp] theorem ad6 {f:Nat→Nat} {n:Nat}:(nR f n).take n=nR f n:=NT
theorem aaB {I I':Nat→Nat→Prop} {w:World} {β β':zR} {lam lam':ya} {v:Value} {x y:Value} (h:R I w β lam (.tuple [.val x,.val y]) v):R I' w β' lam' (.tuple [.val x,.val y]) v:=by
 have key:∀ {l:List AV} {vs:Array Value},l=[.val x,.val y]→vs.size=l.length→(∀ i c,l[i]?=some c→R I w β lam c (vs.getD i undef))→∀ i c,l[i]?=some c→R0 I' w c (vs.getD i undef):=by
  intro l vs hl _ h i c hc
  subst hl
  have h1:=h i c hc
  match i,hc with
  | 0,hc =>
   simp only[List.getElem?_cons_zero,Option.some.injEq] at hc
   subst hc
   cases h1 with
   | base h1=>cases h1; exact .val _
  | 1,hc =>
   simp only[List.getElem?_cons_succ,List.getElem?_cons_zero,Option.some.injEq] at hc
   subst hc
   cases h1 with
   | base h1=>cases h1; exact .val _
 cases h with
 | base h=>cases h with | tuple _ vs hs hc=>exact .base (.tuple _ vs hs (key rfl hs fun i c h=>.base (hc i c h)))
 | tuple _ vs hs _ hc=>exact .base (.tuple _ vs hs (key rfl hs hc))
theorem acA {P:Program} {f:FuncId} {xs:List AV} {s:St} {x y:Value} {s1 t:St} {K':AV→St→Prop} (hc:afN P f xs s fun r s'=>r=.tuple [.val x,.val y]∧s'=s1) (h:St.imp s1 t) (hk:K' (.tuple [.val x,.val y]) t):afN P f xs s K' :=
 fun F a w I β lam hI vs hn hv=>Calls.mono (hc F a w I β lam hI vs hn hv) fun e w' ⟨v,e1,r,s',I',β',lam',⟨hr,hs⟩,hI',hR⟩=>by
  subst hr hs
  obtain ⟨I2,β2,lam2,h2⟩:=h _ _ _ ⟨I',β',lam',hI'⟩
  exact ⟨v,e1,_,t,I2,β2,lam2,hk,h2,aaB hR⟩
theorem Jb (e:zn):∃ x y,jY e=.tuple [.val x,.val y]:=by
 unfold jY
 split
 ·exact ⟨_,_,rfl⟩
 ·exact ⟨_,_,rfl⟩
noncomputable def rM (A:Nat→Nat→Rat) (bb gg:Nat→Rat) (n m:Nat):List (Nat × zb) :=
 [(1,.var [fL gg n,.list 4 .plain (pR A bb n m)]),(2,.var [iv 0,bv false,zK,zK,zK,zK,zK])]
noncomputable def j6:List (Nat × zb):=[(2,.var [iv 0,bv false,zK,zK,zK,zK,zK])]
theorem qV {A:Nat→Nat→Rat} {bb gg:Nat→Rat} {n m:Nat}:rest (rM A bb gg n m):=by
 intro p hp
 simp only[rM,List.mem_cons,List.not_mem_nil,or_false] at hp
 rcases hp with rfl | rfl
 ·exact ⟨.inl (show (_:Nat)<1000 by simp),by simp[sL]; exact ⟨rfl,rfl⟩⟩
 ·exact ⟨.inl (show (_:Nat)<1000 by simp),by simp[sL]; exact ⟨rfl,rfl,rfl⟩⟩
theorem Gr:rest j6:=by
 intro p hp
 simp only[j6,List.mem_cons,List.not_mem_nil,or_false] at hp
 subst hp
 exact ⟨.inl (show (_:Nat)<1000 by simp),by simp[sL]; exact ⟨rfl,rfl,rfl⟩⟩
theorem MT {n m:Nat} {e:zn} {b:Nat} :
  St.imp ⟨[(2,.ptr 2 0),(5,.ptr 1015 0)],j6++tL n m e,[],b⟩ ⟨[(2,.ptr 2 0),(5,tR n m e)],j6,[],b⟩:=by
 refine St.imp.trans (St.imp_freeze (k:=1961) (by simp[xf,j6,tL,vL,sF,vr,rQ,qT]; rfl)) ?_
 refine St.imp.trans (St.imp_freeze (k:=1972) (by simp[xf,vL,sF,vr,rQ,qT]; rfl)) ?_
 refine St.imp.trans (St.imp_freeze (k:=1987) (by simp[xf,vL,sF,vr,rQ,qT]; rfl)) ?_
 refine St.imp.trans (St.imp_freeze (k:=2029) (by simp[xf,vL,vr,rQ,qT]; rfl)) ?_
 refine St.imp.trans (St.imp_freeze (k:=1015) (by simp[xf,vL,qT]; rfl)) ?_
 simp[tR,j6]
 exact St.imp.refl
@[simp] theorem adv {q:Rat} {a b:AV}:zP [f0 q,f1 q,f2 q,a,b] 0 (some 3)=some (fq q):=by simp[zP]
@[simp] theorem acR {q:Rat} {a b c d x y z:AV}:splice [a,b,c,d,x,y,z] 1 (fr q)=[a,f0 q,f1 q,f2 q,x,y,z]:=by unfold fr; simp[splice,-qQ]
theorem fN {M:Nat}:Am.low M zK=true:=rfl
theorem RM {A:Nat→Nat→Rat} {bb gg:Nat→Rat} {n m M:Nat}:Am.low M (.agg [.list 3 .plain (fR gg n),.list 4 .plain (pR A bb n m)])=true:=rfl
def Fz (n m L:Nat) (A:Nat→Nat→Rat) (bb gg:Nat→Rat) (r:AV):Prop :=
 (∃ x y v,(Opt n m A bb gg x y v∧(∀ j,sz L (x j))∧(∀ i,sz L (y i))∧sz L v)∧r=.agg [iv 1,f0 v,f1 v,f2 v,fL x n,fL y m,zK]) ∨
 (∃ y,(Inf n m A bb y∧∀ i,sz L (y i))∧r=.agg [iv 2,bv false,zK,zK,zK,fL y m,zK]) ∨
 (∃ x ray,(Unb n m A bb gg x ray∧(∀ j,sz L (x j))∧∀ j,sz L (ray j))∧r=.agg [iv 3,bv false,zK,zK,fL x n,zK,fL ray n])
theorem mL:yM Try.prog ut=true:=by kernel_rfl
theorem ZC:yM Try.prog ud=true:=by kernel_rfl
theorem E3:yM Try.prog rN=true:=by kernel_rfl
theorem Y7:yM Try.prog rV=true:=by kernel_rfl
theorem AT {n m S t:Nat} {A:Nat→Nat→Rat} {bb gg:Nat→Rat} (ht1:m≤t∨n+1≤t) (hm:m<900000) (hn:n<900000) (hS:grow S t+(m+1)*(2*grow S t+1)≤30000000000) (ha:∀ i j,i<m→j<n→sz S (A i j)) (hb:∀ i,i<m→sz S (bb i)) (hg:∀ j,j<n→sz S (gg j))
  (hchk:zc Try.prog t9 [pA A bb gg n m] (iv 0)) :
  ∃ r,Fz n m (grow S t) A bb gg r∧zc Try.prog mi [pA A bb gg n m] (.tuple [r,iv 0]):=by
 have ht:m≤t∨n≤t:=by omega
 have hSm:S≤grow S t:=mq (m:=0) (Nat.zero_le t)
 have h0:1*(2*grow S t+1)≤(m+1)*(2*grow S t+1):=Nat.mul_le_mul_right _ (by omega)
 have hSG:grow S t≤10000000000:=by omega
 have szG:szD S (dG n m A bb gg):=⟨fun i j hi hj=>ha i j hi hj,fun i hi=>hb i hi,fun j hj=>hg j hj,y8⟩
 have nt:∀ {s:St} {K:AV→St→Prop},s.sto=rM A bb gg n m→yS 1000 s.env→yh 1000 s.out→K (.ptr 1015 0) ⟨s.env,rM A bb gg n m++tN n m A bb,s.out,s.base⟩→afN Try.prog ut [pA A bb gg n m] s K :=
  fun hs hE hO hK=>Px hs qV hE hO (by omega) (by omega) hK
 rcases abL (S:=S) (A:=A) (bb:=bb) ht1 hm hn hSG ha hb with ⟨e,y,hi,hst⟩ | ⟨e,hr,hst⟩
 ·refine ⟨_,.inr (.inl ⟨y,hi,rfl⟩),?_⟩
  refine zG cT (by simp) ?_
  simp[jn]
  refine za hchk (by simp) (by simp) ?_
  simp[mL]
  refine afM (nt (by simp[rM]) (by simp[yo,yy,vO,uJ,y7,RM]) (by simp[yh]) ?_)
  simp[ZC]
  refine afM (hst rfl qV (by simp[yo,yy,y7]) (by simp[yh]) ?_)
  simp[rM,tL,jD]
 ·have hS2:Same (mb n gg e) (dG n m A bb gg) (n+m):=Jm hr.bij hr.sol
  have hF2:feas (mb n gg e):=hr.feas
  have hsize:∀ e',Same e' (mb n gg e) (n+m)→e'.r=(mb n gg e).r→e'.c=(mb n gg e).c→szD (grow S t) e':=fun e' he h1 h2 =>
   Same.size_t (d:=dG n m A bb gg) szG (he.trans hS2).symm (by rw[h1]; exact hr.r) (by rw[h2]; exact hr.c) ht
  obtain ⟨e2,hfin,hopt⟩:=Tu hS2.bd hF2
  have hSe:Same e2 (dG n m A bb gg) (n+m):=hfin.same.trans hS2
  have her:e2.r=m:=hfin.r.trans hr.r
  have hec:e2.c=n:=hfin.c.trans hr.c
  have sze:szD (grow S t) e2:=hsize e2 hfin.same hfin.r hfin.c
  have hfre:∀ j,j<e2.c→e2.fre j<4000000:=fun j hj=>by have:=mn hSe.bd hj; omega
  obtain ⟨fx,fy,hfr⟩:=Jb e2
  have so:∀ {K:AV→St→Prop},K (jY e2) ⟨[(2,.ptr 2 0),(5,tR n m e2)],j6,[],0⟩→afN Try.prog x7 [.ptr 1015 0] ⟨[(2,.ptr 2 0),(5,.ptr 1015 0),(32,.ptr 1015 0)],j6++tL n m (mb n gg e),[],0⟩ K:=fun {K} hK=>by
   refine afN.pre (Rx (env:=[(2,.ptr 2 0),(5,.ptr 1015 0)]) (by simp[uQ,sU])) ?_
   refine acA (hopt rfl Gr (by simp[yo,yy,y7]) (by simp[yh]) (by omega) (by rw[show (mb n gg e).c=n from hr.c]; omega) hr.r hSG hsize ⟨hfr,rfl⟩) MT ?_
   rw[← hfr]
   exact hK
  have pt:=PF (n:=n) (m:=m) (d:=e2) (by omega) (by omega)
  have pr:=Qd (n:=n) (m:=m) (L:=grow S t) (d:=e2) (by omega) (by omega) (by omega) hfre (by omega) sze.cst
  have hx:fL (qt n e2 m) n=fL (vl e2) n:=congrArg _ (yI fun j hj=>by rw[← her]; exact abp hSe.bd hj)
  have hy:fL (xJ n m e2 e2.c) m=fL (fun i=>- cv e2 (n+i)) m:=congrArg _ (yI fun i hi=>Ge hSe.bd hi)
  rw[hx] at pt
  rw[hy] at pr
  rcases hfin.out with ⟨ho,hcst⟩ | ⟨q,ho,hq,hc0,hall⟩
  ·refine ⟨_,.inl ⟨_,_,_,⟨abm hSe hfin.feas hcst,CW hSe.bd sze,fun i=>sW (Cz hSe.bd sze (n+i)),sze.v⟩,rfl⟩,?_⟩
   rw[ho] at so
   refine zG cT (by simp) ?_
   simp[jn]
   refine za hchk (by simp) (by simp) ?_
   simp[mL]
   refine afM (nt (by simp[rM]) (by simp[yo,yy,vO,uJ,y7,RM]) (by simp[yh]) ?_)
   simp[ZC]
   refine afM (hst rfl qV (by simp[yo,yy,y7]) (by simp[yh]) ?_)
   simp[Y7,rM]
   refine afM (Qt (s:=⟨_,rM A bb gg n m++tL n m e,[],0⟩) (L:=grow S t) (d:=e) (g:=gg) (ρ:=rM A bb gg n m) (n:=n) (m:=m) rfl qV ?_ (by simp[yh]) (by omega) (by omega) (by rw[hr.c]; omega) hr.r (by omega) hr.sz (fun j hj=>zM (hg j hj) hSm) ?_)
   ·simp[yo,yy,uJ,y7,d7,fN]
   simp[me,rM,tL]
   refine afM (so ?_)
   simp[tR,j6,E3]
   refine Rd pt (by simp) (by simp[tR]) (by simp) ?_
   simp[Ts]
   refine Rd pr (by simp) (by simp[tR]) (by simp) ?_
   simp[jD]
  ·have ra:=Gj (n:=n) (m:=m) (L:=grow S t) (d:=e2) (q:=q) (by omega) (by omega) hq (by omega) (fun i hi=>sze.a i q (by omega) hq)
   have hra:fL (uL n e2 q m) n=fL (j5 e2 q) n:=congrArg _ (yI fun j hj=>by rw[← her]; exact acD hSe.bd hq hj)
   rw[hra] at ra
   refine ⟨_,.inr (.inr ⟨_,_,⟨abW hSe hfin.feas hq hc0 hall,CW hSe.bd sze,Ar hSe.bd sze hq⟩,rfl⟩),?_⟩
   rw[ho] at so
   refine zG cT (by simp) ?_
   simp[jn]
   refine za hchk (by simp) (by simp) ?_
   simp[mL]
   refine afM (nt (by simp[rM]) (by simp[yo,yy,vO,uJ,y7,RM]) (by simp[yh]) ?_)
   simp[ZC]
   refine afM (hst rfl qV (by simp[yo,yy,y7]) (by simp[yh]) ?_)
   simp[Y7,rM]
   refine afM (Qt (s:=⟨_,rM A bb gg n m++tL n m e,[],0⟩) (L:=grow S t) (d:=e) (g:=gg) (ρ:=rM A bb gg n m) (n:=n) (m:=m) rfl qV ?_ (by simp[yh]) (by omega) (by omega) (by rw[hr.c]; omega) hr.r (by omega) hr.sz (fun j hj=>zM (hg j hj) hSm) ?_)
   ·simp[yo,yy,uJ,y7,d7,fN]
   simp[me,rM,tL]
   refine afM (so ?_)
   simp[tR,j6]
   refine za pt (by simp[tR]) (by simp) ?_
   simp
   refine za ra (by simp[tR]) (by simp) ?_
   simp[jD]
theorem GX {n m S:Nat} {A:Nat→Nat→Rat} {bb gg:Nat→Rat} (hm:m<900000) (hn:n<900000) (hS:grow S m+(m+1)*(2*grow S m+1)≤30000000000) (ha:∀ i j,i<m→j<n→sz S (A i j)) (hb:∀ i,i<m→sz S (bb i)) (hg:∀ j,j<n→sz S (gg j))
  (hchk:zc Try.prog t9 [pA A bb gg n m] (iv 0)) :
  ∃ r,Fz n m (grow S m) A bb gg r∧zc Try.prog mi [pA A bb gg n m] (.tuple [r,iv 0]):=AT (.inl (Nat.le_refl m)) hm hn hS ha hb hg hchk
theorem D7 {n m S:Nat} {A:Nat→Nat→Rat} {bb gg:Nat→Rat} (hm:m<900000) (hn:n<900000) (hS:grow S m+(m+1)*(2*grow S m+1)≤10000000000) (ha:∀ i j,i<m→j<n→sz S (A i j)) (hb:∀ i,i<m→sz S (bb i)) (hg:∀ j,j<n→sz S (gg j))
  (hchk:zc Try.prog t9 [pA A bb gg n m] (iv 0)) :
  ∃ r,Fz n m (grow S m) A bb gg r∧zc Try.prog mi [pA A bb gg n m] (.tuple [r,iv 0]):=GX hm hn (Nat.le_trans hS (by decide)) ha hb hg hchk
noncomputable def qR (A:Nat→Nat→RF) (cl:Nat→Nat) (b:Nat→RF) (m:Nat):List (List AV):=mR (fun i=>[hL (A i) (cl i),h0 (b i),h1 (b i),h2 (b i)]) m
noncomputable abbrev rA (G:Nat→RF) (n:Nat) (A:Nat→Nat→RF) (cl:Nat→Nat) (b:Nat→RF) (m:Nat):AV:=.agg [hL G n,.list 4 .plain (qR A cl b m)]
section
variable {A:Nat→Nat→RF} {cl:Nat→Nat} {b:Nat→RF} {m i:Nat}
@[simp] theorem aeU:(qR A cl b m).length=m:=vP
@[simp] theorem aec {hi:i<(qR A cl b m).length}:(qR A cl b m)[i]=[hL (A i) (cl i),h0 (b i),h1 (b i),h2 (b i)]:=ru
@[simp] theorem afB:xB (qR A cl b m)=true:=mr fun _=>by simp
@[simp] theorem afC:zQ (qR A cl b m)=qR A cl b m:=wS fun _=>by simp
end
noncomputable def qg (f:Nat→RF) (n:Nat):Bool:=@decide (∀ j,j<n→(f j).v=true) (Classical.propDecidable _)
theorem vg {f:Nat→RF} {n:Nat}:qg f n=true↔∀ j,j<n→(f j).v=true:=by unfold qg; exact @decide_eq_true_iff _ (Classical.propDecidable _)
noncomputable def QP (f:Nat→RF) (n k:Nat):St:={env:=[(5,hL f n),(6,iv n),(7,iv k)],sto:=[]}
theorem Fx {f:Nat→RF} {n:Nat} (hn:n<1000000) (hf:∀ j,j<n→(f j).fine):zc Try.prog je [hL f n] (bv (qg f n)):=by
 refine zG Fq (by simp) ?_
 simp[U7]
 refine zB (QP f n) (fun k=>∀ j,j<k→(f j).v=true) n (by simp[QP]) (fun j hj=>by omega) (fun k hk hI=>?_) (fun hI=>?_)
 ·have e:(k:Int)<n:=by omega
  have w:=zC (k:=k) (by omega)
  simp[ko,QP,e,hk]
  refine za (bt (hf k hk)) (by simp) (by simp) ?_
  cases hv:(f k).v with
  | true =>
   simp[w,QP]
   intro j hj
   by_cases ej:j=k
   ·subst ej; exact hv
   ·exact hI j (by omega)
  | false =>
   have:qg f n=false:=by
    cases h:qg f n with
    | false=>rfl
    | true=>have:=vg.1 h k hk; rw[hv] at this; cases this
   simp[ct,this]
 ·have:qg f n=true:=vg.2 hI
  simp[ko,dK,ct,QP,this]
def MV (G:Nat→RF) (n:Nat) (A:Nat→Nat→RF) (cl:Nat→Nat) (b:Nat→RF) (m:Nat):Prop :=
 (∀ j,j<n→(G j).v=true)∧∀ i,i<m→cl i=n∧(b i).v=true∧∀ j,j<n→(A i j).v=true
noncomputable def XY (G:Nat→RF) (n:Nat) (A:Nat→Nat→RF) (cl:Nat→Nat) (b:Nat→RF) (m:Nat):Int :=
 if 160<n∨40<m then 3 else @ite _ (MV G n A cl b m) (Classical.propDecidable _) 0 2
section
variable {G:Nat→RF} {n:Nat} {A:Nat→Nat→RF} {cl:Nat→Nat} {b:Nat→RF} {m:Nat}
theorem KD (h:160<n∨40<m):XY G n A cl b m=3:=if_pos h
theorem U9 (h:¬ (160<n∨40<m)) (hg:MV G n A cl b m):XY G n A cl b m=0:=by unfold XY; rw[if_neg h]; exact @if_pos _ (Classical.propDecidable _) hg _ _ _
theorem fj (h:¬ (160<n∨40<m)) (hg:¬ MV G n A cl b m):XY G n A cl b m=2:=by unfold XY; rw[if_neg h]; exact @if_neg _ (Classical.propDecidable _) hg _ _ _
noncomputable def UC (G:Nat→RF) (n:Nat) (A:Nat→Nat→RF) (cl:Nat→Nat) (b:Nat→RF) (m k:Nat):St :=
 {env:=[(1,.ptr 1 0),(20,.list 4 .plain (qR A cl b m)),(21,iv m),(22,iv k)],sto:=[(1,.var [hL G n,.list 4 .plain (qR A cl b m)])]}
theorem FX (hn:n<1000000) (hm:m<1000000) (hc:∀ i,i<m→cl i<1000000) (hG:∀ j,j<n→(G j).fine) (hA:∀ i j,i<m→j<cl i→(A i j).fine) (hb:∀ i,i<m→(b i).fine) :
  zc Try.prog t9 [rA G n A cl b m] (iv (XY G n A cl b m)):=by
 have kG:=Fx hn hG
 refine zG Fp (by simp) ?_
 by_cases hl:160<n∨40<m
 ·rw[KD hl]
  by_cases h1:160<n
  ·have h1':(160:Int)<n:=by omega
   simp[jm,h1',uP]
  ·have h1':¬ (160:Int)<n:=by omega
   have h2':(40:Int)<m:=by omega
   simp[jm,h1',h2',uP]
 ·have h1':¬ (160:Int)<n:=by omega
  have h2':¬ (40:Int)<m:=by omega
  simp[jm,h1',h2']
  refine za kG (by simp) (by simp) ?_
  cases hv:qg G n with
  | false =>
   rw[fj hl fun hg=>by rw[vg.2 hg.1] at hv; cases hv]
   simp[uP]
  | true =>
   simp
   refine zB (UC G n A cl b m) (fun k=>∀ i,i<k→cl i=n∧(b i).v=true∧∀ j,j<n→(A i j).v=true) m (by simp[UC]) (fun j hj=>by omega) (fun k hk hI=>?_) (fun hI=>?_)
   ·have e:(k:Int)<m:=by omega
    have w:=zC (k:=k) (by omega)
    have kA:=Fx (f:=A k) (n:=cl k) (hc k hk) (fun j hj=>hA k j hk hj)
    have kb:=bt (hb k hk)
    by_cases h3:cl k=n
    ·have kA:=kA
     rw[h3] at kA
     simp[py,UC,e,hk,h3]
     refine za kA (by simp) (by simp) ?_
     cases hva:qg (A k) n with
     | false =>
      rw[fj hl fun hg=>by have:=hg.2 k hk; rw[vg.2 this.2.2] at hva; cases hva]
      simp[uP]
     | true =>
      simp
      refine za kb (by simp) (by simp) ?_
      cases hvb:(b k).v with
      | false =>
       rw[fj hl fun hg=>by have:=hg.2 k hk; rw[hvb] at this; cases this.2.1]
       simp[uP]
      | true =>
       simp[w,UC]
       intro i hi
       by_cases ei:i=k
       ·subst ei; exact ⟨h3,hvb,vg.1 hva⟩
       ·exact hI i (by omega)
    ·have h3':¬ (cl k:Int)=n:=by omega
     rw[fj hl fun hg=>h3 (hg.2 k hk).1]
     simp[py,UC,e,hk,h3',uP]
   ·rw[U9 hl ⟨vg.1 hv,hI⟩]
    simp[py,dJ,uP,UC]
end
theorem acC {G:Nat→RF} {n:Nat} {A':Nat→Nat→RF} {cl:Nat→Nat} {b:Nat→RF} {m:Nat} {A:Nat→Nat→Rat} {bb gg:Nat→Rat} (hG:∀ j,j<n→G j=RF.of (gg j)) (hc:∀ i,i<m→cl i=n) (hA:∀ i j,i<m→j<n→A' i j=RF.of (A i j)) (hb:∀ i,i<m→b i=RF.of (bb i)) :
  rA G n A' cl b m=pA A bb gg n m:=by
 unfold rA pA
 rw[hL,jx hG]
 have:qR A' cl b m=pR A bb n m:=wq fun i hi=>by rw[hc i hi,hL,jx fun j hj=>hA i j hi hj,hb i hi,Sk,Sl,Sm]
 rw[this]
theorem FW {n m K:Nat} {A:Nat→Nat→Rat} {bb gg:Nat→Rat} (hn:n≤160) (hm:m≤40) (hK:K≤137438953472) (ha:∀ i j,i<m→j<n→sz K (A i j)) (hb:∀ i,i<m→sz K (bb i)) (hg:∀ j,j<n→sz K (gg j)) :
  zc Try.prog t9 [pA A bb gg n m] (iv 0):=by
 have h:=FX (G:=fun j=>RF.of (gg j)) (n:=n) (A:=fun i j=>RF.of (A i j)) (cl:=fun _=>n) (b:=fun i=>RF.of (bb i)) (m:=m) (by omega) (by omega) (fun _ _=>by omega) (fun j hj=>qP hK (hg j hj)) (fun i j hi hj=>qP hK (ha i j hi hj)) (fun i hi=>qP hK (hb i hi))
 rw[acC (A:=A) (bb:=bb) (gg:=gg) (fun _ _=>rfl) (fun _ _=>rfl) (fun _ _ _ _=>rfl) (fun _ _=>rfl),U9 (by omega) ⟨fun _ _=>ahx _,fun _ _=>⟨rfl,ahx _,fun _ _=>ahx _⟩⟩] at h
 exact h
@[simp] theorem acQ {q:Rat} {a b c d:AV}:splice [a,b,c,d] 1 (fr q)=a::fr q:=by unfold fr; simp[splice,-qQ]
theorem NR {α:Type} (d:α) (g:α→List AV) (l:List α):mR (fun j=>g (l.getD j d)) l.length=l.map g:=by
 apply List.ext_getElem?
 intro j
 by_cases h:j<l.length
 ·rw[tw h]; simp[h]
 ·rw[List.getElem?_eq_none (by simp; omega),List.getElem?_eq_none (by simp; omega)]
theorem abP {K:Nat} {n:Int} (h:n.natAbs≤2^K):sz K (n:Rat):=⟨by simpa using h,by simpa using Nat.one_le_two_pow⟩
end Go.Proofs.Ytbgnkodhpbkdoaa

namespace Go.LP
section
variable {k m:Nat} {mem:Nat→Nat→Bool} {least most:Nat→Rat}
def mA (k:Nat) (mem:Nat→Nat→Bool) (i j:Nat):Rat:=if j<k then (if mem j i=true then 1 else 0) else if j=k+i then -1 else 0
def mG (k:Nat) (least most:Nat→Rat) (j:Nat):Rat:=if j<k then least j else-most (j-k)
def sM (_:Nat):Rat:=1
def se (k m:Nat) (mem:Nat→Nat→Bool) (least most y:Nat→Rat):Prop :=
 (∀ i,i<m→0≤y i∧y i≤most i)∧∀ j,j<k→least j≤zg m (fun i=>if mem j i=true then y i else 0)
def vp (k:Nat) (mem:Nat→Nat→Bool) (x:Nat→Rat) (i:Nat):Rat:=zg k fun j=>if mem j i=true then x j else 0
def um (k:Nat) (mem:Nat→Nat→Bool) (most x:Nat→Rat) (i:Nat):Rat:=if 1<vp k mem x i then most i*(vp k mem x i-1) else 0
def x8 (k m:Nat) (mem:Nat→Nat→Bool) (least most x:Nat→Rat):Rat:=zg k (fun j=>x j*least j)-zg m (um k mem most x)
theorem JH {x:Nat→Rat} {i:Nat} (hi:i<m):zg (k+m) (fun j=>mA k mem i j*x j)=vp k mem x i-x (k+i):=by
 rw[agQ,zu (n:=k) (g:=fun j=>if mem j i=true then x j else 0) fun j hj=>by
   unfold mA; rw[if_pos hj]; split<;>grind,
  xP (n:=m) (q:=i) hi fun l _ hne=>by unfold mA; rw[if_neg (by omega),if_neg (by omega)]; grind]
 unfold mA vp
 rw[if_neg (by omega),if_pos rfl]
 grind
theorem JF {y:Nat→Rat} {j:Nat} (hj:j<k):zg m (fun i=>y i*mA k mem i j)=zg m (fun i=>if mem j i=true then y i else 0) :=
 zu fun i _=>by unfold mA; rw[if_pos hj]; split<;>grind
theorem JG {y:Nat→Rat} {i:Nat} (hi:i<m):zg m (fun l=>y l*mA k mem l (k+i))=- y i:=by
 rw[xP hi fun l _ hne=>by unfold mA; rw[if_neg (by omega),if_neg (by omega)]; grind]
 unfold mA
 rw[if_neg (by omega),if_pos rfl]; grind
theorem JI {x:Nat→Rat}:zg (k+m) (fun j=>mG k least most j*x j)=zg k (fun j=>least j*x j)-zg m (fun i=>most i*x (k+i)):=by
 rw[agQ,zu (n:=k) (g:=fun j=>least j*x j) fun j hj=>by unfold mG; rw[if_pos hj],
  zu (n:=m) (g:=fun i=>-(most i*x (k+i))) fun i _=>by unfold mG; rw[if_neg (by omega),Nat.add_sub_cancel_left]; grind,nO]
 grind
theorem Qb {y:Nat→Rat} (hp:se k m mem least most y):∀ j,j<k+m→mG k least most j≤zg m (fun i=>y i*mA k mem i j):=fun j hj=>by
 by_cases h:j<k
 ·rw[JF h]; unfold mG; rw[if_pos h]; exact hp.2 j h
 ·obtain ⟨i,rfl⟩:∃ i,j=k+i:=⟨j-k,by omega⟩
  rw[JG (by omega)]
  unfold mG
  rw[if_neg h,Nat.add_sub_cancel_left]
  have:=(hp.1 i (by omega)).2
  grind
theorem F6 {y:Nat→Rat} (h0:∀ i,0≤y i) (hc:∀ j,j<k+m→mG k least most j≤zg m (fun i=>y i*mA k mem i j)):se k m mem least most y:=by
 refine ⟨fun i hi=>⟨h0 i,?_⟩,fun j hj=>?_⟩
 ·have:=hc (k+i) (by omega)
  rw[JG hi] at this
  unfold mG at this
  rw[if_neg (by omega),Nat.add_sub_cancel_left] at this
  grind
 ·have:=hc j (by omega)
  rw[JF hj] at this
  unfold mG at this
  rwa [if_pos hj] at this
def m5 (k:Nat) (mem:Nat→Nat→Bool) (x:Nat→Rat) (j:Nat):Rat:=if j<k then x j else if 1<vp k mem x (j-k) then vp k mem x (j-k)-1 else 0
theorem K9 {x:Nat→Rat} {i:Nat}:vp k mem (m5 k mem x) i=vp k mem x i:=zu fun j hj=>by unfold m5; rw[if_pos hj]
theorem K8 {x:Nat→Rat}:zg (k+m) (fun j=>mG k least most j*m5 k mem x j)=x8 k m mem least most x:=by
 rw[JI]
 unfold x8
 rw[zu (n:=k) (g:=fun j=>x j*least j) fun j hj=>by unfold m5; rw[if_pos hj]; grind,
  zu (n:=m) (g:=um k mem most x) fun i _=>by unfold m5 um; rw[if_neg (by omega),Nat.add_sub_cancel_left]; split<;>grind]
theorem Zn {x:Nat→Rat} {i:Nat} (hi:i<m):zg (k+m) (fun j=>mA k mem i j*m5 k mem x j)≤sM i:=by
 rw[JH hi,K9]
 unfold m5 sM
 rw[if_neg (by omega),Nat.add_sub_cancel_left]
 split<;>grind
theorem aa1 {x:Nat→Rat} (h:∀ j,j<k→0≤x j):∀ j,j<k+m→0≤m5 k mem x j:=fun j _=>by
 unfold m5
 split
 ·rename_i h1; exact h j h1
 ·split<;>grind
theorem UQ {y:Nat→Rat}:zg m (fun i=>y i*sM i)=zg m y:=zu fun i _=>by unfold sM; grind
theorem SP {x y:Nat→Rat} (hx:∀ j,j<k→0≤x j) (hp:se k m mem least most y):x8 k m mem least most x≤zg m y:=by
 have h:=wB (n:=k+m) (m:=m) (A:=mA k mem) (bb:=sM) (gg:=mG k least most) (aa1 hx) (fun i hi=>Zn hi) (fun i hi=>(hp.1 i hi).1) (Qb hp)
 rwa [K8,UQ] at h
theorem FS {x:Nat→Rat} (hm:∀ i,i<m→0≤most i) (hx:∀ j,0≤x j) (hr:∀ i,i<m→zg (k+m) (fun j=>mA k mem i j*x j)≤sM i) :
  zg (k+m) (fun j=>mG k least most j*x j)≤x8 k m mem least most x:=by
 rw[JI]
 unfold x8
 have h1:zg m (um k mem most x)≤zg m (fun i=>most i*x (k+i)):=lG fun i hi=>by
  have h2:=hr i hi
  rw[JH hi] at h2
  unfold sM at h2
  have h3:=hm i hi
  unfold um
  split
  ·have:=Rat.mul_nonneg h3 (show 0≤x (k+i)-(vp k mem x i-1) by grind)
   grind
  ·exact Rat.mul_nonneg h3 (hx _)
 rw[zu (n:=k) (f:=fun j=>least j*x j) (g:=fun j=>x j*least j) fun j _=>by grind]
 grind
theorem f5 {x y:Nat→Rat} {v:Rat} (hm:∀ i,i<m→0≤most i) (ho:Opt (k+m) m (mA k mem) sM (mG k least most) x y v) :
  se k m mem least most y∧zg m y=v∧x8 k m mem least most x=v:=by
 have hp:=F6 ho.y0 ho.col
 have hv:=ho.vy
 rw[UQ] at hv
 refine ⟨hp,hv,?_⟩
 have h1:=SP (x:=x) (fun j _=>ho.x0 j) hp
 have h2:=FS (k:=k) (mem:=mem) (least:=least) hm ho.x0 ho.row
 rw[ho.vx] at h2
 grind
theorem Gb {y:Nat→Rat} (hp:se k m mem least most y) (hm:∀ i,i<m→0≤most i):se k m mem least most most :=
 ⟨fun i hi=>⟨hm i hi,by grind⟩,fun j hj=>by
  have h1:=hp.2 j hj
  have h2:zg m (fun i=>if mem j i=true then y i else 0)≤zg m (fun i=>if mem j i=true then most i else 0):=lG fun i hi=>by
   have:=(hp.1 i hi).2
   split<;>grind
  grind⟩
theorem Q6 {x r y:Nat→Rat} (hu:Unb (k+m) m (mA k mem) sM (mG k least most) x r) (hp:se k m mem least most y):False:=by
 have h:=wB (n:=k+m) (m:=m) (A:=mA k mem) (bb:=fun _=>0) (gg:=mG k least most) (fun j _=>hu.r0 j) hu.rr (fun i hi=>(hp.1 i hi).1) (Qb hp)
 rw[zV (n:=m) fun i _=>by grind] at h
 have:=hu.up
 grind
theorem abc {y:Nat→Rat} (hi:Inf (k+m) m (mA k mem) sM y):False:=by
 have h1:=hi.vy
 rw[UQ] at h1
 have:=vv (n:=m) (f:=y) fun i _=>hi.y0 i
 grind
end
end Go.LP

namespace Go.Proofs.Ytbgnkodhpbkdoaa
open Go Go.Am Go.Dig Go.LP
def ry (p l:Nat→Int) (k:Nat):List (List AV):=mR (fun j=>[iv (p j),iv (l j)]) k
abbrev nL (p l:Nat→Int) (k:Nat):AV:=.list 2 .plain (ry p l k)
def agO (t:Nat→Int) (m:Nat):List (List AV):=mR (fun i=>[iv (t i)]) m
abbrev iL (t:Nat→Int) (m:Nat):AV:=.list 1 .plain (agO t m)
section
variable {p l t:Nat→Int} {k m i:Nat}
@[simp] theorem ac9:(ry p l k).length=k:=vP
@[simp] theorem acs {h:i<(ry p l k).length}:(ry p l k)[i]=[iv (p i),iv (l i)]:=ru
@[simp] theorem adD:xB (ry p l k)=true:=mr fun _=>by simp
@[simp] theorem adE:zQ (ry p l k)=ry p l k:=wS fun _=>by simp
@[simp] theorem adA:(agO t m).length=m:=vP
@[simp] theorem ac8 {h:i<(agO t m).length}:(agO t m)[i]=[iv (t i)]:=ru
@[simp] theorem ad2:xB (agO t m)=true:=mr fun _=>by simp
@[simp] theorem ad3:zQ (agO t m)=agO t m:=wS fun _=>by simp
end
def okT (t:Nat→Int) (m:Nat):Prop:=∀ i,i<m→0≤t i∧t i≤1000000
def okN (p l:Nat→Int) (k m:Nat):Prop:=∀ j,j<k→(0≤p j∧p j<2^m)∧0≤l j∧l j≤8000000
noncomputable def sh (p l:Nat→Int) (k:Nat) (t:Nat→Int) (m:Nat):Int :=
 if 8<m∨152<k then 3 else @ite _ (okT t m∧okN p l k m) (Classical.propDecidable _) 0 4
section
variable {p l t:Nat→Int} {k m:Nat}
theorem qD (h:8<m∨152<k):sh p l k t m=3:=if_pos h
theorem XR (h:¬ (8<m∨152<k)) (h2:okT t m∧okN p l k m):sh p l k t m=0:=by unfold sh; rw[if_neg h]; exact @if_pos _ (Classical.propDecidable _) h2 _ _ _
theorem wg (h:¬ (8<m∨152<k)) (h2:¬ (okT t m∧okN p l k m)):sh p l k t m=4:=by unfold sh; rw[if_neg h]; exact @if_neg _ (Classical.propDecidable _) h2 _ _ _
theorem Kn (h:sh p l k t m=0):m≤8∧k≤152∧okT t m∧okN p l k m:=by
 by_cases h1:8<m∨152<k
 ·rw[qD h1] at h; cases h
 ·by_cases h2:okT t m∧okN p l k m
  ·exact ⟨by omega,by omega,h2.1,h2.2⟩
  ·rw[wg h1 h2] at h; cases h
theorem Tw (h:m≤8):(2:Int)^m≤256∧(1:Int)≤2^m:=by
 match m,h with
 | 0,_=>decide
 | 1,_=>decide
 | 2,_=>decide
 | 3,_=>decide
 | 4,_=>decide
 | 5,_=>decide
 | 6,_=>decide
 | 7,_=>decide
 | 8,_=>decide
 | n+9,h=>omega
def Uy (p l:Nat→Int) (k:Nat) (t:Nat→Int) (m i:Nat):St:={env:=[(0,nL p l k),(1,iL t m),(17,iL t m),(18,iv m),(19,iv i)],sto:=[]}
def cA (p l:Nat→Int) (k:Nat) (t:Nat→Int) (m i:Nat):St:={env:=[(1,iL t m),(30,nL p l k),(31,iv k),(32,iv i)],sto:=[]}
theorem bg (hk:k<2305843009213693952) (hm:m<2305843009213693952):zc Try.prog xV [nL p l k,iL t m] (iv (sh p l k t m)):=by
 refine zG j9 (by simp) ?_
 by_cases h1:8<m
 ·have h1':(8:Int)<m:=by omega
  rw[qD (.inl h1)]
  simp[wG,h1',yf]
 by_cases h2:152<k
 ·have h1':¬ (8:Int)<m:=by omega
  have h2':(152:Int)<k:=by omega
  rw[qD (.inr h2)]
  simp[wG,h1',h2',yf]
 have h1':¬ (8:Int)<m:=by omega
 have h2':¬ (152:Int)<k:=by omega
 have hl:¬ (8<m∨152<k):=by omega
 simp[wG,h1',h2']
 refine zB (Uy p l k t m) (fun i=>okT t i) m (by simp[Uy]) (fun j hj=>by omega) (fun i hi hI=>?_) (fun hI0=>?_)
 ·have e:(i:Int)<m:=by omega
  have w:=zC (k:=i) (by omega)
  by_cases a1:t i<0
  ·rw[wg hl fun h=>by have:=(h.1 i hi).1; omega]
   simp[xj,Uy,e,hi,a1,yf]
  ·by_cases a2:1000000<t i
   ·rw[wg hl fun h=>by have:=(h.1 i hi).2; omega]
    simp[xj,Uy,e,hi,a1,a2,yf]
   ·simp[xj,Uy,e,hi,a1,a2,w]
    exact fun j hj=>by
     by_cases e:j=i
     ·subst e; omega
     ·exact hI j (by omega)
 ·simp[xj,Uy,tX]
  obtain ⟨q,hq⟩:∃ q:Int,(2:Int)^m=q:=⟨_,rfl⟩
  have hqs:=Tw (m:=m) (by omega)
  rw[hq] at hqs
  have hmin:min m IntKind.i64.bits=m:=Nat.min_eq_left (by have:IntKind.i64.bits=64:=rfl; omega)
  have hsh:IntKind.i64.wrap q=q:=by rw[wrap64]<;>omega
  refine zB (cA p l k t m) (fun i=>okN p l i m) k (by simp[cA]) (fun j hj=>by omega) (fun i hi hI=>?_) (fun hI=>?_)
  ·have e:(i:Int)<k:=by omega
   have w:=zC (k:=i) (by omega)
   by_cases a1:p i<0
   ·rw[wg hl fun h=>by have:=(h.2 i hi).1; omega]
    simp[yr,cA,e,hi,a1,yf]
   ·by_cases a2:q≤p i
    ·rw[wg hl fun h=>by have:=(h.2 i hi).1; omega]
     simp[yr,cA,e,hi,a1,a2,hsh,xO,hmin,hq,yf]
    ·by_cases a3:l i<0
     ·rw[wg hl fun h=>by have:=(h.2 i hi).2; omega]
      simp[yr,cA,e,hi,a1,a2,a3,hsh,xO,hmin,hq,yf]
     ·by_cases a4:8000000<l i
      ·rw[wg hl fun h=>by have:=(h.2 i hi).2; omega]
       simp[yr,cA,e,hi,a1,a2,a3,a4,hsh,xO,hmin,hq,yf]
      ·simp[yr,cA,e,hi,a1,a2,a3,a4,hsh,xO,hmin,hq,w]
       exact fun j hj=>by
        by_cases e:j=i
        ·subst e; rw[hq]; omega
        ·exact hI j (by omega)
  ·rw[XR hl ⟨hI0,hI⟩]
   simp[yr,cA,tV,yf]
def UE (p l:Nat→Int) (k:Nat) (t:Nat→Int) (m i:Nat):St:={env:=[(0,nL p l k),(1,iL t m),(5,iv (2^i)),(6,iv i)],sto:=[]}
def cF (p l:Nat→Int) (k:Nat) (m i:Nat):St:={env:=[(0,nL p l k),(5,iv (2^m)),(7,iv i)],sto:=[]}
theorem X8 (hk:k<2305843009213693952) (hm:m<2305843009213693952):zc Try.prog rX [nL p l k,iL t m] (iv (sh p l k t m)):=by
 refine zG T7 (by simp) ?_
 by_cases h1:8<m
 ·have h1':(8:Int)<m:=by omega
  rw[qD (.inl h1)]
  simp[r4,h1',xE]
 by_cases h2:152<k
 ·have h1':¬ (8:Int)<m:=by omega
  have h2':(152:Int)<k:=by omega
  rw[qD (.inr h2)]
  simp[r4,h1',h2',xE]
 have h1':¬ (8:Int)<m:=by omega
 have h2':¬ (152:Int)<k:=by omega
 have hl:¬ (8<m∨152<k):=by omega
 simp[r4,h1',h2']
 refine zB (UE p l k t m) (fun i=>okT t i) m (by simp[UE]) (fun j hj=>by omega) (fun i hi hI=>?_) (fun hI0=>?_)
 ·have e:(i:Int)<m:=by omega
  have w:=zC (k:=i) (by omega)
  have hqs:=Tw (m:=i) (by omega)
  have w2:IntKind.i64.wrap (2*2^i)=2^(i+1):=by
   rw[Int.pow_succ,Int.mul_comm]
   rw[wrap64]<;>omega
  by_cases a1:t i<0
  ·rw[wg hl fun h=>by have:=(h.1 i hi).1; omega]
   simp[vK,UE,e,hi,a1,xE]
  ·by_cases a2:1000000<t i
   ·rw[wg hl fun h=>by have:=(h.1 i hi).2; omega]
    simp[vK,UE,e,hi,a1,a2,xE]
   ·simp[vK,UE,e,hi,a1,a2,w,w2]
    exact fun j hj=>by
     by_cases e:j=i
     ·subst e; omega
     ·exact hI j (by omega)
 ·simp[vK,UE,l8]
  refine zB (cF p l k m) (fun i=>okN p l i m) k (by simp[cF]) (fun j hj=>by omega) (fun i hi hI=>?_) (fun hI=>?_)
  ·have e:(i:Int)<k:=by omega
   have w:=zC (k:=i) (by omega)
   obtain ⟨q,hq⟩:∃ q:Int,(2:Int)^m=q:=⟨_,rfl⟩
   by_cases a1:p i<0
   ·rw[wg hl fun h=>by have:=(h.2 i hi).1; omega]
    simp[x4,cF,e,hi,a1,xE]
   ·by_cases a2:q≤p i
    ·rw[wg hl fun h=>by have:=(h.2 i hi).1; omega]
     simp[x4,cF,e,hi,a1,a2,hq,xE]
    ·by_cases a3:l i<0
     ·rw[wg hl fun h=>by have:=(h.2 i hi).2; omega]
      simp[x4,cF,e,hi,a1,a2,a3,hq,xE]
     ·by_cases a4:8000000<l i
      ·rw[wg hl fun h=>by have:=(h.2 i hi).2; omega]
       simp[x4,cF,e,hi,a1,a2,a3,a4,hq,xE]
      ·simp[x4,cF,e,hi,a1,a2,a3,a4,hq,w]
       exact fun j hj=>by
        by_cases e:j=i
        ·subst e; rw[hq]; omega
        ·exact hI j (by omega)
  ·rw[XR hl ⟨hI0,hI⟩]
   simp[x4,cF,l7,xE]
end
def sm (p i:Nat):Bool:=decide (p/2^i%2=1)
theorem P6 {q:Nat} (h:q<256):uw .and .i64 (q:Int) 1=((q%2:Nat):Int):=by
 have:=SM (k:=.i64) (a:=q) (b:=1) (Nat.lt_of_lt_of_le h (by decide)) (by decide) (fun n hn=>by rw[wrap64]<;>omega)
 rw[Nat.and_one_is_mod] at this
 exact this
theorem Td {p i:Nat} (h:p<256):p/2^i<256:=Nat.lt_of_le_of_lt (Nat.div_le_self _ _) h
def LX (p m i:Nat):St:={env:=[(0,iv (p/2^i:Nat)),(1,iv m),(5,iv i)],sto:=[]}
theorem CE {p m:Nat} (hp:p<256) (hm:m<1000):zc Try.prog nQ [iv p,iv m] (bv (sm p m)):=by
 refine zG P0 (by simp) ?_
 simp[aC]
 refine zB (LX p m) (fun _=>True) m (by simp[LX]) trivial (fun i hi _=>?_) (fun _=>?_)
 ·have e:(i:Int)<m:=by omega
  have w:=zC (k:=i) (by omega)
  have hd:((p/2^i:Nat):Int).fdiv 2=((p/2^(i+1):Nat):Int):=by
   rw[Nat.pow_succ,← Nat.div_div_eq_div_mul]
   generalize p/2^i=q
   rw[Int.fdiv_eq_ediv_of_nonneg _ (by decide)]
   omega
  obtain ⟨q,hq⟩:∃ q,p/2^i=q:=⟨_,rfl⟩
  obtain ⟨q',hq'⟩:∃ q,p/2^(i+1)=q:=⟨_,rfl⟩
  rw[hq,hq'] at hd
  have hmin:min 1 IntKind.i64.bits=1:=rfl
  simp[ne,LX,e,w,hq,hq',hd,xw,hmin]
 ·obtain ⟨q,hq⟩:∃ q,p/2^m=q:=⟨_,rfl⟩
  have h2:q<256:=by rw[← hq]; exact Td hp
  have h1:=P6 h2
  have h3:sm p m=decide (((q%2:Nat):Int)=1):=by unfold sm; rw[hq,decide_eq_decide]; omega
  obtain ⟨b,hb⟩:∃ b,q%2=b:=⟨_,rfl⟩
  rw[hb] at h1 h3
  rw[h3]
  simp[ne,LX,hq,gq,h1,aW]
theorem C6 {p i:Nat} (h:i<64):((p:Int).fdiv (2^(min i IntKind.i64.bits)))=((p/2^i:Nat):Int):=by
 have hb:min i IntKind.i64.bits=i:=Nat.min_eq_left (by have:IntKind.i64.bits=64:=rfl; omega)
 rw[hb,Int.fdiv_eq_ediv_of_nonneg _ (Int.pow_nonneg (by decide))]
 simp
theorem La {M N:Nat} (h:M≤N) {f:List (Nat × AV)} (hf:yS M f):yS N f:=fun p hp=>low_mono h (hf p hp)
theorem Lb {M N:Nat} (h:M≤N) {f:List (List (Nat × AV))} (hf:yh M f):yh N f:=fun p hp=>La h (hf p hp)
noncomputable def UK (p:Nat) (l:Int) (m:Nat) (F:FuncId) (caps:List AV) (X:Nat→List (Nat × zb)) (out:List (List (Nat × AV))) (i:Nat):St :=
 {env:=[(2,.fn (.func F) caps),(3,.ptr 5003 0),(7,iv m),(8,iv i)],sto:=X i++[(5003,.var [iv p,iv l])],out:=out,base:=5000}
theorem Un {p m:Nat} {l:Int} {F:FuncId} {caps:List AV} {X:Nat→List (Nat × zb)} {s:St} {K:AV→St→Prop} (hp:p<256) (hm:m≤8) (hs:s.sto=X 0) (hX:∀ i,rest (X i)) (hE:yS 2000 s.env) (hO:yh 2000 s.out)
  (hF:yM Try.prog F=true) (hcaps:Am.low 2000 (.fn (.func F) caps)=true)
  (hcl:∀ i,i<m→sm p i=true→∀ (t:St) (K':AV→St→Prop),t.sto=X i++[(5003,.var [iv p,iv l])]→yh 6000 t.out→yS 6000 t.env→K' (.tuple []) ⟨t.env,X (i+1)++[(5003,.var [iv p,iv l])],t.out,t.base⟩→afN Try.prog F (iv i::caps) t K')
  (hno:∀ i,i<m→sm p i=false→X (i+1)=X i) (h:K (.tuple []) ⟨s.env,X m,s.out,s.base⟩):afN Try.prog xT [.agg [iv p,iv l],iv m,.fn (.func F) caps] s K:=by
 obtain ⟨env,σ,out,base⟩:=s
 simp only at hs hE hO h
 subst hs
 have hO2:yh 2000 (env::out):=qU.2 ⟨hE,hO⟩
 refine afN.post (K:=fun r s'=>r=.tuple []∧s'=⟨env,X m++[(5003,.var [iv p,iv l])],out,base⟩) ?_ fun r s' ⟨e1,e2⟩=>.inr ⟨e1,⟨env,X m,out,base⟩,by
  subst e2
  refine St.imp_gone (k:=5003) (e:=.var [iv p,iv l]) (by simp[rlk (hX m),far]) (aaY hE (by omega)) ?_ (Lg hO (by omega)) rfl ?_
  ·simp[wb (hX m),far,acL (hX m)]
  ·simp[St.unmet,eno hE,ono hO,Qm (hX m)],by subst e1; exact h⟩
 refine xL 5000 dm (by simp) ?_
 have hpt:pt (X 0) 5003 (.var [iv p,iv l])=X 0++[(5003,.var [iv p,iv l])]:=by have:=rpt (l:=[]) (e:=.var [iv (p:Int),iv l]) (hX 0) (k:=5003) (by simp[far]); simpa using this
 simp[pZ,bS (hX 0),hpt,far]
 refine zB (UK p l m F caps X (env::out)) (fun _=>True) m (by simp[UK]) trivial (fun i hi _=>?_) (fun _=>?_)
 ·have e:(i:Int)<m:=by omega
  have w:=zC (k:=i) (by omega)
  have hb1:=C6 (p:=p) (i:=i) (by omega)
  obtain ⟨q,hq⟩:∃ q,p/2^i=q:=⟨_,rfl⟩
  have h2:q<256:=by rw[← hq]; exact Td hp
  have h1:=P6 h2
  have h3:sm p i=decide (((q%2:Nat):Int)=1):=by unfold sm; rw[hq,decide_eq_decide]; omega
  rw[hq] at hb1
  obtain ⟨b,hb⟩:∃ b,q%2=b:=⟨_,rfl⟩
  rw[hb] at h1 h3
  by_cases hbit:((b:Nat):Int)=1
  ·rw[decide_eq_true hbit] at h3
   simp[wH,UK,e,rlk (hX i),far,xw,hb1,h1,hbit,hF]
   refine afM (hcl i hi h3 _ _ rfl ?_ ?_ ?_)
   ·exact Lb (by omega) hO2
   ·have hc:Am.low 6000 (.fn (.func F) caps)=true:=low_mono (by omega) hcaps
    simp[yo,yy,vO,y7,uJ,hc]
   simp[w,UK]
  ·rw[decide_eq_false hbit] at h3
   have hXi:=hno i hi h3
   simp[wH,UK,e,rlk (hX i),far,xw,hb1,h1,hbit,w,hXi]
 ·simp[wH,UK,p6]
  trace_state
theorem RF.ex_q {x:RF} (h:x.v=true):∃ q,x=RF.of q:=by
 obtain ⟨q,h1,h2,h3⟩:=aax h
 exact ⟨q,by cases x; simp only at h1 h2 h3; subst h1 h2 h3; rfl⟩
noncomputable def RF.q (x:RF):Rat:=@dite _ (x.v=true) (Classical.propDecidable _) (fun h=>Classical.choose (RF.ex_q h)) (fun _=>0)
theorem RF.of_q {x:RF} (h:x.v=true):x=RF.of x.q:=by
 have e:x.q=Classical.choose (RF.ex_q h):=by unfold RF.q; rw[dif_pos h]
 rw[e]
 exact Classical.choose_spec (RF.ex_q h)
theorem CF {x:RF} (h:x.v=true):hq x=fq x.q:=by unfold hq fq; rw[← CG,← RF.of_q h]
def nG (f:Nat→RF) (a n:Nat):Prop:=a=n∧∀ i,i<n→(f i).v=true∧0≤(f i).q
noncomputable def Do (f:Nat→RF) (a n:Nat):Bool:=@decide (nG f a n) (Classical.propDecidable _)
theorem cf {f:Nat→RF} {a n:Nat} (h:nG f a n):Do f a n=true:=@decide_eq_true _ (Classical.propDecidable _) h
theorem pK {f:Nat→RF} {a n:Nat} (h:¬ nG f a n):Do f a n=false:=@decide_eq_false _ (Classical.propDecidable _) h
noncomputable def UI (f:Nat→RF) (n k:Nat):St:={env:=[(11,hL f n),(12,iv n),(13,iv k)],sto:=[]}
theorem R1 {f:Nat→RF} {a n:Nat} (ha:a<1000000) (hf:∀ i,i<a→(f i).fine):zc Try.prog we [hL f a,iv n] (bv (Do f a n)):=by
 refine zG kX (by simp) ?_
 by_cases h1:a=n
 rotate_left
 ·have h1':¬ (a:Int)=n:=by omega
  rw[pK fun h=>h1 h.1]
  simp[vJ,h1',xA]
 subst h1
 simp[vJ]
 refine zB (UI f a) (fun i=>∀ j,j<i→(f j).v=true∧0≤(f j).q) a (by simp[UI]) (fun j hj=>by omega) (fun i hi hI=>?_) (fun hI=>?_)
 ·have e:(i:Int)<a:=by omega
  have w:=zC (k:=i) (by omega)
  have kv:=bt (hf i hi)
  cases hv:(f i).v with
  | false =>
   rw[hv] at kv
   rw[pK fun h=>by have:=(h.2 i hi).1; rw[hv] at this; cases this]
   simp[xR,UI,e,hi]
   refine za kv (by simp) (by simp) ?_
   simp[xA]
  | true =>
   rw[hv] at kv
   have ks:=sQ (q:=(f i).q)
   rw[← CF hv] at ks
   simp[xR,UI,e,hi]
   refine za kv (by simp) (by simp) ?_
   simp
   refine za ks (by simp) (by simp) ?_
   by_cases hn:xm (f i).q<0
   ·rw[pK fun h=>by have:=(h.2 i hi).2; have:=ug.1 hn; grind]
    simp[hn,xA]
   ·simp[hn,w,UI]
    exact fun j hj=>by
     by_cases e:j=i
     ·subst e; exact ⟨hv,by have:¬ (f j).q<0:=fun h=>hn (ug.2 h); grind⟩
     ·exact hI j (by omega)
 ·rw[cf ⟨rfl,hI⟩]
  simp[xR,UI,uO,xA]
noncomputable def UN (f:Nat→RF) (n k:Nat):St:={env:=[(0,hL f n),(3,iv k)],sto:=[]}
theorem af {f:Nat→RF} {n:Nat} (ha:n<1000000) (hf:∀ i,i<n→(f i).fine):zc Try.prog jc [hL f n] (bv (qg f n)):=by
 refine zG Fj (by simp) ?_
 simp[U4]
 refine zB (UN f n) (fun i=>∀ j,j<i→(f j).v=true) n (by simp[UN]) (fun j hj=>by omega) (fun i hi hI=>?_) (fun hI=>?_)
 ·have e:(i:Int)<n:=by omega
  have w:=zC (k:=i) (by omega)
  have kv:=EE (hf i hi)
  cases hv:(f i).v with
  | false =>
   rw[hv] at kv
   have hA:qg f n=false:=by
    cases h:qg f n with
    | false=>rfl
    | true=>have:=vg.1 h i hi; rw[hv] at this; cases this
   rw[hA]
   simp[px,UN,e,hi]
   refine za kv (by simp) (by simp) ?_
   simp[cn]
  | true =>
   rw[hv] at kv
   simp[px,UN,e,hi]
   refine za kv (by simp) (by simp) ?_
   simp[w,UN]
   exact fun j hj=>by
    by_cases e:j=i
    ·subst e; exact hv
    ·exact hI j (by omega)
 ·rw[vg.2 hI]
  simp[px,UN,dC,cn]
noncomputable def Xu (f:Nat→Rat) (n k:Nat):St :=
 {env:=[(0,fL f n),(2,.ptr 2 0),(3,.ptr 3 0),(4,iv k)],sto:=[(2,.var zz),(3,.var (fr (zg k f)))]}
theorem acW {n L:Nat} {f:Nat→Rat} (hn:n<1000000) (hL:n*(L+1)+L≤137438953472) (hf:∀ j,j<n→sz L (f j)):zc Try.prog XM [fL f n] (fq (zg n f)):=by
 refine zG aak (by simp) ?_
 simp[Nm]
 refine za XK (by simp) (by simp) ?_
 simp
 refine zB (Xu f n) (fun _=>True) n (by simp[Xu,zg]) trivial (fun k hk _=>?_) (fun _=>?_)
 ·have e:(k:Int)<n:=by omega
  have w:=zC (k:=k) (by omega)
  have hL2:L≤n*(L+1):=by
   have:1*(L+1)≤n*(L+1):=Nat.mul_le_mul_right _ (by omega)
   omega
  have g2:=Sd (K:=n*(L+1)) (by omega) (qX (n:=k) (N:=n) (f:=f) (fun i hi=>hf i (by omega)) (by omega)) (zM (hf k hk) hL2)
  have ev:zg k f+f k=zg (k+1) f:=rfl
  simp[fc,Xu,e,hk]
  refine za g2 (by simp) (by simp) ?_
  simp[w,ev,Xu]
 ·simp[fc,Yq,Mb,Xu]
def ZR (l:Nat→Nat) (j:Nat):Rat:=((l j:Int):Rat)
abbrev MB (p:Nat→Nat) (j i:Nat):Bool:=sm (p j) i
abbrev nN (p l:Nat→Nat) (k:Nat):AV:=nL (fun j=>p j) (fun j=>l j) k
abbrev nT (t:Nat→Nat) (m:Nat):AV:=iL (fun i=>t i) m
noncomputable def holdsV (k m:Nat) (p l t:Nat→Nat) (y:Nat→Rat):Bool:=@decide (se k m (MB p) (ZR l) (ZR t) y) (Classical.propDecidable _)
section
variable {p l t:Nat→Nat} {k m L:Nat} {x y:Nat→Rat}
theorem jZ (h:se k m (MB p) (ZR l) (ZR t) y):holdsV k m p l t y=true:=@decide_eq_true _ (Classical.propDecidable _) h
theorem sI (h:¬ se k m (MB p) (ZR l) (ZR t) y):holdsV k m p l t y=false:=@decide_eq_false _ (Classical.propDecidable _) h
theorem mo {n:Nat} (h:n≤8000000):zc Try.prog f4 [iv n] (fq ((n:Int):Rat)):=qS (by omega) (by omega)
theorem wX {n K:Nat} (h:n≤8000000) (hK:23≤K):sz K ((n:Int):Rat):=zM (abP (K:=23) (by simp; omega)) hK
noncomputable def QG (p l t:Nat→Nat) (k m:Nat) (y:Nat→Rat) (i:Nat):St:={env:=[(0,nN p l k),(1,nT t m),(2,fL y m),(7,iv i)],sto:=[]}
noncomputable def QH (p l t:Nat→Nat) (k m:Nat) (y:Nat→Rat) (j:Nat):St:={env:=[(0,nN p l k),(1,nT t m),(2,fL y m),(8,iv j)],sto:=[]}
def xZ (p:Nat→Nat) (y:Nat→Rat) (j i:Nat):Rat:=zg i fun i=>if MB p j i=true then y i else 0
theorem bI (hy:∀ i,i<m→sz L (y i)) {j i:Nat} (hi:i≤m):sz (m*(L+1)) (xZ p y j i) :=
 qX (fun a ha=>by
  split
  ·exact hy a (by omega)
  ·exact y8) hi
noncomputable def ZW (p l t:Nat→Nat) (k m:Nat) (y:Nat→Rat) (j i:Nat):St :=
 {env:=[(0,nN p l k),(1,nT t m),(2,fL y m),(8,iv j),(9,.ptr 9 0),(10,iv i)],sto:=[(9,.var (fr (xZ p y j i)))]}
theorem NG (hk:k≤152) (hm:m≤8) (hp:∀ j,j<k→p j<256) (hl:∀ j,j<k→l j≤8000000) (ht:∀ i,i<m→t i≤1000000) (hLb:23≤L∧L≤100000000) (hy:∀ i,i<m→sz L (y i)) :
  zc Try.prog vV [nN p l k,nT t m,fL y m] (bv (holdsV k m p l t y)):=by
 have kw:=af (f:=fun i=>RF.of (y i)) (n:=m) (by omega) (fun i hi=>qP (by omega) (hy i hi))
 rw[hL,jx (g:=y) (fun _ _=>rfl),vg.2 fun _ _=>ahx _] at kw
 refine zG di (by simp) ?_
 simp[r5]
 refine za kw (by simp) (by simp) ?_
 simp
 refine zB (QG p l t k m y) (fun i=>∀ a,a<i→0≤y a∧y a≤ZR t a) m (by simp[QG]) (fun a ha=>by omega) (fun i hi hI=>?_) (fun hI0=>?_)
 ·have e:(i:Int)<m:=by omega
  have w:=zC (k:=i) (by omega)
  have k1:=Qx (q:=y i)
  have k2:=mo (n:=t i) (by have:=ht i hi; omega)
  have k3:=Cy (by omega:L≤137438953472) (hy i hi) (wX (n:=t i) (by have:=ht i hi; omega) hLb.1)
  simp[ql,QG,e,hi]
  refine za k1 (by simp) (by simp) ?_
  by_cases h1:xm (y i)<0
  ·rw[sI fun h=>by have:=(h.1 i hi).1; have:=ug.1 h1; grind]
   simp[h1,vj]
  ·simp[h1,hi,e]
   refine za k2 (by simp) (by simp) ?_
   simp
   refine za k3 (by simp) (by simp) ?_
   by_cases h2:0<wa (y i) ((t i:Int):Rat)
   ·rw[sI fun h=>by have:=(h.1 i hi).2; have:=nf.1 h2; unfold ZR at *; grind]
    simp[h2,vj]
   ·simp[h2,w,QG]
    exact fun a ha=>by
     by_cases e:a=i
     ·subst e
      have g1:¬ y a<0:=fun h=>h1 (ug.2 h)
      have g2:¬ ((t a:Int):Rat)<y a:=fun h=>h2 (nf.2 h)
      unfold ZR
      exact ⟨by grind,by grind⟩
     ·exact hI a (by omega)
 ·simp[ql,QG,kj]
  refine zB (QH p l t k m y) (fun j=>∀ a,a<j→ZR l a≤xZ p y a m) k (by simp[QH]) (fun a ha=>by omega) (fun j hj hI=>?_) (fun hI=>?_)
  ·have e:(j:Int)<k:=by omega
   have w:=zC (k:=j) (by omega)
   simp[qm,QH,e]
   refine za XK (by simp) (by simp) ?_
   simp
   refine zB (ZW p l t k m y j) (fun _=>True) m (by simp[ZW,xZ,zg]) trivial (fun i hi _=>?_) (fun _=>?_)
   ·have e2:(i:Int)<m:=by omega
    have w2:=zC (k:=i) (by omega)
    have k1:=CE (p:=p j) (m:=i) (hp j hj) (by omega)
    have hLm:L≤m*(L+1):=by
     have:1*(L+1)≤m*(L+1):=Nat.mul_le_mul_right _ (by omega)
     omega
    have hLM:m*(L+1)≤8*(L+1):=Nat.mul_le_mul_right _ hm
    have k2:=Sd (K:=m*(L+1)) (by omega) (bI (p:=p) hy (j:=j) (i:=i) (by omega)) (zM (hy i hi) hLm)
    cases hb:sm (p j) i with
    | true =>
     rw[hb] at k1
     have ev:xZ p y j i+y i=xZ p y j (i+1):=by unfold xZ; simp only[zg,MB,hb,if_true]
     simp[u0,ZW,e2,hj]
     refine za k1 (by simp) (by simp) ?_
     simp[hi,e2]
     refine za k2 (by simp) (by simp) ?_
     simp[w2,ev,ZW]
    | false =>
     rw[hb] at k1
     have ev:xZ p y j i=xZ p y j (i+1):=by unfold xZ; simp only[zg,MB,hb]; grind
     simp[u0,ZW,e2,hj]
     refine za k1 (by simp) (by simp) ?_
     simp[w2,← ev,ZW]
   ·have k2:=mo (hl j hj)
    have hLM:m*(L+1)≤8*(L+1):=Nat.mul_le_mul_right _ hm
    have k3:=Cy (K:=8*(L+1)) (by omega) (zM (bI (p:=p) hy (j:=j) (Nat.le_refl m)) hLM) (wX (hl j hj) (by omega))
    simp[u0,ZW,l9,hj,e]
    refine za k2 (by simp) (by simp) ?_
    simp
    refine za k3 (by simp) (by simp) ?_
    by_cases h2:wa (xZ p y j m) ((l j:Int):Rat)<0
    ·rw[sI fun h=>by have:=h.2 j hj; have:=qJ.1 h2; unfold ZR xZ at *; grind]
     simp[h2,vj]
    ·simp[h2,ke,w,QH]
     exact fun a ha=>by
      by_cases e:a=j
      ·subst e
       have g2:¬ xZ p y a m<((l a:Int):Rat):=fun h=>h2 (qJ.2 h)
       unfold ZR
       grind
      ·exact hI a (by omega)
  ·rw[jZ ⟨hI0,hI⟩]
   simp[qm,QH,ki,vj]
end
section
variable {p l t:Nat→Nat} {k m L:Nat} {x:Nat→Rat}
def rq (l:Nat→Nat) (x:Nat→Rat) (j:Nat):Rat:=zg j fun j=>x j*ZR l j
def ldR (p:Nat→Nat) (x:Nat→Rat) (i j:Nat):Rat:=vp j (MB p) x i
def bdR (p l t:Nat→Nat) (k:Nat) (x:Nat→Rat) (i:Nat):Rat:=rq l x k-zg i (um k (MB p) (ZR t) x)
theorem bh:bdR p l t k x m=x8 k m (MB p) (ZR l) (ZR t) x:=rfl
theorem Ua (hk:k≤152) (hx:∀ j,j<k→sz L (x j)) (hl:∀ j,j<k→l j≤8000000) {j:Nat} (hj:j≤k):sz (152*(L+24)) (rq l x j) :=
 qX (L:=L+23) (fun a ha=>yG (hx a (by omega)) (wX (hl a (by omega)) (by omega))) (by omega)
theorem YL (hk:k≤152) (hx:∀ j,j<k→sz L (x j)) {i j:Nat} (hj:j≤k):sz (152*(L+1)) (ldR p x i j) :=
 qX (fun a ha=>by
  split
  ·exact hx a (by omega)
  ·exact y8) (by omega)
theorem Af (hk:k≤152) (hx:∀ j,j<k→sz L (x j)) (ht:∀ i,i<m→t i≤1000000) {i:Nat} (hi:i<m):sz (152*(L+1)+26) (um k (MB p) (ZR t) x i):=by
 unfold um
 split
 ·exact zM (yG (wX (K:=23) (n:=t i) (by have:=ht i hi; omega) (by omega)) (pU (YL (p:=p) (i:=i) hk hx (Nat.le_refl k)) (v6 (K:=1)))) (by omega)
 ·exact y8
theorem Sf (hk:k≤152) (hm:m≤8) (hx:∀ j,j<k→sz L (x j)) (hl:∀ j,j<k→l j≤8000000) (ht:∀ i,i<m→t i≤1000000) {i:Nat} (hi:i≤m):sz (2000*(L+24)) (bdR p l t k x i) :=
 zM (pU (Ua hk hx hl (Nat.le_refl k)) (qX (N:=8) (fun a ha=>Af (p:=p) hk hx ht (i:=a) (by omega)) (by omega))) (by omega)
noncomputable def QA (p l t:Nat→Nat) (k m:Nat) (x:Nat→Rat) (j:Nat):St :=
 {env:=[(0,nN p l k),(1,nT t m),(2,fL x k),(6,.ptr 6 0),(8,.ptr 8 0),(9,iv j)],sto:=[(6,.var zz),(8,.var (fr (rq l x j)))]}
noncomputable def UA (p l t:Nat→Nat) (k m:Nat) (x:Nat→Rat) (i:Nat):St :=
 {env:=[(0,nN p l k),(1,nT t m),(2,fL x k),(6,.ptr 6 0),(8,.ptr 8 0),(10,iv i)],sto:=[(6,.var zz),(8,.var (fr (bdR p l t k x i)))]}
noncomputable def ZS (p l t:Nat→Nat) (k m:Nat) (x:Nat→Rat) (i j:Nat):St :=
 {env:=[(0,nN p l k),(1,nT t m),(2,fL x k),(6,.ptr 6 0),(8,.ptr 8 0),(10,iv i),(11,.ptr 11 0),(12,iv j)],
  sto:=[(6,.var zz),(8,.var (fr (bdR p l t k x i))),(11,.var (fr (ldR p x i j-1)))]}
theorem C9 (hk:k≤152) (hm:m≤8) (hp:∀ j,j<k→p j<256) (hl:∀ j,j<k→l j≤8000000) (ht:∀ i,i<m→t i≤1000000) (hLb:23≤L∧L≤10000000) (hx:∀ j,j<k→sz L (x j)) :
  ((∀ j,j<k→0≤x j)→zc Try.prog vf [nN p l k,nT t m,fL x k] (.tuple [fq (x8 k m (MB p) (ZR l) (ZR t) x),bv true])) ∧
  (¬ (∀ j,j<k→0≤x j)→zc Try.prog vf [nN p l k,nT t m,fL x k] (.tuple [.agg zz,bv false])):=by
 have key:∀ r,((∀ j,j<k→0≤x j)→r=AV.tuple [fq (x8 k m (MB p) (ZR l) (ZR t) x),bv true])→(¬ (∀ j,j<k→0≤x j)→r=.tuple [.agg zz,bv false])→zc Try.prog vf [nN p l k,nT t m,fL x k] r:=by
  intro r r1 r2
  have kw:=af (f:=fun i=>RF.of (x i)) (n:=k) (by omega) (fun i hi=>qP (by omega) (hx i hi))
  rw[hL,jx (g:=x) (fun _ _=>rfl),vg.2 fun _ _=>ahx _] at kw
  have km1:zc Try.prog f4 [iv (-1)] (fq ((-1:Int):Rat)):=qS (by decide) (by decide)
  refine zG dh (by simp) ?_
  simp[rZ]
  refine za kw (by simp) (by simp) ?_
  simp
  refine za XK (by simp) (by simp) ?_
  simp
  refine zB (QA p l t k m x) (fun j=>∀ a,a<j→0≤x a) k (by simp[QA,rq,zg]) (fun a ha=>by omega) (fun j hj hI=>?_) (fun hI0=>?_)
  ·have e:(j:Int)<k:=by omega
   have w:=zC (k:=j) (by omega)
   have k1:=Qx (q:=x j)
   have k2:=mo (hl j hj)
   have k3:=CL (K:=L) (by omega) (hx j hj) (wX (hl j hj) hLb.1)
   have k4:=Sd (K:=152*(L+24)) (by omega) (Ua hk hx hl (j:=j) (by omega)) (zM (yG (hx j hj) (wX (K:=23) (hl j hj) (by omega))) (by omega))
   simp[qj,QA,e,hj]
   refine za k1 (by simp) (by simp) ?_
   by_cases h1:xm (x j)<0
   ·rw[r2 fun h=>by have:=h j hj; have:=ug.1 h1; grind]
    simp[h1,tz]
   ·have ev:rq l x j+x j*((l j:Int):Rat)=rq l x (j+1):=rfl
    simp[h1,hj,e]
    refine za k2 (by simp) (by simp) ?_
    simp
    refine za k3 (by simp) (by simp) ?_
    simp
    refine za k4 (by simp) (by simp) ?_
    simp[w,ev,QA]
    exact fun a ha=>by
     by_cases e:a=j
     ·subst e
      have g1:¬ x a<0:=fun h=>h1 (ug.2 h)
      grind
     ·exact hI a (by omega)
  ·simp[qj,QA,l0]
   have e0:rq l x k=bdR p l t k x 0:=by unfold bdR; simp only[zg]; grind
   refine zB (UA p l t k m x) (fun _=>True) m (by simp[UA,e0]) trivial (fun i hi _=>?_) (fun _=>?_)
   ·have e:(i:Int)<m:=by omega
    have w:=zC (k:=i) (by omega)
    have em1:((-1:Int):Rat)=ldR p x i 0-1:=by unfold ldR vp; simp only[zg]; grind
    rw[em1] at km1
    simp[qk,UA,e]
    refine za km1 (by simp) (by simp) ?_
    simp
    refine zB (ZS p l t k m x i) (fun _=>True) k (by simp[ZS]) trivial (fun j hj _=>?_) (fun _=>?_)
    ·have e2:(j:Int)<k:=by omega
     have w2:=zC (k:=j) (by omega)
     have k1:=CE (p:=p j) (m:=i) (hp j hj) (by omega)
     have k2:=Sd (K:=152*(L+1)+3) (by omega) (zM (pU (YL (p:=p) (i:=i) hk hx (j:=j) (by omega)) (v6 (K:=1))) (by omega)) (zM (hx j hj) (by omega))
     cases hb:sm (p j) i with
     | true =>
      rw[hb] at k1
      have ev:ldR p x i j-1+x j=ldR p x i (j+1)-1:=by unfold ldR vp; simp only[zg,MB,hb,if_true]; grind
      simp[uZ,ZS,e2,hj]
      refine za k1 (by simp) (by simp) ?_
      simp[hj,e2]
      refine za k2 (by simp) (by simp) ?_
      simp[w2,ev,ZS]
     | false =>
      rw[hb] at k1
      have ev:ldR p x i j-1=ldR p x i (j+1)-1:=by unfold ldR vp; simp only[zg,MB,hb]; grind
      simp[uZ,ZS,e2,hj]
      refine za k1 (by simp) (by simp) ?_
      simp[w2,← ev,ZS]
    ·have k1:=Qx (q:=ldR p x i k-1)
     have zl:sz (152*(L+1)+3) (ldR p x i k-1):=zM (pU (YL (p:=p) (i:=i) hk hx (j:=k) (by omega)) (v6 (K:=1))) (by omega)
     simp[uZ,ZS,lY]
     refine za k1 (by simp) (by simp) ?_
     by_cases h1:0<xm (ldR p x i k-1)
     ·have h1':0<ldR p x i k-1:=nM.1 h1
      have k2:=mo (n:=t i) (by have:=ht i hi; omega)
      have k3:=CL (K:=152*(L+1)+3) (by omega) zl (wX (n:=t i) (by have:=ht i hi; omega) (by omega))
      have k4:=acV (K:=2000*(L+24)) (by omega) (Sf (p:=p) hk hm hx hl ht (i:=i) (by omega)) (zM (yG zl (wX (K:=23) (n:=t i) (by have:=ht i hi; omega) (by omega))) (by omega))
      have ev:bdR p l t k x i-(ldR p x i k-1)*((t i:Int):Rat)=bdR p l t k x (i+1):=by
       unfold bdR
       simp only[zg]
       have:um k (MB p) (ZR t) x i=(ldR p x i k-1)*((t i:Int):Rat):=by
        unfold um
        rw[if_pos (show 1<vp k (MB p) x i by unfold ldR at h1'; grind)]
        unfold ldR ZR
        grind
       rw[this]
       grind
      simp[h1,hi,e]
      refine za k2 (by simp) (by simp) ?_
      simp
      refine za k3 (by simp) (by simp) ?_
      simp
      refine za k4 (by simp) (by simp) ?_
      simp[qi,w,ev,UA]
     ·have h1':¬ 0<ldR p x i k-1:=fun h=>h1 (nM.2 h)
      have ev:bdR p l t k x i=bdR p l t k x (i+1):=by
       unfold bdR
       simp only[zg]
       have:um k (MB p) (ZR t) x i=0:=by
        unfold um
        rw[if_neg (show ¬ 1<vp k (MB p) x i by unfold ldR at h1'; grind)]
       rw[this]
       grind
      simp[h1,qi,w,← ev,UA]
   ·rw[r1 hI0,← bh (p:=p) (l:=l) (t:=t)]
    simp[qk,UA,lZ,tz]
 exact ⟨fun h=>key _ (fun _=>rfl) fun hn=>absurd h hn,fun h=>key _ (fun hp=>absurd hp h) fun _=>rfl⟩
end
section
variable {p l t:Nat→Nat} {k m L:Nat} {x:Nat→Rat}
theorem pD {n:Nat} (h:n≤8000000):zc Try.prog zI [iv n] (fq ((n:Int):Rat)):=xy (by omega) (by omega)
noncomputable def sgB (x:Nat→Rat) (k m:Nat) (s:Rat) (ld:Nat→Rat):List (Nat × zb) :=
 [(5,.var [fL x k]),(6,.var zz),(7,.var (fr 1)),(8,.var (fr s)),(19,.arr 3 (fR ld m)),(9,.var [.sl 19 3 0 m])]
noncomputable def QI (p l t:Nat→Nat) (k m:Nat) (x:Nat→Rat) (i:Nat):St :=
 {env:=[(0,nN p l k),(1,nT t m),(5,.ptr 5 0),(6,.ptr 6 0),(7,.ptr 7 0),(8,.ptr 8 0),(9,.ptr 9 0),(21,iv m),(22,iv i)],
  sto:=[(5,.var [fL x k]),(6,.var zz),(7,.var (fr 1)),(8,.var (fr 0)),(19,.arr 3 (fZ (fun _=>0) i m)),(9,.var [.sl 19 3 0 m])]}
def ldM (p:Nat→Nat) (x:Nat→Rat) (j i:Nat) (a:Nat):Rat:=ldR p x a (if a<i then j+1 else j)
noncomputable def XB (p l:Nat→Nat) (k m:Nat) (x:Nat→Rat) (j i:Nat):List (Nat × zb) :=
 sgB x k m (rq l x (j+1)) (ldM p x j i)++[(11,.var [iv j]),(12,.var [iv (p j),iv (l j)])]
theorem EK {j i:Nat} (hb:sm (p j) i=true):fR (upd (ldM p x j i) i (ldM p x j i i+x j)) m=fR (ldM p x j (i+1)) m:=yI fun a _=>by
 unfold upd ldM ldR vp
 by_cases e:a=i
 ·subst e
  rw[if_pos rfl,if_neg (Nat.lt_irrefl a),if_pos (Nat.lt_succ_self a)]
  simp only[zg,MB,hb,if_true]
 ·rw[if_neg e]
  by_cases h:a<i
  ·rw[if_pos h,if_pos (by omega)]
  ·rw[if_neg h,if_neg (by omega)]
theorem abe {j i:Nat} (hb:sm (p j) i=false):fR (ldM p x j (i+1)) m=fR (ldM p x j i) m:=yI fun a _=>by
 unfold ldM ldR vp
 by_cases e:a=i
 ·subst e
  rw[if_pos (Nat.lt_succ_self a),if_neg (Nat.lt_irrefl a)]
  simp only[zg,MB,hb]
  grind
 ·by_cases h:a<i
  ·rw[if_pos h,if_pos (by omega)]
  ·rw[if_neg h,if_neg (by omega)]
theorem ab6 (hk:k≤152) (hLb:23≤L∧L≤10000000) (hx:∀ j,j<k→sz L (x j)) {j i:Nat} (hj:j<k) (hi:i<m) (hm:m≤8) (hb:sm (p j) i=true) {e:zb} (t:St) (K':AV→St→Prop) (ht:t.sto=XB p l k m x j i++[(5003,e)])
  (h:K' (.tuple []) ⟨t.env,XB p l k m x j (i+1)++[(5003,e)],t.out,t.base⟩):afN Try.prog wd [iv i,.ptr 9 0,.ptr 5 0,.ptr 11 0] t K':=by
 obtain ⟨env,σ,out,base⟩:=t
 simp only at ht h
 subst ht
 have e1:(i:Int)<m:=by omega
 have e2:(j:Int)<k:=by omega
 have ka:=ba (K:=152*(L+1)) (by omega) (show sz (152*(L+1)) (ldM p x j i i) from YL hk hx (by split<;>omega)) (zM (hx j hj) (by omega))
 refine xL 6000 eL (by simp) ?_
 simp[q9,XB,sgB,e1,e2,hi,hj]
 refine za ka (by simp) (by simp) ?_
 simp[hi,e1,pN]
 rw[tu,EK hb]
 exact h
theorem NP {M a b c d:Nat}:Am.low M (.sl a b c d)=decide (a<M):=rfl
theorem Aw {j i:Nat}:rest (XB p l k m x j i):=by
 intro q hq
 simp only[XB,sgB,List.cons_append,List.nil_append,List.mem_cons,List.not_mem_nil,or_false] at hq
 rcases hq with rfl | rfl | rfl | rfl | rfl | rfl | rfl | rfl<;>exact ⟨.inl (show (_:Nat)<1000 by simp),by simp[sL,vO,d7,uJ,NP,fN]⟩
theorem lB {M:Nat} {f:FuncId} {caps:List AV}:Am.low M (.fn (.func f) caps)=caps.all (yJ M):=rfl
theorem ZA {M:Nat} {cs:List AV}:Am.low M (.agg cs)=true:=rfl
theorem Ui {M:Nat} {t:Nat→Int} {m:Nat}:Am.low M (iL t m)=true:=rfl
theorem Uh {M:Nat} {p l:Nat→Int} {m:Nat}:Am.low M (nL p l m)=true:=rfl
theorem ce:yM Try.prog xT=true:=by kernel_rfl
theorem B5:yM Try.prog wd=true:=by kernel_rfl
noncomputable def QJ (p l t:Nat→Nat) (k m:Nat) (x:Nat→Rat) (j:Nat):St :=
 {env:=[(1,nT t m),(5,.ptr 5 0),(6,.ptr 6 0),(7,.ptr 7 0),(8,.ptr 8 0),(9,.ptr 9 0),(30,nN p l k),(31,iv k),(32,iv j)],sto:=sgB x k m (rq l x j) (fun a=>ldR p x a j)}
noncomputable def UF (p l t:Nat→Nat) (k m:Nat) (x:Nat→Rat) (i:Nat):St :=
 {env:=[(1,nT t m),(6,.ptr 6 0),(7,.ptr 7 0),(8,.ptr 8 0),(53,.sl 19 3 0 m),(54,iv m),(55,iv i)],
  sto:=[(6,.var zz),(7,.var (fr 1)),(8,.var (fr (bdR p l t k x i))),(19,.arr 3 (fR (fun a=>ldR p x a k) m))]}
theorem Ba (hk:k≤152) (hm:m≤8) (hp:∀ j,j<k→p j<256) (hl:∀ j,j<k→l j≤8000000) (ht:∀ i,i<m→t i≤1000000) (hLb:23≤L∧L≤10000000) (hx:∀ j,j<k→sz L (x j)) :
  zc Try.prog t8 [nN p l k,nT t m,fL x k] (fq (x8 k m (MB p) (ZR l) (ZR t) x)):=by
 have g0:zc Try.prog zI [iv 0] (fq 0):=xy (n:=0) (by decide) (by decide)
 have g1:zc Try.prog zI [iv 1] (fq 1):=xy (n:=1) (by decide) (by decide)
 refine zG cS (by simp) ?_
 simp[mj]
 refine za g1 (by simp) (by simp) ?_
 simp
 refine za g0 (by simp) (by simp) ?_
 simp[eMk]
 refine ⟨by omega,by omega,?_⟩
 rw[nn (f:=fun _=>0)]
 refine zB (QI p l t k m x) (fun _=>True) m (by simp[QI]) trivial (fun i hi _=>?_) (fun _=>?_)
 ·have e:(i:Int)<m:=by omega
  have w:=zC (k:=i) (by omega)
  have hset:=kD (f:=fun _=>0) hi
  simp[uA,QI,e]
  refine za g0 (by simp) (by simp) ?_
  simp[w,QI,hi,e,hset]
 ·simp[uA,QI,qI,nk]
  have e0:fR (fun _=>0) m=fR (fun a=>ldR p x a 0) m:=yI fun _ _=>rfl
  have e1:(0:Rat)=rq l x 0:=rfl
  refine zB (QJ p l t k m x) (fun _=>True) k (by simp[QJ,sgB,e0,← e1]) trivial (fun j hj _=>?_) (fun _=>?_)
  ·have e:(j:Int)<k:=by omega
   have w:=zC (k:=j) (by omega)
   have k2:=pD (hl j hj)
   have k3:=lf (K:=L) (by omega) (hx j hj) (wX (hl j hj) hLb.1)
   have k4:=ba (K:=152*(L+24)) (by omega) (Ua hk hx hl (j:=j) (by omega)) (zM (yG (hx j hj) (wX (K:=23) (hl j hj) (by omega))) (by omega))
   have ev:rq l x j+x j*((l j:Int):Rat)=rq l x (j+1):=rfl
   simp[uB,QJ,sgB,e,hj]
   refine za k2 (by simp) (by simp) ?_
   simp
   refine za k3 (by simp) (by simp) ?_
   simp
   refine za k4 (by simp) (by simp) ?_
   simp[ce,ev]
   have hX0:fR (fun a=>ldR p x a j) m=fR (ldM p x j 0) m:=yI fun a _=>by unfold ldM; rw[if_neg (Nat.not_lt_zero a)]
   have hXm:fR (ldM p x j m) m=fR (fun a=>ldR p x a (j+1)) m:=yI fun a ha=>by unfold ldM; rw[if_pos ha]
   rw[hX0]
   refine afM (Un (p:=p j) (l:=l j) (m:=m) (F:=wd) (caps:=[.ptr 9 0,.ptr 5 0,.ptr 11 0]) (X:=XB p l k m x j) (hp j hj) hm ?_ (fun _=>Aw) ?_ ?_ B5 ?_ ?_ ?_ ?_)
   ·simp[XB,sgB]
   ·simp[yo,yy,vO,y7,lB,yJ,ZA,Ui,Uh]
   ·simp[yh]
   ·simp[lB,yJ]
   ·exact fun i hi hb t K' h1 _ _ h4=>ab6 hk hLb hx hj hi hm hb t K' h1 h4
   ·intro i hi hb
    simp only[XB,sgB]
    rw[abe hb]
   simp[XB,sgB,hXm,w,QJ]
  ·simp[uB,QJ,sgB,qH]
   have e0:rq l x k=bdR p l t k x 0:=by unfold bdR; simp only[zg]; grind
   refine zB (UF p l t k m x) (fun _=>True) m (by simp[UF,e0]) trivial (fun i hi _=>?_) (fun _=>?_)
   ·have e:(i:Int)<m:=by omega
    have w:=zC (k:=i) (by omega)
    have zl:=YL (p:=p) (i:=i) hk hx (Nat.le_refl k)
    have k1:=fk (K:=152*(L+1)) (by omega) zl (zM (v6 (K:=1)) (by omega))
    simp[uC,UF,e,hi]
    refine za k1 (by simp) (by simp) ?_
    by_cases h1:0<wa (ldR p x i k) 1
    ·have h1':1<ldR p x i k:=nf.1 h1
     have k2:=pD (n:=t i) (by have:=ht i hi; omega)
     have k3:=Xy (K:=152*(L+1)) (by omega) zl (zM (v6 (K:=1)) (by omega))
     have zs:sz (152*(L+1)+3) (ldR p x i k-1):=zM (pU zl (v6 (K:=1))) (by omega)
     have k4:=lf (K:=152*(L+1)+3) (by omega) (wX (n:=t i) (by have:=ht i hi; omega) (by omega)) zs
     have k5:=Xy (K:=2000*(L+24)) (by omega) (Sf (p:=p) hk hm hx hl ht (i:=i) (by omega)) (zM (yG (wX (K:=23) (n:=t i) (by have:=ht i hi; omega) (by omega)) zs) (by omega))
     have ev:bdR p l t k x i-((t i:Int):Rat)*(ldR p x i k-1)=bdR p l t k x (i+1):=by
      unfold bdR
      simp only[zg]
      have:um k (MB p) (ZR t) x i=((t i:Int):Rat)*(ldR p x i k-1):=by
       unfold um
       rw[if_pos (show 1<vp k (MB p) x i from h1')]
       rfl
      rw[this]
      grind
     simp[h1,hi,e]
     refine za k2 (by simp) (by simp) ?_
     simp
     refine za k3 (by simp) (by simp) ?_
     simp
     refine za k4 (by simp) (by simp) ?_
     simp
     refine za k5 (by simp) (by simp) ?_
     simp[w,ev,UF]
    ·have h1':¬ 1<ldR p x i k:=fun h=>h1 (nf.2 h)
     have ev:bdR p l t k x i=bdR p l t k x (i+1):=by
      unfold bdR
      simp only[zg]
      have:um k (MB p) (ZR t) x i=0:=by
       unfold um
       rw[if_neg (show ¬ 1<vp k (MB p) x i from h1')]
      rw[this]
      grind
     simp[h1,w,← ev,UF]
   ·rw[← bh (p:=p) (l:=l) (t:=t)]
    simp[uC,UF,qG,my]
end
noncomputable def yq (f:Nat→Nat→Rat) (n a m:Nat):List (Nat × zb):=(List.range' a (m-a)).map fun r=>(500+r,zb.arr 3 (fR (f r) n))
section
variable {f:Nat→Nat→Rat} {n a m r x k l:Nat} {e:zb}
theorem lK (h:m≤a):yq f n a m=[]:=by unfold yq; rw[show m-a=0 by omega]; rfl
theorem jg (h:a<m):yq f n a m=(500+a,.arr 3 (fR (f a) n))::yq f n (a+1) m:=by
 unfold yq
 rw[show m-a=(m-(a+1))+1 by omega,List.range'_succ]; rfl
theorem Kq (h:a≤m):yq f n a (m+1)=yq f n a m++[(500+m,.arr 3 (fR (f m) n))]:=by
 unfold yq
 rw[show m+1-a=(m-a)+1 by omega,List.range'_concat,List.map_append]
 simp only[List.map_cons,List.map_nil,Nat.one_mul]
 rw[show a+(m-a)=m by omega]
theorem mV {g:Nat→Nat→Rat} (h:∀ r j,a≤r→r<m→j<n→f r j=g r j):yq f n a m=yq g n a m:=by
 unfold yq
 refine List.map_congr_left fun r hr=>?_
 have:=List.mem_range'_1.1 hr
 rw[yI fun j hj=>h r j (by omega) (by omega) hj]
theorem Pw {L:List Nat} {g:Nat→zb} (h:∀ r∈L,¬ 500+r=x):lk (L.map fun r=>(500+r,g r)) x=none:=by
 induction L with
 | nil=>rfl
 | cons y L ih=>simp only[List.map_cons,lk]; rw[if_neg (h y (by simp)),ih fun r hr=>h r (by simp[hr])]
theorem rR (h:x<500+a∨500+m≤x):lk (yq f n a m) x=none :=
 Pw fun r hr=>by have:=List.mem_range'_1.1 hr; omega
theorem bD:∀ {d a:Nat},m-a=d→a≤r→r<m→lk (yq f n a m) (500+r)=some (.arr 3 (fR (f r) n))
 | 0,a,hd,h1,h2=>by omega
 | d+1,a,hd,h1,h2=>by
  rw[jg (by omega)]
  simp only[lk]
  by_cases e:a=r
  ·subst e; rw[if_pos rfl]
  ·rw[if_neg (by omega)]
   exact bD (d:=d) (a:=a+1) (by omega) (by omega) h2
theorem N0 {L:List (Nat × zb)} (h:lk L x=none):pt L x e=L++[(x,e)]:=by
 induction L with
 | nil=>rfl
 | cons q L ih =>
  obtain ⟨y,z⟩:=q
  simp only[lk] at h
  split at h
  ·cases h
  ·rename_i hne
   simp only[pt,if_neg hne,ih h,List.cons_append]
theorem NZ {g:Nat→Rat}:∀ {d a:Nat},m-a=d→a≤r→r<m→pt (yq f n a m) (500+r) (.arr 3 (fR g n))=yq (upd f r g) n a m
 | 0,a,hd,h1,h2=>by omega
 | d+1,a,hd,h1,h2=>by
  rw[jg (f:=f) (by omega),jg (f:=upd f r g) (by omega)]
  simp only[pt]
  by_cases e:a=r
  ·subst e
   rw[if_pos rfl]
   have h3:yq (upd f a g) n (a+1) m=yq f n (a+1) m:=mV fun r j hr _ _=>by unfold upd; rw[if_neg (by omega)]
   have h4:upd f a g a=g:=by unfold upd; rw[if_pos rfl]
   rw[h3,h4]
  ·rw[if_neg (by omega),NZ (d:=d) (a:=a+1) (by omega) (by omega) h2]
   have h4:upd f r g a=f a:=by unfold upd; rw[if_neg e]
   rw[h4]
theorem mK {F:Nat × zb→Nat × zb} (h:∀ r g,a≤r→r<m→F (500+r,.arr 3 g)=(500+r,.arr 3 g)):(yq f n a m).map F=yq f n a m:=by
 unfold yq
 rw[List.map_map]
 exact List.map_congr_left fun r hr=>by have:=List.mem_range'_1.1 hr; exact h r _ (by omega) (by omega)
@[simp] theorem P8:((yq f n a m).map fun p=>(p.1,dgE k p.2))=yq f n a m:=mK fun _ _ _ _=>rfl
@[simp] theorem FH:((yq f n a m).map fun p=>(p.1,uf k e p.2))=yq f n a m:=mK fun _ _ _ _=>rfl
@[simp] theorem SJ:xk k (yq f n a m)=true:=by
 unfold yq
 generalize List.range' a (m-a)=L
 induction L with
 | nil=>rfl
 | cons y L ih=>simp only[List.map_cons,xk,ih]; rfl
theorem fo {D:List Nat} (h:∀ r,a≤r→r<m→D.elem (500+r)=false):del D (yq f n a m)=yq f n a m:=by
 unfold yq
 have h2:∀ r∈List.range' a (m-a),D.elem (500+r)=false:=fun r hr=>by have:=List.mem_range'_1.1 hr; exact h r (by omega) (by omega)
 generalize List.range' a (m-a)=L at h2
 induction L with
 | nil=>rfl
 | cons y L ih =>
  simp only[List.map_cons,del]
  rw[h2 y (by simp),ih fun r hr=>h2 r (by simp[hr])]
  rfl
theorem Kp (hm:m≤100):rest (yq f n a m):=by
 intro p hp
 obtain ⟨r,hr,rfl⟩:=List.mem_map.1 hp
 have:=List.mem_range'_1.1 hr
 exact ⟨.inl (show 500+r<1000 by omega),rfl⟩
end
section
variable {p l t:Nat→Nat} {k m:Nat}
noncomputable def eD (p l t:Nat→Nat) (k m:Nat) (j:Nat):St :=
 {env:=[(0,nN p l k),(1,nT t m),(4,.ptr 4 0),(5,.ptr 5 0),(6,.ptr 6 0),(7,.ptr 7 0),(18,nN p l k),(19,iv k),(20,iv j)],
  sto:=[(4,.var [zK,zK]),(5,.var [apc 30 3 (fR (ZR l) j),zK]),(6,.var (fr 0)),(7,.var (fr 1))]}
def tkG (k:Nat):Nat:=if k=0 then 46 else 30
noncomputable abbrev glA (l t:Nat→Nat) (k i:Nat):AV:=apc (tkG k) 3 (fR (mG k (ZR l) (ZR t)) (k+i))
theorem gJ:tkG k=46∨tkG k=30:=by unfold tkG; split<;>simp
theorem Jj {q:Nat} {x:Rat} {s:St} {K:St→Prop} (hb:s.base=0) (hq:k≤q) (hq2:q≤200) (h0:lk s.sto (tkG k)=none) (hx:x=mG k (ZR l) (ZR t) q)
  (h:K ((s.dg (tkG k)).put (some 46) (apc (tkG k) 3 (fR (mG k (ZR l) (ZR t)) (q+1))))):xH 3 56 s (some 46) K [apc (tkG k) 3 (fR (mG k (ZR l) (ZR t)) q),.list 3 .full [fr x]]:=by
 have h1:apc (tkG k) 3 (fR (mG k (ZR l) (ZR t)) (q+1))=.list 3 (.own (tkG k)) (fR (mG k (ZR l) (ZR t)) (q+1)):=sf (by simp)
 have hs1:fR (mG k (ZR l) (ZR t)) q++[fr x]=fR (mG k (ZR l) (ZR t)) (q+1):=by rw[hx]; exact nj.symm
 rw[h1] at h
 by_cases q0:q=0
 ·have hk0:tkG k=46:=by unfold tkG; rw[if_pos (by omega)]
  rw[lr (by simp[q0])]
  have hs0:[fr x]=fR (mG k (ZR l) (ZR t)) (q+1):=by rw[← hs1,q0]; rfl
  rw[hk0] at h h0
  rw[hs0]
  rw[Ra]
  simp only[hb,Nat.zero_add,List.nil_append,List.length_nil,YF]
  exact ⟨by simp,by omega,by omega,by omega,by simp,h0,h⟩
 ·rw[sf (by simpa using q0),Pl]
  simp only[hs1,List.length_cons,List.length_nil,YF]
  exact ⟨by simp,by omega,by omega,by omega,trivial,h0,h⟩
noncomputable def rwA (i:Nat):AV:=if i=0 then zK else .us 80 4 0 i
noncomputable def rwU (n i:Nat):List (List AV):=mR (fun r=>.sl (500+r) 3 0 n::fr 1) i
noncomputable def rwE (n i:Nat):List (Nat × zb):=if i=0 then [] else [(80,.uarr 4 (rwU n i))]
def cfD (p:Nat→Nat) (k j r c:Nat):Rat:=if c<j then (if MB p c r=true then 1 else 0) else if c=k+r then -1 else 0
noncomputable def tlD (p:Nat→Nat) (k m i:Nat):List (Nat × zb):=rwE (k+m) i++yq (cfD p k 0) (k+m) 0 i
noncomputable def sgD (p l t:Nat→Nat) (k m:Nat) (i:Nat):List (Nat × zb) :=
 (4,.var [zK,zK])::(5,.var [glA l t k i,rwA i])::(6,.var (fr 0))::(7,.var (fr 1))::tlD p k m i
section
variable {i x n:Nat} {e:zb} {Z:List (Nat × zb)}
theorem YR (h:x<500) (h2:¬ x=80):lk (tlD p k m i) x=none:=by
 unfold tlD rwE
 split
 ·exact rR (.inl (by omega))
 ·simp only[List.cons_append,List.nil_append,lk]
  rw[if_neg (Ne.symm h2)]
  exact rR (.inl (by omega))
theorem acB (h:x<500) (h2:¬ x=80):pt (tlD p k m i) x e=tlD p k m i++[(x,e)]:=N0 (YR h h2)
theorem YS (h:x<500) (h2:¬ x=80):lk (tlD p k m i++Z) x=lk Z x:=kJ (_l':=[]) (YR h h2)
theorem Qe {L:List (Nat × zb)} (h:lk L x=none):pt (L++Z) x e=L++pt Z x e:=by
 induction L with
 | nil=>rfl
 | cons q L ih =>
  obtain ⟨y,z⟩:=q
  simp only[lk] at h
  split at h
  ·cases h
  ·rename_i hne
   simp only[List.cons_append,pt,if_neg hne,ih h]
theorem Qf (h:x<500) (h2:¬ x=80):pt (tlD p k m i++Z) x e=tlD p k m i++pt Z x e:=Qe (YR h h2)
theorem BL (h:¬ i=0):lk (tlD p k m i++Z) 80=some (.uarr 4 (rwU (k+m) i)):=by
 unfold tlD rwE
 rw[if_neg h]
 rfl
theorem Al {R:List (List AV)} (h:¬ i=0):pt (tlD p k m i++Z) 80 (.uarr 4 R)=(80,.uarr 4 R)::(yq (cfD p k 0) (k+m) 0 i++Z):=by
 unfold tlD rwE
 rw[if_neg h]
 rfl
@[simp] theorem aed:(rwU n i).length=i:=vP
theorem Gv:zU x (rwU n i)=rwU n i:=wS fun _=>by simp
theorem CV:((tlD p k m i).map fun q=>(q.1,dgE x q.2))=tlD p k m i:=by
 unfold tlD rwE
 split
 ·exact P8
 ·simp only[List.map_append,List.map_cons,List.map_nil,P8,wm,Gv]
end
noncomputable def bZ (p l t:Nat→Nat) (k m:Nat) (i:Nat):St :=
 {env:=[(0,nN p l k),(1,nT t m),(4,.ptr 4 0),(5,.ptr 5 0),(6,.ptr 6 0),(7,.ptr 7 0),(33,nT t m),(34,iv m),(35,iv i)],sto:=sgD p l t k m i}
theorem Zn {q:Rat} {a b c d:Nat}:v3 [zK,bv false,zK,zK] [(1,3),(0,1)] [.agg (fr q),.sl a b c d]=some [.sl a b c d,f0 q,f1 q,f2 q]:=by
 unfold fr
 simp[v3,splice,-qQ]
theorem dU {q:Rat} {a b c d:Nat}:zP (.sl a b c d::fr q) 0 (some 4)=some (.raw (.sl a b c d::fr q)):=by
 unfold fr
 simp[zP,-qQ]
theorem cw {q:Rat} {a b c d:Nat}:xM 4 [[zK,bv false,zK,zK]] [0] [.raw (.sl a b c d::fr q)]=some [.sl a b c d::fr q]:=by
 unfold fr
 simp[xM,-qQ]
theorem TT {sz by_ d n sz':Nat} {rows:List (List AV)} {s:St} {K:St→Prop} :
  yQ sz by_ s (some d) K [.list n .full [],.lit sz' rows]=(sz'=sz∧0<sz∧rows.length*by_≤140737488355328∧rows.length≤9223372036854775807∧lk s.sto (s.base+d)=none ∧
   K ({(s.dg (s.base+d)) with sto:=pt (s.dg (s.base+d)).sto (s.base+d) (.uarr sz (zU (s.base+d) rows))}.put (some d) (.us (s.base+d) sz 0 rows.length))):=by
 simp[yQ,y9]
theorem Mk {n i x:Nat} (h:x<500):yN x (rwU n i)=false:=gA fun r=>by
 have:¬ 500+r=x:=by omega
 simp[this]
theorem Mt {n i x:Nat} {R:List (List AV)} (h:x<500):yN x (rwU n i++R)=yN x R:=by rw[aj,Mk h]; rfl
theorem NM {f:Nat→Nat→Rat} {n m x:Nat} {Z:List (Nat × zb)} (h:x<500):lk (yq f n 0 m++Z) x=lk Z x:=kJ (_l':=[]) (rR (.inl (by omega)))
theorem F8 {f:Nat→Nat→Rat} {n m x:Nat} {Z:List (Nat × zb)} (h:x<500):del [x] (yq f n 0 m++Z)=yq f n 0 m++del [x] Z:=by
 rw[gw,fo fun r _ _=>by simp; omega]
theorem Lf {f:Nat→Nat→Rat} {n m x:Nat} {Z:List (Nat × zb)}:xk x (yq f n 0 m++Z)=xk x Z:=by rw[pJ,SJ]; rfl
theorem CQ {a b k s o l:Nat}:rn a b (.sl k s o l)=.sl (sw a b k) s o l:=rfl
theorem AB {a b s:Nat} {r:List (List AV)}:rnE a b (.arr s r)=.arr s r:=rfl
theorem Qz {q:Rat} {a b c d x:Nat}:zU x [.sl a b c d::fr q]=[.sl a b c d::fr q]:=by
 simp[zU]
noncomputable def Sy (p l t:Nat→Nat) (k m n i:Nat) (j:Nat):St :=
 {env:=[(0,nN p l k),(1,nT t m),(4,.ptr 4 0),(5,.ptr 5 0),(6,.ptr 6 0),(7,.ptr 7 0),(33,nT t m),(34,iv m),(35,iv i),(10,iv i),(12,.ptr 12 0),(58,iv n),(59,iv j)],
  sto:=(4,.var [zK,zK])::(5,.var [.list 3 (.own (tkG k)) (fR (mG k (ZR l) (ZR t)) (k+i+1)),rwA i])::(6,.var (fr 0))::(7,.var (fr 1)) ::
   (tlD p k m i++[(54,.arr 3 (fZ (fun _=>0) j n)),(12,.var [.sl 54 3 0 n,f0 1,f1 1,f2 1])])}
theorem G7 {i r:Nat} (h:r<i):sw 54 (500+i) (500+r)=500+r:=by unfold sw; rw[if_neg (by omega),if_neg (by omega)]
theorem abx {n i:Nat}:((rwU n i++[.sl 54 3 0 n::fr 1]).map fun r=>r.map (rn 54 (500+i)))=rwU n (i+1):=by
 have e1:((rwU n i).map fun r=>r.map (rn 54 (500+i)))=rwU n i:=mu fun r hr=>by
  have:=G7 hr
  simp[CQ,this]
 have e2:[AV.sl 54 3 0 n::fr 1].map (fun r=>r.map (rn 54 (500+i)))=[.sl (500+i) 3 0 n::fr 1]:=by
  simp only[List.map_cons,List.map_nil,CQ,Sj]
  rw[show sw 54 (500+i) 54=500+i from if_pos rfl]
 rw[List.map_append,e1,e2]
 unfold rwU
 rw[bF]
theorem C1 {f:Nat→Nat→Rat} {n i:Nat}:((yq f n 0 i).map fun p=>(sw 54 (500+i) p.1,rnE 54 (500+i) p.2))=yq f n 0 i:=mK fun r g _ hr=>by rw[G7 hr]; rfl
theorem S8 {n i:Nat} (hn:k+m=n) (hi:i<m) :
  St.imp ⟨[(0,nN p l k),(1,nT t m),(4,.ptr 4 0),(5,.ptr 5 0),(6,.ptr 6 0),(7,.ptr 7 0),(33,nT t m),(34,iv m),(35,iv ((i+1:Nat):Int))],
   (4,.var [zK,zK])::(5,.var [.list 3 (.own (tkG k)) (fR (mG k (ZR l) (ZR t)) (k+i+1)),.us 80 4 0 (i+1)])::(6,.var (fr 0))::(7,.var (fr 1))::(80,.uarr 4 (rwU n i++[.sl 54 3 0 n::fr 1])) ::
    (yq (cfD p k 0) n 0 i++[(54,.arr 3 (fR (cfD p k 0 i) n))]),[],0⟩ (bZ p l t k m (i+1)):=by
 refine St.imp.trans (St.imp_rn 54 (500+i)) ?_
 have h1:sw 54 (500+i) (tkG k)=tkG k:=by rcases gJ (k:=k) with h | h<;>rw[h]<;>unfold sw<;>rw[if_neg (by omega),if_neg (by omega)]
 have h2:∀ x,x<54→sw 54 (500+i) x=x:=fun x hx=>by unfold sw; rw[if_neg (by omega),if_neg (by omega)]
 have h3:sw 54 (500+i) 80=80:=by unfold sw; rw[if_neg (by omega),if_neg (by omega)]
 have h4:sw 54 (500+i) 54=500+i:=by unfold sw; rw[if_pos rfl]
 have h5:apc (tkG k) 3 (fR (mG k (ZR l) (ZR t)) (k+(i+1)))=.list 3 (.own (tkG k)) (fR (mG k (ZR l) (ZR t)) (k+i+1)):=sf (by simp)
 have h6:=abx (n:=n) (i:=i)
 simp only[List.map_append,List.map_cons,List.map_nil,Sj] at h6
 simp only[St.rn,List.map_cons,List.map_nil,List.map_append,h6,Sj,bT,eh,AB,Qo,Su,Qp,eo,Mj,Xc,h1,h2 4 (by omega),h2 5 (by omega),h2 6 (by omega),h2 7 (by omega),h3,h4,C1]
 have h7:tlD p k m (i+1)=(80,.uarr 4 (rwU n (i+1)))::(yq (cfD p k 0) n 0 i++[(500+i,.arr 3 (fR (cfD p k 0 i) n))]):=by
  unfold tlD rwE
  rw[if_neg (by omega),hn,Kq (Nat.zero_le i)]
  rfl
 have h8:rwA (i+1)=.us 80 4 0 (i+1):=if_neg (by omega)
 unfold bZ sgD
 rw[h7,h8]
 unfold glA
 rw[h5]
 exact St.imp.refl
end
section
variable {p l t:Nat→Nat} {k m:Nat}
noncomputable def sgE (l t:Nat→Nat) (k m:Nat) (f:Nat→Nat→Rat):List (Nat × zb) :=
 (4,.var [zK,zK])::(5,.var [glA l t k m,rwA m])::(7,.var (fr 1))::(rwE (k+m) m++yq f (k+m) 0 m)
noncomputable def tE (k m:Nat) (f:Nat→Nat→Rat):List (Nat × zb):=rwE (k+m) m++yq f (k+m) 0 m
theorem Qu {f:Nat→Nat→Rat}:sgE l t k m f=(4,.var [zK,zK])::(5,.var [glA l t k m,rwA m])::(7,.var (fr 1))::tE k m f:=rfl
theorem CU {f:Nat→Nat→Rat} {x:Nat} (h:x<500) (h2:¬ x=80):lk (tE k m f) x=none:=by
 unfold tE rwE
 split
 ·exact rR (.inl (by omega))
 ·simp only[List.cons_append,List.nil_append,lk]
  rw[if_neg (Ne.symm h2)]
  exact rR (.inl (by omega))
theorem QX {f:Nat→Nat→Rat} {x:Nat} (h:x<500):xk x (tE k m f)=true:=by
 unfold tE rwE
 rw[pJ,SJ,Bool.and_true]
 split
 ·rfl
 ·simp[Mk h]
theorem abQ {f:Nat→Nat→Rat}:del [14,15] (tE k m f)=tE k m f:=by
 unfold tE rwE
 rw[gw,fo fun r _ _=>by simp; omega]
 split<;>rfl
def cfM (p:Nat→Nat) (k j i r:Nat):Nat→Rat:=cfD p k (if r<i then j+1 else j) r
noncomputable def XD (p l t:Nat→Nat) (k m j i:Nat):List (Nat × zb):=sgE l t k m (cfM p k j i)++[(14,.var [iv j]),(15,.var [iv (p j),iv (l j)])]
theorem FV {j i:Nat} (hj:j<k) (hb:sm (p j) i=true):upd (cfM p k j i i) j 1=cfM p k j (i+1) i:=by
 funext c
 unfold upd cfM cfD
 rw[if_neg (Nat.lt_irrefl i),if_pos (Nat.lt_succ_self i)]
 by_cases e:c=j
 ·subst e
  rw[if_pos rfl,if_pos (Nat.lt_succ_self c)]
  simp[MB,hb]
 ·rw[if_neg e]
  by_cases h:c<j
  ·rw[if_pos h,if_pos (show c<j+1 by omega)]
  ·rw[if_neg h,if_neg (show ¬ c<j+1 by omega)]
theorem U8 {j i r:Nat} (h:¬ r=i):cfM p k j (i+1) r=cfM p k j i r:=by
 unfold cfM
 by_cases e:r<i
 ·rw[if_pos e,if_pos (by omega)]
 ·rw[if_neg e,if_neg (by omega)]
theorem aaJ {j i:Nat} (hj:j<k) (hb:sm (p j) i=false) (r:Nat):cfM p k j (i+1) r=cfM p k j i r:=by
 by_cases e:r=i
 ·subst e
  unfold cfM
  rw[if_neg (Nat.lt_irrefl r),if_pos (Nat.lt_succ_self r)]
  funext c
  unfold cfD
  by_cases h:c<j
  ·rw[if_pos h,if_pos (show c<j+1 by omega)]
  ·rw[if_neg h]
   by_cases h2:c<j+1
   ·obtain rfl:c=j:=by omega
    rw[if_pos h2]
    have h3:¬ c=k+r:=by omega
    simp[MB,hb,h3]
   ·rw[if_neg h2]
 ·exact U8 e
theorem DH {n i:Nat} (hi:i≤100):sL 1000 (.uarr 4 (rwU n i))=true:=by
 have:∀ r∈rwU n i,r.all (Am.low 1000)=true:=fun r hr=>by
  obtain ⟨j,hj,rfl⟩:=List.mem_map.1 hr
  have hj2:j<i:=by simpa using hj
  have:Am.low 1000 (.sl (500+j) 3 0 n)=true:=by rw[NP]; simp; omega
  simp[this]
 simp only[sL,List.all_eq_true]
 intro r hr x hx
 exact List.all_eq_true.1 (this r hr) x hx
theorem Ay (hm:m≤8) {j i:Nat}:rest (XD p l t k m j i):=by
 intro q hq
 have hlow:sL 1000 (.var [glA l t k m,rwA m])=true:=by
  have h1:Am.low 1000 (glA l t k m)=true:=by
   unfold glA apc
   split
   ·rfl
   ·show decide (tkG k<1000)=true
    rcases gJ (k:=k) with h | h<;>rw[h]<;>rfl
  have h2:Am.low 1000 (rwA m)=true:=by unfold rwA; split<;>rfl
  simp[sL,h1,h2]
 simp only[XD,sgE,List.cons_append,List.append_assoc,List.mem_cons,List.mem_append] at hq
 rcases hq with rfl | rfl | rfl | hq | hq | hq
 ·exact ⟨.inl (show (_:Nat)<1000 by simp),by simp[sL,fN]⟩
 ·exact ⟨.inl (show (_:Nat)<1000 by simp),hlow⟩
 ·exact ⟨.inl (show (_:Nat)<1000 by simp),by simp[sL]⟩
 ·unfold rwE at hq
  split at hq
  ·cases hq
  ·simp only[List.mem_singleton] at hq
   subst hq
   exact ⟨.inl (show (_:Nat)<1000 by simp),DH (by omega)⟩
 ·exact Kp (by omega) q hq
 ·simp only[List.not_mem_nil,or_false] at hq
  rcases hq with rfl | rfl<;>exact ⟨.inl (show (_:Nat)<1000 by simp),by simp[sL,vO]⟩
@[simp] theorem adL {n i j:Nat} {h:j<(rwU n i).length}:(rwU n i)[j]=.sl (500+j) 3 0 n::fr 1:=ru
theorem Ak {L Z:List (Nat × zb)} {x:Nat} {v e:zb} (h:lk L x=some v):pt (L++Z) x e=pt L x e++Z:=by
 induction L with
 | nil=>cases h
 | cons q L ih =>
  obtain ⟨y,z⟩:=q
  simp only[lk] at h
  simp only[List.cons_append,pt]
  split at h
  ·rename_i h1; rw[if_pos h1,if_pos h1]; rfl
  ·rename_i h1; rw[if_neg h1,if_neg h1,ih h]; rfl
theorem B7:yM Try.prog wC=true:=by kernel_rfl
theorem acb (hk:k≤152) (hm:m≤8) {j i:Nat} (hj:j<k) (hi:i<m) (hb:sm (p j) i=true) {e:zb} (s:St) (K':AV→St→Prop) (hs:s.sto=XD p l t k m j i++[(5003,e)])
  (h:K' (.tuple []) ⟨s.env,XD p l t k m j (i+1)++[(5003,e)],s.out,s.base⟩):afN Try.prog wC [iv i,.ptr 7 0,.ptr 5 0,.ptr 14 0] s K':=by
 obtain ⟨env,σ,out,base⟩:=s
 simp only at hs h
 subst hs
 have m0:¬ m=0:=by omega
 have e1:(i:Int)<m:=by omega
 have e2:(j:Int)<((k+m:Nat):Int):=by omega
 have e3:j<k+m:=by omega
 obtain ⟨n,hn⟩:∃ n,k+m=n:=⟨_,rfl⟩
 have hr:rwA m=.us 80 4 0 m:=if_neg m0
 have hE:rwE n m=[(80,.uarr 4 (rwU n m))]:=if_neg m0
 have hget:(rwU n m)[i]?=some (.sl (500+i) 3 0 n::fr 1):=tw hi
 have hl:∀ Z,lk (yq (cfM p k j i) n 0 m++Z) (500+i)=some (.arr 3 (fR (cfM p k j i i) n)):=fun Z=>by
  have:∀ {L:List (Nat × zb)} {x:Nat} {v:zb},lk L x=some v→lk (L++Z) x=some v:=fun {L x v}=>by
   induction L with
   | nil=>intro h; cases h
   | cons q L ih =>
    obtain ⟨y,z⟩:=q
    intro h
    simp only[lk,List.cons_append] at h ⊢
    split at h
    ·rename_i h1; rw[if_pos h1]; exact h
    ·rename_i h1; rw[if_neg h1]; exact ih h
  exact this (bD (d:=m) (by omega) (Nat.zero_le i) hi)
 refine xL 6000 dl (by simp) ?_
 rw[hn] at e2 e3
 have hp2:∀ Z,pt (yq (cfM p k j i) n 0 m++Z) (500+i) (.arr 3 ((fR (cfM p k j i i) n).set j (fr 1)))=yq (cfM p k j (i+1)) n 0 m++Z:=fun Z=>by
  rw[Ak (bD (d:=m) (by omega) (Nat.zero_le i) hi),tu,NZ (d:=m) (by omega) (Nat.zero_le i) hi]
  congr 1
  refine mV fun r c _ _ _=>?_
  by_cases e:r=i
  ·subst e
   rw[← FV hj hb]
   unfold upd
   rw[if_pos rfl]
  ·rw[U8 e]
   unfold upd
   rw[if_neg e]
 have n4:¬ 4=500+i:=by omega
 have n5:¬ 5=500+i:=by omega
 have n7:¬ 7=500+i:=by omega
 have n80:¬ 80=500+i:=by omega
 simp[pY,XD,sgE,hr,hn,hE,e1,e2,e3,hi,NM,hl,hp2,n4,n5,n7,n80,agZ]
 simp[XD,sgE,hr,hn,hE] at h
 exact h
noncomputable def rwF (f:Nat→Nat→Rat) (n a m:Nat):List (List AV):=mR (fun r=>if r<a then fL (f r) n::fr 1 else .sl (500+r) 3 0 n::fr 1) m
noncomputable def sgF (l t:Nat→Nat) (k m:Nat) (f:Nat→Nat→Rat) (n a:Nat):List (Nat × zb) :=
 (4,.var [zK,zK])::(5,.var [glA l t k m,.us 80 4 0 m])::(7,.var (fr 1))::(80,.uarr 4 (rwF f n a m))::yq f n a m
noncomputable def tO (p l t:Nat→Nat) (k m j:Nat):List (Nat × AV):=[(1,nT t m),(4,.ptr 4 0),(5,.ptr 5 0),(7,.ptr 7 0),(83,nN p l k),(84,iv k),(85,iv j)]
theorem Jk {x:Nat} {e:zb} (h:50<x):frz x e (glA l t k m)=glA l t k m:=by
 unfold glA apc
 split
 ·rfl
 ·have:¬ tkG k=x:=by rcases gJ (k:=k) with h1 | h1<;>omega
  show (if tkG k=x∧_ then _ else _)=_
  rw[if_neg fun h=>this h.1]
theorem ED {f:Nat→Nat→Rat} {n a j:Nat} (ha:a<m):St.imp ⟨tO p l t k m j,sgF l t k m f n a,[],0⟩ ⟨tO p l t k m j,sgF l t k m f n (a+1),[],0⟩:=by
 have n4:¬ 4=500+a:=by omega
 have n5:¬ 5=500+a:=by omega
 have n7:¬ 7=500+a:=by omega
 have n80:¬ 80=500+a:=by omega
 have hd:del [500+a] (yq f n a m)=yq f n (a+1) m:=by
  rw[jg ha]
  simp only[del]
  rw[if_pos (by simp),fo fun r h1 h2=>by simp; omega]
 have hrow:((rwF f n a m).map fun r=>r.map (frz (500+a) (.arr 3 (fR (f a) n))))=rwF f n (a+1) m:=mu fun r hr=>by
  by_cases h1:r<a
  ·rw[if_pos h1,if_pos (by omega)]
   simp[gy]
  ·rw[if_neg h1]
   by_cases h2:r=a
   ·subst h2
    rw[if_pos (by omega)]
    have ht:(fR (f r) n).take n=fR (f r) n:=List.take_of_length_le (by simp)
    simp[gy,Rr,ht]
   ·rw[if_neg (by omega)]
    simp[gy,Rr,h2]
 have href:yN (500+a) (rwF f n (a+1) m)=false:=gA fun r=>by
  by_cases h1:r<a+1
  ·rw[if_pos h1]; simp
  ·rw[if_neg h1]
   have:¬ r=a:=by omega
   simp[this]
 refine St.imp_gone (k:=500+a) (e:=.arr 3 (fR (f a) n)) ?_ ?_ ?_ rfl rfl ?_
 ·simp only[sgF,lk]
  rw[if_neg n4,if_neg n5,if_neg n7,if_neg n80]
  exact bD (d:=m-a) rfl (Nat.le_refl a) ha
 ·simp[tO,n4,n5,n7,qT,vr]
 ·have e1:del [500+a] (sgF l t k m f n a)=(4,.var [zK,zK])::(5,.var [glA l t k m,.us 80 4 0 m])::(7,.var (fr 1))::(80,.uarr 4 (rwF f n a m))::yq f n (a+1) m:=by
   unfold sgF
   simp[del,n4,n5,n7,n80,hd]
  rw[e1]
  simp only[List.map_cons,vL,sF,hrow,FH,gy,Jk (show 50<500+a by omega),List.map_nil]
  simp[sgF,rQ,n80,Zq]
 ·simp[St.unmet,tO,sgF,n4,n5,n7,n80,href]
theorem Tf {f:Nat→Nat→Rat} {n j:Nat}:∀ a,a≤m→St.imp ⟨tO p l t k m j,sgF l t k m f n 0,[],0⟩ ⟨tO p l t k m j,sgF l t k m f n a,[],0⟩
 | 0,_=>St.imp.refl
 | a+1,h=>St.imp.trans (Tf a (by omega)) (ED (by omega))
noncomputable def rwZ (f:Nat→Nat→Rat) (n m:Nat):List (List AV):=mR (fun r=>fL (f r) n::fr 1) m
noncomputable def sgZ (l t:Nat→Nat) (k m:Nat) (f:Nat→Nat→Rat):List (Nat × zb):=[(4,.var [zK,zK]),(5,.var [glA l t k m,plc 4 (rwZ f (k+m) m)]),(7,.var (fr 1))]
theorem BD {f:Nat→Nat→Rat} {j:Nat}:St.imp ⟨tO p l t k m j,sgE l t k m f,[],0⟩ ⟨tO p l t k m j,sgZ l t k m f,[],0⟩:=by
 by_cases m0:m=0
 ·have h1:sgE l t k m f=sgZ l t k m f:=by
   unfold sgE sgZ rwE rwA
   rw[if_pos m0,if_pos m0,lK (by omega)]
   have:plc 4 (rwZ f (k+m) m)=zK:=by unfold plc; rw[if_pos (by rw[rwZ,vP]; exact m0)]
   rw[this]
   rfl
  rw[h1]
  exact St.imp.refl
 ·have h1:sgE l t k m f=sgF l t k m f (k+m) 0:=by
   unfold sgE sgF rwE rwA
   rw[if_neg m0,if_neg m0]
   have:rwF f (k+m) 0 m=rwU (k+m) m:=wq fun r _=>by rw[if_neg (Nat.not_lt_zero r)]
   rw[this]
   rfl
  rw[h1]
  refine St.imp.trans (Tf m (Nat.le_refl m)) ?_
  have h2:rwF f (k+m) m m=rwZ f (k+m) m:=wq fun r hr=>by rw[if_pos hr]
  have h3:plc 4 (rwZ f (k+m) m)=.list 4 .plain (rwZ f (k+m) m):=by unfold plc; rw[if_neg (by rw[rwZ,vP]; exact m0)]
  have h4:xB (rwZ f (k+m) m)=true:=mr fun _=>by simp
  have h5:zQ (rwZ f (k+m) m)=rwZ f (k+m) m:=wS fun _=>by simp
  have h6:(rwZ f (k+m) m).length=m:=by rw[rwZ,vP]
  have h7:(rwZ f (k+m) m).take m=rwZ f (k+m) m:=List.take_of_length_le (by omega)
  unfold sgF
  rw[h2,lK (Nat.le_refl m)]
  refine St.imp_gone (k:=80) (e:=.uarr 4 (rwZ f (k+m) m)) (by simp) (by simp[tO,qT,vr]) ?_ rfl rfl ?_
  ·simp[del,vL,gy,Jk (show 50<80 by omega),rQ,Zq,sgZ,h3,h4,h5,h6,h7]
  ·simp[St.unmet,tO,sgZ,h3]
noncomputable def UG (p l t:Nat→Nat) (k m j:Nat):St:=⟨tO p l t k m j,sgE l t k m (cfD p k j),[],0⟩
noncomputable def Xp (p l t:Nat→Nat) (k m j:Nat):St:=if j=k then ⟨tO p l t k m j,sgZ l t k m (cfD p k j),[],0⟩ else UG p l t k m j
theorem QK (j:Nat):St.imp (UG p l t k m j) (Xp p l t k m j):=by
 unfold Xp
 split
 ·exact BD
 ·exact St.imp.refl
theorem Bx {K:Exit→St→Prop} (hk:k≤152) (hm:m≤8) (hp:∀ j,j<k→p j<256)
  (h:K (.exit 6) ⟨tO p l t k m k++[(86,bv false)],sgZ l t k m (cfD p k k),[],0⟩) :
  awp Try.prog (.loop wk) (UG p l t k m 0) K:=by
 refine sj (Xp p l t k m) (fun _=>True) k (QK 0) trivial (fun j hj _=>?_) (fun _=>?_)
 ·have e:(j:Int)<k:=by omega
  have w:=zC (k:=j) (by omega)
  have hne:¬ j=k:=by omega
  have hst:Xp p l t k m j=UG p l t k m j:=if_neg hne
  rw[hst]
  have hX0:sgE l t k m (cfD p k j)=sgE l t k m (cfM p k j 0):=by
   unfold sgE
   rw[mV (f:=cfD p k j) (g:=cfM p k j 0) fun r c _ _ _=>by unfold cfM; rw[if_neg (Nat.not_lt_zero r)]]
  have hXm:sgE l t k m (cfM p k j m)=sgE l t k m (cfD p k (j+1)):=by
   unfold sgE
   rw[mV (f:=cfM p k j m) (g:=cfD p k (j+1)) fun r c _ hr _=>by unfold cfM; rw[if_pos hr]]
  have hT:∀ f,lk (tE k m f) 14=none∧lk (tE k m f) 15=none∧xk 14 (tE k m f)=true∧xk 15 (tE k m f)=true∧del [14,15] (tE k m f)=tE k m f:=fun f=>⟨CU (by omega) (by omega),CU (by omega) (by omega),QX (by omega),QX (by omega),abQ⟩
  have hr1:zT 14 (rwA m)=false∧zT 15 (rwA m)=false:=by unfold rwA; split<;>simp
  simp only[UG,hX0]
  obtain ⟨t1,t2,_,_,_⟩:=hT (cfM p k j 0)
  obtain ⟨s1,s2,s3,s4,s5⟩:=hT (cfM p k j m)
  have hpt1:∀ e,pt (tE k m (cfM p k j 0)) 14 e=tE k m (cfM p k j 0)++[(14,e)]:=fun e=>N0 t1
  have hpt2:∀ e Z,pt (tE k m (cfM p k j 0)++Z) 15 e=tE k m (cfM p k j 0)++pt Z 15 e:=fun e Z=>Qe t2
  have hpt3:∀ e Z,pt (tE k m (cfM p k j 0)++Z) 14 e=tE k m (cfM p k j 0)++pt Z 14 e:=fun e Z=>Qe t1
  have hl1:∀ Z,lk (tE k m (cfM p k j 0)++Z) 14=lk Z 14:=fun Z=>kJ (_l':=[]) t1
  have hl2:∀ Z,lk (tE k m (cfM p k j 0)++Z) 15=lk Z 15:=fun Z=>kJ (_l':=[]) t2
  simp[wk,tO,Qu,e,hj,ce,t1,hpt1,hpt2,hpt3,hl1,hl2,splice]
  refine afM (Un (p:=p j) (l:=l j) (m:=m) (F:=wC) (caps:=[.ptr 7 0,.ptr 5 0,.ptr 14 0]) (X:=XD p l t k m j) (hp j hj) hm ?_ (fun _=>Ay hm) ?_ ?_ B7 ?_ ?_ ?_ ?_)
  ·simp[XD,Qu]
  ·simp[yo,yy,vO,y7,lB,yJ,ZA,Ui,Uh]
  ·simp[yh]
  ·simp[lB,yJ]
  ·exact fun i hi hb s K' h1 _ _ h4=>acb hk hm hj hi hb s K' h1 h4
  ·intro i hi hb
   unfold XD
   have:cfM p k j (i+1)=cfM p k j i:=funext fun r=>aaJ hj hb r
   rw[this]
  have q1:∀ Z,lk (tE k m (cfM p k j m)++Z) 14=lk Z 14:=fun Z=>kJ (_l':=[]) s1
  have q2:∀ Z,lk (tE k m (cfM p k j m)++Z) 15=lk Z 15:=fun Z=>kJ (_l':=[]) s2
  have q3:∀ Z,del [14,15] (tE k m (cfM p k j m)++Z)=tE k m (cfM p k j m)++del [14,15] Z:=fun Z=>by rw[gw,s5]
  have q4:∀ Z,xk 14 (tE k m (cfM p k j m)++Z)=xk 14 Z:=fun Z=>by rw[pJ,s3]; rfl
  have q5:∀ Z,xk 15 (tE k m (cfM p k j m)++Z)=xk 15 Z:=fun Z=>by rw[pJ,s4]; rfl
  simp[XD,Qu,q1,q2,q3,s3,s4,hr1.1,hr1.2,w]
  have hfin:=QK (p:=p) (l:=l) (t:=t) (k:=k) (m:=m) (j+1)
  unfold UG at hfin
  rw[← hXm] at hfin
  exact hfin
 ·have hst:Xp p l t k m k=⟨tO p l t k m k,sgZ l t k m (cfD p k k),[],0⟩:=if_pos rfl
  rw[hst]
  simp[wk,tO]
  exact h
end
section
variable {p l t:Nat→Nat} {k m:Nat}
theorem aaU (hk:k≤152) (hm:m≤8) (hp:∀ j,j<k→p j<256) (hl:∀ j,j<k→l j≤8000000) (ht:∀ i,i<m→t i≤1000000) :
  zc Try.prog rG [nN p l k,nT t m] (.agg [plc 3 (fR (mG k (ZR l) (ZR t)) (k+m)),plc 4 (rwZ (cfD p k k) (k+m) m)]):=by
 have g0:zc Try.prog zI [iv 0] (fq 0):=xy (n:=0) (by decide) (by decide)
 have g1:zc Try.prog zI [iv 1] (fq 1):=xy (n:=1) (by decide) (by decide)
 have km1:zc Try.prog zI [iv (-1)] (fq (-1)):=xy (n:=-1) (by decide) (by decide)
 refine zG ai (by simp) ?_
 simp[mP]
 refine za g0 (by simp) (by simp) ?_
 simp
 refine za g1 (by simp) (by simp) ?_
 simp
 refine zB (eD p l t k m) (fun _=>True) k (by simp[eD,lr]) trivial (fun j hj _=>?_) (fun _=>?_)
 ·have e:(j:Int)<k:=by omega
  have w:=zC (k:=j) (by omega)
  have k2:=pD (hl j hj)
  have hs1:fR (ZR l) j++[fr ((l j:Int):Rat)]=fR (ZR l) (j+1):=nj.symm
  have h1:apc 30 3 (fR (ZR l) (j+1))=.list 3 (.own 30) (fR (ZR l) (j+1)):=sf (by simp)
  by_cases j0:j=0
  ·have h0:apc 30 3 (fR (ZR l) j)=zK:=lr (by simp[j0])
   have hs0:[fr ((l j:Int):Rat)]=fR (ZR l) (j+1):=by rw[← hs1,j0]; rfl
   simp[vo,eD,h0,e,hj]
   refine za k2 (by simp) (by simp) ?_
   simp[w,h1,hs0,eD]
   omega
  ·have h0:apc 30 3 (fR (ZR l) j)=.list 3 (.own 30) (fR (ZR l) j):=sf (by simpa using j0)
   simp[vo,eD,h0,e,hj]
   refine za k2 (by simp) (by simp) ?_
   simp[w,h1,hs1,eD]
   omega
 ·simp[vo,eD,pj]
  have hg0:apc 30 3 (fR (ZR l) k)=glA l t k 0:=by
   have e0:fR (ZR l) k=fR (mG k (ZR l) (ZR t)) (k+0):=yI fun j hj=>by unfold mG; rw[if_pos hj]
   by_cases k0:k=0
   ·rw[lr (by simp[k0])]
    unfold glA
    rw[lr (by simp[k0])]
   ·unfold glA tkG
    rw[if_neg k0,e0]
  rw[hg0]
  refine sj (bZ p l t k m) (fun _=>True) m (by simp[bZ,sgD,rwA,rwE,tlD,lK]; exact St.imp.refl) trivial (fun i hi _=>?_) (fun _=>?_)
  ·have e:(i:Int)<m:=by omega
   have w:=zC (k:=i) (by omega)
   have hti:=ht i hi
   have wn:IntKind.i64.wrap (0-(t i:Int))=-(t i:Int):=by rw[wrap64]<;>omega
   have hun:zr Try.prog (Op.unary UnOp.neg (Value.int .i64 (t i:Int)))=some (.int .i64 (-(t i:Int))):=by rw[← wn]; rfl
   have k2:zc Try.prog zI [iv (-(t i:Int))] (fq ((-(t i:Int):Int):Rat)):=xy (by omega) (by omega)
   have wkm:IntKind.i64.wrap ((k:Int)+m)=((k+m:Nat):Int):=by rw[wrap64]<;>omega
   have wki:IntKind.i64.wrap ((k:Int)+i)=((k+i:Nat):Int):=by rw[wrap64]<;>omega
   obtain ⟨n,hn⟩:∃ n,k+m=n:=⟨_,rfl⟩
   obtain ⟨q,hq⟩:∃ q,k+i=q:=⟨_,rfl⟩
   have hng:-((t i:Int):Rat)=mG k (ZR l) (ZR t) q:=by
    unfold mG
    rw[if_neg (by omega),show q-k=i by omega]
    rfl
   obtain ⟨gx,hgx⟩:∃ gx,dg (tkG k) (glA l t k i)=gx:=⟨_,rfl⟩
   have ht81:¬ tkG k=80:=by rcases gJ (k:=k) with h | h<;>omega
   have ht80:¬ 80=tkG k:=by rcases gJ (k:=k) with h | h<;>omega
   have hrw:dg (tkG k) (rwA i)=rwA i:=by unfold rwA; split<;>simp[ht80]
   unfold glA at hgx
   rw[hq] at hgx
   have hlk:∀ z:Nat × zb,lk ((4,z.2)::(5,.var [apc (tkG k) 3 (fR (mG k (ZR l) (ZR t)) q),rwA i])::(6,.var (fr 0))::(7,.var (fr 1))::tlD p k m i) (tkG k)=none:=fun z=>by
    rcases gJ (k:=k) with h | h<;>rw[h]<;>simp[YR]
   simp[uY,bZ,sgD,e,hi,hun]
   refine za k2 (by simp) (by simp) ?_
   simp[glA,hq]
   refine Jj rfl (by omega) (by omega) (hlk (4,.var [zK,zK])) hng ?_
   have h1q:apc (tkG k) 3 (fR (mG k (ZR l) (ZR t)) (q+1))=.list 3 (.own (tkG k)) (fR (mG k (ZR l) (ZR t)) (q+1)):=sf (by simp)
   simp only[St.dg,List.map_cons,List.map_nil,CV,ww,hgx,hrw,h1q]
   simp[wkm,hn,splice,YR,acB,YS,Qf,eMk,Zn]
   refine ⟨by omega,by omega,?_⟩
   rw[nn (f:=fun _=>0)]
   refine zB (Sy p l t k m n i) (fun _=>True) n (by simp[Sy,hq]) trivial (fun j hj _=>?_) (fun _=>?_)
   ·have e2:(j:Int)<n:=by omega
    have w2:=zC (k:=j) (by omega)
    have hset:=kD (f:=fun _=>0) hj
    simp[uX,Sy,e2,hj,YS,Qf,hset,w2]
   ·simp[uX,Sy,YS,nk,pe]
    refine za km1 (by simp) (by simp) ?_
    have hqn:q<n:=by omega
    have hqn':(q:Int)<n:=by omega
    have hcf:(fR (fun _=>0) n).set q (fr (-1))=fR (cfD p k 0 i) n:=by
     rw[tu]
     refine yI fun j hj=>?_
     unfold upd cfD
     rw[if_neg (Nat.not_lt_zero j),hq]
    simp[wki,hq,hqn,hqn',YS,Qf,hcf]
    by_cases i0:i=0
    ·have hr0:rwA i=zK:=if_pos i0
     have ht0:tlD p k m i=[]:=by unfold tlD rwE; rw[if_pos i0,lK (by omega)]; rfl
     simp[hr0,ht0,dU,cw,TT,ht81,Qz]
     simp[uW,w]
     have hd:=S8 (p:=p) (l:=l) (t:=t) hn hi
     rw[hq] at hd
     refine St.imp.trans (St.impW.imp (Uc ?_ ?_ ?_)) hd
     ·rfl
     ·subst i0
      funext x
      rw[lK (Nat.le_refl 0)]
      show lk [_,_,_,_,_,_] x=lk [_,_,_,_,_,_] x
      by_cases h:54=x
      ·subst h; rfl
      ·simp[lk,h]
       rfl
     ·rfl
    ·have hr0:rwA i=.us 80 4 0 i:=if_neg i0
     simp[hr0,dU,cw]
     rw[X1 (rows1:=rwU (k+m) i) (by simp[BL i0])]
     simp only[St.dg,List.map_cons,List.map_nil,List.map_append,CV,ww,Bo,ahM,Gv,Qz]
     simp[Al i0,ht81,Mt,NM,F8,Lf]
     refine ⟨by omega,by omega,?_⟩
     simp[uW,w]
     have:=S8 (p:=p) (l:=l) (t:=t) hn hi
     rw[hq] at this
     rw[hn]
     exact this
  ·simp[uY,bZ,sgD,pi]
   have hd:del [6] (tlD p k m m)=tE k m (cfD p k 0):=by
    unfold tlD tE rwE
    rw[gw,fo fun r _ _=>by simp; omega]
    split<;>rfl
   have hr6:zT 6 (rwA m)=false:=by unfold rwA; split<;>simp
   rw[hd]
   refine ⟨⟨hr6,QX (by omega)⟩,?_⟩
   have rl:∀ {K:Exit→St→Prop},K (.exit 6) ⟨tO p l t k m k++[(86,bv false)],sgZ l t k m (cfD p k k),[],0⟩ →
     awp Try.prog (.loop wk) ⟨[(1,nT t m),(4,.ptr 4 0),(5,.ptr 5 0),(7,.ptr 7 0),(83,nN p l k),(84,iv k),(85,iv 0)],(4,.var [zK,zK])::(5,.var [glA l t k m,rwA m])::(7,.var (fr 1))::tE k m (cfD p k 0),[],0⟩ K:=fun {K} h=>Bx hk hm hp h
   refine rl ?_
   have hZ:rf (plc 4 (rwZ (cfD p k k) (k+m) m))=true:=by simp
   simp[tO,sgZ,pg,mT]
end
noncomputable abbrev ga (S:RF) (Y:Nat→RF) (a:Nat) (X:Nat→RF) (b:Nat):AV:=.agg [h0 S,h1 S,h2 S,hL Y a,hL X b]
noncomputable abbrev Z3 (s:Rat) (y:Nat→Rat) (m:Nat) (x:Nat→Rat) (k:Nat):AV:=.agg [f0 s,f1 s,f2 s,fL y m,fL x k]
def qs (X:Nat→RF) (i:Nat):Rat:=0
noncomputable def qq (X:Nat→RF) (i:Nat):Rat:=(X i).q
def Y9 (p l t:Nat→Nat) (k m:Nat) (S:RF) (Y:Nat→RF) (a:Nat) (X:Nat→RF) (b:Nat):Prop :=
 nG Y a m∧nG X b k∧S.v=true∧se k m (MB p) (ZR l) (ZR t) (qq Y)∧zg m (qq Y)=S.q∧x8 k m (MB p) (ZR l) (ZR t) (qq X)=S.q
noncomputable def nB (p l t:Nat→Nat) (k m:Nat) (S:RF) (Y:Nat→RF) (a:Nat) (X:Nat→RF) (b:Nat):Int:=@ite _ (Y9 p l t k m S Y a X b) (Classical.propDecidable _) 0 13
section
variable {p l t:Nat→Nat} {k m L a b:Nat} {S:RF} {X Y:Nat→RF} {x y:Nat→Rat} {s:Rat}
theorem bG (h:Y9 p l t k m S Y a X b):nB p l t k m S Y a X b=0:=@if_pos _ (Classical.propDecidable _) h _ _ _
theorem vi (h:¬ Y9 p l t k m S Y a X b):nB p l t k m S Y a X b=13:=@if_neg _ (Classical.propDecidable _) h _ _ _
theorem bJ (h:nG Y a m):hL Y a=fL (qq Y) m:=by
 obtain ⟨rfl,h⟩:=h
 unfold hL
 rw[jx fun i hi=>RF.of_q (h i hi).1]
 rfl
theorem acX (h1:nG Y a m) (h2:nG X b k) (h3:S.v=true):ga S Y a X b=Z3 S.q (qq Y) m (qq X) k:=by
 unfold ga Z3
 rw[bJ h1,bJ h2,← Sk,← Sl,← Sm,← RF.of_q h3]
@[simp] theorem acn {u v:AV}:zP [f0 s,f1 s,f2 s,u,v] 0 (some 3)=some (fq s):=by simp[zP]
@[simp] theorem ab3 {u v:AV}:zP [h0 S,h1 S,h2 S,u,v] 0 (some 3)=some (hq S):=by simp[zP]
noncomputable def sgC (s:Rat) (y:Nat→Rat) (m:Nat) (x:Nat→Rat) (k:Nat) (v:Rat):List (Nat × zb):=[(5,.var [f0 s,f1 s,f2 s,fL y m,fL x k]),(8,.var (fr v))]
noncomputable def QB (p l t:Nat→Nat) (k m:Nat) (s:Rat) (y x:Nat→Rat) (i:Nat):St :=
 {env:=[(0,nN p l k),(1,nT t m),(5,.ptr 5 0),(8,.ptr 8 0),(42,fL y m),(43,iv m),(44,iv i)],sto:=sgC s y m x k (zg i y)}
noncomputable def QC (p l t:Nat→Nat) (k m:Nat) (s:Rat) (y x:Nat→Rat) (j:Nat):St :=
 {env:=[(0,nN p l k),(1,nT t m),(5,.ptr 5 0),(8,.ptr 8 0),(61,nN p l k),(62,iv k),(63,iv j)],sto:=sgC s y m x k (zg m y)}
noncomputable def XC (p l:Nat→Nat) (k m:Nat) (s:Rat) (y x:Nat→Rat) (j i:Nat):List (Nat × zb) :=
 sgC s y m x k (zg m y)++[(12,.var [iv (p j),iv (l j)]),(13,.var (fr (xZ p y j i)))]
theorem Ax {j i:Nat}:rest (XC p l k m s y x j i):=by
 intro q hq
 simp only[XC,sgC,List.cons_append,List.nil_append,List.mem_cons,List.not_mem_nil,or_false] at hq
 rcases hq with rfl | rfl | rfl | rfl<;>exact ⟨.inl (show (_:Nat)<1000 by simp),by simp[sL,vO,d7]⟩
theorem B6:yM Try.prog wc=true:=by kernel_rfl
theorem ab8 (hLb:L≤10000000) (hy:∀ i,i<m→sz L (y i)) {j i:Nat} (hi:i<m) (hm:m≤8) (hb:sm (p j) i=true) {e:zb} (t:St) (K':AV→St→Prop) (ht:t.sto=XC p l k m s y x j i++[(5003,e)])
  (h:K' (.tuple []) ⟨t.env,XC p l k m s y x j (i+1)++[(5003,e)],t.out,t.base⟩):afN Try.prog wc [iv i,.ptr 13 0,.ptr 5 0] t K':=by
 obtain ⟨env,σ,out,base⟩:=t
 simp only at ht h
 subst ht
 have e1:(i:Int)<m:=by omega
 have hLM:m*(L+1)≤8*(L+1):=Nat.mul_le_mul_right _ hm
 have ka:=ba (K:=8*(L+1)) (by omega) (zM (bI (p:=p) hy (j:=j) (i:=i) (by omega)) hLM) (zM (hy i hi) (by omega))
 have ev:xZ p y j i+y i=xZ p y j (i+1):=by unfold xZ; simp only[zg,MB,hb,if_true]
 refine xL 6000 eK (by simp) ?_
 simp[q8,XC,sgC,e1,hi]
 refine za ka (by simp) (by simp) ?_
 simp[pM,ev]
 exact h

theorem My (hk:k≤152) (hm:m≤8) (hp:∀ j,j<k→p j<256) (hl:∀ j,j<k→l j≤8000000) (ht:∀ i,i<m→t i≤1000000) (hLb:23≤L∧L≤10000000) (hx:∀ j,j<k→sz L (x j)) (hy:∀ i,i<m→sz L (y i)) (hs:sz 137438953472 s)
  (hy0:∀ i,i<m→0≤y i) {r:Int} (r0:se k m (MB p) (ZR l) (ZR t) y∧zg m y=s∧x8 k m (MB p) (ZR l) (ZR t) x=s→r=0)
  (r1:¬ (se k m (MB p) (ZR l) (ZR t) y∧zg m y=s∧x8 k m (MB p) (ZR l) (ZR t) x=s)→r=13) :
  awp Try.prog (sec (sec (sec yZ))) ⟨[(0,nN p l k),(1,nT t m),(5,.ptr 5 0),(39,bv false)],[(5,.var [f0 s,f1 s,f2 s,fL y m,fL x k])],[],0⟩ (ZL yu (iv r)):=by
 have g0:zc Try.prog zI [iv 0] (fq 0):=xy (n:=0) (by decide) (by decide)
 have hLM:m*(L+1)≤8*(L+1):=Nat.mul_le_mul_right _ hm
 have sy:∀ i,i≤m→sz (8*(L+1)) (zg i y):=fun i hi=>zM (qX (N:=m) (fun a ha=>hy a (by omega)) hi) hLM
 simp[sec,yZ]
 refine za g0 (by simp) (by simp) ?_
 simp
 refine zB (QB p l t k m s y x) (fun i=>∀ a,a<i→y a≤ZR t a) m (by simp[QB,sgC,zg]) (fun a ha=>by omega) (fun i hi hI=>?_) (fun hI0=>?_)
 ·have e:(i:Int)<m:=by omega
  have w:=zC (k:=i) (by omega)
  have k1:=ba (K:=8*(L+1)) (by omega) (sy i (by omega)) (zM (hy i hi) (by omega))
  have k2:=pD (n:=t i) (by have:=ht i hi; omega)
  have k3:=fk (by omega:L≤137438953472) (hy i hi) (wX (n:=t i) (by have:=ht i hi; omega) hLb.1)
  have ev:zg i y+y i=zg (i+1) y:=rfl
  simp[uy,QB,sgC,e,hi]
  refine za k1 (by simp) (by simp) ?_
  simp[hi,e]
  refine za k2 (by simp) (by simp) ?_
  simp
  refine za k3 (by simp) (by simp) ?_
  by_cases h1:0<wa (y i) ((t i:Int):Rat)
  ·rw[r1 fun h=>by have:=(h.1.1 i hi).2; have:=nf.1 h1; unfold ZR at *; grind]
   simp[h1,yu]
  ·simp[h1,w,ev,QB,sgC]
   exact fun a ha=>by
    by_cases e:a=i
    ·subst e
     have g2:¬ ((t a:Int):Rat)<y a:=fun h=>h1 (nf.2 h)
     unfold ZR
     grind
    ·exact hI a (by omega)
 ·simp[uy,QB,sgC,qF]
  refine zB (QC p l t k m s y x) (fun j=>∀ a,a<j→ZR l a≤xZ p y a m) k (by simp[QC,sgC]) (fun a ha=>by omega) (fun j hj hI=>?_) (fun hI=>?_)
  ·have e:(j:Int)<k:=by omega
   have w:=zC (k:=j) (by omega)
   have k2:=pD (hl j hj)
   have k3:=fk (K:=8*(L+1)) (by omega) (zM (bI (p:=p) hy (j:=j) (Nat.le_refl m)) hLM) (wX (hl j hj) (by omega))
   have z0:(0:Rat)=xZ p y j 0:=rfl
   simp[uz,QC,sgC,e,hj]
   refine za g0 (by simp) (by simp) ?_
   simp[ce]
   rw[z0]
   refine afM (Un (p:=p j) (l:=l j) (m:=m) (F:=wc) (caps:=[.ptr 13 0,.ptr 5 0]) (X:=XC p l k m s y x j) (hp j hj) hm ?_ (fun _=>Ax) ?_ ?_ B6 ?_ ?_ ?_ ?_)
   ·simp[XC,sgC]
   ·simp[yo,yy,vO,y7,lB,yJ,ZA,Ui,Uh]
   ·simp[yh]
   ·simp[lB,yJ]
   ·exact fun i hi hb t K' h1 _ _ h4=>ab8 hLb.2 hy hi hm hb t K' h1 h4
   ·intro i hi hb
    have ev:xZ p y j (i+1)=xZ p y j i:=by unfold xZ; simp only[zg,MB,hb]; grind
    simp only[XC,ev]
   simp[XC,sgC]
   refine za k2 (by simp) (by simp) ?_
   simp
   refine za k3 (by simp) (by simp) ?_
   by_cases h2:wa (xZ p y j m) ((l j:Int):Rat)<0
   ·rw[r1 fun h=>by have:=h.1.2 j hj; have:=qJ.1 h2; unfold ZR xZ at *; grind]
    simp[h2,yu]
   ·simp[h2,w,QC,sgC]
    exact fun a ha=>by
     by_cases e:a=j
     ·subst e
      have g2:¬ xZ p y a m<((l a:Int):Rat):=fun h=>h2 (qJ.2 h)
      unfold ZR
      grind
     ·exact hI a (by omega)
  ·have hP:se k m (MB p) (ZR l) (ZR t) y:=⟨fun i hi=>⟨hy0 i hi,hI0 i hi⟩,hI⟩
   have k1:=fk (K:=137438953472) (by omega) (zM (sy m (Nat.le_refl m)) (by omega)) hs
   simp[uz,QC,sgC,qE]
   refine za k1 (by simp) (by simp) ?_
   by_cases h1:wa (zg m y) s=0
   ·have k2:=Ba hk hm hp hl ht hLb hx
    have k3:=fk (K:=137438953472) (by omega) (zM (Sf (p:=p) hk hm hx hl ht (Nat.le_refl m)) (by omega)) hs
    rw[bh] at k3
    simp[h1]
    refine za k2 (by simp) (by simp) ?_
    simp
    refine za k3 (by simp) (by simp) ?_
    by_cases h2:wa (x8 k m (MB p) (ZR l) (ZR t) x) s=0
    ·rw[r0 ⟨hP,aho.1 h1,aho.1 h2⟩]
     simp[h2,yu]
    ·rw[r1 fun h=>h2 (aho.2 h.2.2)]
     simp[h2,yu]
   ·rw[r1 fun h=>h1 (aho.2 h.2.1)]
    simp[h1,yu]
end
section
variable {p l t:Nat→Nat} {k m L a b:Nat} {S:RF} {X Y:Nat→RF} {x y:Nat→Rat} {s:Rat}
structure Sb (L:Nat) (S:RF) (Y:Nat→RF) (a:Nat) (X:Nat→RF) (b:Nat):Prop where
 la:a<1000000
 lb:b<1000000
 fS:S.fine
 fY:∀ i,i<a→(Y i).fine
 fX:∀ i,i<b→(X i).fine
 zS:S.v=true→sz 137438953472 S.q
 zY:∀ i,i<a→(Y i).v=true→sz L (Y i).q
 zX:∀ i,i<b→(X i).v=true→sz L (X i).q
theorem Zf (hk:k≤152) (hm:m≤8) (hp:∀ j,j<k→p j<2^m) (hl:∀ j,j<k→l j≤8000000) (ht:∀ i,i<m→t i≤1000000):sh (fun j=>p j) (fun j=>l j) k (fun i=>t i) m=0 :=
 XR (by omega) ⟨fun i hi=>by dsimp only; have:=ht i hi; omega,fun j hj=>by
  dsimp only
  have h1:=hp j hj
  have h2:=hl j hj
  have h3:((p j:Nat):Int)<((2^m:Nat):Int):=by omega
  rw[Int.natCast_pow] at h3
  exact ⟨⟨by omega,h3⟩,by omega,by omega⟩⟩
theorem bK (hm:m≤8) {q:Nat} (h:q<2^m):q<256:=Nat.lt_of_lt_of_le h (Nat.pow_le_pow_right (by omega) hm)
theorem XX (hk:k≤152) (hm:m≤8) (hp:∀ j,j<k→p j<2^m) (hl:∀ j,j<k→l j≤8000000) (ht:∀ i,i<m→t i≤1000000) (hLb:23≤L∧L≤10000000) (hf:Sb L S Y a X b) :
  zc Try.prog yC [nN p l k,nT t m,ga S Y a X b] (iv (nB p l t k m S Y a X b)):=by
 have hp2:∀ j,j<k→p j<256:=fun j hj=>bK hm (hp j hj)
 have ka:=bg (p:=fun j=>p j) (l:=fun j=>l j) (t:=fun i=>t i) (k:=k) (m:=m) (by omega) (by omega)
 rw[Zf hk hm hp hl ht] at ka
 have kn1:=R1 (n:=m) hf.la hf.fY
 have kn2:=R1 (n:=k) hf.lb hf.fX
 have kv:=bt hf.fS
 by_cases h1:nG Y a m
 rotate_left
 ·rw[pK h1] at kn1
  rw[vi fun h=>h1 h.1]
  refine zG v7 (by simp) ?_
  simp[yZ]
  refine za ka (by simp) (by simp) ?_
  simp
  refine za kn1 (by simp) (by simp) ?_
  simp[yu]
 rw[cf h1] at kn1
 by_cases h2:nG X b k
 rotate_left
 ·rw[pK h2] at kn2
  rw[vi fun h=>h2 h.2.1]
  refine zG v7 (by simp) ?_
  simp[yZ]
  refine za ka (by simp) (by simp) ?_
  simp
  refine za kn1 (by simp) (by simp) ?_
  simp
  refine za kn2 (by simp) (by simp) ?_
  simp[yu]
 rw[cf h2] at kn2
 cases h3:S.v with
 | false =>
  rw[h3] at kv
  rw[vi fun h=>by have:=h.2.2.1; rw[h3] at this; cases this]
  refine zG v7 (by simp) ?_
  simp[yZ]
  refine za ka (by simp) (by simp) ?_
  simp
  refine za kn1 (by simp) (by simp) ?_
  simp
  refine za kn2 (by simp) (by simp) ?_
  simp
  refine za kv (by simp) (by simp) ?_
  simp[yu]
 | true =>
  rw[h3] at kv
  rw[acX h1 h2 h3]
  rw[bJ h1] at kn1
  rw[bJ h2] at kn2
  rw[CF h3] at kv
  have rest:=My (p:=p) (l:=l) (t:=t) (x:=qq X) (y:=qq Y) (s:=S.q) hk hm hp2 hl ht hLb (fun j hj=>hf.zX j (by rw[h2.1]; exact hj) (h2.2 j hj).1) (fun i hi=>hf.zY i (by rw[h1.1]; exact hi) (h1.2 i hi).1) (hf.zS h3) (fun i hi=>(h1.2 i hi).2)
   (r:=nB p l t k m S Y a X b) (fun h=>bG ⟨h1,h2,h3,h.1,h.2.1,h.2.2⟩) (fun h=>vi fun h'=>h ⟨h'.2.2.2.1,h'.2.2.2.2.1,h'.2.2.2.2.2⟩)
  simp[sec,yZ] at rest
  refine zG v7 (by simp) ?_
  simp[yZ]
  refine za ka (by simp) (by simp) ?_
  simp
  refine za kn1 (by simp) (by simp) ?_
  simp
  refine za kn2 (by simp) (by simp) ?_
  simp
  refine za kv (by simp) (by simp) ?_
  simp
  exact rest
theorem RF.of_inj {p q:Rat} (h:RF.of p=RF.of q):p=q:=TF.1 ⟨congrArg RF.s h,congrArg RF.a h,congrArg RF.c h⟩
theorem RF.q_of {q:Rat}:(RF.of q).q=q:=(RF.of_inj (RF.of_q (ahx q))).symm
theorem Gw {q:Rat} (hz:sz 137438953472 q) (_hf:S.fine):zc Try.prog qe [fq q,hq S] (bv (@decide (S.v=true∧S.q=q) (Classical.propDecidable _))):=by
 obtain ⟨l1,l2⟩:=wW hz
 have h:=Qr (s:=decide (q.num<0)) (t:=S.s) (a:=zf q.num.natAbs) (c:=zf q.den) (a':=S.a) (c':=S.c) (by omega) (by omega)
 have e:@decide (S.v=true∧S.q=q) (Classical.propDecidable _)=decide (decide (q.num<0)=S.s∧zf q.num.natAbs=S.a∧zf q.den=S.c):=by
  rw[decide_eq_decide]
  constructor
  ·rintro ⟨h1,rfl⟩
   have:=RF.of_q h1
   have e1:=congrArg RF.s this
   have e2:=congrArg RF.a this
   have e3:=congrArg RF.c this
   exact ⟨e1.symm,e2.symm,e3.symm⟩
  ·rintro ⟨e1,e2,e3⟩
   have:S=RF.of q:=by cases S; simp only at e1 e2 e3; subst e1 e2 e3; rfl
   rw[this]
   exact ⟨ahx q,RF.q_of⟩
 rw[e]
 unfold fq hq
 rw[tf,m6]
 exact h
theorem Kx {p l t:Nat→Int} (hk:k<1000000) (hb:b<1000000) (hX:∀ i,i<b→(X i).fine) (h:¬ (b=k∧∀ i,i<b→(X i).v=true)):zc Try.prog vf [nL p l k,iL t m,hL X b] (.tuple [.agg zz,bv false]):=by
 have kw:=af hb hX
 refine zG dh (by simp) ?_
 by_cases h1:b=k
 rotate_left
 ·have h1':¬ (b:Int)=k:=by omega
  simp[rZ,h1',tz]
 subst h1
 have hA:qg X b=false:=by
  cases h2:qg X b with
  | false=>rfl
  | true=>exact absurd ⟨rfl,vg.1 h2⟩ h
 rw[hA] at kw
 simp[rZ]
 refine za kw (by simp) (by simp) ?_
 simp[tz]
theorem Jp {p l t:Nat→Int} (hm:m<1000000) (ha:a<1000000) (hY:∀ i,i<a→(Y i).fine) (h:¬ (a=m∧∀ i,i<a→(Y i).v=true)):zc Try.prog vV [nL p l k,iL t m,hL Y a] (bv false):=by
 have kw:=af ha hY
 refine zG di (by simp) ?_
 by_cases h1:a=m
 rotate_left
 ·have h1':¬ (a:Int)=m:=by omega
  simp[r5,h1',vj]
 subst h1
 have hA:qg Y a=false:=by
  cases h2:qg Y a with
  | false=>rfl
  | true=>exact absurd ⟨rfl,vg.1 h2⟩ h
 rw[hA] at kw
 simp[r5]
 refine za kw (by simp) (by simp) ?_
 simp[vj]
theorem XQ (h:a=m∧∀ i,i<a→(Y i).v=true):hL Y a=fL (qq Y) m:=by
 obtain ⟨rfl,h⟩:=h
 unfold hL
 rw[jx fun i hi=>RF.of_q (h i hi)]
 rfl
theorem Bb (hk:k≤152) (hm:m≤8) (hp:∀ j,j<k→p j<2^m) (hl:∀ j,j<k→l j≤8000000) (ht:∀ i,i<m→t i≤1000000) (hLb:23≤L∧L≤10000000) (hf:Sb L S Y a X b) :
  zc Try.prog wx [nN p l k,nT t m,ga S Y a X b] (iv (nB p l t k m S Y a X b)):=by
 have hp2:∀ j,j<k→p j<256:=fun j hj=>bK hm (hp j hj)
 have ka:=X8 (p:=fun j=>p j) (l:=fun j=>l j) (t:=fun i=>t i) (k:=k) (m:=m) (by omega) (by omega)
 rw[Zf hk hm hp hl ht] at ka
 -- the prices are wrong
 have bad1:zc Try.prog vf [nN p l k,nT t m,hL X b] (.tuple [.agg zz,bv false])→nB p l t k m S Y a X b=13→zc Try.prog wx [nN p l k,nT t m,ga S Y a X b] (iv (nB p l t k m S Y a X b)):=fun kb hc=>by
  rw[hc]
  refine zG qc (by simp) ?_
  simp[tt]
  refine za ka (by simp) (by simp) ?_
  simp
  refine za kb (by simp) (by simp) ?_
  simp[tA]
 by_cases h1:b=k∧∀ i,i<b→(X i).v=true
 rotate_left
 ·exact bad1 (Kx (by omega) hf.lb hf.fX h1) (vi fun h=>h1 ⟨h.2.1.1,fun i hi=>(h.2.1.2 i (by rw[← h.2.1.1]; exact hi)).1⟩)
 have zx:∀ j,j<k→sz L (qq X j):=fun j hj=>hf.zX j (by rw[h1.1]; exact hj) (h1.2 j (by rw[h1.1]; exact hj))
 have kb:=C9 (x:=qq X) hk hm hp2 hl ht hLb zx
 rw[← XQ h1] at kb
 by_cases h2:∀ j,j<k→0≤qq X j
 rotate_left
 ·exact bad1 (kb.2 h2) (vi fun h=>h2 fun j hj=>(h.2.1.2 j hj).2)
 have kb:=kb.1 h2
 have hX:nG X b k:=⟨h1.1,fun i hi=>⟨h1.2 i (by rw[h1.1]; exact hi),h2 i hi⟩⟩
 -- the payments are wrong
 have bad2:zc Try.prog vV [nN p l k,nT t m,hL Y a] (bv false)→nB p l t k m S Y a X b=13→zc Try.prog wx [nN p l k,nT t m,ga S Y a X b] (iv (nB p l t k m S Y a X b)):=fun kh hc=>by
  rw[hc]
  refine zG qc (by simp) ?_
  simp[tt]
  refine za ka (by simp) (by simp) ?_
  simp
  refine za kb (by simp) (by simp) ?_
  simp
  refine za kh (by simp) (by simp) ?_
  simp[tA]
 by_cases h3:a=m∧∀ i,i<a→(Y i).v=true
 rotate_left
 ·exact bad2 (Jp (by omega) hf.la hf.fY h3) (vi fun h=>h3 ⟨h.1.1,fun i hi=>(h.1.2 i (by rw[← h.1.1]; exact hi)).1⟩)
 have zy:∀ i,i<m→sz L (qq Y i):=fun i hi=>hf.zY i (by rw[h3.1]; exact hi) (h3.2 i (by rw[h3.1]; exact hi))
 have kh:=NG (p:=p) (l:=l) (t:=t) (y:=qq Y) hk hm hp2 hl ht ⟨hLb.1,by omega⟩ zy
 rw[← XQ h3] at kh
 by_cases h4:se k m (MB p) (ZR l) (ZR t) (qq Y)
 rotate_left
 ·rw[sI h4] at kh
  exact bad2 kh (vi fun h=>h4 h.2.2.2.1)
 rw[jZ h4] at kh
 have hY:nG Y a m:=⟨h3.1,fun i hi=>⟨h3.2 i (by rw[h3.1]; exact hi),(h4.1 i hi).1⟩⟩
 have hLM:m*(L+1)≤8*(L+1):=Nat.mul_le_mul_right _ hm
 have ks:=acW (f:=qq Y) (n:=m) (L:=L) (by omega) (by omega) zy
 rw[← XQ h3] at ks
 have e1:=Gw (S:=S) (q:=zg m (qq Y)) (zM (G6 zy) (by omega)) hf.fS
 have e2:=Gw (S:=S) (q:=x8 k m (MB p) (ZR l) (ZR t) (qq X)) (zM (by rw[← bh]; exact Sf (p:=p) hk hm zx hl ht (Nat.le_refl m)) (by omega)) hf.fS
 by_cases h5:S.v=true∧S.q=zg m (qq Y)
 rotate_left
 ·rw[@decide_eq_false _ (Classical.propDecidable _) h5] at e1
  rw[vi fun h=>h5 ⟨h.2.2.1,h.2.2.2.2.1.symm⟩]
  refine zG qc (by simp) ?_
  simp[tt]
  refine za ka (by simp) (by simp) ?_
  simp
  refine za kb (by simp) (by simp) ?_
  simp
  refine za kh (by simp) (by simp) ?_
  simp
  refine za ks (by simp) (by simp) ?_
  simp
  refine za e1 (by simp) (by simp) ?_
  simp[tA]
 rw[@decide_eq_true _ (Classical.propDecidable _) h5] at e1
 have key:∀ r,nB p l t k m S Y a X b=r→(@decide (S.v=true∧S.q=x8 k m (MB p) (ZR l) (ZR t) (qq X)) (Classical.propDecidable _)=decide (r=0))→(r=0∨r=13)→zc Try.prog wx [nN p l k,nT t m,ga S Y a X b] (iv r):=fun r hr hd h01=>by
  rw[hd] at e2
  refine zG qc (by simp) ?_
  simp[tt]
  refine za ka (by simp) (by simp) ?_
  simp
  refine za kb (by simp) (by simp) ?_
  simp
  refine za kh (by simp) (by simp) ?_
  simp
  refine za ks (by simp) (by simp) ?_
  simp
  refine za e1 (by simp) (by simp) ?_
  simp
  refine za e2 (by simp) (by simp) ?_
  rcases h01 with rfl | rfl<;>simp[tA]
 by_cases h6:S.v=true∧S.q=x8 k m (MB p) (ZR l) (ZR t) (qq X)
 ·have hok:nB p l t k m S Y a X b=0:=bG ⟨hY,hX,h5.1,h4,h5.2.symm,h6.2.symm⟩
  rw[hok]
  exact key 0 hok (by rw[@decide_eq_true _ (Classical.propDecidable _) h6]; rfl) (.inl rfl)
 ·have hok:nB p l t k m S Y a X b=13:=vi fun h=>h6 ⟨h.2.2.1,h.2.2.2.2.2.symm⟩
  rw[hok]
  exact key 13 hok (by rw[@decide_eq_false _ (Classical.propDecidable _) h6]; rfl) (.inr rfl)
end
end Go.Proofs.Ytbgnkodhpbkdoaa
