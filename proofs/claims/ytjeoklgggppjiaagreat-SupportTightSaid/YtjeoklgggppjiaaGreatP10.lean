/- What the proof rests on, part 10: X9 X10 X11 X12 PB Q0 Q1 Q2 Q3 Q4 Q5 Q6 Q7 PD QD PE QGp QA QB QC PF BA QE RFx YS Y1 BBs QDp QDv SP SQ. -/
import Derived.Test.YtjeoklgggppjiaaGreatP9
set_option maxRecDepth 100000
set_option maxHeartbeats 4000000
namespace Go.Proofs.YtjeoklgggppjiaaGreat
open Go Go.Am Go.Dig Go.LP
theorem agh {n k L:Nat} {g:Nat→Rat} {d:zq} (hg:∀ j,j<n→sz L (g j)) (hb:∀ i,i<k→sz L (d.b i)):sz (k*(2*L+1)) (sgV n g d k):=by
 induction k with
 | zero=>exact vd
 | succ k ih =>
  have h1:=ih fun i hi=>hb i (by omega)
  have e:(k+1)*(2*L+1)=k*(2*L+1)+(L+L)+1:=by rw[Nat.succ_mul]; omega
  rw[e]
  refine cg h1 ?_
  dsimp only
  split
  ·rename_i h; exact yj (hg _ h) (hb k (by omega))
  ·exact vd
theorem agf {n k L j:Nat} {g:Nat→Rat} {d:zq} (hg:∀ j,j<n→sz L (g j)) (ha:∀ i,i<k→sz L (d.a i j)):sz (L+k*(2*L+1)+1) (sgC n g d k j):=by
 refine SJ ?_ ?_
 ·split
  ·rename_i h; exact hg _ h
  ·exact vd
 ·induction k with
  | zero=>exact vd
  | succ k ih =>
   have h1:=ih fun i hi=>ha i (by omega)
   have e:(k+1)*(2*L+1)=k*(2*L+1)+(L+L)+1:=by rw[Nat.succ_mul]; omega
   rw[e]
   refine cg h1 ?_
   dsimp only
   split
   ·rename_i h; exact yj (hg _ h) (ha k (by omega))
   ·exact vd
def wv (d:zq) (v:Rat):zq:={d with v:=v}
noncomputable def UQ (n m:Nat) (g:Nat→Rat) (d:zq) (ρ:List (Nat × ze)) (out:List (List (Nat × AV))) (k:Nat):St :=
 {env:=[(0,.ptr 1015 0),(1,fL g n),(4,.sl 5020 3 0 d.c),(24,.us 2029 1 0 d.c),(25,iv d.c),(26,iv k)],
  sto:=ρ++(tL n m (wv d 0)++[(5020,.arr 3 (fZ (sgC n g d 0) k d.c))]),out:=out,base:=5000}
noncomputable def mS (n m:Nat) (g:Nat→Rat) (d:zq) (ρ:List (Nat × ze)) (out:List (List (Nat × AV))) (k:Nat):St :=
 {env:=[(0,.ptr 1015 0),(1,fL g n),(4,.sl 5020 3 0 d.c),(52,.us 1987 1 0 m),(53,iv m),(54,iv k)],
  sto:=ρ++(tL n m (wv d (sgV n g d k))++[(5020,.arr 3 (fR (sgC n g d k) d.c))]),out:=out,base:=5000}
noncomputable def MZ (n m:Nat) (g:Nat→Rat) (d:zq) (ρ:List (Nat × ze)) (out:List (List (Nat × AV))) (k:Nat):St :=
 if k=m then ⟨[(0,.ptr 1015 0),(1,fL g n),(4,fL (sgC n g d k) d.c),(52,.us 1987 1 0 m),(53,iv m),(54,iv k)],
  ρ++tL n m (wv d (sgV n g d k)),out,5000⟩ else mS n m g d ρ out k
theorem aej {n m:Nat} {g:Nat→Rat} {d:zq} {ρ:List (Nat × ze)} {out:List (List (Nat × AV))} {k:Nat} (h:k<m):MZ n m g d ρ out k=mS n m g d ρ out k:=if_neg (by omega)
theorem abf {n m:Nat} {g:Nat→Rat} {d:zq} {ρ:List (Nat × ze)} {out:List (List (Nat × AV))}:MZ n m g d ρ out m=⟨[(0,.ptr 1015 0),(1,fL g n),(4,fL (sgC n g d m) d.c),(52,.us 1987 1 0 m),(53,iv m),(54,iv m)],
  ρ++tL n m (wv d (sgV n g d m)),out,5000⟩:=if_pos rfl
theorem M0 {n m:Nat} {g:Nat→Rat} {d:zq} {ρ:List (Nat × ze)} {out:List (List (Nat × AV))} (hρ:rest ρ) (hO:ym 2000 out) (k:Nat):St.imp (mS n m g d ρ out k) (MZ n m g d ρ out k):=by
 unfold MZ
 split
 ·refine St.imp_freeze (k:=5020) ?_
  simp[xf,mS,tL,rlk hρ,wG hρ,xb hρ,ono hO,aay hρ,AQ hO,far,wv,vI,nT,t0,jf]
 ·exact St.imp.refl
noncomputable def UR (n m:Nat) (g:Nat→Rat) (d:zq) (ρ:List (Nat × ze)) (out:List (List (Nat × AV))) (k:Nat) (l:Nat):St :=
 {env:=[(0,.ptr 1015 0),(1,fL g n),(4,.sl 5020 3 0 d.c),(8,iv (d.bas k)),(52,.us 1987 1 0 m),(53,iv m),(54,iv k),(99,fL (d.a k) d.c),(100,iv d.c),(101,iv l)],
  sto:=ρ++(tL n m (wv d (sgV n g d (k+1)))++[(5020,.arr 3 (fR (fun j=>if j<l then sgC n g d (k+1) j else sgC n g d k j) d.c))]),out:=out,base:=5000}
theorem MP {n m L:Nat} {g:Nat→Rat} {d:zq} {ρ:List (Nat × ze)} {s:St} {K:AV→St→Prop} (hs:s.sto=ρ++tL n m d) (hρ:rest ρ) (hE:yH 2000 s.env) (hO:ym 2000 s.out) (hm:m<1000000) (_hn:n<1000000) (hc:d.c<1000000) (hr:d.r=m)
  (hL:L+(m+1)*(2*L+1)≤100000000000) (hsz:szD L d) (hg:∀ j,j<n→sz L (g j)) (h:K (.tuple []) ⟨s.env,ρ++tL n m (ku n g d),s.out,s.base⟩) :
  z0 Tryz.prog pO [.ptr 1015 0,fL g n] s K:=by
 obtain ⟨env,σ,out,base⟩:=s
 simp only at hs hE hO h
 subst hs
 have g0:zd Tryz.prog zE [iv 0] (fq 0):=yf (n:=0) (by decide) (by decide)
 have v0:sgV n g d 0=0:=rfl
 refine vb 5000 Ph (by simp) ?_
 simp[aM,tL]
 refine za g0 (by simp) (by simp) ?_
 simp[rlk hρ,rpt hρ,far,eMk]
 refine ⟨by omega,by omega,?_⟩
 rw[gn (f:=sgC n g d 0)]
 refine zr (UQ n m g d ρ (env::out)) (fun _=>True) d.c (by simp[UQ,tL,wv]) trivial (fun k hk _=>?_) (fun _=>?_)
 ·have e:(k:Int)<d.c:=by omega
  have w:=zn (k:=k) (by omega)
  have hset:=dV (f:=sgC n g d 0) hk
  obtain ⟨f,hfe⟩:∃ f,d.fre k=f:=⟨_,rfl⟩
  by_cases h1:f<n
  ·have h1':(f:Int)<n:=by omega
   have ev:sgC n g d 0 k=g f:=by simp only[sgC,zf]; rw[hfe,if_pos h1]; grind
   rw[ev] at hset
   simp[sh,UQ,tL,rlk hρ,far,wv,e,hk,hfe]
   refine za g0 (by simp) (by simp) ?_
   simp[tL,rlk hρ,rpt hρ,far,wv,e,hk,h1,h1',w,splice,hset,UQ]
  ·have h1':¬ (f:Int)<n:=by omega
   have ev:sgC n g d 0 k=0:=by simp only[sgC,zf]; rw[hfe,if_neg h1]; grind
   rw[ev] at hset
   simp[sh,UQ,tL,rlk hρ,far,wv,e,hk,hfe]
   refine za g0 (by simp) (by simp) ?_
   simp[tL,rlk hρ,rpt hρ,far,wv,e,hk,h1',w,splice,hset,UQ]
 ·simp[sh,UQ,gI,tL,rlk hρ,far,wv,gm]
  have hO2:ym 2000 (env::out):=jh.2 ⟨hE,hO⟩
  refine v9 (MZ n m g d ρ (env::out)) (fun _=>True) m (St.imp.trans (St.imp_of (by simp[mS,tL,wv,v0])) (M0 hρ hO2 0)) trivial (fun k hk _=>?_) (fun _=>?_)
  ·rw[aej hk]
   have fin:=M0 (n:=n) (m:=m) (g:=g) (d:=d) hρ hO2 (k+1)
   have e:(k:Int)<m:=by omega
   have w:=zn (k:=k) (by omega)
   have hkm:k*(2*L+1)≤m*(2*L+1):=Nat.mul_le_mul_right _ (by omega)
   have hms:(m+1)*(2*L+1)=m*(2*L+1)+(2*L+1):=Nat.succ_mul _ _
   rw[hms] at hL
   obtain ⟨v,hve⟩:∃ v,d.bas k=v:=⟨_,rfl⟩
   by_cases h1:n≤v
   ·have h1':(n:Int)≤v:=by omega
    have h1n:¬ v<n:=by omega
    have ev:sgV n g d (k+1)=sgV n g d k:=by simp only[sgV,zf]; rw[hve,if_neg (by omega)]; grind
    have ec:sgC n g d (k+1)=sgC n g d k:=by funext j; simp only[sgC,zf]; rw[hve,if_neg h1n]; grind
    simp[ug,sf,mS,tL,rlk hρ,far,wv,e,hk,hve,h1',w]
    refine St.imp.trans (St.imp_of ?_) fin
    simp[mS,tL,wv,ev,ec]
   ·have hvn:v<n:=by omega
    have hvn':(v:Int)<n:=by omega
    have h1':¬ (n:Int)≤v:=by omega
    have s1:=qt (q:=g v)
    by_cases h2:g v=0
    ·have s2:xX (g v)=0:=vZ.2 h2
     have ev:sgV n g d (k+1)=sgV n g d k:=by simp only[sgV,zf]; rw[hve,if_pos hvn,h2]; grind
     have ec:sgC n g d (k+1)=sgC n g d k:=by funext j; simp only[sgC,zf]; rw[hve,if_pos hvn,h2]; grind
     simp[ug,sf,mS,tL,rlk hρ,far,wv,e,hk,hve,h1',hvn,hvn']
     refine za s1 (by simp) (by simp) ?_
     simp[w,s2]
     refine St.imp.trans (St.imp_of ?_) fin
     simp[mS,tL,wv,ev,ec]
    ·have s2:¬ xX (g v)=0:=fun h=>h2 (vZ.1 h)
     have sb:=hsz.b k (by omega)
     have sv:=agh (k:=k) hg (fun i hi=>hsz.b i (by omega))
     have g1:=mG (K:=L) (by omega) (hg v hvn) sb
     have g2:=cF (K:=L+(m+1)*(2*L+1)) (by omega) (zG sv (by omega)) (zG (yj (hg v hvn) sb) (by omega))
     have ev:sgV n g d k+g v*d.b k=sgV n g d (k+1):=by simp only[sgV,zf]; rw[hve,if_pos hvn]
     rw[ev] at g2
     have ec:∀ j,sgC n g d k j-g v*d.a k j=sgC n g d (k+1) j:=fun j=>by simp only[sgC,zf]; rw[hve,if_pos hvn]; grind
     simp[ug,sf,mS,tL,rlk hρ,far,wv,e,hk,hve,h1',hvn,hvn']
     refine za s1 (by simp) (by simp) ?_
     simp[rlk hρ,far,e,hk,hvn,hvn',s2]
     refine za g1 (by simp) (by simp) ?_
     simp
     refine za g2 (by simp) (by simp) ?_
     simp[rlk hρ,rpt hρ,far,e,hk]
     refine zr (UR n m g d ρ (env::out) k) (fun _=>True) d.c (by simp[UR,tL,wv,hve]) trivial (fun l hl _=>?_) (fun _=>?_)
     ·have e2:(l:Int)<d.c:=by omega
      have w2:=zn (k:=l) (by omega)
      have t1:=qt (q:=d.a k l)
      have sa:=hsz.a k l (by omega) hl
      have sc:=agf (k:=k) (j:=l) hg (fun i hi=>hsz.a i l (by omega) hl)
      have mx:∀ x,x=sgC n g d (k+1) l→(fR (fun j=>if j<l then sgC n g d (k+1) j else sgC n g d k j) d.c).set l (fr x)=fR (fun j=>if j<l+1 then sgC n g d (k+1) j else sgC n g d k j) d.c:=fun x hx=>by
       rw[pJ]
       refine xl fun j _=>?_
       unfold upd
       by_cases ej:j=l
       ·subst ej; rw[if_pos rfl,if_pos (by omega),hx]
       ·rw[if_neg ej]
        dsimp only
        by_cases ej2:j<l
        ·rw[if_pos ej2,if_pos (by omega)]
        ·rw[if_neg ej2,if_neg (by omega)]
      have mg:(fR (fun j=>if j<l then sgC n g d (k+1) j else sgC n g d k j) d.c)[l]?=some (fr (sgC n g d k l)):=by rw[fa hl,if_neg (Nat.lt_irrefl l)]
      have ecl:=ec l
      by_cases h3:d.a k l=0
      ·have s3:xX (d.a k l)=0:=vZ.2 h3
       have ms:fR (fun j=>if j<l then sgC n g d (k+1) j else sgC n g d k j) d.c=fR (fun j=>if j<l+1 then sgC n g d (k+1) j else sgC n g d k j) d.c:=by
        refine xl fun j _=>?_
        by_cases ej:j=l
        ·subst ej; rw[if_neg (Nat.lt_irrefl j),if_pos (by omega),← ecl,h3]; grind
        ·by_cases ej2:j<l
         ·rw[if_pos ej2,if_pos (by omega)]
         ·rw[if_neg ej2,if_neg (by omega)]
       simp[sj,UR,tL,rlk hρ,rpt hρ,far,wv,e2,hl,hve]
       refine za t1 (by simp) (by simp) ?_
       simp[tL,rlk hρ,wG hρ,xb hρ,eno hE,ono hO,far,wv,s3,w2,UR,hve,ms]
      ·have s3:¬ xX (d.a k l)=0:=fun h=>h3 (vZ.1 h)
       have t2:=mG (K:=L) (by omega) (hg v hvn) sa
       have t3:=FZ (K:=L+(m+1)*(2*L+1)) (by omega) (zG sc (by omega)) (zG (yj (hg v hvn) sa) (by omega))
       rw[ecl] at t3
       have mx:=mx _ rfl
       simp[sj,UR,tL,rlk hρ,rpt hρ,far,wv,e2,hl,hve]
       refine za t1 (by simp) (by simp) ?_
       simp[rlk hρ,far,e2,hl,s3,hvn,hvn']
       refine za t2 (by simp) (by simp) ?_
       simp
       refine za t3 (by simp) (by simp) ?_
       simp[tL,rlk hρ,rpt hρ,wG hρ,xb hρ,eno hE,ono hO,far,wv,e2,hl,splice,mx,w2,UR,hve]
     ·have hfull:fR (fun j=>if j<d.c then sgC n g d (k+1) j else sgC n g d k j) d.c=fR (sgC n g d (k+1)) d.c:=xl fun j hj=>if_pos hj
      simp[sj,UR,tL,wv,hfull,w]
      refine St.imp.trans (St.imp_of ?_) fin
      simp[mS,tL,wv]
  ·rw[abf]
   simp[ug,gH,aZ,tL,rlk hρ,rpt hρ,far,wv]
   simpa [ku,tL,tC,hr] using h
@[simp] theorem aeW {sz by_ d n j sz' off len:Nat} {rows:List (List AV)} {s:St} {K:St→Prop} (h:lk s.sto j=some (.uarr sz rows)) :
  xk sz by_ s (some d) K [.list n .full [],.us j sz' off len]=(sz'=sz∧off+len≤rows.length∧0<sz∧((rows.drop off).take len).length*by_≤140737488355328∧((rows.drop off).take len).length≤9223372036854775807∧lk s.sto (s.base+d)=none ∧
   K (((s.dg (s.base+d)).put (some d) (.us (s.base+d) sz 0 ((rows.drop off).take len).length)).new (some d) (some (.uarr sz (zR (s.base+d) ((rows.drop off).take len)))))):=by
 simp[xk,xi,h]
@[simp] theorem acK {sz by_ d l j sz1 off1 len1 sz' off len:Nat} {rows1 rows:List (List AV)} {s:St} {K:St→Prop} (h1:lk s.sto l=some (.uarr sz rows1)) (h:lk s.sto j=some (.uarr sz rows)) :
  xk sz by_ s (some d) K [.us l sz1 off1 len1,.us j sz' off len]=(sz'=sz∧off+len≤rows.length∧0<sz∧(len1+((rows.drop off).take len).length)*by_≤140737488355328∧len1+((rows.drop off).take len).length≤9223372036854775807∧sz1=sz∧off1=0∧len1=rows1.length ∧
   K ({(s.dg l) with sto:=pt (s.dg l).sto l (.uarr sz (zR l (rows1++((rows.drop off).take len))))}.put (some d) (.us l sz 0 (len1+((rows.drop off).take len).length)))):=by
 simp[xk,xi,h,h1]
theorem Jp {g:Nat→List AV} {j c:Nat} (hj:j<c):(mR g c).take j++(mR g c).drop (j+1)=mR (fun k=>g (sk j k)) (c-1):=by
 apply List.ext_getElem?
 intro i
 by_cases h:i<j
 ·rw[List.getElem?_append_left (by simp; omega),List.getElem?_take,if_pos h,pK (by omega),pK (by omega)]
  unfold sk; rw[if_pos h]
 ·rw[List.getElem?_append_right (by simp; omega),List.getElem?_drop]
  have e:j+1+(i-((mR g c).take j).length)=i+1:=by simp; omega
  rw[e]
  by_cases h2:i<c-1
  ·rw[pK (by omega),pK h2]
   unfold sk; rw[if_neg h]
  ·rw[List.getElem?_eq_none (by simp; omega),List.getElem?_eq_none (by simp; omega)]
theorem K8 {f:Nat→Rat} {j c:Nat} (hj:j<c):(fR f c).take j++(fR f c).drop (j+1)=fR (fun k=>f (sk j k)) (c-1):=Jp (g:=fun k=>fr (f k)) hj
theorem adj {f:Nat→Nat} {j c:Nat} (hj:j<c):(nR f c).take j++(nR f c).drop (j+1)=nR (fun k=>f (sk j k)) (c-1):=Jp (g:=fun k=>[iv (f k)]) hj
theorem adk {f:Nat→Nat} {j c l:Nat}:zR l ((nR f c).take j)=(nR f c).take j:=yP fun r hr=>by
 obtain ⟨i,_,rfl⟩:=List.mem_map.1 (List.mem_of_mem_take hr)
 rfl
theorem adi {f:Nat→Nat} {j c l:Nat}:zR l ((nR f c).drop j)=(nR f c).drop j:=yP fun r hr=>by
 obtain ⟨i,_,rfl⟩:=List.mem_map.1 (List.mem_of_mem_drop hr)
 rfl
theorem adl {f:Nat→Nat} {j c:Nat}:((nR f c).drop j).take (c-j)=(nR f c).drop j:=List.take_of_length_le (by simp)
theorem least {p:Nat→Prop}:∀ {n:Nat},(∃ i,i<n∧p i)→∃ i,i<n∧p i∧∀ k,k<i→¬ p k
 | 0,⟨i,h,_⟩=>by omega
 | n+1,⟨i,h,hp⟩=>by
  by_cases e:∃ i,i<n∧p i
  ·obtain ⟨i,h1,h2,h3⟩:=least e
   exact ⟨i,by omega,h2,h3⟩
  ·refine ⟨i,h,hp,fun k hk hpk=>e ⟨k,by omega,hpk⟩⟩
theorem N6 {M n:Nat} {f:Nat→Rat}:Am.low M (fL f n)=true:=rfl
theorem DI:yJ Tryz.prog vz=true:=by kernel_rfl
noncomputable def Ym (n m:Nat) (d:zq) (ρ:List (Nat × ze)) (out:List (List (Nat × AV))) (k:Nat):St :=
 {env:=[(0,.ptr 1015 0),(2,iv (n+m:Nat)),(23,.us 1987 1 0 m),(24,iv m),(25,iv k)],sto:=ρ++tL n m d,out:=out,base:=4500}
noncomputable def Lc (n m i:Nat) (d:zq) (ρ:List (Nat × ze)) (out:List (List (Nat × AV))) (k:Nat):St :=
 {env:=[(0,.ptr 1015 0),(2,iv (n+m:Nat)),(3,iv i),(39,fL (d.a i) d.c),(40,iv d.c),(41,iv k)],sto:=ρ++tL n m d,out:=out,base:=4500}
noncomputable def UU (n m:Nat) (d:zq) (ρ:List (Nat × ze)) (out:List (List (Nat × AV))) (k:Nat):St :=
 {env:=[(0,.ptr 1015 0),(2,iv (n+m:Nat)),(58,.us 2029 1 0 d.c),(59,iv d.c),(60,iv k)],sto:=ρ++tL n m d,out:=out,base:=4500}
noncomputable def sR (d:zq) (j k m:Nat):List (List AV):=mR (fun i=>if i<k then [fL (fun l=>d.a i (sk j l)) (d.c-1)] else [fL (d.a i) d.c]) m
theorem abX {d:zq} {j k m l:Nat}:zR l (sR d j k m)=sR d j k m:=tK fun i=>by split<;>simp
@[simp] theorem akq {d:zq} {j k m l:Nat}:yL l (sR d j k m)=false:=d8 fun i=>by split<;>simp
@[simp] theorem akp {d:zq} {j k m:Nat}:(sR d j k m).length=m:=ql
noncomputable def tS (n m j k:Nat) (d:zq):List (Nat × ze) :=
 [(1015,.var (tC n m d)),(1961,.uarr 1 (sR d j k m)),(1972,.uarr 3 (fR d.b m)),(1987,.uarr 1 (nR d.bas m)),(2029,.uarr 1 (nR d.fre d.c))]
noncomputable def FN (n m j:Nat) (d:zq) (ρ:List (Nat × ze)) (out:List (List (Nat × AV))) (k:Nat):St :=
 {env:=[(0,.ptr 1015 0),(7,iv j),(71,.us 1961 1 0 m),(72,iv m),(73,iv k)],sto:=ρ++tS n m j k d,out:=out,base:=4500}
@[simp] theorem agO {a':Nat→Nat→Rat} {cl:Nat→Nat} {n a b:Nat}:((cR a' cl n).map fun r=>r.map (rn a b))=cR a' cl n:=tK fun _=>by simp[rn,rn1]
noncomputable def tW (n m j:Nat) (d:zq):List (Nat × ze) :=
 [(1015,.var [iv n,iv m,.us 1961 1 0 m,.us 1972 3 0 m,.list 3 (.own 4622) (fR (fun k=>d.cst (sk j k)) (d.c-1)),f0 d.v,f1 d.v,f2 d.v,.us 1987 1 0 m,.us 4603 1 0 (d.c-1)]),
  (1961,.uarr 1 (sR d j m m)),(1972,.uarr 3 (fR d.b m)),(1987,.uarr 1 (nR d.bas m)),(2029,.uarr 1 (nR d.fre d.c)),(4603,.uarr 1 (nR (fun k=>d.fre (sk j k)) (d.c-1)))]
theorem ad2 {d:zq} {j m:Nat}:sR d j m m=cR (fun i k=>d.a i (sk j k)) (fun _=>d.c-1) m:=wZ fun _i hi=>if_pos hi
theorem agu {n m j:Nat} {d:zq} {ρ:List (Nat × ze)} {env:List (Nat × AV)} {out:List (List (Nat × AV))} {base:Nat} (hρ:rest ρ) (hE:yH 2000 env) (hO:ym 2000 out) :
  St.imp ⟨env,ρ++tW n m j d,out,base⟩ ⟨env,ρ++tL n m (mC d j),out,base⟩:=by
 refine St.imp.trans (St.imp_cell_weak (k:=1015) (j:=4) (y:=fL (fun k=>d.cst (sk j k)) (d.c-1)) (by simp[tW,rlk hρ,far]; rfl) (by simp; rfl) wN.list) ?_
 simp[tW,rpt hρ,far]
 refine St.imp.trans (St.impW_drop (l:=2029) (by simp[rlk hρ,far]; exact ⟨rfl,rfl⟩)).imp ?_
 simp[wG hρ,far]
 refine St.imp.trans (St.imp_rn 4603 2029) ?_
 have hr0:=aaD (k:=4603) (l:=2029) hρ rfl rfl
 have he:=d6 (k:=4603) (by omega) (j:=2029) (by omega) hE
 have ho:=YZ (k:=4603) (by omega) (j:=2029) (by omega) hO
 simp only[St.rn,List.map_append,hr0,he,ho]
 simp only[List.map_cons,List.map_nil,Y7,b9,PC,Sf,aa,GX,abH,agO,ad2,Gx,Gy,Gz,sw,Nat.reduceEqDiff,if_true,if_false]
 exact St.imp.refl
theorem adT {n m:Nat} {d:zq} {ρ:List (Nat × ze)} {env:List (Nat × AV)} {out:List (List (Nat × AV))} {base:Nat} {K:AV→St→Prop} (hρ:rest ρ) (hE:yH 2000 env) (hO:ym 2000 out) (hm:m<1000000) (_hn:n<1000000) (hc:d.c<1000000)
  {j0:Nat} (hj0:j0<d.c) (hf0:d.fre j0=n+m) (hmin:∀ k,k<j0→¬ d.fre k=n+m) (h:K (.tuple []) ⟨env,ρ++tW n m j0 d,out,base⟩) :
  awp Tryz.prog (.loop wz) (UU n m d ρ (env::out) 0) (wP 4 (UJ tT base K)):=by
 refine zr (UU n m d ρ (env::out)) (fun _=>True) j0 (by simp[UU]) trivial (fun k hk _=>?_) (fun _=>?_)
 ·have e:(k:Int)<d.c:=by omega
  have hkc:k<d.c:=by omega
  have w:=zn (k:=k) (by omega)
  have hne:¬ d.fre k=n+m:=hmin k hk
  have hne':¬ (d.fre k:Int)=(n:Int)+m:=by omega
  simp[wz,UU,tL,e,hkc,rlk hρ,far,hne',w,rZ]
 ·have e:(j0:Int)<d.c:=by omega
  have hf0':(d.fre j0:Int)=(n:Int)+m:=by omega
  simp[wz,UU,tL,e,hj0,rlk hρ,far,hf0']
  have hj1:(j0:Int)≤d.c:=by omega
  have hj2:j0≤d.c:=by omega
  have wj:IntKind.i64.wrap ((j0:Int)+1)=((j0+1:Nat):Int):=zn (by omega)
  have hj3:(j0:Int)+1≤d.c:=by omega
  have hj5:(0:Int)≤(j0:Int)+1:=by omega
  have hj4:j0+1≤d.c:=by omega
  refine v9 (FN n m j0 d ρ (env::out)) (fun _=>True) m ?_ trivial (fun k hk _=>?_) (fun _=>?_)
  ·exact St.imp_of (by simp[FN,tS,sR,cR])
  ·have e:(k:Int)<m:=by omega
   have w:=zn (k:=k) (by omega)
   have g:(sR d j0 k m)[k]?=some [fL (d.a k) d.c]:=by unfold sR; rw[pK hk,if_neg (by omega)]
   have gE:∀ h,(sR d j0 k m)[k]'h=[fL (d.a k) d.c]:=fun h=>(List.getElem?_eq_some_iff.1 g).2
   simp[uf,FN,tS,e,hk,gE,rlk hρ,rpt hρ,wG hρ,far,mL hρ,edg hE,odg hO,-dgE,xy,xj,abX,w,hj1,hj2,wj,hj3,hj5]
   refine ⟨by omega,by omega,by omega,by omega,?_⟩
   rw[K8 hj0]
   have hset:(sR d j0 k m).set k [fL (fun l=>d.a k (sk j0 l)) (d.c-1)]=sR d j0 (k+1) m:=by
    unfold sR
    rw[d9]
    refine wZ fun i _=>?_
    unfold upd
    by_cases ei:i=k
    ·subst ei; rw[if_pos rfl,if_pos (by omega)]
    ·rw[if_neg ei]
     dsimp only
     by_cases ei2:i<k
     ·rw[if_pos ei2,if_pos (by omega)]
     ·rw[if_neg ei2,if_neg (by omega)]
   refine St.imp.trans (St.imp_uarr (l:=1961) (sz:=1) (rows':=sR d j0 (k+1) m) (by simp[rlk hρ,far]; rfl) (by simp) fun i r r' hr hr'=>?_) ?_
   ·rw[← hset] at hr'
    rw[List.getElem?_set] at hr hr'
    by_cases ei:k=i
    ·subst ei
     rw[if_pos rfl] at hr hr'
     split at hr
     ·rename_i h1
      rw[if_pos h1] at hr'
      simp only[Option.some.injEq] at hr hr'
      subst hr hr'
      exact ⟨rfl,fun j c c' hj hj'=>by
       cases j with
       | zero=>simp only[List.getElem?_cons_zero,Option.some.injEq] at hj hj'; subst hj hj'; exact wN.list
       | succ j=>simp at hj⟩
     ·cases hr
    ·rw[if_neg ei] at hr hr'
     rw[hr] at hr'
     cases hr'
     exact ⟨rfl,fun j c c' hj hj'=>by rw[hj] at hj'; cases hj'; exact wN.refl⟩
   ·simp[rpt hρ,far]
    exact St.imp.refl
  ·simp[uf,FN,tS,rlk hρ,rpt hρ,wG hρ,far,mL hρ,edg hE,odg hO,-dgE,xy,xj,abX,rY,tT,adk,adi,adl,adj hj0,K8 hj0,ab,hj1,hj2,wj,hj3,hj4,hj5]
   rw[show j0+(d.c-(j0+1))=d.c-1 by omega]
   exact ⟨by omega,by omega,by omega,by omega,by omega,by omega,by omega,by omega,h⟩
theorem adU {n m L:Nat} {d d1:zq} {ρ:List (Nat × ze)} {s:St} {K:AV→St→Prop} (hs:s.sto=ρ++tL n m d) (hρ:rest ρ) (hE:yH 2000 s.env) (hO:ym 2000 s.out) (hm:m<1000000) (hn:n<1000000) (hc:d.c<1000000) (hr:d.r=m)
  (hL:L≤10000000000) (hsz:szD L d)
  (h1:(d1=d∧∀ i,i<m→d.bas i≠n+m)∨∃ i q,i<m∧q<d.c∧d.bas i=n+m∧(∀ k,k<i→d.bas k≠n+m)∧d.a i q≠0∧(∀ k,k<q→d.a i k=0)∧d1=pivot d i q)
  {j0:Nat} (hj0:j0<d1.c) (hf0:d1.fre j0=n+m) (hmin:∀ k,k<j0→¬ d1.fre k=n+m) (h:K (.tuple []) ⟨s.env,ρ++tL n m (mC d1 j0),s.out,s.base⟩) :
  z0 Tryz.prog vz [.ptr 1015 0] s K:=by
 obtain ⟨env,σ,out,base⟩:=s
 simp only at hs hE hO h
 subst hs
 have hO2:ym 2000 (env::out):=jh.2 ⟨hE,hO⟩
 have wnm:IntKind.i64.wrap ((n:Int)+m)=(n:Int)+m:=by rw[wrap64]<;>omega
 refine z0.post (K:=fun r s'=>r=.tuple []∧s'=⟨env,ρ++tW n m j0 d1,out,base⟩) ?_ fun r s' ⟨e1,e2⟩=>.inr ⟨e1,⟨env,ρ++tL n m (mC d1 j0),out,base⟩,by subst e2; exact agu hρ hE hO,by subst e1; exact h⟩
 refine vb 4500 co (by simp) ?_
 have k7:=adT (n:=n) (m:=m) (d:=d1) (K:=fun r s'=>r=.tuple []∧s'=⟨env,ρ++tW n m j0 d1,out,base⟩) (base:=base) hρ hE hO hm hn (by rcases h1 with ⟨rfl,_⟩ | ⟨i,q,_,_,_,_,_,_,rfl⟩<;>exact hc) hj0 hf0 hmin ⟨rfl,rfl⟩
 rcases h1 with ⟨rfl,hno⟩ | ⟨i0,q0,hi0,hq0,hb0,hbmin,ha0,hamin,rfl⟩
 ·simp[tw,tL,rlk hρ,far,wnm]
  refine zr (Ym n m d1 ρ (env::out)) (fun _=>True) m (by simp[Ym,tL]) trivial (fun k hk _=>?_) (fun _=>?_)
  ·have e:(k:Int)<m:=by omega
   have w:=zn (k:=k) (by omega)
   have hne:¬ (d1.bas k:Int)=(n:Int)+m:=by have:=hno k hk; omega
   simp[xC,Ym,tL,e,hk,rlk hρ,far,hne,w,uc]
  ·simp[xC,Ym,tL,rlk hρ,far,ud]
   simpa [UU,tL] using k7
 ·simp[tw,tL,rlk hρ,far,wnm]
  refine zr (Ym n m d ρ (env::out)) (fun _=>True) i0 (by simp[Ym,tL]) trivial (fun k hk _=>?_) (fun _=>?_)
  ·have hkm:k<m:=by omega
   have e:(k:Int)<m:=by omega
   have w:=zn (k:=k) (by omega)
   have hne:¬ (d.bas k:Int)=(n:Int)+m:=by have:=hbmin k hk; omega
   simp[xC,Ym,tL,e,hkm,rlk hρ,far,hne,w,uc]
  ·have e:(i0:Int)<m:=by omega
   have heq:(d.bas i0:Int)=(n:Int)+m:=by omega
   simp[xC,Ym,tL,e,hi0,rlk hρ,far,heq]
   refine zr (Lc n m i0 d ρ (env::out)) (fun _=>True) q0 (by simp[Lc,tL]) trivial (fun k hk _=>?_) (fun _=>?_)
   ·have hkc:k<d.c:=by omega
    have e2:(k:Int)<d.c:=by omega
    have w:=zn (k:=k) (by omega)
    have g:=qt (q:=d.a i0 k)
    have z:xX (d.a i0 k)=0:=vZ.2 (hamin k hk)
    simp[ue,Lc,tL,e2,hkc,rlk hρ,rpt hρ,far]
    refine za g (by simp) (by simp) ?_
    simp[z,w,Lc,tL,rlk hρ,wG hρ,xb hρ,eno hE,ono hO,far]
   ·have e2:(q0:Int)<d.c:=by omega
    have g:=qt (q:=d.a i0 q0)
    have z:¬ xX (d.a i0 q0)=0:=fun h=>ha0 (vZ.1 h)
    simp[ue,Lc,tL,e2,hq0,rlk hρ,rpt hρ,far]
    refine za g (by simp) (by simp) ?_
    simp[z,bR,rlk hρ,wG hρ,xb hρ,eno hE,ono hO,far]
    refine z9 (Mw (s:=⟨_,ρ++tL n m d,env::out,4500⟩) (d:=d) (ρ:=ρ) (n:=n) (m:=m) (L:=L) rfl hρ ?_ hO2 hm hc hr hi0 hq0 hL hsz ha0 ?_)
    ·simp[yt,yO,mF,sU,xz,N6]
    simp[rX,ud,tL,rlk hρ,far]
    simpa [UU,tL] using k7
theorem Jv {n m i:Nat} {d:zq} (hi:i<m):∀ k,(∀ a b,a<k→b<k→d.fre a=d.fre b→a=b)→xL n m d k i=- zf k fun j=>if d.fre j=n+i then d.cst j else 0
 | 0,_=>by simp only[xL,zf]; grind
 | k+1,hinj=>by
  have ih:=Jv hi (d:=d) (n:=n) k fun a b ha hb=>hinj a b (by omega) (by omega)
  simp only[xL,zf]
  by_cases e:d.fre k=n+i
  ·rw[if_pos ⟨by omega,by omega⟩,if_pos e,zM fun j hj=>if_neg fun e2=>by have:=hinj j k (by omega) (by omega) (by rw[e,e2]); omega]
   have:d.fre k-n=i:=by omega
   rw[this]
   simp only[upd,if_true]
   grind
  ·rw[if_neg e]
   split
   ·rename_i hc
    have:¬ i=d.fre k-n:=by omega
    simp only[upd,if_neg this]
    rw[ih]; grind
   ·rw[ih]; grind
theorem D6 {n m i N:Nat} {d:zq} (hb:Bij d N) (hi:i<m):xL n m d d.c i=- cv d (n+i):=Jv hi d.c fun _ _ ha hb'=>lq hb ha hb'
theorem Ju {n j:Nat} {d:zq} (hj:j<n):∀ k,(∀ a b,a<k→b<k→d.bas a=d.bas b→a=b)→nA n d k j=zf k fun i=>if d.bas i=j then d.b i else 0
 | 0,_=>rfl
 | k+1,hinj=>by
  have ih:=Ju hj (d:=d) k fun a b ha hb=>hinj a b (by omega) (by omega)
  simp only[nA,zf]
  by_cases e:d.bas k=j
  ·rw[if_pos (by omega),if_pos e,zM fun i hi=>if_neg fun e2=>by have:=hinj i k (by omega) (by omega) (by rw[e,e2]); omega]
   rw[e]
   simp only[upd,if_true]
   grind
  ·rw[if_neg e]
   split
   ·have:¬ j=d.bas k:=fun h=>e h.symm
    simp only[upd,if_neg this]
    rw[ih]; grind
   ·rw[ih]; grind
theorem af5 {n j N:Nat} {d:zq} (hb:Bij d N) (hj:j<n):nA n d d.r j=vl d j:=Ju hj d.r fun _ _ ha hb'=>gf hb ha hb'
theorem JJ {n j q:Nat} {d:zq} (hj:j<n):∀ k,(∀ a b,a<k→b<k→d.bas a=d.bas b→a=b)→(∀ a,a<k→d.bas a≠d.fre q)→tV n d q k j=(zf k fun i=>if d.bas i=j then-d.a i q else 0)+if d.fre q=j then 1 else 0
 | 0,_,_=>by
  simp only[tV,zf]
  by_cases e:d.fre q=j
  ·rw[if_pos (by omega),if_pos e,e]
   simp only[upd,if_true]; grind
  ·rw[if_neg e]
   split
   ·have:¬ j=d.fre q:=fun h=>e h.symm
    simp only[upd,if_neg this]; grind
   ·grind
 | k+1,hinj,hne=>by
  have ih:=JJ hj (d:=d) (q:=q) k (fun a b ha hb=>hinj a b (by omega) (by omega)) fun a ha=>hne a (by omega)
  simp only[tV,zf]
  by_cases e:d.bas k=j
  ·rw[if_pos (by omega),if_pos e,zM fun i hi=>if_neg fun e2=>by have:=hinj i k (by omega) (by omega) (by rw[e,e2]); omega]
   have h2:¬ d.fre q=j:=fun h=>hne k (by omega) (by rw[e,h])
   rw[if_neg h2,e]
   simp only[upd,if_true]
   grind
  ·rw[if_neg e]
   split
   ·have:¬ j=d.bas k:=fun h=>e h.symm
    simp only[upd,if_neg this]
    rw[ih]; grind
   ·rw[ih]; grind
theorem ahs {n j q N:Nat} {d:zq} (hb:Bij d N) (hq:q<d.c) (hj:j<n):tV n d q d.r j=dx d q j :=
 JJ hj d.r (fun _ _ ha hb'=>gf hb ha hb') fun _a ha e=>uV hb ha hq e.symm
def yV (bb:Nat→Rat):Nat→Int
 | 0=>-1
 | k+1=>if bb k<0∧(yV bb k<0∨bb k<bb (yV bb k).toNat) then k else yV bb k
theorem Xk (bb:Nat→Rat):∀ k,-1≤yV bb k∧yV bb k<k
 | 0=>by simp[yV]
 | k+1=>by have:=Xk bb k; simp only[yV]; split<;>omega
theorem U3 {bb:Nat→Rat}:∀ k,yV bb k<0→∀ i,i<k→0≤bb i
 | 0,_,i,hi=>by omega
 | k+1,h,i,hi=>by
  simp only[yV] at h
  split at h
  ·omega
  ·rename_i hn
   by_cases e:i=k
   ·subst e
    have:¬ bb i<0:=fun h0=>hn ⟨h0,.inl h⟩
    grind
   ·exact U3 k h i (by omega)
theorem U4 {bb:Nat→Rat}:∀ k,0≤yV bb k→bb (yV bb k).toNat<0∧∀ i,i<k→bb (yV bb k).toNat≤bb i
 | 0,h=>by simp[yV] at h
 | k+1,h=>by
  have b:=Xk bb k
  simp only[yV] at h ⊢
  split
  ·rename_i hc
   refine ⟨by simpa using hc.1,fun i hi=>?_⟩
   simp only[Int.toNat_natCast]
   by_cases e:i=k
   ·subst e; grind
   ·by_cases h1:yV bb k<0
    ·have:=U3 k h1 i (by omega); have:=hc.1; grind
    ·have h2:=hc.2.resolve_left h1
     have:=(U4 (bb:=bb) k (by omega)).2 i (by omega)
     grind
  ·rename_i hc
   rw[if_neg hc] at h
   obtain ⟨h1,h2⟩:=U4 k h
   refine ⟨h1,fun i hi=>?_⟩
   by_cases e:i=k
   ·subst e
    have:¬ bb i<bb (yV bb i).toNat:=fun h3=>hc ⟨by grind,.inr h3⟩
    grind
   ·exact h2 i (by omega)
noncomputable def tN (n m:Nat) (A:Nat→Nat→Rat) (bb:Nat→Rat):List (Nat × ze) :=
 [(1015,.var [iv n,iv m,.us 1961 1 0 m,.us 1972 3 0 m,vG n,f0 0,f1 0,f2 0,.us 1987 1 0 m,.us 2029 1 0 n]),(2029,.uarr 1 (nR id n)),
   (1961,.uarr 1 (oR A om (fun _=>n) m)),(1972,.uarr 3 (fR bb m)),(1987,.uarr 1 (nR (fun i=>n+i) m))]
theorem EE {n:Nat}:wN (vG n) (fL (fun _=>0) n):=by
 unfold vG
 split
 ·rename_i h; subst h; exact wN.nil
 ·exact wN.list
theorem Jr {g h:Nat→List AV} {n:Nat} (e:∀ i,i<n→∃ x y,g i=[x]∧h i=[y]∧wN x y):∀ (i:Nat) r r',(mR g n)[i]?=some r→(mR h n)[i]?=some r'→r'.length=r.length∧∀ (j:Nat) c c',r[j]?=some c→r'[j]?=some c'→wN c c':=by
 intro i r r' hr hr'
 have hi:i<n:=by have:=(List.getElem?_eq_some_iff.1 hr).1; simpa using this
 rw[pK hi] at hr hr'
 obtain ⟨x,y,e1,e2,hw⟩:=e i hi
 simp only[Option.some.injEq] at hr hr'
 subst hr hr'
 rw[e1,e2]
 refine ⟨rfl,fun j c c' hj hj'=>?_⟩
 cases j with
 | zero=>simp only[List.getElem?_cons_zero,Option.some.injEq] at hj hj'; subst hj hj'; exact hw
 | succ j=>simp at hj
def dZ (n m:Nat) (A:Nat→Nat→Rat) (bb:Nat→Rat):zq:=dG n m A bb fun _=>0
theorem ZS {ρ l l':List (Nat × ze)} (h:lk l=lk l'):lk (ρ++l)=lk (ρ++l'):=by
 funext k
 induction ρ with
 | nil=>exact congrFun h k
 | cons p ρ ih =>
  obtain ⟨q,x⟩:=p
  simp only[List.cons_append,lk]
  split
  ·rfl
  ·exact ih
theorem Jc {s t:St} (h1:s.env=t.env) (h2:lk s.sto=lk t.sto) (h3:s.out=t.out):St.impW s t:=by
 intro F a w I β lam hI
 have e:t.look=s.look:=by
  funext ⟨d,k⟩
  cases d<;>simp only[St.look,h1,h3]
 rw[e,← h2]
 exact hI
theorem NR {s:St} {env:List (Nat × AV)} (h:qu s.env env):St.impW s {s with env:=env}:=by
 intro F a w I β lam hI
 refine {hI with env:=fun t x hx=>hI.env t x ?_}
 obtain ⟨d,t⟩:=t
 cases d with
 | zero=>exact Xe h hx
 | succ d=>exact hx
theorem aep {n m:Nat} {A:Nat→Nat→Rat} {bb:Nat→Rat} {ρ:List (Nat × ze)} {env:List (Nat × AV)} {out:List (List (Nat × AV))} {base:Nat} (hρ:rest ρ) :
  St.impW ⟨env,ρ++tN n m A bb,out,base⟩ ⟨env,ρ++tL n m (dZ n m A bb),out,base⟩:=by
 refine St.impW.trans (St.impW_cell_weak (k:=1015) (j:=4) (y:=fL (fun _=>0) n) (by simp[tN,rlk hρ,far]; rfl) rfl EE) ?_
 simp[tN,rpt hρ,far]
 refine St.impW.trans (St.impW_uarr (l:=1961) (sz:=1) (rows':=cR A (fun _=>n) m) (by simp[rlk hρ,far]; rfl) (by simp) (Jr fun i hi=>⟨_,_,rfl,rfl,wN.list⟩)) ?_
 simp[rpt hρ,far]
 refine Jc rfl (ZS (R3 ?_ ?_)) rfl
 ·simp[tL,dZ,dG,t8,qv]; rfl
 ·simp[tL,dZ,dG,t8,qv]; rfl
theorem QL:yJ Tryz.prog tq=true:=by kernel_rfl
theorem kE:yJ Tryz.prog wl=true:=by kernel_rfl
noncomputable def aw (n m:Nat) (A:Nat→Nat→Rat) (bb:Nat→Rat) (ρ:List (Nat × ze)) (out:List (List (Nat × AV))) (k:Nat):St :=
 {env:=[(0,.ptr 1015 0),(4,iv (yV bb k)),(12,.us 1972 3 0 m),(13,iv m),(14,iv k)],sto:=ρ++tN n m A bb,out:=out,base:=4000}
noncomputable def aR (A:Nat→Nat→Rat) (n k m:Nat):List (List AV):=mR (fun i=>if i<k then [fL (fun j=>if j<n then A i j else -1) (n+1)] else [.list 3 (om i) (fR (A i) n)]) m
noncomputable def FO (n m p:Nat) (A:Nat→Nat→Rat) (bb:Nat→Rat) (ρ:List (Nat × ze)) (out:List (List (Nat × AV))) (k:Nat):St :=
 {env:=[(0,.ptr 1015 0),(4,iv p),(7,.ptr 4007 0),(47,iv m),(48,iv k)],
  sto:=ρ++[(1015,.var [iv n,iv m,.us 1961 1 0 m,.us 1972 3 0 m,vG n,f0 0,f1 0,f2 0,.us 1987 1 0 m,.us 2029 1 0 n]),(2029,.uarr 1 (nR id n)),
   (1961,.uarr 1 (aR A n k m)),(1972,.uarr 3 (fR bb m)),(1987,.uarr 1 (nR (fun i=>n+i) m)),(4007,.var (fr (-1)))],out:=out,base:=4000}
structure Ready (n m L:Nat) (A:Nat→Nat→Rat) (bb:Nat→Rat) (e:zq):Prop where
 bij:Bij e (n+m)
 sol:∀ x,sol e x↔sol (dZ n m A bb) x
 feas:feas e
 r:e.r=m
 c:e.c=n
 sz:szD L e
theorem Lk {n m L:Nat} {A:Nat→Nat→Rat} {bb:Nat→Rat} {ρ:List (Nat × ze)} {env:List (Nat × AV)} {out:List (List (Nat × AV))} {Q:Exit→St→Prop} (hρ:rest ρ) (hE:yH 2000 env) (hO:ym 2000 out) (hm:m<900000) (hL:L≤10000000000) (hb:∀ i,i<m→sz L (bb i))
  (h:Q (.exit 0) ⟨[(0,.ptr 1015 0),(4,iv (yV bb m)),(12,.us 1972 3 0 m),(13,iv m),(14,iv m),(15,bv false)],ρ++tN n m A bb,env::out,4000⟩) :
  awp Tryz.prog (.loop qM) (aw n m A bb ρ (env::out) 0) Q:=by
 refine zr (aw n m A bb ρ (env::out)) (fun _=>True) m (by simp[aw]) trivial (fun k hk _=>?_) (fun _=>?_)
 ·have e:(k:Int)<m:=by omega
  have w:=zn (k:=k) (by omega)
  obtain ⟨b1,b2⟩:=Xk bb k
  have g1:=qt (q:=bb k)
  simp[qM,aw,tN,e,hk,rlk hρ,rpt hρ,far]
  refine za g1 (by simp) (by simp) ?_
  by_cases h0:bb k<0
  ·have h0':xX (bb k)<0:=fE.2 h0
   by_cases h1:yV bb k<0
   ·have ev:yV bb (k+1)=k:=by simp only[yV]; rw[if_pos ⟨h0,.inl h1⟩]
    simp[h0',h1,w,aw,tN,ev,rlk hρ,wG hρ,xb hρ,eno hE,ono hO,far]
   ·have b3:(yV bb k).toNat<m:=by omega
    have b4:(0:Int)≤yV bb k:=by omega
    have b5:yV bb k<m:=by omega
    have g2:=cZ (by omega) (hb k hk) (hb _ b3)
    simp[h0',h1,b3,b4,b5,rlk hρ,far]
    refine za g2 (by simp) (by simp) ?_
    by_cases h2:bb k<bb (yV bb k).toNat
    ·have ev:yV bb (k+1)=k:=by simp only[yV]; rw[if_pos ⟨h0,.inr h2⟩]
     have h2':wX (bb k) (bb (yV bb k).toNat)<0:=dS.2 h2
     simp[h2',w,aw,tN,ev,rlk hρ,wG hρ,xb hρ,eno hE,ono hO,far]
    ·have ev:yV bb (k+1)=yV bb k:=by simp only[yV]; rw[if_neg fun h=>h.2.elim h1 h2]
     have h2':¬ wX (bb k) (bb (yV bb k).toNat)<0:=fun h=>h2 (dS.1 h)
     simp[h2',w,aw,tN,ev,rlk hρ,wG hρ,xb hρ,eno hE,ono hO,far]
  ·have h0':¬ xX (bb k)<0:=fun h=>h0 (fE.1 h)
   have ev:yV bb (k+1)=yV bb k:=by simp only[yV]; rw[if_neg fun h=>h0 h.1]
   simp[h0',w,aw,tN,ev,rlk hρ,wG hρ,xb hρ,eno hE,ono hO,far]
 ·simp[qM,aw]
  exact h
def sec:zc→zc
 | .seq _ b=>b
 | c=>c
def Next (n m:Nat) (e:zq) (res:AV) (e2:zq):Prop :=
 (e.v<0∧res=.tuple [fL (xL n m e e.c) m,bv false]∧e2=e) ∨
 (¬ e.v<0∧res=.tuple [z7,bv true]∧∃ d1 j0,((d1=e∧∀ i,i<m→e.bas i≠n+m)∨∃ i q,i<m∧q<e.c∧e.bas i=n+m∧(∀ k,k<i→e.bas k≠n+m)∧e.a i q≠0∧(∀ k,k<q→e.a i k=0)∧d1=pivot e i q) ∧
  j0<d1.c∧d1.fre j0=n+m∧(∀ k,k<j0→¬ d1.fre k=n+m)∧e2=mC d1 j0)
noncomputable def tM (X n m:Nat) (A:Nat→Nat→Rat) (bb:Nat→Rat):List (Nat × ze) :=
 [(1015,.var [iv n,iv m,.us 1961 1 0 m,.us 1972 3 0 m,.list 3 (.own X) (fR (dA n m A bb).cst (n+1)),f0 0,f1 0,f2 0,.us 1987 1 0 m,.us 2029 1 0 (n+1)]),(2029,.uarr 1 (nR (dA n m A bb).fre (n+1))),
  (1961,.uarr 1 (cR (dA n m A bb).a (fun _=>n+1) m)),(1972,.uarr 3 (fR bb m)),(1987,.uarr 1 (nR (fun i=>n+i) m))]
theorem aeo {X n m:Nat} {A:Nat→Nat→Rat} {bb:Nat→Rat} {ρ:List (Nat × ze)} {env:List (Nat × AV)} {out:List (List (Nat × AV))} {base:Nat} (hρ:rest ρ) :
  St.impW ⟨env,ρ++tM X n m A bb,out,base⟩ ⟨env,ρ++tL n m (dA n m A bb),out,base⟩:=by
 refine St.impW.trans (St.impW_cell_weak (k:=1015) (j:=4) (y:=fL (dA n m A bb).cst (n+1)) (by simp[tM,rlk hρ,far]; rfl) rfl wN.list) ?_
 simp[tM,rpt hρ,far]
 refine Jc rfl (ZS (R3 ?_ ?_)) rfl
 ·simp[tL,dA,t8,qv]
 ·simp[tL,dA,t8,qv]
theorem ab2 {A:Nat→Nat→Rat} {n m:Nat}:aR A n 0 m=oR A om (fun _=>n) m:=wZ fun i _=>if_neg (by omega)
theorem ab1 {A:Nat→Nat→Rat} {bb:Nat→Rat} {n m:Nat}:aR A n m m=cR (dA n m A bb).a (fun _=>n+1) m:=wZ fun _i hi=>if_pos hi
theorem FT {n m p L:Nat} {A:Nat→Nat→Rat} {bb:Nat→Rat} {e e2:zq} {res:AV} (hm:m<900000) (hn:n<900000) (hL:L≤10000000000) (hb:∀ i,i<m→sz L (bb i)) (hw:yV bb m=(p:Nat)) (hp:p<m)
  (szA:szD L (dA n m A bb)) (sze:szD L e) (her:e.r=m) (hec:e.c=n+1) (hfre:∀ j,j<e.c→e.fre j<4000000)
  (hopt:∀ {ρ:List (Nat × ze)} {s:St} {K:AV→St→Prop},s.sto=ρ++tL n m (pivot (dA n m A bb) p n)→rest ρ→yH 2000 s.env→ym 2000 s.out→K (dv e) ⟨s.env,ρ++tL n m e,s.out,s.base⟩→z0 Tryz.prog wl [.ptr 1015 0] s K)
  (hx:Next n m e res e2) {ρ:List (Nat × ze)} {s:St} {K:AV→St→Prop} (hs:s.sto=ρ++tN n m A bb) (hρ:rest ρ) (hE:yH 2000 s.env) (hO:ym 2000 s.out) (h:K res ⟨s.env,ρ++tL n m e2,s.out,s.base⟩) :
  z0 Tryz.prog th [.ptr 1015 0] s K:=by
 obtain ⟨env,σ,out,base⟩:=s
 simp only at hs hE hO h
 subst hs
 have hO2:ym 2000 (env::out):=jh.2 ⟨hE,hO⟩
 have g0:zd Tryz.prog zE [iv (-1)] (fq (-1)):=yf (n:=-1) (by decide) (by decide)
 refine vb 4000 XW (by simp) ?_
 simp[dj,tN,rlk hρ,far]
 refine Lk (n:=n) (A:=A) hρ hE hO hm hL hb ?_
 have hp0:¬ (p:Int)<0:=by omega
 simp[lb,hw,hp0,s6]
 refine za g0 (by simp) (by simp) ?_
 simp[tN,rlk hρ,rpt hρ,far]
 refine v9 (FO n m p A bb ρ (env::out)) (fun _=>True) m (St.imp_of (by simp[FO,ab2])) trivial (fun k hk _=>?_) (fun _=>?_)
 ·have e1:(k:Int)<m:=by omega
  have w:=zn (k:=k) (by omega)
  have g:(aR A n k m)[k]?=some [.list 3 (om k) (fR (A k) n)]:=by unfold aR; rw[pK hk,if_neg (by omega)]
  have gE:∀ h,(aR A n k m)[k]'h=[.list 3 (om k) (fR (A k) n)]:=fun h=>(List.getElem?_eq_some_iff.1 g).2
  have aL:(aR A n k m).length=m:=ql
  have hf:far (1000000+k)=true:=decide_eq_true (by omega)
  have l1:∀ l,lk (ρ++l) (1000000+k)=lk l (1000000+k):=fun l=>rlk hρ hf
  have hd0:=mL (k:=1000000+k) hρ (by omega)
  have hd1:=edg (k:=1000000+k) hE (by omega)
  have hd2:=odg (k:=1000000+k) hO (by omega)
  have hd3:=YO (l:=1000000+k) (k:=n) (by omega)
  have n0:∀ j,j<1000000→¬ j=1000000+k:=fun j hj=>by omega
  have hdg:zR (1000000+k) (aR A n k m)=mR (fun i=>if i<k then [fL (fun j=>if j<n then A i j else -1) (n+1)] else [.list 3 (if i=k then .plain else om i) (fR (A i) n)]) m:=by
   unfold aR zR
   refine t6 fun i hi=>?_
   by_cases h1:i<k
   ·rw[if_pos h1,if_pos h1]; simp
   ·rw[if_neg h1,if_neg h1]
    by_cases h2:i=k
    ·subst h2; simp[om,dg]
    ·rw[if_neg h2]
     simp[om,dg,h2]
  have wn:(n+1)*56≤140737488355328:=by omega
  have wn2:n≤9223372036854775806:=by omega
  have hfa:fR (A k) n++[fr (-1)]=fR (fun j=>if j<n then A k j else -1) (n+1):=by
   rw[vB,if_neg (Nat.lt_irrefl n)]
   rw[xl (f:=fun j=>if j<n then A k j else -1) (g:=A k) fun j hj=>if_pos hj]
  simp[lc,FO,e1,hk,gE,aL,om,rlk hρ,rpt hρ,wG hρ,far,w,l1,hd0,hd1,hd2,hd3,n0,hdg,-dgE,xy,xj,wn,wn2,hfa]
  rw[d9]
  refine St.imp.trans (St.imp_uarr (l:=1961) (sz:=1) (rows':=aR A n (k+1) m) (by simp[rlk hρ,far]; rfl) (by simp[aR]) ?_) ?_
  ·unfold aR
   refine Jr fun i hi=>?_
   by_cases h1:i=k
   ·subst h1
    exact ⟨.list 3 (.own (1000000+i)) (fR (fun j=>if j<n then A i j else -1) (n+1)),fL (fun j=>if j<n then A i j else -1) (n+1),by simp[upd],by rw[if_pos (by omega)],wN.list⟩
   ·by_cases h2:i<k
    ·exact ⟨fL (fun j=>if j<n then A i j else -1) (n+1),_,by simp only[upd,if_neg h1,if_pos h2],by rw[if_pos (by omega)],wN.refl⟩
    ·exact ⟨.list 3 (om i) (fR (A i) n),.list 3 (om i) (fR (A i) n),by simp only[upd,if_neg h1,if_neg h2]; rfl,by rw[if_neg (by omega)],wN.refl⟩
  ·simp[rpt hρ,far]
   exact St.imp.refl
 ·have wn1:(n+1)*8≤140737488355328:=by omega
  have wn:(n+1)*56≤140737488355328:=by omega
  have wn2:n≤9223372036854775806:=by omega
  have wnm:IntKind.i64.wrap ((n:Int)+m)=((n+m:Nat):Int):=by rw[wrap64]<;>omega
  have hdg:=YO (l:=2029) (k:=n) (by omega)
  have hfe:nR id n++[[iv ((n:Int)+m)]]=nR (dA n m A bb).fre (n+1):=by
   unfold nR
   rw[ca]
   simp only[dA,Nat.lt_irrefl,if_false,Int.natCast_add]
   congr 1
   exact wZ fun i hi=>by rw[if_pos hi]; rfl
  simp[lc,FO,qL,rlk hρ,rpt hρ,far,mL hρ,edg hE,odg hO,-dgE,xy,xj,hdg,wn1,wn2,wnm,ab1 (bb:=bb),hfe]
  have hcs:fR (fun _=>0) n++[fr (-1)]=fR (dA n m A bb).cst (n+1):=by
   rw[vB]
   simp only[dA,Nat.lt_irrefl,if_false]
   rw[xl (f:=fun j=>if j<n then (0:Rat) else -1) (g:=fun _=>0) fun j hj=>if_pos hj]
  have hc0:(n=0∧vG n=z7)∨vG n=.list 3 (.own 2039) (fR (fun _=>0) n):=by
   unfold vG
   split
   ·exact .inl ⟨by assumption,rfl⟩
   ·exact .inr rfl
  have wn3:IntKind.i64.wrap (n:Int)=n:=by rw[wrap64]<;>omega
  have hds:(dA n m A bb).c=n+1:=rfl
  have pv:∀ (X:Nat) (env0:List (Nat × AV)),qu env0 [(0,.ptr 1015 0)]→∀ {K:AV→St→Prop},K (.tuple []) ⟨[(0,.ptr 1015 0)],ρ++tL n m (pivot (dA n m A bb) p n),env::out,4000⟩→z0 Tryz.prog tg [.ptr 1015 0,iv p,iv n] ⟨env0,ρ++tM X n m A bb,env::out,4000⟩ K:=fun X env0 h0 K hK =>
   z0.pre (St.impW.trans (aeo hρ) (NR h0)) (Mw (s:=⟨[(0,.ptr 1015 0)],ρ++tL n m (dA n m A bb),env::out,4000⟩) (d:=dA n m A bb) (ρ:=ρ) (n:=n) (m:=m) (L:=L) rfl hρ (by simp[yt,yO,xz]) hO2 (by omega) (by simp only[dA]; omega) rfl hp (by simp only[dA]; omega) hL szA JY hK)
  have sg:=qt (q:=e.v)
  have fin:tD Tryz.prog wl [AV.ptr 1015 0]
    {env:=[(0,AV.ptr 1015 0),(105,AV.ptr 1015 0)],sto:=ρ++tL n m (pivot (dA n m A bb) p n),out:=env::out,base:=4000} (some 106)
    (fo Tryz.prog [] (Nx [105,106] [] (rm Tryz.prog (sec (sec (sec (sec qL)))) (UJ s6 base K)))):=by
   refine z9 (hopt rfl hρ (by simp[yt,yO,xz]) hO2 ?_)
   simp[sec,qL,tL,rlk hρ,far]
   refine za sg (by simp) (by simp) ?_
   rcases hx with ⟨hv,rfl,rfl⟩ | ⟨hv,rfl,d1,j0,h1,hj0,hf0,hmin,rfl⟩
   ·have hv':xX e2.v<0:=fE.2 hv
    simp[hv',QL]
    refine z9 (adG (s:=⟨_,ρ++tL n m e2,env::out,4000⟩) (n:=n) (m:=m) (d:=e2) (ρ:=ρ) (L:=L) rfl hρ ?_ hO2 (by omega) (by omega) (by omega) hfre (by omega) sze.cst ?_)
    ·simp[yt,yO,sU,xz]
    simp[s6]
    exact h
   ·have hv':¬ xX e.v<0:=fun h=>hv (fE.1 h)
    simp[hv',DI]
    refine z9 (adU (s:=⟨_,ρ++tL n m e,env::out,4000⟩) (d:=e) (d1:=d1) (ρ:=ρ) (n:=n) (m:=m) (L:=L) rfl hρ (by simp[yt,yO,sU,xz]) hO2 (by omega) (by omega) (by omega) her hL sze h1 hj0 hf0 hmin ?_)
    simp[s6]
    exact h
  rcases hc0 with ⟨hn0,hc⟩ | hc
  ·have hcs2:[fr (-1)]=fR (dA n m A bb).cst (n+1):=by rw[← hcs,hn0]; rfl
   simp[hc,hcs2,rlk hρ,rpt hρ,wG hρ,far,mL hρ,edg hE,odg hO,-dgE,xy,xj,wn,wn2,wn3,xb hρ,eno hE,ono hO,bR]
   refine z9 (pv 4093 _ (by simp[t8,qv]) ?_)
   simp[kE]
   exact fin
  ·simp[hc,hcs,rlk hρ,rpt hρ,wG hρ,far,mL hρ,edg hE,odg hO,-dgE,xy,xj,wn,wn2,wn3,xb hρ,eno hE,ono hO,bR]
   refine z9 (pv 2039 _ (by simp[t8,qv]) ?_)
   simp[kE]
   exact fin
theorem agp {n m S t:Nat} {A:Nat→Nat→Rat} {bb:Nat→Rat} (ht:m≤t∨n+1≤t) (hm:m<900000) (hn:n<900000) (hS:grow S t≤10000000000) (ha:∀ i j,i<m→j<n→sz S (A i j)) (hb:∀ i,i<m→sz S (bb i)) :
  (∃ e y,(Inf n m A bb y∧∀ i,sz (grow S t) (y i))∧∀ {ρ:List (Nat × ze)} {s:St} {K:AV→St→Prop},s.sto=ρ++tN n m A bb→rest ρ→yH 2000 s.env→ym 2000 s.out→K (.tuple [fL y m,bv false]) ⟨s.env,ρ++tL n m e,s.out,s.base⟩→z0 Tryz.prog th [.ptr 1015 0] s K) ∨
  (∃ e,Ready n m (grow S t) A bb e∧∀ {ρ:List (Nat × ze)} {s:St} {K:AV→St→Prop},s.sto=ρ++tN n m A bb→rest ρ→yH 2000 s.env→ym 2000 s.out→K (.tuple [z7,bv true]) ⟨s.env,ρ++tL n m e,s.out,s.base⟩→z0 Tryz.prog th [.ptr 1015 0] s K):=by
 have hSm:S≤grow S t:=ZM (m:=0) (Nat.zero_le t)
 have sm1:sz S (-1):=jt C7
 have szA:szD S (dA n m A bb):=⟨fun i j hi hj=>by
   simp only[dA] at hi ⊢
   split
   ·exact ha i j hi (by assumption)
   ·exact sm1,fun i hi=>hb i hi,fun j hj=>by
   simp only[dA]
   split
   ·exact vd
   ·exact sm1,vd⟩
 have szZ:szD (grow S t) (dZ n m A bb):=UV ⟨fun i j hi hj=>ha i j hi hj,fun i hi=>hb i hi,fun j hj=>vd,vd⟩ hSm
 have bw:=Xk bb m
 by_cases hw:yV bb m<0
 ·refine .inr ⟨dZ n m A bb,⟨EF,fun _=>Iff.rfl,fun i hi=>U3 m hw i hi,rfl,rfl,szZ⟩,?_⟩
  intro ρ s K hs hρ hE hO h
  obtain ⟨env,σ,out,base⟩:=s
  simp only at hs hE hO h
  subst hs
  refine z0.post (K:=fun r s'=>r=.tuple [z7,bv true]∧s'=⟨env,ρ++tN n m A bb,out,base⟩) ?_ fun r s' ⟨e1,e2⟩=>.inl ⟨_,by subst e2; exact aep hρ,by subst e1; exact h⟩
  refine vb 4000 XW (by simp) ?_
  simp[dj,tN,rlk hρ,far]
  refine Lk (n:=n) (A:=A) hρ hE hO hm hS (fun i hi=>zG (hb i hi) hSm) ?_
  simp[lb,hw,s6]
  rfl
 ·obtain ⟨p,hp⟩:∃ p:Nat,yV bb m=p:=⟨(yV bb m).toNat,by omega⟩
  have hpm:p<m:=by omega
  obtain ⟨w1,w2⟩:=U4 m (by omega:0≤yV bb m)
  rw[hp] at w1 w2
  simp only[Int.toNat_natCast] at w1 w2
  have hS1:Same (pivot (dA n m A bb) p n) (dA n m A bb) (n+m+1):=FS hpm
  have hF1:feas (pivot (dA n m A bb) p n):=FR w1 w2
  have hsize:∀ e,Same e (pivot (dA n m A bb) p n) (n+m+1)→e.r=(pivot (dA n m A bb) p n).r→e.c=(pivot (dA n m A bb) p n).c→szD (grow S t) e:=fun e he h1 h2 =>
   Same.size_t (d:=dA n m A bb) szA (he.trans hS1).symm h1 h2 ht
  obtain ⟨e,hfin,hopt⟩:=QN hS1.bd hF1
  have hSe:Same e (dA n m A bb) (n+m+1):=hfin.same.trans hS1
  have her:e.r=m:=hfin.r
  have hec:e.c=n+1:=hfin.c
  have sze:szD (grow S t) e:=hsize e hfin.same hfin.r hfin.c
  have hcst:∀ j,j<e.c→e.cst j≤0:=by
   rcases hfin.out with ⟨_,h⟩ | ⟨q,_,hq,hc,hall⟩
   ·exact h
   ·exact absurd (Kb hSe hfin.feas hq hc hall) id
  have hfre:∀ j,j<e.c→e.fre j<4000000:=fun j hj=>by have:=je hSe.bd hj; omega
  have hwalk:=fun {e2:zq} {res:AV} (hx:Next n m e res e2) {ρ:List (Nat × ze)} {s:St} {K:AV→St→Prop}=>FT (n:=n) (m:=m) (p:=p) (L:=grow S t) (A:=A) (bb:=bb) (e:=e) (ρ:=ρ) (s:=s) (K:=K) hm hn hS (fun i hi=>zG (hb i hi) hSm) hp hpm (UV szA hSm) sze her hec hfre
   (fun {ρ s K} hs hρ hE hO hK=>hopt hs hρ hE hO (by omega) (by simp only[pivot,dA]; omega) rfl hS hsize hK) hx
  by_cases hv:e.v<0
  ·refine .inl ⟨e,_,⟨afD hSe hcst hv,fun i=>jt (abE hSe.bd sze (n+i))⟩,?_⟩
   have hy:fL (fun i=>- cv e (n+i)) m=fL (xL n m e e.c) m:=congrArg _ (xl fun i hi=>(D6 hSe.bd hi).symm)
   rw[hy]
   exact fun {ρ s K} hs hρ hE hO h=>hwalk (.inl ⟨hv,rfl,rfl⟩) hs hρ hE hO h
  ·have hv0:e.v=0:=by have:=abQ hSe hfin.feas; grind
   have fin:∀ d1:zq,((d1=e∧∀ i,i<m→e.bas i≠n+m)∨∃ i q,i<m∧q<e.c∧e.bas i=n+m∧(∀ k,k<i→e.bas k≠n+m)∧e.a i q≠0∧(∀ k,k<q→e.a i k=0)∧d1=pivot e i q) →
     Same d1 (dA n m A bb) (n+m+1)→feas d1→d1.r=m→d1.c=n+1→(∃ j,j<d1.c∧d1.fre j=n+m)→szD (grow S t) d1 →
     (∃ e,Ready n m (grow S t) A bb e∧∀ {ρ:List (Nat × ze)} {s:St} {K:AV→St→Prop},s.sto=ρ++tN n m A bb→rest ρ→yH 2000 s.env→ym 2000 s.out→K (.tuple [z7,bv true]) ⟨s.env,ρ++tL n m e,s.out,s.base⟩→z0 Tryz.prog th [.ptr 1015 0] s K):=by
    intro d1 h1 hS hF hr hc hex hz
    obtain ⟨j0,hj0,hf0,hmin⟩:=least hex
    refine ⟨mC d1 j0,⟨B1 hS hj0 hf0,fun x=>B2 hS hj0 hf0 x,fun i hi=>hF i hi,hr,by simp only[mC]; omega,
     ⟨fun i j hi hj=>hz.a i _ hi (PG hj0 hj),fun i hi=>hz.b i hi,fun j hj=>hz.cst _ (PG hj0 hj),hz.v⟩⟩,?_⟩
    exact fun {ρ s K} hs hρ hE hO h=>hwalk (.inr ⟨hv,rfl,d1,j0,h1,hj0,hf0,hmin,rfl⟩) hs hρ hE hO h
   refine .inr ?_
   by_cases hb0:∃ i,i<m∧e.bas i=n+m
   ·obtain ⟨i,hi,hbi,hmin⟩:=least hb0
    obtain ⟨q,hq,haq,hqm⟩:=least (adD hSe (by omega) hbi)
    have hS2:Same (pivot e i q) (dA n m A bb) (n+m+1):=(Same.pivot hSe.bd (by omega) hq haq).trans hSe
    refine fin (pivot e i q) (.inr ⟨i,q,hi,hq,hbi,hmin,haq,fun k hk=>Classical.byContradiction fun h=>hqm k hk h,rfl⟩) hS2 (Aj hfin.feas (af3 hSe (by omega) hbi hv0)) her hec ⟨q,hq,by simp only[pivot,upd,if_true]; exact hbi⟩ ?_
    exact Same.size_t (d:=dA n m A bb) szA hS2.symm her hec ht
   ·refine fin e (.inl ⟨rfl,fun i hi h=>hb0 ⟨i,hi,h⟩⟩) hSe hfin.feas her hec ?_ sze
    rcases aW hSe.bd (show n+m<n+m+1 by omega) with h | ⟨i,hi,h⟩
    ·exact h
    ·exact absurd ⟨i,by omega,h⟩ hb0
@[simp] theorem Jq {g:Nat→List AV} {n:Nat}:(mR g n).take n=mR g n:=List.take_of_length_le (by simp)
@[simp] theorem ai6 {a:Nat→Nat→Rat} {cl:Nat→Nat} {n:Nat}:(cR a cl n).take n=cR a cl n:=Jq
@[simp] theorem ajm {f:Nat→Nat} {n:Nat}:(nR f n).take n=nR f n:=Jq
theorem aeY {I I':Nat→Nat→Prop} {w:World} {β β':zS} {lam lam':z5} {v:Value} {x y:Value} (h:R I w β lam (.tuple [.val x,.val y]) v):R I' w β' lam' (.tuple [.val x,.val y]) v:=by
 have key:∀ {l:List AV} {vs:Array Value},l=[.val x,.val y]→vs.size=l.length→(∀ i c,l[i]?=some c→R I w β lam c (vs.getD i undef))→∀ i c,l[i]?=some c→R0 I' w c (vs.getD i undef):=by
  intro l vs hl _ h i c hc
  subst hl
  have h1:=h i c hc
  match i,hc with
  | 0,hc =>
   simp only[List.getElem?_cons_zero,Option.some.injEq] at hc
   subst hc
   cases h1 with
   | base h1=>cases h1; exact .val _
  | 1,hc =>
   simp only[List.getElem?_cons_succ,List.getElem?_cons_zero,Option.some.injEq] at hc
   subst hc
   cases h1 with
   | base h1=>cases h1; exact .val _
 cases h with
 | base h=>cases h with | tuple _ vs hs hc=>exact .base (.tuple _ vs hs (key rfl hs fun i c h=>.base (hc i c h)))
 | tuple _ vs hs _ hc=>exact .base (.tuple _ vs hs (key rfl hs hc))
theorem ahp {P:Program} {f:FuncId} {xs:List AV} {s:St} {x y:Value} {s1 t:St} {K':AV→St→Prop} (hc:z0 P f xs s fun r s'=>r=.tuple [.val x,.val y]∧s'=s1) (h:St.imp s1 t) (hk:K' (.tuple [.val x,.val y]) t):z0 P f xs s K' :=
 fun F a w I β lam hI vs hn hv=>Calls.mono (hc F a w I β lam hI vs hn hv) fun e w' ⟨v,e1,r,s',I',β',lam',⟨hr,hs⟩,hI',hR⟩=>by
  subst hr hs
  obtain ⟨I2,β2,lam2,h2⟩:=h _ _ _ ⟨I',β',lam',hI'⟩
  exact ⟨v,e1,_,t,I2,β2,lam2,hk,h2,aeY hR⟩
theorem EX (e:zq):∃ x y,dv e=.tuple [.val x,.val y]:=by
 unfold dv
 split
 ·exact ⟨_,_,rfl⟩
 ·exact ⟨_,_,rfl⟩
noncomputable def pB (A:Nat→Nat→Rat) (bb gg:Nat→Rat) (n m:Nat):List (Nat × ze) :=
 [(1,.var [fL gg n,.list 4 .plain (pR A bb n m)]),(2,.var [iv 0,bv false,z7,z7,z7,z7,z7])]
noncomputable def dy:List (Nat × ze):=[(2,.var [iv 0,bv false,z7,z7,z7,z7,z7])]
theorem nY {A:Nat→Nat→Rat} {bb gg:Nat→Rat} {n m:Nat}:rest (pB A bb gg n m):=by
 intro p hp
 simp only[pB,List.mem_cons,List.not_mem_nil,or_false] at hp
 rcases hp with rfl | rfl
 ·exact ⟨.inl (show (_:Nat)<1000 by simp),by simp[ZT]; exact ⟨rfl,rfl⟩⟩
 ·exact ⟨.inl (show (_:Nat)<1000 by simp),by simp[ZT]; exact ⟨rfl,rfl,rfl⟩⟩
theorem Cm:rest dy:=by
 intro p hp
 simp only[dy,List.mem_cons,List.not_mem_nil,or_false] at hp
 subst hp
 exact ⟨.inl (show (_:Nat)<1000 by simp),by simp[ZT]; exact ⟨rfl,rfl,rfl⟩⟩
theorem GC {n m:Nat} {e:zq} {b:Nat} :
  St.imp ⟨[(2,.ptr 2 0),(5,.ptr 1015 0)],dy++tL n m e,[],b⟩ ⟨[(2,.ptr 2 0),(5,tR n m e)],dy,[],b⟩:=by
 refine St.imp.trans (St.imp_freeze (k:=1961) (by simp[xf,dy,tL,vI,nT,t0,jf,lu]; rfl)) ?_
 refine St.imp.trans (St.imp_freeze (k:=1972) (by simp[xf,vI,nT,t0,jf,lu]; rfl)) ?_
 refine St.imp.trans (St.imp_freeze (k:=1987) (by simp[xf,vI,nT,t0,jf,lu]; rfl)) ?_
 refine St.imp.trans (St.imp_freeze (k:=2029) (by simp[xf,vI,t0,jf,lu]; rfl)) ?_
 refine St.imp.trans (St.imp_freeze (k:=1015) (by simp[xf,vI,lu]; rfl)) ?_
 simp[tR,dy]
 exact St.imp.refl
@[simp] theorem aiH {q:Rat} {a b:AV}:zB [f0 q,f1 q,f2 q,a,b] 0 (some 3)=some (fq q):=by simp[zB]
@[simp] theorem ahL {q:Rat} {a b c d x y z:AV}:splice [a,b,c,d,x,y,z] 1 (fr q)=[a,f0 q,f1 q,f2 q,x,y,z]:=by unfold fr; simp[splice,-sY]
theorem N7 {M:Nat}:Am.low M z7=true:=rfl
theorem N8 {A:Nat→Nat→Rat} {bb gg:Nat→Rat} {n m M:Nat}:Am.low M (.agg [.list 3 .plain (fR gg n),.list 4 .plain (pR A bb n m)])=true:=rfl
def ait (n m L:Nat) (A:Nat→Nat→Rat) (bb gg:Nat→Rat) (r:AV):Prop :=
 (∃ x y v,(Opt n m A bb gg x y v∧(∀ j,sz L (x j))∧(∀ i,sz L (y i))∧sz L v)∧r=.agg [iv 1,f0 v,f1 v,f2 v,fL x n,fL y m,z7]) ∨
 (∃ y,(Inf n m A bb y∧∀ i,sz L (y i))∧r=.agg [iv 2,bv false,z7,z7,z7,fL y m,z7]) ∨
 (∃ x ray,(Unb n m A bb gg x ray∧(∀ j,sz L (x j))∧∀ j,sz L (ray j))∧r=.agg [iv 3,bv false,z7,z7,fL x n,z7,fL ray n])
theorem jE:yJ Tryz.prog tv=true:=by kernel_rfl
theorem Uv:yJ Tryz.prog th=true:=by kernel_rfl
theorem AT:yJ Tryz.prog pD=true:=by kernel_rfl
theorem T9:yJ Tryz.prog pO=true:=by kernel_rfl
theorem JX {n m S t:Nat} {A:Nat→Nat→Rat} {bb gg:Nat→Rat} (ht1:m≤t∨n+1≤t) (hm:m<900000) (hn:n<900000) (hS:grow S t+(m+1)*(2*grow S t+1)≤30000000000) (ha:∀ i j,i<m→j<n→sz S (A i j)) (hb:∀ i,i<m→sz S (bb i)) (hg:∀ j,j<n→sz S (gg j))
  (hchk:zd Tryz.prog kM [pA A bb gg n m] (iv 0)) :
  ∃ r,ait n m (grow S t) A bb gg r∧zd Tryz.prog fS [pA A bb gg n m] (.tuple [r,iv 0]):=by
 have ht:m≤t∨n≤t:=by omega
 have hSm:S≤grow S t:=ZM (m:=0) (Nat.zero_le t)
 have h0:1*(2*grow S t+1)≤(m+1)*(2*grow S t+1):=Nat.mul_le_mul_right _ (by omega)
 have hSG:grow S t≤10000000000:=by omega
 have szG:szD S (dG n m A bb gg):=⟨fun i j hi hj=>ha i j hi hj,fun i hi=>hb i hi,fun j hj=>hg j hj,vd⟩
 have nt:∀ {s:St} {K:AV→St→Prop},s.sto=pB A bb gg n m→yH 1000 s.env→ym 1000 s.out→K (.ptr 1015 0) ⟨s.env,pB A bb gg n m++tN n m A bb,s.out,s.base⟩→z0 Tryz.prog tv [pA A bb gg n m] s K :=
  fun hs hE hO hK=>L4 hs nY hE hO (by omega) (by omega) hK
 rcases agp (S:=S) (A:=A) (bb:=bb) ht1 hm hn hSG ha hb with ⟨e,y,hi,hst⟩ | ⟨e,hr,hst⟩
 ·refine ⟨_,.inr (.inl ⟨y,hi,rfl⟩),?_⟩
  refine zx Yw (by simp) ?_
  simp[eA]
  refine za hchk (by simp) (by simp) ?_
  simp[jE]
  refine z9 (nt (by simp[pB]) (by simp[yt,yO,mF,sU,xz,N8]) (by simp[ym]) ?_)
  simp[Uv]
  refine z9 (hst rfl nY (by simp[yt,yO,xz]) (by simp[ym]) ?_)
  simp[pB,tL,eV]
 ·have hS2:Same (ku n gg e) (dG n m A bb gg) (n+m):=E7 hr.bij hr.sol
  have hF2:feas (ku n gg e):=hr.feas
  have hsize:∀ e',Same e' (ku n gg e) (n+m)→e'.r=(ku n gg e).r→e'.c=(ku n gg e).c→szD (grow S t) e':=fun e' he h1 h2 =>
   Same.size_t (d:=dG n m A bb gg) szG (he.trans hS2).symm (by rw[h1]; exact hr.r) (by rw[h2]; exact hr.c) ht
  obtain ⟨e2,hfin,hopt⟩:=QN hS2.bd hF2
  have hSe:Same e2 (dG n m A bb gg) (n+m):=hfin.same.trans hS2
  have her:e2.r=m:=hfin.r.trans hr.r
  have hec:e2.c=n:=hfin.c.trans hr.c
  have sze:szD (grow S t) e2:=hsize e2 hfin.same hfin.r hfin.c
  have hfre:∀ j,j<e2.c→e2.fre j<4000000:=fun j hj=>by have:=je hSe.bd hj; omega
  obtain ⟨fx,fy,hfr⟩:=EX e2
  have so:∀ {K:AV→St→Prop},K (dv e2) ⟨[(2,.ptr 2 0),(5,tR n m e2)],dy,[],0⟩→z0 Tryz.prog wl [.ptr 1015 0] ⟨[(2,.ptr 2 0),(5,.ptr 1015 0),(32,.ptr 1015 0)],dy++tL n m (ku n gg e),[],0⟩ K:=fun {K} hK=>by
   refine z0.pre (NR (env:=[(2,.ptr 2 0),(5,.ptr 1015 0)]) (by simp[t8,qv])) ?_
   refine ahp (hopt rfl Cm (by simp[yt,yO,xz]) (by simp[ym]) (by omega) (by rw[show (ku n gg e).c=n from hr.c]; omega) hr.r hSG hsize ⟨hfr,rfl⟩) GC ?_
   rw[← hfr]
   exact hK
  have pt:=Ke (n:=n) (m:=m) (d:=e2) (by omega) (by omega)
  have pr:=Mx (n:=n) (m:=m) (L:=grow S t) (d:=e2) (by omega) (by omega) (by omega) hfre (by omega) sze.cst
  have hx:fL (nA n e2 m) n=fL (vl e2) n:=congrArg _ (xl fun j hj=>by rw[← her]; exact af5 hSe.bd hj)
  have hy:fL (xL n m e2 e2.c) m=fL (fun i=>- cv e2 (n+i)) m:=congrArg _ (xl fun i hi=>D6 hSe.bd hi)
  rw[hx] at pt
  rw[hy] at pr
  rcases hfin.out with ⟨ho,hcst⟩ | ⟨q,ho,hq,hc0,hall⟩
  ·refine ⟨_,.inl ⟨_,_,_,⟨afY hSe hfin.feas hcst,ab0 hSe.bd sze,fun i=>jt (abE hSe.bd sze (n+i)),sze.v⟩,rfl⟩,?_⟩
   rw[ho] at so
   refine zx Yw (by simp) ?_
   simp[eA]
   refine za hchk (by simp) (by simp) ?_
   simp[jE]
   refine z9 (nt (by simp[pB]) (by simp[yt,yO,mF,sU,xz,N8]) (by simp[ym]) ?_)
   simp[Uv]
   refine z9 (hst rfl nY (by simp[yt,yO,xz]) (by simp[ym]) ?_)
   simp[T9,pB]
   refine z9 (MP (s:=⟨_,pB A bb gg n m++tL n m e,[],0⟩) (L:=grow S t) (d:=e) (g:=gg) (ρ:=pB A bb gg n m) (n:=n) (m:=m) rfl nY ?_ (by simp[ym]) (by omega) (by omega) (by rw[hr.c]; omega) hr.r (by omega) hr.sz (fun j hj=>zG (hg j hj) hSm) ?_)
   ·simp[yt,yO,sU,xz,N6,N7]
   simp[kE,pB,tL]
   refine z9 (so ?_)
   simp[tR,dy,AT]
   refine Ns pt (by simp) (by simp[tR]) (by simp) ?_
   simp[QL]
   refine Ns pr (by simp) (by simp[tR]) (by simp) ?_
   simp[eV]
  ·have ra:=Cc (n:=n) (m:=m) (L:=grow S t) (d:=e2) (q:=q) (by omega) (by omega) hq (by omega) (fun i hi=>sze.a i q (by omega) hq)
   have hra:fL (tV n e2 q m) n=fL (dx e2 q) n:=congrArg _ (xl fun j hj=>by rw[← her]; exact ahs hSe.bd hq hj)
   rw[hra] at ra
   refine ⟨_,.inr (.inr ⟨_,_,⟨agz hSe hfin.feas hq hc0 hall,ab0 hSe.bd sze,adM hSe.bd sze hq⟩,rfl⟩),?_⟩
   rw[ho] at so
   refine zx Yw (by simp) ?_
   simp[eA]
   refine za hchk (by simp) (by simp) ?_
   simp[jE]
   refine z9 (nt (by simp[pB]) (by simp[yt,yO,mF,sU,xz,N8]) (by simp[ym]) ?_)
   simp[Uv]
   refine z9 (hst rfl nY (by simp[yt,yO,xz]) (by simp[ym]) ?_)
   simp[T9,pB]
   refine z9 (MP (s:=⟨_,pB A bb gg n m++tL n m e,[],0⟩) (L:=grow S t) (d:=e) (g:=gg) (ρ:=pB A bb gg n m) (n:=n) (m:=m) rfl nY ?_ (by simp[ym]) (by omega) (by omega) (by rw[hr.c]; omega) hr.r (by omega) hr.sz (fun j hj=>zG (hg j hj) hSm) ?_)
   ·simp[yt,yO,sU,xz,N6,N7]
   simp[kE,pB,tL]
   refine z9 (so ?_)
   simp[tR,dy]
   refine za pt (by simp[tR]) (by simp) ?_
   simp
   refine za ra (by simp[tR]) (by simp) ?_
   simp[eV]
end Go.Proofs.YtjeoklgggppjiaaGreat

namespace Go.Pb
structure Of where
 b:Int
 w:Nat→Int
 v:Int
structure Pb where
 sup:Nat→Int
 opn:Nat→Int
 cls:Nat→Int
 cl:List Int
 of:List Of
def wu {α:Type} (f:α→Int) (l:List α) (k:Nat):Int:=((l.take k).map f).sum
section
variable {α:Type} {f g:α→Int} {l:List α} {k:Nat} {o:α}
theorem jj:wu f l 0=0:=rfl
theorem mU (h:l[k]?=some o):l.take (k+1)=l.take k++[o]:=by rw[List.take_add_one,h]; rfl
theorem nV (h:l[k]?=some o):wu f l (k+1)=wu f l k+f o:=by
 unfold wu
 rw[mU h,List.map_append,List.sum_append]
 simp
theorem lM:wu f l l.length=(l.map f).sum:=by simp[wu]
theorem sE {a b:Int} (h:∀ o∈l,a≤f o∧f o≤b):∀ k,k≤l.length→a*k≤wu f l k∧wu f l k≤b*k
 | 0,_=>by simp[wu]
 | k+1,hk=>by
  have hk':k<l.length:=by omega
  have hg:l[k]?=some l[k]:=by simp[hk']
  obtain ⟨h1,h2⟩:=sE h k (by omega)
  obtain ⟨h3,h4⟩:=h l[k] (List.getElem_mem hk')
  rw[nV hg,Int.natCast_add,Int.mul_add,Int.mul_add]
  omega
theorem Ys {a b:Int} (h:∀ o∈l,a≤f o∧f o≤b):a*l.length≤(l.map f).sum∧(l.map f).sum≤b*l.length:=by
 have:=sE h l.length (Nat.le_refl _)
 rwa [lM] at this
end
def okB (w:Nat→Int):Prop:=∀ j,j<6→0≤w j∧w j≤4
instance (w:Nat→Int):Decidable (okB w):=by unfold okB; exact inferInstance
def kK (w:Nat→Int):Prop:=∀ j,j<6→w j=0
instance (w:Nat→Int):Decidable (kK w):=by unfold kK; exact inferInstance
def eqB (w u:Nat→Int):Prop:=∀ j,j<6→w j=u j
instance (w u:Nat→Int):Decidable (eqB w u):=by unfold eqB; exact inferInstance
def leB (w u:Nat→Int):Prop:=∀ j,j<6→w j≤u j
instance (w u:Nat→Int):Decidable (leB w u):=by unfold leB; exact inferInstance
def Pb.clOf (P:Pb) (b:Int):Int:=P.cl.getD b.toNat 0
def Pb.rows (P:Pb):Nat:=P.cl.length+12
def Pb.coef (P:Pb) (r:Nat) (o:Of):Int :=
 if r<P.cl.length then (if o.b=r then 1 else 0)
 else if r<P.cl.length+6 then o.w (r-P.cl.length)
 else if P.cls (r-P.cl.length-6)=0∨P.cls (r-P.cl.length-6)=P.clOf o.b then 0 else o.w (r-P.cl.length-6)
def Pb.bnd (P:Pb) (r:Nat):Int :=
 if r<P.cl.length then 1 else if r<P.cl.length+6 then P.sup (r-P.cl.length) else P.opn (r-P.cl.length-6)
def Pb.fits (P:Pb) (l:List Of):Prop:=∀ r,r<P.rows→(l.map (P.coef r)).sum≤P.bnd r
instance (P:Pb) (l:List Of):Decidable (P.fits l):=by unfold Pb.fits; exact inferInstance
def Pb.okC (P:Pb) (j:Nat):Prop:=0≤P.cls j∧P.cls j≤4∧0≤P.opn j∧P.opn j≤P.sup j∧(P.cls j=0→P.opn j=P.sup j)
instance (P:Pb) (j:Nat):Decidable (P.okC j):=by unfold Pb.okC; exact inferInstance
def Pb.okCs (P:Pb):Prop:=∀ j,j<6→P.okC j
instance (P:Pb):Decidable P.okCs:=Nat.decidableBallLT 6 fun j _=>P.okC j
def mI (c:Int):Prop:=0≤c∧c≤4
instance (c:Int):Decidable (mI c):=by unfold mI; exact inferInstance
def Pb.frameE (P:Pb):Int :=
 if ¬ okB P.sup then 4 else if ¬ P.okCs then 4 else if 8<P.cl.length∨160<P.of.length then 3 else if ∀ c∈P.cl,mI c then 0 else 4
def ri (n:Nat) (o:Of):Int:=if o.b<0∨(n:Int)≤o.b then 6 else if o.v<1∨1000000<o.v then 4 else if okB o.w then 0 else 4
def Pb.offE (P:Pb) (o:Of):Int:=if ri P.cl.length o≠0 then ri P.cl.length o else if kK o.w then 4 else if P.fits [o] then 0 else 14
def q8 (o o':Of):Prop:=o.b=o'.b∧eqB o.w o'.w
instance (o o':Of):Decidable (q8 o o'):=by unfold q8; exact inferInstance
def Pb.offI (P:Pb) (i:Nat) (o:Of):Int:=if P.offE o≠0 then P.offE o else if ∃ o'∈P.of.take i,q8 o' o then 7 else 0
def Pb.chkL (P:Pb):Nat→Int
 | 0=>0
 | i+1=>if P.chkL i=0 then (match P.of[i]? with | some o=>P.offI i o | none=>0) else P.chkL i
def Pb.chk (P:Pb):Int:=if P.frameE=0 then P.chkL P.of.length else P.frameE
section
variable {P:Pb}
theorem Qq {i:Nat} (h:P.chkL i≠0):∀ d,P.chkL (i+d)=P.chkL i
 | 0=>rfl
 | d+1=>by
  have:=Qq h d
  rw[← Nat.add_assoc,Pb.chkL,this,if_neg h]
theorem jV {i k:Nat} {o:Of} (h0:P.chkL i=0) (hi:P.of[i]?=some o) (he:P.offI i o≠0) (hk:i<k):P.chkL k=P.offI i o:=by
 have h1:P.chkL (i+1)=P.offI i o:=by rw[Pb.chkL,if_pos h0,hi]
 have h2:=Qq (P:=P) (i:=i+1) (by rw[h1]; exact he) (k-(i+1))
 rw[show i+1+(k-(i+1))=k by omega] at h2
 rw[h2,h1]
theorem Qp {i:Nat} {o:Of} (h0:P.chkL i=0) (hi:P.of[i]?=some o) (he:P.offI i o=0):P.chkL (i+1)=0:=by rw[Pb.chkL,if_pos h0,hi]; exact he
theorem Es {k:Nat} (h:P.chkL k=0):∀ i o,i<k→P.of[i]?=some o→P.offI i o=0:=by
 induction k with
 | zero=>intro i o hi; omega
 | succ k ih =>
  have hk:P.chkL k=0:=by
   rw[Pb.chkL] at h
   split at h
   ·rename_i h0; exact h0
   ·exact h
  intro i o hi ho
  by_cases e:i=k
  ·subst e
   rw[Pb.chkL,if_pos hk,ho] at h
   exact h
  ·exact ih hk i o (by omega) ho
structure Pb.Good (P:Pb):Prop where
 sup:okB P.sup
 set:P.okCs
 n:P.cl.length≤8
 k:P.of.length≤160
 cl:∀ c∈P.cl,mI c
 off:∀ o∈P.of,P.offE o=0
 new:∀ (i l:Nat) o o',l<i→P.of[i]?=some o→P.of[l]?=some o'→¬ q8 o' o
theorem xQ (h:P.chk=0):P.Good:=by
 unfold Pb.chk at h
 split at h
 ·rename_i hf
  unfold Pb.frameE at hf
  split at hf
  ·cases hf
  ·rename_i h1
   split at hf
   ·cases hf
   ·rename_i h2
    split at hf
    ·cases hf
    ·rename_i h3
     split at hf
     ·rename_i h4
      have hz:=Es h
      refine ⟨Decidable.not_not.1 h1,Decidable.not_not.1 h2,by omega,by omega,h4,fun o ho=>?_,fun i l o o' hl hi hlo hs=>?_⟩
      ·obtain ⟨i,hi,rfl⟩:=List.getElem_of_mem ho
       have:=hz i P.of[i] hi (by simp[hi])
       unfold Pb.offI at this
       split at this
       ·exact this
       ·rename_i h5; exact Decidable.not_not.1 h5
      ·have hi':i<P.of.length:=(List.getElem?_eq_some_iff.1 hi).1
       have:=hz i o hi' hi
       unfold Pb.offI at this
       split at this
       ·rename_i h5; exact h5 this
       ·rw[if_pos ⟨o',List.mem_of_getElem? (i:=l) (by rw[List.getElem?_take,if_pos hl]; exact hlo),hs⟩] at this
        cases this
     ·cases hf
 ·rename_i hf; exact absurd h hf
theorem yp {o:Of} (h:P.offE o=0):ri P.cl.length o=0∧¬ kK o.w∧P.fits [o]:=by
 unfold Pb.offE at h
 split at h
 ·rename_i h1; exact absurd h h1
 ·rename_i h1
  split at h
  ·cases h
  ·rename_i h2
   split at h
   ·rename_i h3; exact ⟨Decidable.not_not.1 h1,h2,h3⟩
   ·cases h
theorem yG {n:Nat} {o:Of} (h:ri n o=0):(0≤o.b∧o.b<n)∧(1≤o.v∧o.v≤1000000)∧okB o.w:=by
 unfold ri at h
 split at h
 ·cases h
 ·rename_i h1
  split at h
  ·cases h
  ·rename_i h2
   split at h
   ·rename_i h3; exact ⟨by omega,by omega,h3⟩
   ·cases h
theorem uK {r:Nat} {o:Of} (hw:okB o.w) (hr:r<P.rows):0≤P.coef r o∧P.coef r o≤4:=by
 unfold Pb.rows at hr
 unfold Pb.coef
 split
 ·split<;>omega
 ·split
  ·exact hw _ (by omega)
  ·split
   ·omega
   ·exact hw _ (by omega)
end
end Go.Pb

namespace Go.Proofs.YtjeoklgggppjiaaGreat
open Go Go.Am Go.Pb
def bI (w:Nat→Int):List Int:=[w 0,w 1,w 2,w 3,w 4,w 5]
@[irreducible] def bC (w:Nat→Int):List AV:=(bI w).map iv
theorem vS (w:Nat→Int):bC w=[iv (w 0),iv (w 1),iv (w 2),iv (w 3),iv (w 4),iv (w 5)]:=by unfold bC; rfl
section
variable {w u:Nat→Int} {k l a b M:Nat} {e:ze}
@[simp] theorem ae2:(bC w).length=6:=by rw[vS]; rfl
@[simp] theorem agM:(bC w).all rf=true:=by rw[vS]; rfl
theorem ae3 {x:AV} (h:x∈bC w):∃ n,x=iv n:=by
 unfold bC at h
 obtain ⟨n,_,rfl⟩:=List.mem_map.1 h
 exact ⟨n,rfl⟩
@[simp] theorem ahU:(∀ x,x∈bC w→rf x=true)=True:=eq_true fun x h=>by obtain ⟨n,rfl⟩:=ae3 h; rfl
@[simp] theorem BB:(bC w).map strip=bC w:=by rw[vS]; rfl
@[simp] theorem aku:(bC w).map (dg l)=bC w:=by rw[vS]; simp
@[simp] theorem ajE:xo k (bC w)=false:=by rw[vS]; simp
theorem PU (h:k<6):(bC w)[k]?=some (iv (w k)):=by
 rw[vS]
 match k,h with
 | 0,_=>rfl
 | 1,_=>rfl
 | 2,_=>rfl
 | 3,_=>rfl
 | 4,_=>rfl
 | 5,_=>rfl
 | n+6,h=>omega
@[simp] theorem ai4 {h:k<(bC w).length}:(bC w)[k]=iv (w k):=by
 have h2:k<6:=by simpa using h
 have:=PU (w:=w) h2
 rw[List.getElem?_eq_getElem h] at this
 exact Option.some.inj this
@[simp] theorem ah2:zB (bC w) 0 (some 6)=some (.agg (bC w)):=by rw[vV ae2 agM,BB]
theorem ZL (h:k<6):zB (bC w) k none=some (iv (w k)):=by
 simp[zB,PU h]
theorem Uw (h:k<6):vC (bC w) k none=some (iv (w k)):=by
 simp[vC,PU h]
@[simp] theorem nU:fg 6 (bC w)=true:=by unfold bC; rw[TN]; rfl
@[simp] theorem aiN:qU (bC w)=bI w:=by unfold bC; exact ZP _
theorem Pu:(bI w=bI u)↔eqB w u:=by
 unfold bI eqB
 constructor
 ·intro h j hj
  simp only[List.cons.injEq,and_true] at h
  obtain ⟨h0,h1,h2,h3,h4,h5⟩:=h
  match j,hj with
  | 0,_=>exact h0
  | 1,_=>exact h1
  | 2,_=>exact h2
  | 3,_=>exact h3
  | 4,_=>exact h4
  | 5,_=>exact h5
  | n+6,h=>omega
 ·intro h
  rw[h 0 (by omega),h 1 (by omega),h 2 (by omega),h 3 (by omega),h 4 (by omega),h 5 (by omega)]
end
@[irreducible] def oC (o:Of):List AV:=iv o.b::(bC o.w++[iv o.v])
theorem sD (o:Of):oC o=[iv o.b,iv (o.w 0),iv (o.w 1),iv (o.w 2),iv (o.w 3),iv (o.w 4),iv (o.w 5),iv o.v]:=by unfold oC; rw[vS]; rfl
section
variable {o:Of} {k l:Nat}
@[simp] theorem afP:(oC o).length=8:=by rw[sD]; rfl
@[simp] theorem abO:(oC o).all rf=true:=by rw[sD]; rfl
@[simp] theorem aib:(∀ x,x∈oC o→rf x=true)=True:=eq_true fun x h=>List.all_eq_true.1 abO x h
@[simp] theorem AO:(oC o).map strip=oC o:=by rw[sD]; rfl
@[simp] theorem ak5:(oC o).map (dg l)=oC o:=by rw[sD]; simp
@[simp] theorem ake:xo k (oC o)=false:=by rw[sD]; simp
@[simp] theorem aiT:(oC o)[0]?=some (iv o.b):=by rw[sD]; rfl
@[simp] theorem aiU:(oC o)[7]?=some (iv o.v):=by rw[sD]; rfl
@[simp] theorem ak3 {h:0<(oC o).length}:(oC o)[0]=iv o.b:=by have:=aiT (o:=o); rw[List.getElem?_eq_getElem h] at this; exact Option.some.inj this
@[simp] theorem ak4 {h:7<(oC o).length}:(oC o)[7]=iv o.v:=by have:=aiU (o:=o); rw[List.getElem?_eq_getElem h] at this; exact Option.some.inj this
theorem DC (h:k<6):(oC o)[1+k]?=some (iv (o.w k)):=by
 rw[sD]
 match k,h with
 | 0,_=>rfl
 | 1,_=>rfl
 | 2,_=>rfl
 | 3,_=>rfl
 | 4,_=>rfl
 | 5,_=>rfl
 | n+6,h=>omega
@[simp] theorem ah8:zB (oC o) 0 (some 8)=some (.agg (oC o)):=by rw[vV afP abO,AO]
@[simp] theorem ag1:zB (oC o) 0 none=some (iv o.b):=by simp[zB]
@[simp] theorem ag2:zB (oC o) 7 none=some (iv o.v):=by simp[zB]
@[simp] theorem ag4:zB (oC o) 1 (some 6)=some (.agg (bC o.w)):=by rw[sD,vS]; rfl
theorem bt (h:k<6):zB (oC o) (1+k) none=some (iv (o.w k)):=by simp[zB,DC h]
end
def clR (l:List Int):List (List AV):=l.map fun c=>[iv c]
abbrev clA (l:List Int):AV:=.list 1 .plain (clR l)
def ofR (l:List Of):List (List AV):=l.map oC
abbrev ofA (l:List Of):AV:=.list 8 .plain (ofR l)
section
variable {l:List Int} {L:List Of} {k:Nat} {c:Int} {o:Of}
@[simp] theorem YN:(clR l).length=l.length:=by simp[clR]
@[simp] theorem ajI:yF (clR l)=true:=by simp[clR,yF]
@[simp] theorem ajJ:zQ (clR l)=clR l:=by simp[clR,zQ]
@[simp] theorem uM:(ofR L).length=L.length:=by simp[ofR]
@[simp] theorem akh:yF (ofR L)=true:=by simp[ofR,yF]
@[simp] theorem aki:zQ (ofR L)=ofR L:=by simp[ofR,zQ]
end
@[irreducible] def pbX (P:Pb) (c o:AV):List AV:=bC P.sup++bC P.opn++bC P.cls++[c,o]
theorem yX (P:Pb) (c o:AV):pbX P c o=[iv (P.sup 0),iv (P.sup 1),iv (P.sup 2),iv (P.sup 3),iv (P.sup 4),iv (P.sup 5),iv (P.opn 0),iv (P.opn 1),iv (P.opn 2),iv (P.opn 3),iv (P.opn 4),iv (P.opn 5),
  iv (P.cls 0),iv (P.cls 1),iv (P.cls 2),iv (P.cls 3),iv (P.cls 4),iv (P.cls 5),c,o]:=by unfold pbX; rw[vS,vS,vS]; rfl
abbrev pbC (P:Pb):List AV:=pbX P (clA P.cl) (ofA P.of)
section
variable {P:Pb} {c o:AV} {k l:Nat}
@[simp] theorem adC:(pbX P c o).length=20:=by rw[yX]; rfl
theorem af1 (hc:rf c=true) (ho:rf o=true):(pbX P c o).all rf=true:=by rw[yX]; simp[hc,ho]
@[simp] theorem D1:(pbC P).all rf=true:=af1 rfl rfl
@[simp] theorem aho:(∀ x,x∈pbC P→rf x=true)=True:=eq_true fun x h=>List.all_eq_true.1 D1 x h
@[simp] theorem D2:(pbX P c o).map strip=pbX P (strip c) (strip o):=by rw[yX,yX]; rfl
@[simp] theorem akk:(pbX P c o).map (dg l)=pbX P (dg l c) (dg l o):=by rw[yX,yX]; simp
@[simp] theorem ajt:xo k (pbX P c o)=(zT k c||zT k o):=by rw[yX]; simp[xo]
@[simp] theorem ag6:zB (pbC P) 0 (some 20)=some (.agg (pbC P)):=by rw[vV adC D1,D2]; rfl
@[simp] theorem aha:zB (pbX P c o) 0 (some 6)=some (.agg (bC P.sup)):=by rw[yX,vS]; rfl
@[simp] theorem ag5:zB (pbX P c o) 6 (some 6)=some (.agg (bC P.opn)):=by rw[yX,vS]; rfl
@[simp] theorem ag0:zB (pbX P c o) 12 (some 6)=some (.agg (bC P.cls)):=by rw[yX,vS]; rfl
@[simp] theorem afZ:(pbX P c o)[18]?=some c:=by rw[yX]; rfl
@[simp] theorem af0:(pbX P c o)[19]?=some o:=by rw[yX]; rfl
@[simp] theorem ah0:zB (pbX P c o) 18 none=some c:=by rw[yX]; rfl
@[simp] theorem ah1:zB (pbX P c o) 19 none=some o:=by rw[yX]; rfl
@[simp] theorem ajr {h:18<(pbX P c o).length}:(pbX P c o)[18]=c:=by have:=afZ (P:=P) (c:=c) (o:=o); rw[List.getElem?_eq_getElem h] at this; exact Option.some.inj this
@[simp] theorem ajs {h:19<(pbX P c o).length}:(pbX P c o)[19]=o:=by have:=af0 (P:=P) (c:=c) (o:=o); rw[List.getElem?_eq_getElem h] at this; exact Option.some.inj this
theorem ww (h:k<6):zB (pbX P c o) k none=some (iv (P.sup k)):=by
 rw[yX]
 match k,h with
 | 0,_=>rfl
 | 1,_=>rfl
 | 2,_=>rfl
 | 3,_=>rfl
 | 4,_=>rfl
 | 5,_=>rfl
 | n+6,h=>omega
theorem yn (h:k<6):zB (pbX P c o) (6+k) none=some (iv (P.opn k)):=by
 rw[yX]
 match k,h with
 | 0,_=>rfl
 | 1,_=>rfl
 | 2,_=>rfl
 | 3,_=>rfl
 | 4,_=>rfl
 | 5,_=>rfl
 | n+6,h=>omega
theorem ye (h:k<6):zB (pbX P c o) (12+k) none=some (iv (P.cls k)):=by
 rw[yX]
 match k,h with
 | 0,_=>rfl
 | 1,_=>rfl
 | 2,_=>rfl
 | 3,_=>rfl
 | 4,_=>rfl
 | 5,_=>rfl
 | n+6,h=>omega
theorem aac (h:k<6):(pbX P c o)[k]?=some (iv (P.sup k)):=by have:=ww (P:=P) (c:=c) (o:=o) h; simpa [zB] using this
theorem aab (h:k<6):(pbX P c o)[6+k]?=some (iv (P.opn k)):=by have:=yn (P:=P) (c:=c) (o:=o) h; simpa [zB] using this
theorem Ux (h:k<6):(pbX P c o)[12+k]?=some (iv (P.cls k)):=by have:=ye (P:=P) (c:=c) (o:=o) h; simpa [zB] using this
@[simp] theorem aif {x:AV}:splice (pbX P c o) 18 [x]=pbX P x o:=by rw[yX,yX]; rfl
@[simp] theorem aig {x:AV}:splice (pbX P c o) 19 [x]=pbX P c x:=by rw[yX,yX]; rfl
end
def RN (w:Nat→Int) (k:Nat):St:={env:=[(5,.agg (bC w)),(6,iv k)],sto:=[]}
theorem PW {w:Nat→Int}:zd Tryz.prog qB [.agg (bC w)] (iv (if okB w then 0 else 4)):=by
 refine zx R7 (by simp) ?_
 simp[dN]
 refine zr (RN w) (fun i=>∀ j,j<i→0≤w j∧w j≤4) 6 (by simp[RN]) (fun j hj=>by omega) (fun i hi hI=>?_) (fun hI=>?_)
 ·have e:(i:Int)<6:=by omega
  have w1:=zn (k:=i) (by omega)
  by_cases c1:w i<0
  ·rw[if_neg fun h=>by have:=h i hi; omega]
   simp[vM,RN,e,Uw hi,c1,q7]
  ·by_cases c2:4<w i
   ·rw[if_neg fun h=>by have:=h i hi; omega]
    simp[vM,RN,e,Uw hi,c1,c2,q7]
   ·simp[vM,RN,e,Uw hi,c1,c2,w1]
    exact fun j hj=>by
     by_cases e:j=i
     ·subst e; omega
     ·exact hI j (by omega)
 ·rw[if_pos (show okB w from hI)]
  simp[vM,RN,jL,q7]
section
variable {P:Pb} {r n:Nat} {o:Of}
theorem Nc (h:0≤o.b∧o.b<P.cl.length):∃ b:Nat,o.b=b∧b<P.cl.length∧P.cl[b]?=some (P.clOf o.b):=by
 refine ⟨o.b.toNat,by omega,by omega,?_⟩
 unfold Pb.clOf
 have h2:o.b.toNat<P.cl.length:=by omega
 rw[List.getD_eq_getElem?_getD,List.getElem?_eq_getElem h2]
 rfl
@[simp] theorem aiz {l:List Int} {b:Nat} {h:b<(clR l).length}:(clR l)[b]=[iv (l[b]'(by simpa using h))]:=by simp[clR]
theorem TC (hn:P.cl.length≤1000) (hb:0≤o.b∧o.b<P.cl.length) (hr:r<P.rows):zd Tryz.prog yr [.agg (pbC P),iv r,.agg (oC o)] (iv (P.coef r o)):=by
 unfold Pb.rows at hr
 obtain ⟨n,hn'⟩:∃ n,P.cl.length=n:=⟨_,rfl⟩
 have w1:IntKind.i64.wrap ((r:Int)-n)=(r:Int)-n:=by rw[wrap64]<;>omega
 refine zx cj (by simp) ?_
 unfold Pb.coef
 rw[hn'] at hr hb hn ⊢
 by_cases h1:r<n
 ·rw[if_pos h1]
  have c1:((r:Int)-n)<0:=by omega
  by_cases h2:o.b=r
  ·rw[if_pos h2]
   simp[yM,hn',w1,c1,h2,yS]
  ·rw[if_neg h2]
   simp[yM,hn',w1,c1,h2,yS]
 ·rw[if_neg h1]
  have c1:¬ ((r:Int)-n)<0:=by omega
  obtain ⟨k,hk⟩:∃ k,r=n+k:=⟨r-n,by omega⟩
  have e1:(r:Int)-n=k:=by omega
  have e2:r-n=k:=by omega
  rw[e1] at w1 c1
  by_cases h2:k<6
  ·rw[if_pos (by omega),e2]
   have c2:(k:Int)<6:=by omega
   simp[yM,hn',e1,w1,c1,c2,DC h2,yS]
  ·obtain ⟨j,hj0⟩:∃ j,k=6+j:=⟨k-6,by omega⟩
   rw[if_neg (by omega),e2,show k-6=j by omega]
   have c2:¬ (k:Int)<6:=by omega
   have hj:j<6:=by omega
   have hj':(j:Int)<6:=by omega
   have e3:(k:Int)-6=j:=by omega
   have w2:IntKind.i64.wrap (j:Int)=j:=by rw[wrap64]<;>omega
   obtain ⟨b,hb1,hb2,hb3⟩:=Nc (P:=P) (o:=o) (by rw[hn']; exact hb)
   have hbn:(b:Int)<n:=by omega
   have hbn':b<n:=by omega
   have hc:P.cl[b]?=some (P.clOf (b:Int)):=by rw[← hb1]; exact hb3
   have hE:P.cl[b]=P.clOf (b:Int):=by rw[List.getElem?_eq_getElem hb2] at hc; exact Option.some.inj hc
   rw[hb1]
   by_cases h3:P.cls j=0
   ·rw[if_pos (.inl h3)]
    simp[yM,hn',e1,w1,c1,c2,e3,w2,hj',Ux hj,h3,yS]
   ·by_cases h4:P.cls j=P.clOf (b:Int)
    ·rw[if_pos (.inr h4)]
     rw[h4] at h3
     simp[yM,hn',e1,w1,c1,c2,e3,w2,hj',Ux hj,h3,hb1,hbn,hbn',hE,h4,yS]
    ·rw[if_neg (by intro h; exact h.elim h3 h4)]
     simp[yM,hn',e1,w1,c1,c2,e3,w2,hj',Ux hj,h3,hb1,hbn,hbn',hE,h4,bt hj,yS]
end
section
variable {P:Pb} {r n:Nat} {o:Of} {L:List Of}
theorem MJ (hn:P.cl.length≤1000):zd Tryz.prog wk [.agg (pbC P)] (iv P.rows):=by
 refine zx cn (by simp) ?_
 have w1:IntKind.i64.wrap ((P.cl.length:Int)+12)=(P.cl.length:Int)+12:=by rw[wrap64]<;>omega
 have e:((P.rows:Nat):Int)=(P.cl.length:Int)+12:=by unfold Pb.rows; omega
 rw[e]
 simp[nM,w1,nW]
theorem Ra (hn:P.cl.length≤1000) (hr:r<P.rows):zd Tryz.prog xS [.agg (pbC P),iv r] (iv (P.bnd r)):=by
 unfold Pb.rows at hr
 obtain ⟨n,hn'⟩:∃ n,P.cl.length=n:=⟨_,rfl⟩
 have w1:IntKind.i64.wrap ((r:Int)-n)=(r:Int)-n:=by rw[wrap64]<;>omega
 refine zx dD (by simp) ?_
 unfold Pb.bnd
 rw[hn'] at hr hn ⊢
 by_cases h1:r<n
 ·rw[if_pos h1]
  have c1:((r:Int)-n)<0:=by omega
  simp[vf,hn',w1,c1,vi]
 ·rw[if_neg h1]
  have c1:¬ ((r:Int)-n)<0:=by omega
  obtain ⟨k,hk⟩:∃ k,r=n+k:=⟨r-n,by omega⟩
  have e1:(r:Int)-n=k:=by omega
  have e2:r-n=k:=by omega
  rw[e1] at w1 c1
  by_cases h2:k<6
  ·rw[if_pos (by omega),e2]
   have c2:(k:Int)<6:=by omega
   simp[vf,hn',e1,w1,c1,c2,aac h2,vi]
  ·obtain ⟨j,hj0⟩:∃ j,k=6+j:=⟨k-6,by omega⟩
   rw[if_neg (by omega),e2,show k-6=j by omega]
   have c2:¬ (k:Int)<6:=by omega
   have hj:j<6:=by omega
   have hj':(j:Int)<6:=by omega
   have e3:(k:Int)-6=j:=by omega
   have w2:IntKind.i64.wrap (j:Int)=j:=by rw[wrap64]<;>omega
   simp[vf,hn',e1,w1,c1,c2,e3,w2,hj',aab hj,vi]
end
def MY (P:Pb) (L:List Of) (r:Nat):St:={env:=[(1,ofA L),(2,.ptr 2 0),(5,.fn (.func yr) []),(11,iv P.rows),(12,iv r)],sto:=[(2,.var (pbC P))]}
def SA (P:Pb) (L:List Of) (r k:Nat):St :=
 {env:=[(1,ofA L),(2,.ptr 2 0),(5,.fn (.func yr) []),(6,iv r),(7,iv (wu (P.coef r) L k)),(11,iv P.rows),(12,iv r),(15,ofA L),(16,iv L.length),(17,iv k)],sto:=[(2,.var (pbC P))]}
@[simp] theorem aiV {l:List Of} {b:Nat} {h:b<(ofR l).length}:(ofR l)[b]=oC (l[b]'(by simpa using h)):=by simp[ofR]
section
variable {P:Pb} {r n:Nat} {o:Of} {L:List Of}
theorem NF (hn:P.cl.length≤1000) (hL:L.length≤1000) (hb:∀ o∈L,0≤o.b∧o.b<P.cl.length) (hw:∀ o∈L,okB o.w):zd Tryz.prog wh [.agg (pbC P),ofA L] (bv (decide (P.fits L))):=by
 have hok:yJ Tryz.prog yr=true:=by kernel_rfl
 have hR:P.rows≤1012:=by unfold Pb.rows; omega
 refine zx cm (by simp) ?_
 simp[nL]
 refine za (MJ hn) (by simp) (by simp) ?_
 simp
 refine zr (MY P L) (fun r=>∀ q,q<r→(L.map (P.coef q)).sum≤P.bnd q) P.rows (by simp[MY]) (fun q hq=>by omega) (fun r hr hI=>?_) (fun hI=>?_)
 ·have e:(r:Int)<P.rows:=by omega
  have w1:=zn (k:=r) (by omega)
  simp[ub,MY,e]
  refine zr (SA P L r) (fun _=>True) L.length (by simp[SA,jj]) trivial (fun k hk _=>?_) (fun _=>?_)
  ·have e':(k:Int)<L.length:=by omega
   have hg:L[k]?=some L[k]:=by simp[hk]
   have hm:L[k]∈L:=List.getElem_mem hk
   have w2:=zn (k:=k) (by omega)
   obtain ⟨p1,p2⟩:=sE (f:=P.coef r) (fun o ho=>uK (P:=P) (hw o ho) hr) k (by omega)
   obtain ⟨p3,p4⟩:=uK (P:=P) (hw _ hm) hr
   have w3:IntKind.i64.wrap (wu (P.coef r) L k+P.coef r L[k])=wu (P.coef r) L k+P.coef r L[k]:=by rw[wrap64]<;>omega
   have hs:=nV (f:=P.coef r) hg
   simp[ua,SA,e',hk,hok]
   refine za (TC hn (hb _ hm) hr) (by simp) (by simp) ?_
   simp[w2,w3,hs,SA]
  ·have hall:wu (P.coef r) L L.length=(L.map (P.coef r)).sum:=lM
   simp[ua,SA,rT]
   refine za (Ra hn hr) (by simp) (by simp) ?_
   by_cases hc:P.bnd r<(L.map (P.coef r)).sum
   ·have hf:¬ P.fits L:=fun h=>by have:=h r hr; omega
    simp[hall,hc,hf,tQ]
   ·simp[hall,hc,rU,w1,MY]
    exact fun q hq=>by
     by_cases eq:q=r
     ·subst eq; omega
     ·exact hI q (by omega)
 ·have hf:P.fits L:=hI
  simp[ub,MY,hf,rV,tQ]
end
section
variable {P:Pb} {r n:Nat} {o:Of} {L:List Of}
theorem aa4:zd Tryz.prog nh [iv n,.agg (oC o)] (iv (ri n o)):=by
 refine zx U1 (by simp) ?_
 unfold ri
 by_cases c1:o.b<0
 ·rw[if_pos (.inl c1)]
  simp[wV,c1,w9]
 ·by_cases c2:(n:Int)≤o.b
  ·rw[if_pos (.inr c2)]
   simp[wV,c1,c2,w9]
  ·rw[if_neg (by omega)]
   by_cases c3:o.v<1
   ·rw[if_pos (.inl c3)]
    simp[wV,c1,c2,c3,w9]
   ·by_cases c4:1000000<o.v
    ·rw[if_pos (.inr c4)]
     simp[wV,c1,c2,c3,c4,w9]
    ·rw[if_neg (by omega)]
     simp[wV,c1,c2,c3,c4]
     refine za (PW (w:=o.w)) (by simp) (by simp) ?_
     simp[w9]
theorem NU {f:FuncId} {x y y' r:AV} (h:zd Tryz.prog f [x,y'] r) (hy:AV.imp y y'):zd Tryz.prog f [x,y] r:=fun I vs w h1 h2 h3 =>
 h I vs w h1 h2 fun i a hi=>by
  match i,hi with
  | 0,hi=>exact h3 0 a hi
  | 1,hi=>simp at hi; subst hi; exact hy _ _ _ (h3 1 y rfl)
  | i+2,hi=>simp at hi
theorem KH:[iv 0,iv 0,iv 0,iv 0,iv 0,iv 0]=bC (fun _=>0):=by rw[vS]
theorem adr (hn:P.cl.length≤1000):zd Tryz.prog tf [.agg (pbC P),.agg (oC o)] (iv (P.offE o)):=by
 have hk:kds Tryz.prog Op.maxDepth wy=some (List.replicate 6 (.i .i64)):=by kernel_rfl
 have hg:Tryz.prog.eqGuardType Tryz.prog.depth wy=false:=by kernel_rfl
 have hA:agT Tryz.prog wy=true:=by kernel_rfl
 have hz:decide (bI o.w=bI (fun _=>0))=decide (kK o.w):=by
  rw[decide_eq_decide,Pu]
  exact Iff.rfl
 refine zx dF (by simp) ?_
 simp[pH]
 refine za (aa4 (n:=P.cl.length) (o:=o)) (by simp) (by simp) ?_
 unfold Pb.offE
 by_cases c1:ri P.cl.length o=0
 ·obtain ⟨hb,_,hw⟩:=yG c1
  rw[if_neg (fun h=>h c1)]
  simp[c1,KH]
  rw[sQ hk hg hA nU nU]
  by_cases c2:kK o.w
  ·rw[if_pos c2]
   simp[hz,c2,xW]
  ·rw[if_neg c2]
   simp[hz,c2]
   have hf:=NF (P:=P) (L:=[o]) hn (by simp) (fun x hx=>by rw[List.mem_singleton.1 hx]; exact hb) (fun x hx=>by rw[List.mem_singleton.1 hx]; exact hw)
   refine za (NU hf (wd (rows:=[oC o]))) (by simp) (by simp) ?_
   by_cases c3:P.fits [o]
   ·simp[c3,xW]
   ·simp[c3,xW]
 ·rw[if_pos c1]
  simp[c1,xW]
end
section
variable {P:Pb} {r n:Nat} {o:Of} {L:List Of}
def nd (P:Pb) (k:Nat):St:={env:=[(1,.ptr 1 0),(16,iv k)],sto:=[(1,.var (pbC P))]}
def Xd (P:Pb) (k:Nat):St:={env:=[(76,clA P.cl),(77,iv P.cl.length),(78,iv k)],sto:=[]}
theorem frC (P:Pb) (h:∀ i,(hi:i<P.cl.length)→mI P.cl[i]):∀ c∈P.cl,mI c:=fun c hc=>by
 obtain ⟨i,hi,rfl⟩:=List.getElem_of_mem hc
 exact h i hi
theorem acQ:zd Tryz.prog te [.agg (pbC P)] (iv P.frameE):=by
 refine zx dE (by simp) ?_
 simp[pG]
 refine za (PW (w:=P.sup)) (by simp) (by simp) ?_
 unfold Pb.frameE
 by_cases c1:okB P.sup
 ·rw[if_neg (fun h=>h c1)]
  simp[c1]
  refine zr (nd P) (fun r=>∀ q,q<r→P.okC q) 6 (by simp[nd]) (fun q hq=>by omega) (fun k hk hI=>?_) (fun hI=>?_)
  ·have e:(k:Int)<6:=by omega
   have w1:=zn (k:=k) (by omega)
   by_cases d:P.okC k
   ·have d':=d
    unfold Pb.okC at d'
    obtain ⟨d1,d2,d3,d4,d5⟩:=d'
    have b1:¬ P.cls k<0:=by omega
    have b2:¬ 4<P.cls k:=by omega
    have b3:¬ P.opn k<0:=by omega
    have b4:¬ P.sup k<P.opn k:=by omega
    have hx:∀ q,q<k+1→P.okC q:=fun q hq=>by
     by_cases eq:q=k
     ·subst eq; exact d
     ·exact hI q (by omega)
    by_cases b5:P.cls k=0
    ·have b6:=d5 b5
     rw[b5] at b1 b2
     rw[b6] at b3 b4
     simp[zW,nd,e,yn hk,ye hk,ww hk,b3,b5,b6,w1]
     exact hx
    ·simp[zW,nd,e,yn hk,ye hk,ww hk,b1,b2,b3,b4,b5,w1]
     exact hx
   ·rw[if_neg (show ¬ P.okCs from fun h=>d (h k hk))]
    by_cases b1:P.cls k<0
    ·simp[zW,nd,e,yn hk,ye hk,b1,zY]
    ·by_cases b2:4<P.cls k
     ·simp[zW,nd,e,yn hk,ye hk,b1,b2,zY]
     ·by_cases b3:P.opn k<0
      ·simp[zW,nd,e,yn hk,ye hk,b1,b2,b3,zY]
      ·by_cases b4:P.sup k<P.opn k
       ·simp[zW,nd,e,yn hk,ye hk,ww hk,b1,b2,b3,b4,zY]
       ·have b5:P.cls k=0∧¬ P.opn k=P.sup k:=by
         unfold Pb.okC at d
         by_cases b5:P.cls k=0
         ·exact ⟨b5,fun h=>d ⟨by omega,by omega,by omega,by omega,fun _=>h⟩⟩
         ·exact absurd (⟨by omega,by omega,by omega,by omega,fun h=>absurd h b5⟩) d
        simp[zW,nd,e,yn hk,ye hk,ww hk,b3,b4,b5,zY]
  ·have hs:P.okCs:=hI
   rw[if_pos hs]
   by_cases f1:8<P.cl.length
   ·have f1':(8:Int)<P.cl.length:=by omega
    rw[if_pos (.inl f1)]
    simp[zW,nd,wt,f1',zY]
   ·have f1':¬ (8:Int)<P.cl.length:=by omega
    by_cases f2:160<P.of.length
    ·have f2':(160:Int)<P.of.length:=by omega
     rw[if_pos (.inr f2)]
     simp[zW,nd,wt,f1',f2',zY]
    ·have f2':¬ (160:Int)<P.of.length:=by omega
     rw[if_neg (by omega)]
     simp[zW,nd,wt,f1',f2']
     refine zr (Xd P) (fun r=>∀ q,q<r→(hq:q<P.cl.length)→mI P.cl[q]) P.cl.length (by simp[Xd]) (fun q hq=>by omega) (fun k hk hI=>?_) (fun hI=>?_)
     ·have e:(k:Int)<P.cl.length:=by omega
      have w1:=zn (k:=k) (by omega)
      by_cases d:mI P.cl[k]
      ·have d':=d
       unfold mI at d'
       have b1:¬ P.cl[k]<0:=by omega
       have b2:¬ 4<P.cl[k]:=by omega
       simp[xr,Xd,e,hk,b1,b2,w1]
       exact fun q hq hl=>by
        by_cases eq:q=k
        ·subst eq; exact d
        ·exact hI q (by omega) hl
      ·rw[if_neg (fun h=>d (h _ (List.getElem_mem hk)))]
       unfold mI at d
       by_cases b1:P.cl[k]<0
       ·simp[xr,Xd,e,hk,b1,zY]
       ·have b2:4<P.cl[k]:=by omega
        simp[xr,Xd,e,hk,b1,b2,zY]
     ·have hc:=frC P fun i hi=>hI i hi hi
      rw[if_pos hc]
      simp[xr,Xd,ry,zY]
 ·rw[if_pos c1]
  simp[c1,zY]
end
theorem aiQ {k:List Int} (h:k.length=7):∃ a b c d e f g,k=[a,b,c,d,e,f,g]:=by
 match k,h with
 | [a,b,c,d,e,f,g],_=>exact ⟨a,b,c,d,e,f,g,rfl⟩
theorem afF (b:Bool) (a0 a1 a2 a3 a4 a5 a6:Int):zt Tryz.prog (Instr.checkKey b 10000 pW (vJ [a0,a1,a2,a3,a4,a5,a6]))=some ():=by kernel_rfl
theorem Jk {t:TypeId}:jx Tryz.prog t pW 7 where
 kd:=Rs
 ag:=by kernel_rfl
 chk:=fun b k h=>by
  obtain ⟨a0,a1,a2,a3,a4,a5,a6,rfl⟩:=aiQ h
  exact afF b a0 a1 a2 a3 a4 a5 a6
def jC (o:Of):List Int:=o.b::bI o.w
theorem Up {o:Of}:(jC o).length=7:=rfl
theorem Jj {o u:Of}:jC o=jC u↔q8 o u:=by
 unfold jC q8
 rw[List.cons.injEq,Pu]
def tp (L:List Of):rL:=L.map fun o=>(jC o,.bool true)
theorem Sk {L:List Of}:eL 7 (tp L):=fun x hx=>by
 obtain ⟨o,_,rfl⟩:=List.mem_map.1 hx
 exact Up
theorem ai {o:Of}:∀ {L:List Of},wD (jC o) (tp L)=if ∃ u∈L,q8 u o then some (.bool true) else none
 | []=>by simp[tp,wD]
 | u::L=>by
  have ih:=ai (o:=o) (L:=L)
  unfold tp at ih ⊢
  rw[List.map_cons,wD,ih]
  by_cases h:jC o=jC u
  ·rw[if_pos h,if_pos ⟨u,by simp,Jj.1 h.symm⟩]
  ·rw[if_neg h]
   by_cases h2:∃ u∈L,q8 u o
   ·obtain ⟨x,h3,h4⟩:=h2
    rw[if_pos ⟨x,h3,h4⟩,if_pos ⟨x,by simp[h3],h4⟩]
   ·rw[if_neg h2,if_neg]
    rintro ⟨x,h3,h4⟩
    rcases List.mem_cons.1 h3 with rfl | h3
    ·exact h (Jj.2 h4).symm
    ·exact h2 ⟨x,h3,h4⟩
@[irreducible] def kC (o:Of):List AV:=(jC o).map iv
theorem YW (o:Of):kC o=[iv o.b,iv (o.w 0),iv (o.w 1),iv (o.w 2),iv (o.w 3),iv (o.w 4),iv (o.w 5)]:=by unfold kC; rfl
section
variable {o:Of} {k l:Nat}
@[simp] theorem afE:(kC o).length=7:=by rw[YW]; rfl
@[simp] theorem abM:(kC o).all rf=true:=by rw[YW]; rfl
@[simp] theorem aia:(∀ x,x∈kC o→rf x=true)=True:=eq_true fun x h=>List.all_eq_true.1 abM x h
@[simp] theorem Av:(kC o).map strip=kC o:=by rw[YW]; rfl
@[simp] theorem akZ:(kC o).map (dg l)=kC o:=by rw[YW]; simp
@[simp] theorem aka:xo k (kC o)=false:=by rw[YW]; simp
@[simp] theorem ah7:zB (kC o) 0 (some 7)=some (.agg (kC o)):=by rw[vV afE abM,Av]
@[simp] theorem aiP:splice [AV.val (Value.int IntKind.i64 o.b),AV.val (Value.int IntKind.i64 0),AV.val (Value.int IntKind.i64 0),AV.val (Value.int IntKind.i64 0),AV.val (Value.int IntKind.i64 0),AV.val (Value.int IntKind.i64 0),AV.val (Value.int IntKind.i64 0)] 1 (bC o.w)=kC o:=by
 rw[YW,vS]; rfl
end
noncomputable def boolT:TypeId:=match Tryz.prog.underlying xe with
 | some (.map _ e)=>e
 | _=>0
theorem ckM:Tryz.prog.underlying xe=some (.map pW boolT):=by kernel_rfl
theorem ckZ:zt Tryz.prog (zeroValue boolT)=some (.bool false):=by kernel_rfl
theorem afJ {σ:Nat→Option ze} {K:AV→Option ze→Prop} {L:List Of} {o:Of} {c:Nat} (hs:σ 17=some (.map (qm (tp L)) c)) :
  uL Tryz.prog xe false σ [.mp 17,.agg (kC o)] K=K (bv (decide (∃ u∈L,q8 u o))) none:=by
 have e:kC o=(jC o).map iv:=by unfold kC; rfl
 rw[e,Nt Jk ckM ckZ hs Up Sk,ai]
 by_cases h:∃ u∈L,q8 u o
 ·rw[if_pos h,decide_eq_true h]; rfl
 ·rw[if_neg h,decide_eq_false h]; rfl
theorem ahF {s:St} {KS:St→Prop} {L:List Of} {o:Of} (hs:lk s.sto 17=some (.map (qm (tp L)) (tp L).length)) (hn:¬ ∃ u∈L,q8 u o) :
  tE Tryz.prog xe s none KS [.mp 17,.agg (kC o),.val (.bool true)]=KS {s with sto:=pt s.sto 17 (.map (qm (tp (L++[o]))) (tp (L++[o])).length)}:=by
 have e:kC o=(jC o).map iv:=by unfold kC; rfl
 have e2:lV (jC o) (.bool true) (tp L)=tp (L++[o]):=by
  rw[Yd (by rw[ai,if_neg hn])]
  simp[tp]
 rw[e,Nv Jk ckM hs Up Sk rfl,e2]
 simp
section
variable {P:Pb} {r n:Nat} {o:Of} {L:List Of}
def Sz (P:Pb) (k:Nat):St:={env:=[(3,.ptr 3 0),(5,.mp 17),(19,ofA P.of),(20,iv P.of.length),(21,iv k)],sto:=[(3,.var (pbC P)),(17,.map (qm (tp (P.of.take k))) (tp (P.of.take k)).length)]}
theorem E0 (h:P.frameE=0):P.cl.length≤1000∧P.of.length≤1000000:=by
 unfold Pb.frameE at h
 split at h
 ·cases h
 ·split at h
  ·cases h
  ·split at h
   ·cases h
   ·omega
theorem ack:zd Tryz.prog xn [.agg (pbC P)] (iv P.chk):=by
 refine zx SP (by simp) ?_
 simp[eh]
 refine za (acQ (P:=P)) (by simp) (by simp) ?_
 unfold Pb.chk
 by_cases c1:P.frameE=0
 ·rw[if_pos c1]
  obtain ⟨hn,hk⟩:=E0 c1
  simp[c1]
  refine zr (Sz P) (fun k=>P.chkL k=0) P.of.length (by simp[Sz,tp,qm,ul]) rfl (fun k hk' hI=>?_) (fun hI=>?_)
  ·have e:(k:Int)<P.of.length:=by omega
   have hg:P.of[k]?=some P.of[k]:=by simp[hk']
   have w1:=zn (k:=k) (by omega)
   obtain ⟨o,ho⟩:∃ o,P.of[k]=o:=⟨_,rfl⟩
   rw[ho] at hg
   simp[r8,Sz,e,hk',ho]
   refine za (adr (P:=P) (o:=o) hn) (by simp) (by simp) ?_
   by_cases d:P.offE o=0
   ·simp[d]
    rw[afJ (L:=P.of.take k) (c:=(tp (P.of.take k)).length) (by simp)]
    by_cases d2:∃ u∈P.of.take k,q8 u o
    ·have hi:P.offI k o=7:=by unfold Pb.offI; rw[if_neg (fun h=>h d),if_pos d2]
     rw[jV hI hg (by rw[hi]; decide) hk',hi]
     rw[decide_eq_true d2]
     simp[uY]
    ·have hi:P.offI k o=0:=by unfold Pb.offI; rw[if_neg (fun h=>h d),if_neg d2]
     have hx:=Qp hI hg hi
     rw[decide_eq_false d2]
     simp
     rw[ahF (L:=P.of.take k) (by simp) d2,← mU hg]
     simp[w1,hx,Sz]
   ·have hi:P.offI k o=P.offE o:=by unfold Pb.offI; rw[if_pos d]
    rw[jV hI hg (by rw[hi]; exact d) hk',hi]
    simp[d,uY]
  ·rw[hI]
   simp[r8,Sz,kS,uY]
 ·rw[if_neg c1]
  simp[c1,uY]
theorem gk (_hn:P.cl.length≤1000) (_hk:P.of.length≤1000000):zd Tryz.prog xn [.agg (pbC P)] (iv P.chk):=ack
end
end Go.Proofs.YtjeoklgggppjiaaGreat

namespace Go.Pb
def Pb.at (P:Pb) (i:Int):Of:=P.of.getD i.toNat ⟨0,fun _=>0,0⟩
def Pb.pick (P:Pb) (ch:List Int):List Of:=ch.map P.at
def prv (ch:List Int):Nat→Int
 | 0=>-1
 | k+1=>ch.getD k 0
def okI (n:Nat) (ch:List Int) (k:Nat):Prop:=prv ch k<ch.getD k 0∧ch.getD k 0<n
instance (n:Nat) (ch:List Int) (k:Nat):Decidable (okI n ch k):=inferInstanceAs (Decidable (prv ch k<ch.getD k 0∧ch.getD k 0<n))
def okP (n:Nat) (ch:List Int):Prop:=∀ k,k<ch.length→okI n ch k
instance (n:Nat) (ch:List Int):Decidable (okP n ch):=Nat.decidableBallLT ch.length fun k _=>okI n ch k
def Pb.feaE (P:Pb) (ch:List Int):Int:=if P.chk≠0 then P.chk else if ¬ okP P.of.length ch then 4 else if P.fits (P.pick ch) then 0 else 14
def Pb.valE (P:Pb) (ch:List Int):Int:=if okP P.of.length ch∧P.chk=0 then ((P.pick ch).map fun o=>o.v).sum else 0
section
variable {P:Pb} {n k:Nat} {ch:List Int}
theorem Sa (h:∀ q,q<k→okI n ch q):(k:Int)-1≤prv ch k:=by
 induction k with
 | zero=>simp[prv]
 | succ k ih =>
  have h1:=ih fun q hq=>h q (by omega)
  have h2:=(h k (by omega)).1
  simp only[prv]
  omega
theorem qX (h:okP n ch):ch.length≤n:=by
 cases e:ch.length with
 | zero=>omega
 | succ k =>
  have h1:=Sa (k:=k) (n:=n) (ch:=ch) fun q hq=>h q (by omega)
  have h2:=h k (by omega)
  unfold okI at h2
  omega
theorem gq (h:∀ q,q<k→okI n ch q) (hk:okI n ch k):∃ b:Nat,ch.getD k 0=b∧b<n:=by
 have h1:=Sa h
 have h2:=hk
 unfold okI at h2
 exact ⟨(ch.getD k 0).toNat,by omega,by omega⟩
theorem fp (h:okP P.of.length ch):∀ o∈P.pick ch,o∈P.of:=fun o ho=>by
 obtain ⟨i,hi,rfl⟩:=List.mem_map.1 ho
 obtain ⟨k,hk,rfl⟩:=List.getElem_of_mem hi
 obtain ⟨b,hb,hbn⟩:=gq (fun q hq=>h q (by omega)) (h k hk)
 have e:ch.getD k 0=ch[k]:=by rw[List.getD_eq_getElem?_getD,List.getElem?_eq_getElem hk]; rfl
 unfold Pb.at
 rw[← e,hb,Int.toNat_natCast,List.getD_eq_getElem?_getD,List.getElem?_eq_getElem hbn]
 exact List.getElem_mem hbn
theorem wg:(P.pick ch).length=ch.length:=by simp[Pb.pick]
end
def ints (l:List Nat):List Int:=l.map fun i:Nat=>(i:Int)
end Go.Pb

namespace Go.Proofs.YtjeoklgggppjiaaGreat
open Go Go.Am Go.Pb
@[simp] theorem ai7:clR []=[]:=rfl
@[simp] theorem ajo:ofR []=[]:=rfl
@[simp] theorem aiv {tok sz:Nat}:apc tok sz []=yI:=nK rfl
section
variable {P:Pb} {r n:Nat} {o:Of} {L:List Of} {ch:List Int}
theorem getD_lt {l:List Int} {k:Nat} (h:k<l.length):l.getD k 0=l[k]:=by rw[List.getD_eq_getElem?_getD,List.getElem?_eq_getElem h]; rfl
theorem Ga {b:Nat} (h:b<P.of.length):P.at (b:Int)=P.of[b]:=by unfold Pb.at; rw[Int.toNat_natCast,List.getD_eq_getElem?_getD,List.getElem?_eq_getElem h]; rfl
theorem Z1 {k:Nat} (h:k<ch.length):P.pick (ch.take (k+1))=P.pick (ch.take k)++[P.at ch[k]]:=by
 unfold Pb.pick
 rw[mU (o:=ch[k]) (by simp[h]),List.map_append]
 rfl
theorem Y0 {L M:List Of}:ofR (L++M)=ofR L++ofR M:=by simp[ofR]
theorem uH {tok sz by_:Nat} {s:St} {KS:St→Prop} {rows:List (List AV)} {m:Am.Mode} {x:List AV} (h0:0<sz) (h1:s.base+tok=tok) (h2:(rows.length+1)*by_≤140737488355328) (h3:rows.length+1≤9223372036854775807) (h4:lk s.sto tok=none)
  (hK:KS ((s.dg tok).put (some tok) (apc tok sz (rows++[x])))):xH sz by_ s (some tok) KS [apc tok sz rows,.list sz m [x]]:=by
 have e:∀ r:List (List AV),apc tok sz r=vR sz tok r:=fun r=>by
  unfold apc vR
  by_cases h:r=[]
  ·subst h; simp
  ·simp[h]
 rw[e,ZF h0 h1]
 exact ⟨h2,h3,h4,by rw[← e]; exact hK⟩
end
end Go.Proofs.YtjeoklgggppjiaaGreat

namespace Go.Pb
def tO (fx:List Int) (v:Int) (k:Nat):List Nat:=(List.range k).filter fun i=>decide (fx.getD i 9=v)
def zL (fx:List Int):List Nat:=tO fx 0 fx.length
def Pb.inK (P:Pb) (fx:List Int) (k:Nat):List Of:=(tO fx 1 k).map fun i:Nat=>P.at i
def Pb.inL (P:Pb) (fx:List Int):List Of:=P.inK fx fx.length
def okX (fx:List Int) (i:Nat):Prop:=fx.getD i 9=-1∨fx.getD i 9=0∨fx.getD i 9=1
instance (fx:List Int) (i:Nat):Decidable (okX fx i):=inferInstanceAs (Decidable (_∨_∨_))
def okF (fx:List Int):Prop:=∀ i,i<fx.length→okX fx i
instance (fx:List Int):Decidable (okF fx):=Nat.decidableBallLT fx.length fun i _=>okX fx i
def Pb.relE (P:Pb) (fx:List Int):Int :=
 if P.chk≠0 then P.chk else if fx.length≠P.of.length then 3 else if ¬ okF fx then 4 else if P.fits (P.inL fx) then 0 else 14
def Pb.relB (P:Pb) (fx:List Int) (r:Nat):Int:=P.bnd r-((P.inL fx).map (P.coef r)).sum
def Pb.relC (P:Pb) (fx:List Int) (r:Nat):List Int:=(zL fx).map fun i:Nat=>P.coef r (P.at i)
def Pb.relG (P:Pb) (fx:List Int):List Int:=(zL fx).map fun i:Nat=>(P.at i).v
section
variable {P:Pb} {fx:List Int} {v:Int} {k i:Nat}
theorem QI:tO fx v 0=[]:=rfl
theorem qo:tO fx v (k+1)=if fx.getD k 9=v then tO fx v k++[k] else tO fx v k:=by
 unfold tO
 rw[List.range_succ,List.filter_append]
 by_cases h:fx.getD k 9=v
 ·rw[if_pos h,List.filter_cons_of_pos (by simpa using h)]; rfl
 ·rw[if_neg h,List.filter_cons_of_neg (by simpa using h),List.filter_nil,List.append_nil]
theorem fk (h:i∈tO fx v k):i<k∧fx.getD i 9=v:=by
 unfold tO at h
 obtain ⟨h1,h2⟩:=List.mem_filter.1 h
 exact ⟨by simpa using h1,by simpa using h2⟩
theorem bQ:(tO fx v k).length≤k:=by
 unfold tO
 have:=List.length_filter_le (fun i=>decide (fx.getD i 9=v)) (List.range k)
 rwa [List.length_range] at this
theorem Ro:(P.inK fx k).length≤k:=by unfold Pb.inK; rw[List.length_map]; exact bQ
theorem pF (h:i<P.of.length):P.at (i:Int)=P.of[i]:=by
 unfold Pb.at; rw[Int.toNat_natCast,List.getD_eq_getElem?_getD,List.getElem?_eq_getElem h]; rfl
theorem at_mem (h:i<P.of.length):P.at (i:Int)∈P.of:=by rw[pF h]; exact List.getElem_mem h
theorem Jd (h:k≤P.of.length):∀ o∈P.inK fx k,o∈P.of:=fun o ho=>by
 obtain ⟨i,hi,rfl⟩:=List.mem_map.1 ho
 have:=(fk hi).1
 exact at_mem (by omega)
end
end Go.Pb

namespace Go.Proofs.YtjeoklgggppjiaaGreat
open Go Go.Am Go.Pb
noncomputable def qI (l:List Int):List (List AV):=l.map fun n:Int=>fr (n:Rat)
noncomputable def Cl (P:Pb) (fx:List Int) (r:Nat):List AV:=plc 3 (qI (P.relC fx r))::fr (P.relB fx r:Int)
noncomputable def pz (P:Pb) (fx:List Int) (k:Nat):List (List AV):=(List.range k).map (Cl P fx)
noncomputable def Fl (P:Pb) (fx:List Int):AV:=.agg [.list 3 .plain (qI (P.relG fx)),.list 4 .plain ((List.range P.rows).map fun r=>(.list 3 .plain (qI (P.relC fx r)):AV)::fr (P.relB fx r:Int))]
section
variable {P:Pb} {r n k:Nat} {o:Of} {L:List Of} {fx:List Int}
@[simp] theorem Sb {l:List Int}:(qI l).length=l.length:=by simp[qI]
@[simp] theorem akn:qI []=[]:=rfl
theorem Jw {l:List Int} {k:Nat} (h:k<l.length):qI (l.take k)++[fr ((l[k]:Int):Rat)]=qI (l.take (k+1)):=by
 unfold qI
 rw[mU (o:=l[k]) (by simp[h]),List.map_append]
 rfl
@[simp] theorem MF:(pz P fx k).length=k:=by simp[pz]
@[simp] theorem aii:pz P fx 0=[]:=rfl
theorem Ck:pz P fx k++[Cl P fx k]=pz P fx (k+1):=by unfold pz; rw[List.range_succ,List.map_append]; rfl
@[simp] theorem agJ:zB ((oC o).drop 7) 0 none=some (iv o.v):=by rw[sD]; rfl
@[simp] theorem ain {q:Rat} {a b c d:AV}:splice [a,b,c,d] 1 (fr q)=a::fr q:=by unfold fr; simp[splice,-sY]
@[simp] theorem aim {q:Rat} {x a b c d:AV}:splice [a,b,c,d] 0 (x::fr q)=x::fr q:=by unfold fr; simp[splice,-sY]
@[simp] theorem aio {q:Rat} {x y:AV}:splice (x::fr q) 0 [y]=y::fr q:=by unfold fr; simp[splice,-sY]
@[simp] theorem ah9 {q:Rat} {x:AV} (h:rf x=true):zB (x::fr q) 0 (some 4)=some (.agg (strip x::fr q)):=by
 rw[vV (by simp) (by rw[List.all_cons,h,GB]; rfl),List.map_cons,Ug]
@[simp] theorem ah3 {x:AV} {l:List AV}:zB (x::l) 0 none=some x:=rfl
@[simp] theorem ah4 {x y:AV} {l:List AV}:zB (x::y::l) 1 none=some y:=rfl
@[simp] theorem NY {l:List Nat}:(ints l).length=l.length:=by simp[ints]
@[simp] theorem aiO:ints []=[]:=rfl
theorem Au {l m:List Nat}:clR (ints (l++m))=clR (ints l)++clR (ints m):=by simp[ints,clR]
noncomputable def dC (P:Pb) (fx:List Int) (k:Nat):St:={env:=[(2,.ptr 2 0),(4,.ptr 4 0),(8,apc 52 1 (clR (ints (tO fx 0 k)))),(9,apc 62 8 (ofR (P.inK fx k))),(36,clA fx),(37,iv fx.length),(38,iv k)],sto:=[(2,.var (pbC P)),(4,.var [yI,yI])]}
noncomputable abbrev xF (fx:List Int):AV:=apc 52 1 (clR (ints (zL fx)))
noncomputable abbrev xI (P:Pb) (fx:List Int):AV:=apc 62 8 (ofR (P.inL fx))
noncomputable def RY (P:Pb) (fx:List Int) (k:Nat):St:={env:=[(2,.ptr 2 0),(4,.ptr 4 0),(8,xF fx),(9,xI P fx),(12,.ptr 12 0),(13,.ptr 13 0),(71,xF fx),(72,iv (zL fx).length),(73,iv k)],sto:=[(2,.var (pbC P)),(4,.var [yI,yI]),(12,.var (pbC P)),(13,.var [apc 87 3 (qI ((P.relG fx).take k)),yI])]}
noncomputable def R2 (P:Pb) (fx:List Int) (k:Nat):St:={env:=[(2,.ptr 2 0),(4,.ptr 4 0),(8,xF fx),(9,xI P fx),(12,.ptr 12 0),(13,.ptr 13 0),(91,iv P.rows),(92,iv k)],sto:=[(2,.var (pbC P)),(4,.var [yI,yI]),(12,.var (pbC P)),(13,.var [apc 87 3 (qI (P.relG fx)),apc 139 4 (pz P fx k)])]}
noncomputable def RZ (P:Pb) (fx:List Int) (r k:Nat):St:={env:=[(2,.ptr 2 0),(4,.ptr 4 0),(8,xF fx),(9,xI P fx),(12,.ptr 12 0),(13,.ptr 13 0),(91,iv P.rows),(92,iv r),(16,iv r),(17,iv (P.bnd r-wu (P.coef r) (P.inL fx) k)),(98,xI P fx),(99,iv (P.inL fx).length),(100,iv k)],sto:=[(2,.var (pbC P)),(4,.var [yI,yI]),(12,.var (pbC P)),(13,.var [apc 87 3 (qI (P.relG fx)),apc 139 4 (pz P fx r)])]}
noncomputable def R1 (P:Pb) (fx:List Int) (r k:Nat):St:={env:=[(2,.ptr 2 0),(4,.ptr 4 0),(8,xF fx),(9,xI P fx),(12,.ptr 12 0),(13,.ptr 13 0),(91,iv P.rows),(92,iv r),(16,iv r),(20,.ptr 20 0),(114,xF fx),(115,iv (zL fx).length),(116,iv k)],sto:=[(2,.var (pbC P)),(4,.var [yI,yI]),(12,.var (pbC P)),(13,.var [apc 87 3 (qI (P.relG fx)),apc 139 4 (pz P fx r)]),(20,.var (apc 132 3 (qI ((P.relC fx r).take k))::fr (P.relB fx r:Int)))]}
@[simp] theorem Db {l:List Nat} {k:Nat} {h:k<(ints l).length}:(ints l)[k]=((l[k]'(by simpa using h):Nat):Int):=by simp[ints]
theorem aan {k:Nat} (h:k<(P.relG fx).length):(P.relG fx)[k]=(P.at ((zL fx)[k]'(by simpa [Pb.relG] using h):Nat)).v:=by simp[Pb.relG]
theorem aam {k:Nat} (h:k<(P.relC fx r).length):(P.relC fx r)[k]=P.coef r (P.at ((zL fx)[k]'(by simpa [Pb.relC] using h):Nat)):=by simp[Pb.relC]
@[simp] theorem UG:(P.relG fx).length=(zL fx).length:=by simp[Pb.relG]
@[simp] theorem UF:(P.relC fx r).length=(zL fx).length:=by simp[Pb.relC]
theorem aal:AV.imp (.agg [plc 3 (qI (P.relG fx)),plc 4 (pz P fx P.rows)]) (Fl P fx):=by
 refine gp (z3 (qY t5) (z3 (qY ?_) qj))
 refine ⟨by simp,fun i x y hx hy=>?_⟩
 have hi:i<P.rows:=by have:=(List.getElem?_eq_some_iff.1 hx).1; simpa using this
 simp[pz,hi] at hx hy
 subst hx hy
 exact z3 (qY t5) jg
end
def RX (w:Nat→Int) (k:Nat):St:={env:=[(1,.ptr 1 0),(3,iv k)],sto:=[(1,.var (bC w))]}
theorem ML {w:Nat→Int}:zd Tryz.prog pT [.agg (bC w)] (bv (decide (okB w))):=by
 refine zx Pn (by simp) ?_
 simp[aS]
 refine zr (RX w) (fun i=>∀ j,j<i→0≤w j∧w j≤4) 6 (by simp[RX]) (fun j hj=>by omega) (fun i hi hI=>?_) (fun hI=>?_)
 ·have e:(i:Int)<6:=by omega
  have w1:=zn (k:=i) (by omega)
  by_cases c1:w i<0
  ·have hf:¬ okB w:=fun h=>by have:=h i hi; omega
   simp[ui,RX,e,ZL hi,c1,hf,p8]
  ·by_cases c2:4<w i
   ·have hf:¬ okB w:=fun h=>by have:=h i hi; omega
    simp[ui,RX,e,ZL hi,c1,c2,hf,p8]
   ·simp[ui,RX,e,ZL hi,c1,c2,w1]
    exact fun j hj=>by
     by_cases e:j=i
     ·subst e; omega
     ·exact hI j (by omega)
 ·have hf:okB w:=hI
  simp[ui,RX,hf,gS,p8]
section
variable {P:Pb} {r n:Nat} {o:Of}
theorem JK (hn:P.cl.length≤1000) (hb:0≤o.b) (hr:r<P.rows):∃ c,(o.b<P.cl.length→c=P.coef r o)∧zd Tryz.prog mh [.agg (pbC P),iv r,.agg (oC o)] (.tuple [iv c,iv (P.bnd r)]):=by
 unfold Pb.rows at hr
 unfold Pb.coef Pb.bnd
 obtain ⟨n,hn'⟩:∃ n,P.cl.length=n:=⟨_,rfl⟩
 rw[hn'] at hr hn ⊢
 by_cases h1:r<n
 ·refine ⟨if o.b=r then 1 else 0,fun _=>by rw[if_pos h1],?_⟩
  refine zx tZ (by simp) ?_
  rw[if_pos h1]
  by_cases h2:o.b=r
  ·rw[if_pos h2]
   simp[vq,hn',h1,h2,vv]
  ·rw[if_neg h2]
   simp[vq,hn',h1,h2,vv]
 ·have w0:IntKind.i64.wrap ((n:Int)+6)=(n:Int)+6:=by rw[wrap64]<;>omega
  obtain ⟨k,hk⟩:∃ k,r=n+k:=⟨r-n,by omega⟩
  have e0:(r:Int)-n=k:=by omega
  have e2:r-n=k:=by omega
  have w1:IntKind.i64.wrap (k:Int)=k:=by rw[wrap64]<;>omega
  rw[if_neg h1,if_neg h1,e2]
  have c1:¬ (r:Int)<n:=by omega
  by_cases h2:k<6
  ·have c2:(r:Int)<(n:Int)+6:=by omega
   have h2':(k:Int)<6:=by omega
   refine ⟨o.w k,fun _=>by rw[if_pos (by omega)],?_⟩
   rw[if_pos (by omega)]
   refine zx tZ (by simp) ?_
   simp[vq,hn',w0,c1,c2,e0,w1,h2',bt h2,ww h2,vv]
  ·obtain ⟨j,hj0⟩:∃ j,k=6+j:=⟨k-6,by omega⟩
   have hj:j<6:=by omega
   have hj':(j:Int)<6:=by omega
   have c2:¬ (r:Int)<(n:Int)+6:=by omega
   have e3:(k:Int)-6=j:=by omega
   have w2:IntKind.i64.wrap (j:Int)=j:=by rw[wrap64]<;>omega
   have hr6:¬ r<n+6:=by omega
   rw[if_neg hr6,if_neg hr6,show k-6=j by omega]
   by_cases h3:P.cls j=0
   ·refine ⟨0,fun _=>by rw[if_pos (.inl h3)],?_⟩
    refine zx tZ (by simp) ?_
    simp[vq,hn',w0,c1,c2,e0,w1,e3,w2,hj',ye hj,yn hj,h3,vv]
   ·by_cases h5:o.b<n
    ·obtain ⟨b,hb1,hb2,hb3⟩:=Nc (P:=P) (o:=o) (by rw[hn']; exact ⟨hb,h5⟩)
     have hbn:(b:Int)<n:=by omega
     have hbn':b<n:=by omega
     have hc:P.cl[b]?=some (P.clOf (b:Int)):=by rw[← hb1]; exact hb3
     have hE:P.cl[b]=P.clOf (b:Int):=by rw[List.getElem?_eq_getElem hb2] at hc; exact Option.some.inj hc
     rw[hb1]
     by_cases h4:P.cls j=P.clOf (b:Int)
     ·refine ⟨0,fun _=>by rw[if_pos (.inr h4)],?_⟩
      rw[h4] at h3
      refine zx tZ (by simp) ?_
      simp[vq,hn',w0,c1,c2,e0,w1,e3,w2,hj',ye hj,yn hj,h3,hb1,hbn,hbn',hE,h4,vv]
     ·refine ⟨o.w j,fun _=>by rw[if_neg (fun h=>h.elim h3 h4)],?_⟩
      refine zx tZ (by simp) ?_
      simp[vq,hn',w0,c1,c2,e0,w1,e3,w2,hj',ye hj,yn hj,bt hj,h3,hb1,hbn,hbn',hE,h4,vv]
    ·refine ⟨0,fun h=>absurd h h5,?_⟩
     refine zx tZ (by simp) ?_
     simp[vq,hn',w0,c1,c2,e0,w1,e3,w2,hj',ye hj,yn hj,h3,h5,vv]
end
def oZ:Of:=⟨0,fun _=>0,0⟩
theorem adp:[iv 0,iv 0,iv 0,iv 0,iv 0,iv 0,iv 0,iv 0]=oC oZ:=by rw[sD]; rfl
def Le (P:Pb) (L:List Of) (r:Nat):St:={env:=[(1,ofA L),(2,.ptr 2 0),(5,iv r)],sto:=[(2,.var (pbC P))]}
def RV (P:Pb) (L:List Of) (r k:Nat):St:={env:=[(1,ofA L),(2,.ptr 2 0),(5,iv r),(6,iv (wu (P.coef r) L k)),(7,iv k)],sto:=[(2,.var (pbC P))]}
section
variable {P:Pb} {r n:Nat} {o:Of} {L:List Of}
theorem JN (hn:P.cl.length≤1000) (hL:L.length≤1000) (hb:∀ o∈L,0≤o.b∧o.b<P.cl.length) (hw:∀ o∈L,okB o.w):zd Tryz.prog mi [.agg (pbC P),ofA L] (bv (decide (P.fits L))):=by
 have hR:P.rows≤1012:=by unfold Pb.rows; omega
 have hRi:((P.rows:Nat):Int)=(P.cl.length:Int)+12:=by unfold Pb.rows; omega
 have w0:IntKind.i64.wrap ((P.cl.length:Int)+12)=(P.cl.length:Int)+12:=by rw[wrap64]<;>omega
 refine zx Ls (by simp) ?_
 simp[Zv]
 refine zr (Le P L) (fun r=>∀ q,q<r→(L.map (P.coef q)).sum≤P.bnd q) P.rows (by simp[Le]) (fun q hq=>by omega) (fun r hr hI=>?_) (fun hI=>?_)
 ·have e:(r:Int)<(P.cl.length:Int)+12:=by omega
  have w1:=zn (k:=r) (by omega)
  simp[mz,Le,e,w0]
  refine zr (RV P L r) (fun _=>True) L.length (by simp[RV,jj]) trivial (fun k hk _=>?_) (fun _=>?_)
  ·have e':(k:Int)<L.length:=by omega
   have hg:L[k]?=some L[k]:=by simp[hk]
   have hm:L[k]∈L:=List.getElem_mem hk
   have w2:=zn (k:=k) (by omega)
   obtain ⟨p1,p2⟩:=sE (f:=P.coef r) (fun o ho=>uK (P:=P) (hw o ho) hr) k (by omega)
   obtain ⟨p3,p4⟩:=uK (P:=P) (hw _ hm) hr
   have w3:IntKind.i64.wrap (wu (P.coef r) L k+P.coef r L[k])=wu (P.coef r) L k+P.coef r L[k]:=by rw[wrap64]<;>omega
   have hs:=nV (f:=P.coef r) hg
   obtain ⟨c,hc,hk'⟩:=JK (P:=P) (o:=L[k]) hn (hb _ hm).1 hr
   have hc:=hc (hb _ hm).2
   subst hc
   simp[rC,RV,e',hk]
   refine za hk' (by simp) (by simp) ?_
   simp[w2,w3,hs,RV]
  ·have hall:wu (P.coef r) L L.length=(L.map (P.coef r)).sum:=lM
   obtain ⟨z,hz,hz0⟩:∃ z:Of,[iv 0,iv 0,iv 0,iv 0,iv 0,iv 0,iv 0,iv 0]=oC z∧0≤z.b:=⟨oZ,adp,Int.le_refl 0⟩
   obtain ⟨c,_,hk'⟩:=JK (P:=P) (o:=z) hn hz0 hr
   have key:∀ K:Exit→St→Prop,K (.exit 2) {env:=[(1,ofA L),(2,.ptr 2 0),(5,iv r),(6,iv (wu (P.coef r) L L.length)),(7,iv L.length),(23,bv false)],sto:=[(2,.var (pbC P))]}→awp Tryz.prog rC (RV P L r L.length) (uW K):=by
    intro K h
    simp[rC,RV]
    exact h
   refine key _ ?_
   simp[et,hz]
   refine za hk' (by simp) (by simp) ?_
   by_cases hc:P.bnd r<(L.map (P.coef r)).sum
   ·have hf:¬ P.fits L:=fun h=>by have:=h r hr; omega
    simp[hall,hc,hf,fD]
   ·simp[hall,hc,ew,w1,Le]
    exact fun q hq=>by
     by_cases eq:q=r
     ·subst eq; omega
     ·exact hI q (by omega)
 ·have hf:P.fits L:=hI
  have e:¬ ((P.rows:Nat):Int)<(P.cl.length:Int)+12:=by omega
  simp[mz,Le,w0,e,hf,ey,fD]
end
@[simp] theorem ag3 {u:Of}:zB (oC u).tail 0 (some 6)=some (.agg (bC u.w)):=by rw[sD,vS]; rfl
section
variable {P:Pb} {r n:Nat} {o:Of} {L:List Of}
def mT (P:Pb) (k:Nat):St:={env:=[(1,.ptr 1 0),(3,iv k)],sto:=[(1,.var (pbC P))]}
def aq (P:Pb) (k:Nat):St:={env:=[(1,.ptr 1 0),(4,iv k)],sto:=[(1,.var (pbC P))]}
def kJ (P:Pb) (k:Nat):St:={env:=[(1,.ptr 1 0),(5,iv k)],sto:=[(1,.var (pbC P))]}
def au (P:Pb) (o:Of) (k j:Nat):St:={env:=[(1,.ptr 1 0),(5,iv k),(6,.ptr 6 0),(7,iv j)],sto:=[(1,.var (pbC P)),(6,.var (oC o))]}
theorem Js {i:Nat} (h:P.offE o≠0):P.offI i o=P.offE o:=by unfold Pb.offI; rw[if_pos h]
theorem T5 (h:o.b<0∨(P.cl.length:Int)≤o.b):P.offE o=6:=by
 have:ri P.cl.length o=6:=by unfold ri; rw[if_pos h]
 unfold Pb.offE; rw[this]; rfl
theorem T6 (hb:¬ (o.b<0∨(P.cl.length:Int)≤o.b)) (h:o.v<1∨1000000<o.v):P.offE o=4:=by
 have:ri P.cl.length o=4:=by unfold ri; rw[if_neg hb,if_pos h]
 unfold Pb.offE; rw[this]; rfl
theorem DF (hb:¬ (o.b<0∨(P.cl.length:Int)≤o.b)) (hv:¬ (o.v<1∨1000000<o.v)) (h:¬ okB o.w):P.offE o=4:=by
 have:ri P.cl.length o=4:=by unfold ri; rw[if_neg hb,if_neg hv,if_neg h]
 unfold Pb.offE; rw[this]; rfl
theorem afq (hb:¬ (o.b<0∨(n:Int)≤o.b)) (hv:¬ (o.v<1∨1000000<o.v)) (h:okB o.w):ri n o=0:=by unfold ri; rw[if_neg hb,if_neg hv,if_pos h]
theorem DG (hf:ri P.cl.length o=0) (h:kK o.w):P.offE o=4:=by unfold Pb.offE; rw[if_neg (fun h=>h hf),if_pos h]
theorem DE (hf:ri P.cl.length o=0) (hz:¬ kK o.w):P.offE o=if P.fits [o] then 0 else 14:=by unfold Pb.offE; rw[if_neg (fun h=>h hf),if_neg hz]
theorem aak:zd Tryz.prog uG [.agg (pbC P)] (iv P.chk):=by
 have hkd:kds Tryz.prog Op.maxDepth wy=some (List.replicate 6 (.i .i64)):=by kernel_rfl
 have hg:Tryz.prog.eqGuardType Tryz.prog.depth wy=false:=by kernel_rfl
 have hA:agT Tryz.prog wy=true:=by kernel_rfl
 refine zx Po (by simp) ?_
 simp[aT]
 refine za (ML (w:=P.sup)) (by simp) (by simp) ?_
 unfold Pb.chk
 by_cases c1:okB P.sup
 ·simp[c1]
  refine zr (mT P) (fun r=>∀ q,q<r→P.okC q) 6 (by simp[mT]) (fun q hq=>by omega) (fun k hk hI=>?_) (fun hI=>?_)
  ·have e:(k:Int)<6:=by omega
   have w1:=zn (k:=k) (by omega)
   by_cases d:P.okC k
   ·have d':=d
    unfold Pb.okC at d'
    obtain ⟨d1,d2,d3,d4,d5⟩:=d'
    have b1:¬ P.cls k<0:=by omega
    have b2:¬ 4<P.cls k:=by omega
    have b3:¬ P.opn k<0:=by omega
    have b4:¬ P.sup k<P.opn k:=by omega
    have hx:∀ q,q<k+1→P.okC q:=fun q hq=>by
     by_cases eq:q=k
     ·subst eq; exact d
     ·exact hI q (by omega)
    by_cases b5:P.cls k=0
    ·have b6:=d5 b5
     rw[b5] at b1 b2
     rw[b6] at b3 b4
     simp[yC,mT,e,yn hk,ye hk,ww hk,b3,b5,b6,w1]
     exact hx
    ·simp[yC,mT,e,yn hk,ye hk,ww hk,b1,b2,b3,b4,b5,w1]
     exact hx
   ·have hF:P.frameE=4:=by unfold Pb.frameE; rw[if_neg (fun h=>h c1),if_pos (show ¬ P.okCs from fun h=>d (h k hk))]
    rw[hF]
    by_cases b1:P.cls k<0
    ·simp[yC,mT,e,ye hk,b1,z4]
    ·by_cases b2:4<P.cls k
     ·simp[yC,mT,e,ye hk,b1,b2,z4]
     ·by_cases b3:P.opn k<0
      ·simp[yC,mT,e,yn hk,ye hk,b1,b2,b3,z4]
      ·by_cases b4:P.sup k<P.opn k
       ·simp[yC,mT,e,yn hk,ye hk,ww hk,b1,b2,b3,b4,z4]
       ·have b5:P.cls k=0∧¬ P.opn k=P.sup k:=by
         unfold Pb.okC at d
         by_cases b5:P.cls k=0
         ·exact ⟨b5,fun h=>d ⟨by omega,by omega,by omega,by omega,fun _=>h⟩⟩
         ·exact absurd (⟨by omega,by omega,by omega,by omega,fun h=>absurd h b5⟩) d
        simp[yC,mT,e,yn hk,ye hk,ww hk,b3,b4,b5,z4]
  ·have hs:P.okCs:=hI
   have key:∀ K:Exit→St→Prop,K (.exit 0) {env:=[(1,.ptr 1 0),(3,iv (6:Nat)),(13,bv false)],sto:=[(1,.var (pbC P))]}→awp Tryz.prog yC (mT P 6) (uW K):=by
    intro K h
    simp[yC,mT]
    exact h
   refine key _ ?_
   by_cases f1:8<P.cl.length
   ·have f1':(8:Int)<P.cl.length:=by omega
    have hF:P.frameE=3:=by unfold Pb.frameE; rw[if_neg (fun h=>h c1),if_neg (fun h=>h hs),if_pos (.inl f1)]
    simp[sm,f1',hF,z4]
   ·have f1':¬ (8:Int)<P.cl.length:=by omega
    have hn:P.cl.length≤1000:=by omega
    by_cases f2:160<P.of.length
    ·have f2':(160:Int)<P.of.length:=by omega
     have hF:P.frameE=3:=by unfold Pb.frameE; rw[if_neg (fun h=>h c1),if_neg (fun h=>h hs),if_pos (.inr f2)]
     simp[sm,f1',f2',hF,z4]
    ·have f2':¬ (160:Int)<P.of.length:=by omega
     simp[sm,f1',f2']
     refine zr (aq P) (fun r=>∀ q,q<r→(hq:q<P.cl.length)→mI P.cl[q]) P.cl.length (by simp[aq]) (fun q hq=>by omega) (fun k hk hI=>?_) (fun hI=>?_)
     ·have e:(k:Int)<P.cl.length:=by omega
      have w1:=zn (k:=k) (by omega)
      by_cases d:mI P.cl[k]
      ·have d':=d
       unfold mI at d'
       have b1:¬ P.cl[k]<0:=by omega
       have b2:¬ 4<P.cl[k]:=by omega
       simp[wW,aq,e,hk,b1,b2,w1]
       exact fun q hq hl=>by
        by_cases eq:q=k
        ·subst eq; exact d
        ·exact hI q (by omega) hl
      ·have hF:P.frameE=4:=by unfold Pb.frameE; rw[if_neg (fun h=>h c1),if_neg (fun h=>h hs),if_neg (by omega),if_neg (fun h=>d (h _ (List.getElem_mem hk)))]
       rw[hF]
       unfold mI at d
       by_cases b1:P.cl[k]<0
       ·simp[wW,aq,e,hk,b1,z4]
       ·have b2:4<P.cl[k]:=by omega
        simp[wW,aq,e,hk,b1,b2,z4]
     ·have hc:=frC P fun i hi=>hI i hi hi
      have hF:P.frameE=0:=by unfold Pb.frameE; rw[if_neg (fun h=>h c1),if_neg (fun h=>h hs),if_neg (by omega),if_pos hc]
      rw[if_pos hF]
      have key:∀ K:Exit→St→Prop,K (.exit 2) {env:=[(1,.ptr 1 0),(4,iv P.cl.length),(78,bv false)],sto:=[(1,.var (pbC P))]}→awp Tryz.prog wW (aq P P.cl.length) (uW K):=by
       intro K h
       simp[wW,aq]
       exact h
      refine key _ ?_
      simp[gW]
      refine zr (kJ P) (fun k=>P.chkL k=0) P.of.length (by simp[kJ]) rfl (fun k hk' hI=>?_) (fun hI=>?_)
      ·have e:(k:Int)<P.of.length:=by omega
       have hgk:P.of[k]?=some P.of[k]:=by simp[hk']
       have w1:=zn (k:=k) (by omega)
       obtain ⟨o,ho⟩:∃ o,P.of[k]=o:=⟨_,rfl⟩
       rw[ho] at hgk
       have fin:P.offE o≠0→P.chkL P.of.length=P.offE o:=fun h=>by
        rw[jV hI hgk (by rw[Js h]; exact h) hk',Js h]
       by_cases b1:o.b<0
       ·rw[fin (by rw[T5 (.inl b1)]; decide),T5 (.inl b1)]
        simp[xE,kJ,e,hk',ho,b1,z4]
       ·by_cases b2:(P.cl.length:Int)≤o.b
        ·rw[fin (by rw[T5 (.inr b2)]; decide),T5 (.inr b2)]
         simp[xE,kJ,e,hk',ho,b1,b2,z4]
        ·have hb:¬ (o.b<0∨(P.cl.length:Int)≤o.b):=by omega
         by_cases b3:o.v<1
         ·rw[fin (by rw[T6 hb (.inl b3)]; decide),T6 hb (.inl b3)]
          simp[xE,kJ,e,hk',ho,b1,b2,b3,z4]
         ·by_cases b4:1000000<o.v
          ·rw[fin (by rw[T6 hb (.inr b4)]; decide),T6 hb (.inr b4)]
           simp[xE,kJ,e,hk',ho,b1,b2,b3,b4,z4]
          ·have hv:¬ (o.v<1∨1000000<o.v):=by omega
           simp[xE,kJ,e,hk',ho,b1,b2,b3,b4]
           refine za (ML (w:=o.w)) (by simp) (by simp) ?_
           by_cases b5:okB o.w
           ·have hf:=afq (n:=P.cl.length) hb hv b5
            have hz:decide (bI o.w=bI (fun _=>0))=decide (kK o.w):=by
             rw[decide_eq_decide,Pu]
             exact Iff.rfl
            simp[b5,KH]
            rw[sQ hkd hg hA nU nU]
            by_cases b6:kK o.w
            ·rw[fin (by rw[DG hf b6]; decide),DG hf b6]
             simp[hz,b6,z4]
            ·simp[hz,b6]
             have hfs:=JN (P:=P) (L:=[o]) hn (by simp) (fun x hx=>by rw[List.mem_singleton.1 hx]; omega) (fun x hx=>by rw[List.mem_singleton.1 hx]; exact b5)
             refine za (NU hfs (wd (rows:=[oC o]))) (by simp) (by simp) ?_
             by_cases b7:P.fits [o]
             ·have hE:P.offE o=0:=by rw[DE hf b6,if_pos b7]
              simp[b7]
              refine zr (au P o k) (fun j=>∀ (q:Nat) u,q<j→P.of[q]?=some u→¬ q8 u o) k (by simp[au]) (fun q u hq=>by omega) (fun j hj hJ=>?_) (fun hJ=>?_)
              ·have ej:(j:Int)<k:=by omega
               have hj2:j<P.of.length:=by omega
               have ej2:(j:Int)<P.of.length:=by omega
               have w2:=zn (k:=j) (by omega)
               obtain ⟨u,hu⟩:∃ u,P.of[j]=u:=⟨_,rfl⟩
               have hgj:P.of[j]?=some u:=by simp[hj2,hu]
               have hzu:decide (bI u.w=bI o.w)=decide (eqB u.w o.w):=by rw[decide_eq_decide,Pu]
               by_cases d1:u.b=o.b
               ·simp[uj,au,ej,ej2,hj2,hu,d1]
                rw[sQ hkd hg hA nU nU]
                by_cases d2:eqB u.w o.w
                ·have hi:P.offI k o=7:=by
                  unfold Pb.offI
                  rw[if_neg (fun h=>h hE),if_pos ⟨u,List.mem_of_getElem? (i:=j) (by rw[List.getElem?_take,if_pos hj]; exact hgj),d1,d2⟩]
                 rw[jV hI hgk (by rw[hi]; decide) hk',hi]
                 simp[hzu,d2,z4]
                ·simp[hzu,d2,w2,au]
                 intro q x hq hx
                 by_cases eq:q=j
                 ·subst eq
                  rw[hgj] at hx
                  rw[← Option.some.inj hx]
                  exact fun h=>d2 h.2
                 ·exact hJ q x (by omega) hx
               ·simp[uj,au,ej,ej2,hj2,hu,d1,w2]
                intro q x hq hx
                by_cases eq:q=j
                ·subst eq
                 rw[hgj] at hx
                 rw[← Option.some.inj hx]
                 exact fun h=>d1 h.1
                ·exact hJ q x (by omega) hx
              ·have hi:P.offI k o=0:=by
                unfold Pb.offI
                rw[if_neg (fun h=>h hE),if_neg]
                rintro ⟨u,hu,hs'⟩
                obtain ⟨q,hq⟩:=List.mem_iff_getElem?.1 hu
                rw[List.getElem?_take] at hq
                split at hq
                ·rename_i hqk; exact hJ q u hqk hq hs'
                ·cases hq
               have hx:=Qp hI hgk hi
               have key:∀ K:Exit→St→Prop,K (.exit 6) {env:=[(1,.ptr 1 0),(5,iv k),(6,.ptr 6 0),(7,iv k),(145,bv false)],sto:=[(1,.var (pbC P)),(6,.var (oC o))]}→awp Tryz.prog uj (au P o k k) (uW K):=by
                intro K h
                simp[uj,au]
                exact h
               refine key _ ?_
               simp[gT,w1,hx,kJ]
             ·have hE:P.offE o=14:=by rw[DE hf b6,if_neg b7]
              rw[fin (by rw[hE]; decide),hE]
              simp[b7,z4]
           ·rw[fin (by rw[DF hb hv b5]; decide),DF hb hv b5]
            simp[b5,z4]
      ·rw[hI]
       have key:∀ K:Exit→St→Prop,K (.exit 4) {env:=[(1,.ptr 1 0),(5,iv P.of.length),(99,bv false)],sto:=[(1,.var (pbC P))]}→awp Tryz.prog xE (kJ P P.of.length) (uW K):=by
        intro K h
        simp[xE,kJ]
        exact h
       refine key _ ?_
       simp[gU,z4]
 ·have hF:P.frameE=4:=by unfold Pb.frameE; rw[if_pos c1]
  simp[c1,hF,z4]
theorem nC (_hn:P.cl.length≤1000) (_hk:P.of.length≤1000000):zd Tryz.prog uG [.agg (pbC P)] (iv P.chk):=aak
end
end Go.Proofs.YtjeoklgggppjiaaGreat

namespace Go.Pb
open Go.LP
def Pb.cof (P:Pb) (r i:Nat):Rat:=((P.coef r (P.at (i:Int)):Int):Rat)
def Pb.vQ (P:Pb) (i:Nat):Rat:=(((P.at (i:Int)).v:Int):Rat)
def Pb.accV (P:Pb) (fx:List Int) (k:Nat):Int:=((P.inK fx k).map fun o=>o.v).sum
def Pb.exc (P:Pb) (y:Nat→Rat) (R i:Nat):Rat:=P.vQ i-zf R fun r=>y r*P.cof r i
def Pb.bdQ (P:Pb) (fx:List Int) (y:Nat→Rat) (R:Nat):Rat:=((P.accV fx fx.length:Int):Rat)+zf R fun r=>y r*((P.relB fx r:Int):Rat)
def Pb.adQ (P:Pb) (fx:List Int) (y:Nat→Rat) (R k:Nat):Rat:=zf k fun i=>if fx.getD i 9=0∧0<P.exc y R i then P.exc y R i else 0
def Pb.fpQ (P:Pb) (fx:List Int) (y:Nat→Rat):Rat:=P.bdQ fx y P.rows+P.adQ fx y P.rows fx.length
def rk (fx:List Int) (i:Nat):Nat:=(tO fx 0 i).length
def bX (fx:List Int) (X:Nat→Rat) (i:Nat):Rat:=if fx.getD i 9=1 then 1 else if fx.getD i 9=0 then X (rk fx i) else 0
def Pb.lA (P:Pb) (fx:List Int) (r k:Nat):Rat:=(((P.relC fx r).getD k 0:Int):Rat)
def Pb.lB (P:Pb) (fx:List Int) (r:Nat):Rat:=((P.relB fx r:Int):Rat)
def Pb.lG (P:Pb) (fx:List Int) (k:Nat):Rat:=(((P.relG fx).getD k 0:Int):Rat)
def Pb.fixE (P:Pb) (fx:List Int):Int:=if P.chk≠0 then P.chk else if fx.length≠P.of.length then 3 else if okF fx then 0 else 4
section
variable {P:Pb} {fx:List Int} {v:Int} {k i r:Nat}
theorem Ml (g:Nat→Int):((((tO fx v k).map g).sum:Int):Rat)=zf k fun i=>if fx.getD i 9=v then ((g i:Int):Rat) else 0:=by
 induction k with
 | zero=>rfl
 | succ k ih =>
  rw[qo]
  simp only[zf]
  rw[← ih]
  by_cases h:fx.getD k 9=v
  ·rw[if_pos h,if_pos h,List.map_append,List.sum_append,Rat.intCast_add]; simp
  ·rw[if_neg h,if_neg h]; grind
theorem KF:((P.accV fx k:Int):Rat)=zf k fun i=>if fx.getD i 9=1 then P.vQ i else 0:=by
 unfold Pb.accV Pb.inK
 rw[List.map_map]
 exact Ml _
theorem ME:P.lB fx r=((P.bnd r:Int):Rat)-zf fx.length fun i=>if fx.getD i 9=1 then P.cof r i else 0:=by
 unfold Pb.lB Pb.relB Pb.inL Pb.inK
 rw[Rat.intCast_sub,List.map_map]
 congr 1
 exact Ml _
theorem D5:rk fx (k+1)=if fx.getD k 9=0 then rk fx k+1 else rk fx k:=by
 unfold rk
 rw[qo]
 split<;>simp
theorem Mk (h:fx.getD i 9=0):∀ k,i<k→(tO fx 0 k)[rk fx i]?=some i
 | 0,hi=>by omega
 | k+1,hi=>by
  rw[qo]
  by_cases e:i=k
  ·subst e
   rw[if_pos h]
   unfold rk
   simp
  ·have ih:=Mk h k (by omega)
   split
   ·rw[List.getElem?_append_left (List.getElem?_eq_some_iff.1 ih).1]; exact ih
   ·exact ih
theorem lr (h:fx.getD i 9=0) (hi:i<fx.length):(zL fx)[rk fx i]?=some i:=Mk h _ hi
theorem NH (h:Nat→Nat→Rat):∀ k,k≤fx.length→zf (rk fx k) (fun j=>h j ((zL fx).getD j 0))=zf k fun i=>if fx.getD i 9=0 then h (rk fx i) i else 0
 | 0,_=>rfl
 | k+1,hk=>by
  have ih:=NH h k (by omega)
  simp only[zf]
  rw[← ih,D5]
  by_cases e:fx.getD k 9=0
  ·rw[if_pos e,if_pos e]
   simp only[zf]
   rw[List.getD_eq_getElem?_getD,lr e (by omega)]
   rfl
  ·rw[if_neg e,if_neg e]; grind
theorem GZ:(tO fx v k).Nodup:=List.Nodup.sublist List.filter_sublist List.nodup_range
theorem AN {l:List Nat} (h:l.Nodup) {i j:Nat} (hi:i<l.length) (hj:j<l.length) (e:l[i]=l[j]):i=j:=by
 rcases Nat.lt_trichotomy i j with h1 | h1 | h1
 ·exact absurd e (List.pairwise_iff_getElem.1 h i j hi hj h1)
 ·exact h1
 ·exact absurd e.symm (List.pairwise_iff_getElem.1 h j i hj hi h1)
theorem aag (h:k<(zL fx).length):rk fx (zL fx)[k]=k:=by
 have hm:=fk (List.getElem_mem h)
 have h1:=lr (fx:=fx) hm.2 hm.1
 obtain ⟨h2,h3⟩:=List.getElem?_eq_some_iff.1 h1
 exact AN GZ h2 h h3
theorem YY (h:k<(zL fx).length):P.lA fx r k=P.cof r ((zL fx).getD k 0):=by
 unfold Pb.lA Pb.relC Pb.cof
 simp[h]
theorem Py (h:k<(zL fx).length):P.lG fx k=P.vQ ((zL fx).getD k 0):=by
 unfold Pb.lG Pb.relG Pb.vQ
 simp[h]
theorem Al:rk fx fx.length=(zL fx).length:=rfl
theorem YS (h:k<(zL fx).length):(zL fx).getD k 0<fx.length∧fx.getD ((zL fx).getD k 0) 9=0:=by
 have:(zL fx).getD k 0=(zL fx)[k]:=by simp[h]
 rw[this]
 exact fk (List.getElem_mem h)
theorem JR {X:Nat→Rat} (g:Nat→Rat):zf fx.length (fun i=>g i*bX fx X i)=zf fx.length (fun i=>if fx.getD i 9=1 then g i else 0)+zf (zL fx).length (fun j=>g ((zL fx).getD j 0)*X j):=by
 have h:=NH (fx:=fx) (fun j i=>g i*X j) fx.length (Nat.le_refl _)
 rw[Al] at h
 rw[h,← lW]
 refine zm fun i _=>?_
 unfold bX
 by_cases h1:fx.getD i 9=1
 ·rw[if_pos h1,if_pos h1,if_neg (by omega)]; grind
 ·by_cases h0:fx.getD i 9=0
  ·rw[if_neg h1,if_pos h0,if_neg h1,if_pos h0]; grind
  ·rw[if_neg h1,if_neg h0,if_neg h1,if_neg h0]; grind
theorem Jt (hG:P.Good) (hi:i<P.of.length):∃ b,b<P.cl.length∧b<P.rows∧P.bnd b=1∧P.cof b i=1:=by
 have hs:=yG (yp (hG.off _ (at_mem hi))).1
 refine ⟨(P.at (i:Int)).b.toNat,by omega,by unfold Pb.rows; omega,?_,?_⟩
 ·unfold Pb.bnd; rw[if_pos (by omega)]
 ·unfold Pb.cof Pb.coef; rw[if_pos (by omega),if_pos (by omega)]; rfl
theorem EB (hG:P.Good) (hi:i<P.of.length) (hr:r<P.rows):0≤P.cof r i∧P.cof r i≤4:=by
 have:=uK (yG (yp (hG.off _ (at_mem hi))).1).2.2 hr
 unfold Pb.cof
 constructor
 ·exact_mod_cast this.1
 ·exact_mod_cast this.2
end
structure Pb.Sol (P:Pb) (fx:List Int) (x:Nat→Rat):Prop where
 x0:∀ i,i<fx.length→0≤x i
 one:∀ i,i<fx.length→fx.getD i 9=1→x i=1
 out:∀ i,i<fx.length→fx.getD i 9≠1→fx.getD i 9≠0→x i=0
 row:∀ r,r<P.rows→zf fx.length (fun i=>P.cof r i*x i)≤((P.bnd r:Int):Rat)
def Pb.val (P:Pb) (n:Nat) (x:Nat→Rat):Rat:=zf n fun i=>P.vQ i*x i
section
variable {P:Pb} {fx:List Int} {x y:Nat→Rat}
theorem Pb.Sol.le_one (hG:P.Good) (hl:fx.length=P.of.length) (h:P.Sol fx x) {i:Nat} (hi:i<fx.length):x i≤1:=by
 obtain ⟨b,hb,hr,e1,e2⟩:=Jt (i:=i) hG (by omega)
 have h1:=h.row b hr
 rw[e1,yh hi,e2] at h1
 have h2:0≤zf fx.length (fun j=>if j=i then 0 else P.cof b j*x j):=xY fun j hj=>by
  split
  ·exact Rat.le_refl
  ·exact Rat.mul_nonneg (EB hG (by omega) hr).1 (h.x0 j hj)
 have h3:(((1:Int):Int):Rat)=1:=rfl
 grind
theorem aeT (hG:P.Good) (hl:fx.length=P.of.length) (h:P.Sol fx x) (hy:∀ r,r<P.rows→0≤y r):P.val fx.length x≤P.fpQ fx y:=by
 have t1:P.val fx.length x=zf fx.length (fun i=>P.exc y P.rows i*x i)+zf P.rows (fun r=>y r*zf fx.length fun i=>P.cof r i*x i):=by
  have:zf P.rows (fun r=>y r*zf fx.length fun i=>P.cof r i*x i)=zf fx.length fun i=>(zf P.rows fun r=>y r*P.cof r i)*x i:=by
   rw[zm (g:=fun r=>zf fx.length fun i=>y r*(P.cof r i*x i)) fun r _=>nF.symm,jr]
   refine zm fun i _=>?_
   rw[← js]
   exact zm fun r _=>by grind
  rw[this,← lW]
  exact zm fun i _=>by unfold Pb.exc; grind
 have t2:zf fx.length (fun i=>P.exc y P.rows i*x i)≤zf fx.length (fun i=>if fx.getD i 9=1 then P.exc y P.rows i else 0)+P.adQ fx y P.rows fx.length:=by
  unfold Pb.adQ
  rw[← lW]
  refine n5 fun i hi=>?_
  by_cases h1:fx.getD i 9=1
  ·rw[if_pos h1,if_neg (by omega),h.one i hi h1]; grind
  ·rw[if_neg h1]
   by_cases h0:fx.getD i 9=0
   ·have a:=h.x0 i hi
    have b:=h.le_one hG hl hi
    by_cases hp:0<P.exc y P.rows i
    ·rw[if_pos ⟨h0,hp⟩]
     have:=Rat.mul_nonneg (show 0≤P.exc y P.rows i by grind) (show 0≤1-x i by grind)
     grind
    ·rw[if_neg fun h=>hp h.2]
     have:=Rat.mul_nonneg (show 0≤- P.exc y P.rows i by grind) a
     grind
   ·rw[if_neg fun h=>h0 h.1,h.out i hi h1 h0]; grind
 have t3:zf fx.length (fun i=>if fx.getD i 9=1 then P.exc y P.rows i else 0)=((P.accV fx fx.length:Int):Rat)-zf P.rows (fun r=>y r*zf fx.length fun i=>if fx.getD i 9=1 then P.cof r i else 0):=by
  have:zf P.rows (fun r=>y r*zf fx.length fun i=>if fx.getD i 9=1 then P.cof r i else 0)=zf fx.length fun i=>if fx.getD i 9=1 then (zf P.rows fun r=>y r*P.cof r i) else 0:=by
   rw[zm (g:=fun r=>zf fx.length fun i=>y r*(if fx.getD i 9=1 then P.cof r i else 0)) fun r _=>nF.symm,jr]
   refine zm fun i _=>?_
   by_cases h1:fx.getD i 9=1
   ·rw[if_pos h1]; exact zm fun r _=>by rw[if_pos h1]
   ·rw[if_neg h1]; exact zM fun r _=>by rw[if_neg h1]; grind
  rw[this,KF,← ux]
  refine zm fun i _=>?_
  unfold Pb.exc
  split<;>grind
 have t4:zf P.rows (fun r=>y r*zf fx.length fun i=>P.cof r i*x i)-zf P.rows (fun r=>y r*zf fx.length fun i=>if fx.getD i 9=1 then P.cof r i else 0)≤zf P.rows (fun r=>y r*((P.relB fx r:Int):Rat)):=by
  rw[← ux]
  refine n5 fun r hr=>?_
  have h1:((P.relB fx r:Int):Rat)=((P.bnd r:Int):Rat)-zf fx.length fun i=>if fx.getD i 9=1 then P.cof r i else 0:=ME
  have h2:=h.row r hr
  rw[h1]
  clear t1 t2 t3 h1
  generalize zf fx.length (fun i=>P.cof r i*x i)=a at *
  generalize zf fx.length (fun i=>if fx.getD i 9=1 then P.cof r i else 0)=b at *
  have:=Rat.mul_nonneg (hy r hr) (show 0≤((P.bnd r:Int):Rat)-a by grind)
  grind
 unfold Pb.fpQ Pb.bdQ
 grind
abbrev Pb.Bst (P:Pb) (fx:List Int) (X Y:Nat→Rat) (v:Rat):Prop:=Opt (zL fx).length P.rows (P.lA fx) (P.lB fx) (P.lG fx) X Y v
variable {X Y:Nat→Rat} {v:Rat}
theorem ae4 (hB:P.Bst fx X Y v):P.Sol fx (bX fx X) where
 x0:=fun i _=>by
  unfold bX
  split
  ·grind
  ·split
   ·exact hB.x0 _
   ·grind
 one:=fun i _ h=>if_pos h
 out:=fun i _ h1 h0=>by unfold bX; rw[if_neg h1,if_neg h0]
 row:=fun r hr=>by
  rw[JR (P.cof r)]
  have h1:=hB.row r hr
  rw[zm (g:=fun j=>P.cof r ((zL fx).getD j 0)*X j) fun j hj=>by rw[YY hj],ME] at h1
  grind
theorem ae5 (hB:P.Bst fx X Y v):P.val fx.length (bX fx X)=((P.accV fx fx.length:Int):Rat)+v:=by
 unfold Pb.val
 rw[JR P.vQ,KF,← hB.vx,zm (n:=(zL fx).length) (f:=fun j=>P.lG fx j*X j) (g:=fun j=>P.vQ ((zL fx).getD j 0)*X j) fun j hj=>by rw[Py hj]]
theorem agN (hB:P.Bst fx X Y v):P.fpQ fx Y=((P.accV fx fx.length:Int):Rat)+v:=by
 have h0:P.adQ fx Y P.rows fx.length=0:=zM fun i hi=>by
  refine if_neg fun ⟨h0,hp⟩=>?_
  have hg:=lr h0 hi
  have hlt:=(List.getElem?_eq_some_iff.1 hg).1
  have hd:(zL fx).getD (rk fx i) 0=i:=by rw[List.getD_eq_getElem?_getD,hg]; rfl
  have h1:=hB.col _ hlt
  rw[Py hlt,hd,zm (g:=fun r=>Y r*P.cof r i) fun r _=>by rw[YY hlt,hd]] at h1
  unfold Pb.exc at hp
  grind
 have h1:zf P.rows (fun r=>Y r*((P.relB fx r:Int):Rat))=v:=hB.vy
 unfold Pb.fpQ Pb.bdQ
 rw[h0,h1]
 grind
theorem Dd (hf:P.fits (P.inL fx)) {r:Nat} (hr:r<P.rows):0≤P.lB fx r:=by
 have:=hf r hr
 unfold Pb.lB Pb.relB
 exact_mod_cast (by omega:0≤P.bnd r-((P.inL fx).map (P.coef r)).sum)
theorem afN (hf:P.fits (P.inL fx)) (h:Inf (zL fx).length P.rows (P.lA fx) (P.lB fx) y):False:=by
 have:=xY (n:=P.rows) (f:=fun i=>y i*P.lB fx i) fun r hr=>Rat.mul_nonneg (h.y0 r) (Dd hf hr)
 have:=h.vy
 grind
theorem afO (hG:P.Good) (hl:fx.length=P.of.length) {ray:Nat→Rat} (h:Unb (zL fx).length P.rows (P.lA fx) (P.lB fx) (P.lG fx) x ray):False:=by
 have hz:∀ j,j<(zL fx).length→ray j=0:=fun j hj=>by
  obtain ⟨hlt,_⟩:=YS hj
  obtain ⟨b,_,hr,_,e2⟩:=Jt (i:=(zL fx).getD j 0) hG (by omega)
  have h1:=h.rr b hr
  rw[yh hj,YY hj,e2] at h1
  have h2:0≤zf (zL fx).length (fun k=>if k=j then 0 else P.lA fx b k*ray k):=xY fun k hk=>by
   split
   ·exact Rat.le_refl
   ·rw[YY hk]
    exact Rat.mul_nonneg (EB hG (by have:=(YS hk).1; omega) hr).1 (h.r0 k)
  have h3:=h.r0 j
  grind
 have:=h.up
 rw[zM fun j hj=>by rw[hz j hj]; grind] at this
 grind
def tH (T:List Nat) (i:Nat):Rat:=if i∈T then 1 else 0
theorem Rp {n:Nat} {g:Nat→Int}:∀ {T:List Nat},T.Nodup→(∀ j∈T,j<n)→zf n (fun i=>((g i:Int):Rat)*tH T i)=(((T.map g).sum:Int):Rat)
 | [],_,_=>by rw[zM fun i _=>by simp[tH]]; rfl
 | a::T,h,hn=>by
  obtain ⟨h1,h2⟩:=List.nodup_cons.1 h
  have ih:=Rp (n:=n) (g:=g) h2 fun j hj=>hn j (by simp[hj])
  have ha:=hn a (by simp)
  rw[yh ha] at ih ⊢
  simp only[List.map_cons,List.sum_cons,Rat.intCast_add]
  rw[← ih]
  have e1:tH (a::T) a=1:=by simp[tH]
  have e2:tH T a=0:=by simp[tH,h1]
  rw[e1,e2,zm (f:=fun j=>if j=a then 0 else ((g j:Int):Rat)*tH (a::T) j) (g:=fun j=>if j=a then 0 else ((g j:Int):Rat)*tH T j) fun j _=>by
   by_cases e:j=a
   ·rw[if_pos e,if_pos e]
   ·rw[if_neg e,if_neg e]; simp[tH,e]]
  grind
structure Pb.Comp (P:Pb) (fx:List Int) (k:Nat) (T:List Nat):Prop where
 inc:T.Pairwise (·<·)
 lt:∀ j∈T,j<k
 one:∀ i,i<k→fx.getD i 9=1→i∈T
 out:∀ i∈T,fx.getD i 9≠-1
 fit:P.fits (T.map fun i:Nat=>P.at i)
theorem Ng {T:List Nat} (hok:∀ i,i<fx.length→okX fx i) (h:P.Comp fx fx.length T):P.Sol fx (tH T) where
 x0:=fun i _=>by unfold tH; split<;>grind
 one:=fun i hi h1=>if_pos (h.one i hi h1)
 out:=fun i hi h1 h0=>by
  have:=hok i hi
  unfold okX at this
  exact if_neg fun hm=>h.out i hm (by omega)
 row:=fun r hr=>by
  have h1:=h.fit r hr
  rw[List.map_map] at h1
  have:=Rp (g:=fun i=>P.coef r (P.at (i:Int))) (h.inc.imp fun h=>Nat.ne_of_lt h) h.lt
  unfold Pb.cof
  rw[this]
  exact_mod_cast h1
theorem Nh {T:List Nat} (h:P.Comp fx fx.length T):P.val fx.length (tH T)=((((T.map fun i:Nat=>P.at i).map fun o=>o.v).sum:Int):Rat):=by
 unfold Pb.val
 rw[List.map_map]
 exact Rp (g:=fun i=>(P.at (i:Int)).v) (h.inc.imp fun h=>Nat.ne_of_lt h) h.lt
end
end Go.Pb

namespace Go.Proofs.YtjeoklgggppjiaaGreat
open Go Go.Am Go.Pb
noncomputable def RR (fx:List Int) (k:Nat):St:={env:=[(19,clA fx),(20,iv fx.length),(21,iv k)],sto:=[]}
section
variable {P:Pb} {fx:List Int} {k:Nat}
theorem Rx {x:Int} (hg:fx.getD k 9=x):okX fx k↔¬ x < -1∧¬ 1<x:=by unfold okX; rw[hg]; omega
theorem NM (h:k<fx.length):fx.getD k 9=fx[k]:=by rw[List.getD_eq_getElem?_getD,List.getElem?_eq_getElem h]; rfl
theorem Qv (h:P.fixE fx=0):P.chk=0∧fx.length=P.of.length∧okF fx:=by
 unfold Pb.fixE at h
 split at h
 ·rename_i h1; exact absurd h h1
 ·rename_i h1
  split at h
  ·cases h
  ·rename_i h2
   split at h
   ·rename_i h3; exact ⟨Decidable.not_not.1 h1,Decidable.not_not.1 h2,h3⟩
   ·cases h
theorem EZ (hn:P.cl.length≤1000) (hk:P.of.length≤1000000):zd Tryz.prog n8 [.agg (pbC P),clA fx] (iv (P.fixE fx)):=by
 refine zx SK (by simp) ?_
 simp[f7]
 refine za (gk hn hk) (by simp) (by simp) ?_
 unfold Pb.fixE
 by_cases c1:P.chk=0
 ·rw[if_neg fun h=>h c1]
  by_cases c2:fx.length=P.of.length
  ·have c2':(fx.length:Int)=P.of.length:=by omega
   rw[if_neg fun h=>h c2]
   simp[c1,c2']
   refine zr (RR fx) (fun k=>∀ q,q<k→okX fx q) fx.length (by simp[RR,c2']) (fun q hq=>by omega) (fun k hk' hI=>?_) (fun hI=>?_)
   ·have e:(k:Int)<P.of.length:=by omega
    have w1:=zn (k:=k) (by omega)
    have hg:=NM hk'
    by_cases d1:fx[k] < -1
    ·have hf:¬ okF fx:=fun h=>((Rx hg).1 (h k hk')).1 d1
     simp[vo,RR,c2',e,hk',d1,hf,vE]
    ·by_cases d2:1<fx[k]
     ·have hf:¬ okF fx:=fun h=>((Rx hg).1 (h k hk')).2 d2
      simp[vo,RR,c2',e,hk',d1,d2,hf,vE]
     ·simp[vo,RR,c2',e,hk',d1,d2,w1]
      exact fun q hq=>by
       by_cases eq:q=k
       ·subst eq; exact (Rx hg).2 ⟨d1,d2⟩
       ·exact hI q (by omega)
   ·have hf:okF fx:=hI
    simp[vo,RR,c2',hf,kN,vE]
  ·have c2':¬ (fx.length:Int)=P.of.length:=by omega
   rw[if_pos c2]
   simp[c1,c2',vE]
 ·rw[if_pos c1]
  simp[c1,vE]
theorem Qf:P.accV fx (k+1)=if fx.getD k 9=1 then P.accV fx k+(P.at (k:Int)).v else P.accV fx k:=by
 unfold Pb.accV Pb.inK
 rw[qo]
 split
 ·simp
 ·rfl
theorem YJ (hG:P.Good):∀ k,k≤P.of.length→0≤P.accV fx k∧P.accV fx k≤1000000*k
 | 0,_=>⟨Int.le_refl 0,Int.le_refl 0⟩
 | k+1,h=>by
  have ih:=YJ hG k (by omega)
  have hv:=(yG (yp (hG.off _ (at_mem (i:=k) (by omega)))).1).2.1
  rw[Qf]
  split<;>omega
noncomputable def MV (P:Pb) (fx:List Int) (k:Nat):St:={env:=[(2,.ptr 2 0),(4,.ptr 4 0),(5,iv (P.accV fx k)),(8,clA fx),(9,iv fx.length),(10,iv k)],sto:=[(2,.var (pbC P)),(4,.var zz)]}
theorem J7 (hG:P.Good) (hl:fx.length=P.of.length):zd Tryz.prog ne [.agg (pbC P),clA fx] (fq ((P.accV fx fx.length:Int):Rat)):=by
 have hb:=hG.k
 refine zx UW (by simp) ?_
 simp[gJ]
 refine zr (MV P fx) (fun _=>True) fx.length (by simp[MV]; rfl) trivial (fun k hk' _=>?_) (fun _=>?_)
 ·have e:(k:Int)<fx.length:=by omega
  have hko:k<P.of.length:=by omega
  have hko':(k:Int)<P.of.length:=by omega
  have w1:=zn (k:=k) (by omega)
  have hg:=NM hk'
  have hs:=Qf (P:=P) (fx:=fx) (k:=k)
  have hv:=YJ (fx:=fx) hG (k+1) (by omega)
  rw[hg] at hs
  by_cases d:fx[k]=1
  ·rw[if_pos d,pF hko] at hs
   have w2:IntKind.i64.wrap (P.accV fx k+P.of[k].v)=P.accV fx (k+1):=by rw[hs,wrap64]<;>omega
   simp[uz,MV,e,hk',hko,hko',d,w1,w2]
  ·rw[if_neg d] at hs
   simp[uz,MV,e,hk',d,w1,hs]
 ·have hv:=YJ (fx:=fx) hG fx.length (by omega)
  simp[uz,MV,mY]
  refine za (yf (n:=P.accV fx fx.length) (by omega) (by omega)) (by simp) (by simp) ?_
  simp[fz]
end
def tn (P:Pb):Nat:=if P.chk=0 then P.rows else 0
def nE (P:Pb) (r:Nat):List Int:=P.of.map (P.coef r)
section
variable {P:Pb} {r n:Nat} {o:Of} {L:List Of}
theorem JS (hn:P.cl.length≤1000) (hk:P.of.length≤1000000):zd Tryz.prog qF [.agg (pbC P)] (iv (tn P)):=by
 refine zx R8 (by simp) ?_
 simp[dO]
 refine za (gk hn hk) (by simp) (by simp) ?_
 unfold tn
 by_cases c1:P.chk=0
 ·simp[c1]
  refine za (MJ hn) (by simp) (by simp) ?_
  simp[lO]
 ·simp[c1,lO]
noncomputable def Lf (P:Pb) (r:Int) (q k:Nat):St:={env:=[(1,iv r),(4,apc 32 1 (clR ((nE P q).take k))),(6,.ptr 6 0),(20,ofA P.of),(21,iv P.of.length),(22,iv k)],sto:=[(6,.var (pbC P))]}
@[simp] theorem UK:(nE P r).length=P.of.length:=by simp[nE]
theorem Cn {k:Nat} (h:k<P.of.length):clR ((nE P r).take k)++[[iv (P.coef r P.of[k])]]=clR ((nE P r).take (k+1)):=by
 rw[mU (l:=nE P r) (o:=P.coef r P.of[k]) (by simp[nE,h])]
 simp[clR]
theorem aaA {k:Nat} (h:P.of.length≤k):(nE P r).take k=nE P r:=List.take_of_length_le (by rw[UK]; exact h)
def Fo (P:Pb) (r:Int):AV:=.tuple [if 0≤r∧r<tn P then clA (nE P r.toNat) else yI,iv (if 0≤r∧r<tn P then P.bnd r.toNat else 0)]
theorem abT {r:Int} (hn:P.cl.length≤1000) (hk:P.of.length≤1000000):zd Tryz.prog pS [.agg (pbC P),iv r] (Fo P r):=by
 refine vc Pm (by simp) ?_
 unfold Fo
 by_cases b1:r<0
 ·have hc:¬ (0≤r∧r<tn P):=by omega
  simp[jA,b1,hc,p7]
  exact AV.imp.refl
 ·simp[jA,b1]
  refine za (JS hn hk) (by simp) (by simp) ?_
  by_cases b2:(tn P:Int)≤r
  ·have hc:¬ (0≤r∧r<tn P):=by omega
   simp[b2,hc,p7]
   exact AV.imp.refl
  ·have hc:0≤r∧r<tn P:=by omega
   obtain ⟨q,rfl⟩:∃ q:Nat,r=q:=⟨r.toNat,by omega⟩
   have hG:P.Good:=by
    refine xQ ?_
    unfold tn at hc
    split at hc
    ·assumption
    ·omega
   have hq:q<P.rows:=by
    unfold tn at hc
    split at hc<;>omega
   simp[b2,hc]
   refine zr (Lf P q q) (fun _=>True) P.of.length (by simp[Lf]) trivial (fun k hk' _=>?_) (fun _=>?_)
   ·have e:(k:Int)<P.of.length:=by omega
    have w1:=zn (k:=k) (by omega)
    have hm:P.of[k]∈P.of:=List.getElem_mem hk'
    have hs:=yG (yp (hG.off _ hm)).1
    simp[nk,Lf,e,hk']
    refine za (TC (P:=P) (r:=q) hn hs.1 hq) (by simp) (by simp) ?_
    simp
    refine uH (by decide) rfl ?_ ?_ (by simp) ?_
    ·simp only[YN,UK,List.length_take]; omega
    ·simp only[YN,UK,List.length_take]; omega
    ·rw[Cn hk']
     simp[w1,Lf]
   ·simp[nk,Lf,gQ,aaA]
    refine za (Ra (P:=P) (r:=q) hn hq) (by simp) (by simp) ?_
    simp[p7]
    exact AV.imp_tuple2 (qY t5)
end
open Go.Dig Go.LP
structure RF where
 s:Bool
 a:List Nat
 c:List Nat
def RF.fine (x:RF):Prop:=ok x.a∧ok x.c∧x.a.length<17179869184∧x.c.length<17179869184
def RF.v (x:RF):Bool:=vfr x.s x.a x.c
def RF.of (q:Rat):RF:=⟨decide (q.num<0),zg q.num.natAbs,zg q.den⟩
noncomputable def h0 (x:RF):AV:=Classical.choose (p0 (bv x.s))
noncomputable def h1 (x:RF):AV:=Classical.choose (p0 (nl .plain x.a))
noncomputable def h2 (x:RF):AV:=Classical.choose (p0 (nl .plain x.c))
theorem kw (x:RF):h0 x=bv x.s:=Classical.choose_spec (p0 _)
theorem ky (x:RF):h1 x=nl .plain x.a:=Classical.choose_spec (p0 _)
theorem kB (x:RF):h2 x=nl .plain x.c:=Classical.choose_spec (p0 _)
noncomputable def hr (x:RF):List AV:=[h0 x,h1 x,h2 x]
@[simp] theorem ajj (x:RF):[h0 x,h1 x,h2 x]=hr x:=rfl
noncomputable abbrev hq (x:RF):AV:=.agg (hr x)
theorem abI (q:Rat):h0 (RF.of q)=f0 q:=by rw[kw,ki]; rfl
theorem abJ (q:Rat):h1 (RF.of q)=f1 q:=by rw[ky,kj]; rfl
theorem abK (q:Rat):h2 (RF.of q)=f2 q:=by rw[kB,ko]; rfl
theorem Pw (q:Rat):hr (RF.of q)=fr q:=by unfold hr fr; rw[abI,abJ,abK]
theorem bB (x:RF):hr x=[bv x.s,nl .plain x.a,nl .plain x.c]:=by unfold hr; rw[kw,ky,kB]
section
variable {x:RF} {l k a b M:Nat} {e:ze}
@[simp] theorem akM:rf (h0 x)=true:=by rw[kw]; rfl
@[simp] theorem aiI:strip (h0 x)=h0 x:=by rw[kw]; rfl
@[simp] theorem akL:dg l (h0 x)=h0 x:=by rw[kw]; simp
@[simp] theorem ajZ:frz l e (h0 x)=h0 x:=by rw[kw]; rfl
@[simp] theorem akN:rn a b (h0 x)=h0 x:=by rw[kw]; rfl
@[simp] theorem aj0:Am.low M (h0 x)=true:=by rw[kw]; rfl
@[simp] theorem ajf:zT k (h0 x)=false:=by rw[kw]; rfl
@[simp] theorem aj1:nH k (h0 x)=false:=by rw[kw]; rfl
@[simp] theorem akP:rf (h1 x)=true:=by rw[ky]; rfl
@[simp] theorem aiJ:strip (h1 x)=h1 x:=by rw[ky]; rfl
@[simp] theorem akO:dg l (h1 x)=h1 x:=by rw[ky]; simp
@[simp] theorem aj2:frz l e (h1 x)=h1 x:=by rw[ky]; rfl
@[simp] theorem akQ:rn a b (h1 x)=h1 x:=by rw[ky]; rfl
@[simp] theorem aj3:Am.low M (h1 x)=true:=by rw[ky]; rfl
@[simp] theorem ajg:zT k (h1 x)=false:=by rw[ky]; rfl
@[simp] theorem aj4:nH k (h1 x)=false:=by rw[ky]; rfl
@[simp] theorem akS:rf (h2 x)=true:=by rw[kB]; rfl
@[simp] theorem aiK:strip (h2 x)=h2 x:=by rw[kB]; rfl
@[simp] theorem akR:dg l (h2 x)=h2 x:=by rw[kB]; simp
@[simp] theorem aj5:frz l e (h2 x)=h2 x:=by rw[kB]; rfl
@[simp] theorem akT:rn a b (h2 x)=h2 x:=by rw[kB]; rfl
@[simp] theorem aj6:Am.low M (h2 x)=true:=by rw[kB]; rfl
@[simp] theorem ajh:zT k (h2 x)=false:=by rw[kB]; rfl
@[simp] theorem aj7:nH k (h2 x)=false:=by rw[kB]; rfl
@[simp] theorem afC:(hr x).length=3:=by simp[bB]
@[simp] theorem ahc:(hr x).all rf=true:=by rw[bB]; simp
@[simp] theorem Aq:(hr x).map strip=hr x:=by rw[bB]; simp
@[simp] theorem akY:(hr x).map (dg l)=hr x:=by rw[bB]; simp
@[simp] theorem aj9:xo k (hr x)=false:=by rw[bB]; simp
@[simp] theorem ah6:zB (hr x) 0 (some 3)=some (hq x):=by rw[vV afC ahc,Aq]
@[simp] theorem agI {y:AV}:zB (y::hr x) 1 (some 3)=some (hq x):=by
 simp only[zB,hr,List.length_cons,List.length_nil,List.drop_succ_cons,List.drop_zero,List.take]
 simp
@[simp] theorem aik {y z w:AV}:splice [y,z,w] 0 (hr x)=hr x:=by rw[bB]; simp[splice]
end
theorem YT {x:RF} (h:x.fine):zd Tryz.prog vX [hq x] (bv x.v):=by
 unfold hq; rw[bB]; exact F7 h.1 h.2.1 h.2.2.1 h.2.2.2 rfl rfl
noncomputable def hR (f:Nat→RF) (n:Nat):List (List AV):=mR (fun j=>hr (f j)) n
noncomputable abbrev hL (f:Nat→RF) (n:Nat):AV:=.list 3 .plain (hR f n)
section
variable {f:Nat→RF} {n i k:Nat}
@[simp] theorem aj8:(hR f n).length=n:=ql
@[simp] theorem aji {hi:i<(hR f n).length}:(hR f n)[i]=hr (f i):=lI
@[simp] theorem akU:yF (hR f n)=true:=d7 fun _=>by simp
@[simp] theorem akV:zQ (hR f n)=hR f n:=tK fun _=>by simp
theorem GK {g:Nat→Rat} (h:∀ j,j<n→f j=RF.of (g j)):hR f n=fR g n:=wZ fun j hj=>by rw[h j hj,Pw]
end
@[simp] theorem alh {x:RF}:(hr x)[0]?=some (h0 x):=rfl
@[simp] theorem ali {x:RF}:(hr x)[1]?=some (h1 x):=rfl
@[simp] theorem alj {x:RF}:(hr x)[2]?=some (h2 x):=rfl
@[simp] theorem akW {x:RF} {h:1<(hr x).length}:(hr x)[1]=h1 x:=rfl
@[simp] theorem akX {x:RF} {h:2<(hr x).length}:(hr x)[2]=h2 x:=rfl
noncomputable def SC (s t:Bool) (a c a' c':List Nat) (k:Nat):St :=
 {env:=[(2,.ptr 2 0),(3,.ptr 3 0),(5,iv k)],sto:=[(2,.var [bv s,nl .plain a,nl .plain c]),(3,.var [bv t,nl .plain a',nl .plain c'])]}
noncomputable def SD (s t:Bool) (a c a' c':List Nat) (k:Nat):St :=
 {env:=[(2,.ptr 2 0),(3,.ptr 3 0),(6,iv k)],sto:=[(2,.var [bv s,nl .plain a,nl .plain c]),(3,.var [bv t,nl .plain a',nl .plain c'])]}
theorem TS {a b:List Nat} (hl:a.length=b.length) (h:∀ j,j<a.length→a[j]?=b[j]?):a=b:=by
 apply List.ext_getElem?
 intro j
 by_cases hj:j<a.length
 ·exact h j hj
 ·rw[List.getElem?_eq_none (by omega),List.getElem?_eq_none (by omega)]
theorem aaM {s t:Bool} {a c a' c':List Nat} (hn:a.length<4611686018427387904) (hm:c.length<4611686018427387904) :
  zd Tryz.prog v8 [.agg [bv s,nl .plain a,nl .plain c],.agg [bv t,nl .plain a',nl .plain c']] (bv (decide (s=t∧a=a'∧c=c'))):=by
 refine zx abu (by simp) ?_
 by_cases e1:s=t
 rotate_left
 ·have e1':(s == t)=false:=by simp[e1]
  rw[decide_eq_false fun h=>e1 h.1]
  simp[gP,y9 s9,e1',nB]
 subst e1
 by_cases e2:a.length=a'.length
 rotate_left
 ·have e2':¬ (a.length:Int)=a'.length:=by omega
  rw[decide_eq_false fun h=>e2 (by rw[h.2.1])]
  simp[gP,y9 s9,e2',nB]
 have e2':(a.length:Int)=a'.length:=by omega
 by_cases e3:c.length=c'.length
 rotate_left
 ·have e3':¬ (c.length:Int)=c'.length:=by omega
  rw[decide_eq_false fun h=>e3 (by rw[h.2.2])]
  simp[gP,y9 s9,e2,e3',nB]
 have e3':(c.length:Int)=c'.length:=by omega
 simp[gP,y9 s9,e2,e3]
 refine zr (SC s s a c a' c') (fun k=>∀ j,j<k→a[j]?=a'[j]?) a.length (by simp[SC]) (fun j hj=>by omega) (fun k hk hI=>?_) (fun hI0=>?_)
 ·have e:(k:Int)<a.length:=by omega
  have w:=zn (k:=k) (by omega)
  have hk':k<a'.length:=by omega
  have e':(k:Int)<a'.length:=by omega
  by_cases h:a[k]=a'[k]
  ·have h':(a[k]:Int)=a'[k]:=by rw[h]
   simp[l7,SC,e,hk,hk',e',h,w]
   intro j hj
   by_cases ej:j=k
   ·subst ej; simp[hk,hk',h]
   ·exact hI j (by omega)
  ·have h':¬ (a[k]:Int)=a'[k]:=by omega
   rw[decide_eq_false (p:=a=a') fun h2=>h (by simp only[h2])]
   simp[l7,SC,e,hk,hk',e',h',nB]
 ·have hae:=TS e2 hI0
  subst hae
  simp[l7,SC,Xw]
  refine zr (SD s s a c a c') (fun k=>∀ j,j<k→c[j]?=c'[j]?) c.length (by simp[SD]) (fun j hj=>by omega) (fun k hk hI=>?_) (fun hI1=>?_)
  ·have e:(k:Int)<c.length:=by omega
   have w:=zn (k:=k) (by omega)
   have hk':k<c'.length:=by omega
   have e':(k:Int)<c'.length:=by omega
   by_cases h:c[k]=c'[k]
   ·have h':(c[k]:Int)=c'[k]:=by rw[h]
    simp[l8,SD,e,hk,hk',e',h,w]
    intro j hj
    by_cases ej:j=k
    ·subst ej; simp[hk,hk',h]
    ·exact hI j (by omega)
   ·have h':¬ (c[k]:Int)=c'[k]:=by omega
    rw[decide_eq_false (p:=c=c') fun h2=>h (by simp only[h2])]
    simp[l8,SD,e,hk,hk',e',h',nB]
  ·have hce:=TS e3 hI1
   subst hce
   simp[l8,SD,Xv,nB]
theorem Cb {p q:Rat}:(decide (p.num<0)=decide (q.num<0)∧zg p.num.natAbs=zg q.num.natAbs∧zg p.den=zg q.den)↔p=q:=by
 constructor
 ·rintro ⟨h1,h2,h3⟩
  have h2:=Uc h2
  have h3:=Uc h3
  have h1:=decide_eq_decide.1 h1
  exact Rat.ext (by omega) h3
 ·rintro rfl; exact ⟨rfl,rfl,rfl⟩
theorem Sj {K:Nat} {p q:Rat} (hK:K≤137438953472) (hp:sz K p):zd Tryz.prog v8 [fq p,fq q] (bv (decide (p=q))):=by
 obtain ⟨l1,l2⟩:=qw hp
 have h:=aaM (s:=decide (p.num<0)) (t:=decide (q.num<0)) (a:=zg p.num.natAbs) (c:=zg p.den) (a':=zg q.num.natAbs) (c':=zg q.den) (by omega) (by omega)
 unfold fq
 rw[rD,rD]
 rw[show decide (p=q)=decide (decide (p.num<0)=decide (q.num<0)∧zg p.num.natAbs=zg q.num.natAbs∧zg p.den=zg q.den) from decide_eq_decide.2 Cb.symm]
 exact h
theorem agt {L n:Nat} {f:Nat→Rat} (h:∀ i,i<n→sz L (f i)):sz (n*(L+1)) (zf n f):=by
 induction n with
 | zero=>exact vd
 | succ n ih =>
  have:=cg (ih fun i hi=>h i (by omega)) (h n (by omega))
  rw[Nat.succ_mul,← Nat.add_assoc]
  exact this
theorem Q3 {L n N:Nat} {f:Nat→Rat} (h:∀ i,i<n→sz L (f i)) (hn:n≤N):sz (N*(L+1)) (zf n f):=zG (agt h) (Nat.mul_le_mul_right _ hn)
theorem agE:zd Tryz.prog ve [iv 0] (fq 0):=eK (n:=0) (by decide) (by decide)
theorem dW {K:Nat} {q:Rat} (hK:K≤137438953472) (h:sz K q):(RF.of q).fine:=by
 obtain ⟨l1,l2⟩:=qw h
 exact ⟨zD _,zD _,by simp only[RF.of]; omega,by simp only[RF.of]; omega⟩
@[simp] theorem ale {q:Rat}:(fr q)[0]?=some (f0 q):=rfl
@[simp] theorem akI {q:Rat} {h:0<(fr q).length}:(fr q)[0]=f0 q:=rfl
@[simp] theorem alf {q:Rat}:(fr q)[1]?=some (f1 q):=rfl
@[simp] theorem alg {q:Rat}:(fr q)[2]?=some (f2 q):=rfl
@[simp] theorem akJ {q:Rat} {h:1<(fr q).length}:(fr q)[1]=f1 q:=rfl
@[simp] theorem akK {q:Rat} {h:2<(fr q).length}:(fr q)[2]=f2 q:=rfl
theorem G0 (q:Rat):(RF.of q).v=true:=LB q
theorem tY {K:Nat} {n:Int} (h:n.natAbs≤2^K):sz K (n:Rat):=⟨by simpa using h,by simpa using Nat.one_le_two_pow⟩
def RF.q (x:RF):Rat:=mkRat (sg x.s (val x.a)) (val x.c)
theorem aaj (q:Rat):(RF.of q).q=q:=by
 unfold RF.q RF.of
 simp only[zO]
 rw[mN,Rat.mkRat_self]
theorem afR {x:RF} (h:x.v=true):x=RF.of x.q:=by
 obtain ⟨q,h1,h2,h3⟩:=aeR h
 have:x=RF.of q:=by cases x; simp only at h1 h2 h3; subst h1 h2 h3; rfl
 rw[this,aaj]
section
variable {P:Pb} {fx:List Int} {y:Nat→Rat} {S k r i:Nat}
theorem ahS (hG:P.Good) (hi:i<P.of.length):sz 20 (P.vQ i):=by
 have hv:=(yG (yp (hG.off _ (at_mem hi))).1).2.1
 exact tY (by omega)
theorem Nf (hG:P.Good) (hi:i<P.of.length) (hr:r<P.rows):sz 2 (P.cof r i):=by
 have hv:=uK (yG (yp (hG.off _ (at_mem hi))).1).2.2 hr
 exact tY (by omega)
theorem BR (hG:P.Good) (hr:r<P.rows):∀ k,k≤P.of.length→0≤((P.inK fx k).map (P.coef r)).sum∧((P.inK fx k).map (P.coef r)).sum≤4*k:=fun k hk=>by
 have h:=Ys (a:=0) (b:=4) (f:=P.coef r) (l:=P.inK fx k) fun o ho=>uK (yG (yp (hG.off _ (Jd hk o ho))).1).2.2 hr
 have:=Ro (P:=P) (fx:=fx) (k:=k)
 omega
theorem Zp (hG:P.Good) (hr:r<P.rows):0≤P.bnd r∧P.bnd r≤4:=by
 unfold Pb.rows at hr
 unfold Pb.bnd
 split
 ·omega
 ·split
  ·exact hG.sup _ (by omega)
  ·have h1:=hG.set (r-P.cl.length-6) (by omega)
   have h2:=hG.sup (r-P.cl.length-6) (by omega)
   unfold Pb.okC at h1
   omega
theorem adR (hG:P.Good) (hl:fx.length=P.of.length) (hr:r<P.rows):sz 10 ((P.relB fx r:Int):Rat):=by
 have h1:=BR (fx:=fx) hG hr fx.length (by omega)
 have h2:=Zp hG hr
 have h3:=hG.k
 refine tY ?_
 unfold Pb.relB Pb.inL
 omega
theorem aeZ (hG:P.Good) (hl:fx.length=P.of.length):sz 28 ((P.accV fx fx.length:Int):Rat):=by
 have h1:=YJ (fx:=fx) hG fx.length (by omega)
 have h3:=hG.k
 exact tY (by omega)
end
section
variable {P:Pb} {r n:Nat} {o:Of} {L:List Of} {ch:List Int}
noncomputable def US (P:Pb) (ch:List Int) (k:Nat):St:={env:=[(2,.ptr 2 0),(6,apc 34 8 (ofR (P.pick (ch.take k)))),(7,iv (prv ch k)),(10,clA ch),(11,iv ch.length),(12,iv k)],sto:=[(2,.var (pbC P))]}
theorem Mv (hk:P.of.length≤1000000) (hl:ch.length<4611686018427387904):zd Tryz.prog sd [.agg (pbC P),clA ch] (.tuple [if okP P.of.length ch then ofA (P.pick ch) else yI,bv (decide (okP P.of.length ch))]):=by
 refine vc U0 (by simp) ?_
 simp[gR]
 have h0:apc 34 8 (ofR (P.pick (ch.take 0)))=.list 0 .full []:=by rw[List.take_zero]; exact nK rfl
 refine zr (US P ch) (fun k=>∀ q,q<k→okI P.of.length ch q) ch.length (by simp[US,prv,Pb.pick,ofR,apc]) (fun q hq=>by omega) (fun k hk' hI=>?_) (fun hI=>?_)
 ·have e:(k:Int)<ch.length:=by omega
  have w1:=zn (k:=k) (by omega)
  have hp:=Sa hI
  have hg:=getD_lt hk'
  by_cases d:okI P.of.length ch k
  ·have d':=d
   unfold okI at d'
   rw[hg] at d'
   obtain ⟨b,hb,hbn⟩:=gq hI d
   rw[hg] at hb
   have hlen:=qX (n:=P.of.length) (ch:=ch.take (k+1)) (fun q hq=>by
    have hq:q<k+1:=by simp at hq; omega
    have e1:∀ j,j<k+1→(ch.take (k+1)).getD j 0=ch.getD j 0:=fun j hj=>by
     rw[List.getD_eq_getElem?_getD,List.getD_eq_getElem?_getD,List.getElem?_take,if_pos hj]
    have:=if hqk:q=k then hqk▸d else hI q (by omega)
    unfold okI at this ⊢
    rw[e1 q hq]
    cases q with
    | zero=>exact this
    | succ q=>simp only[prv] at this ⊢; rw[e1 q (by omega)]; exact this)
   have hkn:k+1≤P.of.length:=by simpa [List.length_take,Nat.min_eq_left (show k+1≤ch.length by omega)] using hlen
   rw[hb] at d'
   have b1:¬ (b:Int)≤prv ch k:=by omega
   have b2:(b:Int)<P.of.length:=by omega
   have b3:¬ (P.of.length:Int)≤b:=by omega
   have hat:P.of[b]=P.at ch[k]:=by rw[hb,Ga hbn]
   have hpr:prv ch (k+1)=b:=by simp only[prv]; rw[hg,hb]
   simp[wQ,US,e,hk',hb,b1,b2,b3,hbn]
   refine uH (by decide) rfl ?_ ?_ (by simp) ?_
   ·simp only[uM,wg,List.length_take]; omega
   ·simp only[uM,wg,List.length_take]; omega
   ·have hro:ofR (P.pick (ch.take k))++[oC P.of[b]]=ofR (P.pick (ch.take (k+1))):=by rw[Z1 hk',Y0,hat]; rfl
    rw[hro]
    simp[w1,hpr,US]
    exact fun q hq=>by
     by_cases eq:q=k
     ·subst eq; exact d
     ·exact hI q (by omega)
  ·have hf:¬ okP P.of.length ch:=fun h=>d (h k hk')
   unfold okI at d
   rw[hg] at d
   by_cases b1:ch[k]≤prv ch k
   ·simp[wQ,US,e,hk',b1,hf,sH]
    exact AV.imp.refl
   ·have b2:(P.of.length:Int)≤ch[k]:=by omega
    simp[wQ,US,e,hk',b1,b2,hf,sH]
    exact AV.imp.refl
 ·have hf:okP P.of.length ch:=hI
  simp[wQ,US,hf,m7,sH]
  exact AV.imp_tuple2 (qY t5)
theorem GA (hn:P.cl.length≤1000) (hk:P.of.length≤1000000) (hl:ch.length<4611686018427387904):zd Tryz.prog rO [.agg (pbC P),clA ch] (iv (P.feaE ch)):=by
 refine zx Yv (by simp) ?_
 simp[kT]
 refine za (gk hn hk) (by simp) (by simp) ?_
 unfold Pb.feaE
 by_cases c1:P.chk=0
 ·rw[if_neg (fun h:P.chk≠0=>h c1)]
  simp[c1]
  refine za (Mv hk hl) (by simp) (by simp) ?_
  by_cases c2:okP P.of.length ch
  ·have hG:=xQ c1
   have hm:=fp c2
   simp[c2]
   have hP:∀ o∈P.pick ch,P.offE o=0:=fun o ho=>hG.off o (hm o ho)
   refine za (NF (P:=P) (L:=P.pick ch) hn (by rw[wg]; have:=qX c2; have:=hG.k; omega) (fun o ho=>(yG (yp (hP o ho)).1).1) (fun o ho=>(yG (yp (hP o ho)).1).2.2)) (by simp) (by simp) ?_
   by_cases c3:P.fits (P.pick ch)
   ·simp[c3,vu]
   ·simp[c3,vu]
  ·simp[c2,vu]
 ·rw[if_pos c1]
  simp[c1,vu]
end
section
variable {P:Pb} {ch:List Int} {L:List Of}
def FQ (L:List Of) (k:Nat):St:={env:=[(7,iv (wu (fun o=>o.v) L k)),(23,ofA L),(24,iv L.length),(25,iv k)],sto:=[]}
theorem aeQ (hn:P.cl.length≤1000) (hk:P.of.length≤1000000) (hl:ch.length<4611686018427387904):zd Tryz.prog me [.agg (pbC P),clA ch] (iv (P.valE ch)):=by
 refine zx SR (by simp) ?_
 simp[er]
 refine za (Mv hk hl) (by simp) (by simp) ?_
 unfold Pb.valE
 by_cases c2:okP P.of.length ch
 ·simp[c2]
  refine za (gk hn hk) (by simp) (by simp) ?_
  by_cases c1:P.chk=0
  ·have hG:=xQ c1
   have hm:=fp c2
   have hP:∀ o∈P.pick ch,0≤o.v∧o.v≤1000000:=fun o ho=>by have:=(yG (yp (hG.off o (hm o ho))).1).2.1; omega
   have hl2:(P.pick ch).length≤160:=by rw[wg]; have:=qX c2; have:=hG.k; omega
   simp[c1]
   generalize P.pick ch=L at *
   refine zr (FQ L) (fun _=>True) L.length (by simp[FQ,jj]) trivial (fun k hk' _=>?_) (fun _=>?_)
   ·have e:(k:Int)<L.length:=by omega
    have hg:L[k]?=some L[k]:=by simp[hk']
    have w1:=zn (k:=k) (by omega)
    obtain ⟨p1,p2⟩:=sE (f:=fun o:Of=>o.v) hP k (by omega)
    have p3:=hP _ (List.getElem_mem hk')
    have w3:IntKind.i64.wrap (wu (fun o=>o.v) L k+L[k].v)=wu (fun o=>o.v) L k+L[k].v:=by rw[wrap64]<;>omega
    have hs:=nV (f:=fun o:Of=>o.v) hg
    simp[r9,FQ,e,hk',w1,w3,hs]
   ·have hall:wu (fun o=>o.v) L L.length=(L.map fun o=>o.v).sum:=lM
    simp[r9,FQ,kZ,hall,rI]
  ·simp[c1,rI]
 ·simp[c2,rI]
end
end Go.Proofs.YtjeoklgggppjiaaGreat

namespace Go.Pb
open Go.LP
def Pb.sA (P:Pb) (i j:Nat):Rat:=if i<P.of.length then (if j<P.rows then-P.cof j i else -1) else if j<P.rows then ((P.bnd j:Int):Rat) else 0
def Pb.sB (P:Pb) (V:Int) (i:Nat):Rat:=if i<P.of.length then-P.vQ i else (V:Rat)
def Pb.sG (P:Pb) (j:Nat):Rat:=if j<P.rows then 0 else -1
def Pb.costQ (P:Pb) (y:Nat→Rat) (i:Nat):Rat:=zf P.rows fun r=>y r*P.cof r i
def Pb.totQ (P:Pb) (y:Nat→Rat):Rat:=zf P.rows fun r=>y r*((P.bnd r:Int):Rat)
abbrev Pb.Sup (P:Pb) (V:Int) (X Y:Nat→Rat) (v:Rat):Prop:=Opt (P.rows+1) (P.of.length+1) P.sA (P.sB V) P.sG X Y v
section
variable {P:Pb} {V:Int} {X Y y x:Nat→Rat} {v:Rat} {i:Nat}
theorem Cr (hi:i<P.of.length):zf (P.rows+1) (fun j=>P.sA i j*X j)=- P.costQ X i-X P.rows:=by
 simp only[zf]
 have e:P.sA i P.rows=-1:=by unfold Pb.sA; rw[if_pos hi,if_neg (Nat.lt_irrefl _)]
 rw[e,zm (g:=fun r=>-(X r*P.cof r i)) fun r hr=>by
  unfold Pb.sA; rw[if_pos hi,if_pos hr]; grind,lX]
 unfold Pb.costQ
 grind
theorem JT:zf (P.rows+1) (fun j=>P.sA P.of.length j*X j)=P.totQ X:=by
 simp only[zf]
 have e:P.sA P.of.length P.rows=0:=by unfold Pb.sA; rw[if_neg (Nat.lt_irrefl _),if_neg (Nat.lt_irrefl _)]
 rw[e,zm (g:=fun r=>X r*((P.bnd r:Int):Rat)) fun r hr=>by
  unfold Pb.sA; rw[if_neg (Nat.lt_irrefl _),if_pos hr]; grind]
 unfold Pb.totQ
 grind
theorem MM:zf (P.rows+1) (fun j=>P.sG j*X j)=- X P.rows:=by
 simp only[zf]
 have e:P.sG P.rows=-1:=if_neg (Nat.lt_irrefl _)
 rw[e,zM fun r hr=>by unfold Pb.sG; rw[if_pos hr]; grind]
 grind
theorem Cs (hi:i<P.of.length):P.sB V i=- P.vQ i:=if_pos hi
theorem JU:P.sB V P.of.length=(V:Rat):=if_neg (Nat.lt_irrefl _)
theorem J0 {z:Rat} (h1:∀ i,i<P.of.length→P.vQ i≤P.costQ y i+z) (h2:P.totQ y≤(V:Rat)) {m:Nat} (hm:m<P.of.length+1) :
  zf (P.rows+1) (fun j=>P.sA m j*(if j<P.rows then y j else z))≤P.sB V m:=by
 have hc:∀ i,P.costQ (fun j=>if j<P.rows then y j else z) i=P.costQ y i:=fun i=>zm fun r hr=>by
  show (if r<P.rows then y r else z)*_=_
  rw[if_pos hr]
 have ht:P.totQ (fun j=>if j<P.rows then y j else z)=P.totQ y:=zm fun r hr=>by
  show (if r<P.rows then y r else z)*_=_
  rw[if_pos hr]
 by_cases hm':m<P.of.length
 ·rw[Cr (X:=fun j=>if j<P.rows then y j else z) hm',hc,Cs hm',if_neg (Nat.lt_irrefl _)]
  have:=h1 m hm'
  grind
 ·have e:m=P.of.length:=by omega
  subst e
  rw[JT (X:=fun j=>if j<P.rows then y j else z),ht,JU]
  exact h2
theorem C3 (ho:P.Sup V X Y v) {z:Rat} (hy:∀ r,r<P.rows→0≤y r) (hz:0≤z) (h1:∀ i,i<P.of.length→P.vQ i≤P.costQ y i+z) (h2:P.totQ y≤(V:Rat)):X P.rows≤z:=by
 have h:=wN (n:=P.rows+1) (m:=P.of.length+1) (A:=P.sA) (bb:=P.sB V) (gg:=P.sG) (x:=fun j=>if j<P.rows then y j else z) (y:=Y)
  (fun j _=>by
   by_cases e:j<P.rows
   ·rw[if_pos e]; exact hy j e
   ·rw[if_neg e]; exact hz)
  (fun i hi=>J0 h1 h2 hi) (fun i _=>ho.y0 i) ho.col
 rw[ho.vy,MM (X:=fun j=>if j<P.rows then y j else z),if_neg (Nat.lt_irrefl _)] at h
 have h3:=ho.vx
 rw[MM] at h3
 grind
theorem Ln (ho:P.Sup V X Y v) (hi:i<P.of.length):P.vQ i≤P.costQ X i+X P.rows:=by
 have h:=ho.row i (by omega)
 rw[Cr hi,Cs hi] at h
 grind
theorem J1 (ho:P.Sup V X Y v):P.totQ X≤(V:Rat):=by
 have h:=ho.row P.of.length (by omega)
 rw[JT,JU] at h
 exact h
theorem ahR (hG:P.Good) (hi:i<P.of.length):P.vQ i≤1000000∧0≤P.vQ i:=by
 have h:=(yG (yp (hG.off _ (at_mem hi))).1).2.1
 unfold Pb.vQ
 constructor
 ·have h1:(P.at (i:Int)).v≤1000000:=by omega
  have h2:((1000000:Int):Rat)=1000000:=by decide
  rw[← h2]
  exact Rat.intCast_le_intCast.2 h1
 ·have:0≤(P.at (i:Int)).v:=by omega
  exact_mod_cast this
theorem F0 (hG:P.Good) (hV:0≤V) (h:Inf (P.rows+1) (P.of.length+1) P.sA (P.sB V) y):False:=by
 have h0:∀ i,P.costQ (fun _=>0) i=0:=fun i=>zM fun r _=>by grind
 have h0t:P.totQ (fun _=>0)=0:=zM fun r _=>by grind
 have hr:=fun m (hm:m<P.of.length+1)=>J0 (V:=V) (y:=fun _=>(0:Rat)) (z:=1000000) (fun i hi=>by rw[h0]; have:=(ahR hG hi).1; grind) (by rw[h0t]; exact_mod_cast hV) hm
 have hw:=wN (n:=P.rows+1) (m:=P.of.length+1) (A:=P.sA) (bb:=P.sB V) (gg:=fun _=>0) (x:=fun j=>if j<P.rows then 0 else 1000000) (y:=y)
  (fun j _=>by split<;>decide) hr (fun i _=>h.y0 i) h.col
 rw[zM fun j _=>by grind] at hw
 have:=h.vy
 grind
theorem F1 {ray:Nat→Rat} (h:Unb (P.rows+1) (P.of.length+1) P.sA (P.sB V) P.sG x ray):False:=by
 have h1:=h.up
 rw[MM] at h1
 have:=h.r0 P.rows
 grind
theorem Ni {fx:List Int} (h:P.Sol fx x) (hy:∀ r,r<P.rows→0≤y r):zf fx.length (fun i=>P.costQ y i*x i)≤P.totQ y:=by
 have:zf fx.length (fun i=>P.costQ y i*x i)=zf P.rows (fun r=>y r*zf fx.length fun i=>P.cof r i*x i):=by
  rw[zm (n:=P.rows) (g:=fun r=>zf fx.length fun i=>y r*(P.cof r i*x i)) fun r _=>nF.symm,jr]
  refine zm fun i _=>?_
  unfold Pb.costQ
  rw[← js]
  exact zm fun r _=>by grind
 rw[this]
 exact n5 fun r hr=>by
  have h1:=h.row r hr
  have:=Rat.mul_nonneg (hy r hr) (show 0≤((P.bnd r:Int):Rat)-zf fx.length (fun i=>P.cof r i*x i) by grind)
  grind
end
section
variable {P:Pb} {V:Int} {fx:List Int} {X Y X' Y' x:Nat→Rat} {v B:Rat} {T:List Nat}
theorem ZZ (hz:∀ i,i<fx.length→fx.getD i 9=0):∀ k,k≤fx.length→tO fx 1 k=[]
 | 0,_=>QI
 | k+1,hk=>by rw[qo,if_neg (by rw[hz k (by omega)]; omega)]; exact ZZ hz k (by omega)
theorem NW (hz:∀ i,i<fx.length→fx.getD i 9=0):P.inL fx=[]:=by
 unfold Pb.inL Pb.inK
 rw[ZZ hz _ (Nat.le_refl _)]
 rfl
theorem Zl (hz:∀ i,i<fx.length→fx.getD i 9=0):P.accV fx fx.length=0:=by
 unfold Pb.accV Pb.inK
 rw[ZZ hz _ (Nat.le_refl _)]
 rfl
theorem ac1 (hz:∀ i,i<fx.length→fx.getD i 9=0) (r:Nat):P.lB fx r=((P.bnd r:Int):Rat):=by
 unfold Pb.lB Pb.relB
 rw[NW hz]
 simp
theorem BI (hz:∀ i,i<fx.length→fx.getD i 9=0) (hB:P.Bst fx X' Y' B) {i:Nat} (hi:i<fx.length):P.vQ i≤P.costQ Y' i:=by
 have hg:=lr (hz i hi) hi
 have hlt:=(List.getElem?_eq_some_iff.1 hg).1
 have hd:(zL fx).getD (rk fx i) 0=i:=by rw[List.getD_eq_getElem?_getD,hg]; rfl
 have h1:=hB.col _ hlt
 rw[Py hlt,hd,zm (g:=fun r=>Y' r*P.cof r i) fun r _=>by rw[YY hlt,hd]] at h1
 exact h1
theorem acg (hz:∀ i,i<fx.length→fx.getD i 9=0) (hB:P.Bst fx X' Y' B):P.totQ Y'=B:=by
 rw[← hB.vy]
 exact zm fun r _=>by rw[ac1 hz]
theorem ach (hz:∀ i,i<fx.length→fx.getD i 9=0) (hB:P.Bst fx X' Y' B):P.val fx.length (bX fx X')=B:=by
 rw[ae5 hB,Zl hz]
 have:((0:Int):Rat)=0:=rfl
 rw[this]; grind
theorem MT (hl:fx.length=P.of.length) (ho:P.Sup V X Y v) (h0:X P.rows=0) (h:P.Sol fx x):P.val fx.length x≤(V:Rat):=by
 have h1:=Ni h fun r _=>ho.x0 r
 have h2:=J1 ho
 have h3:P.val fx.length x≤zf fx.length (fun i=>P.costQ X i*x i):=n5 fun i hi=>by
  have a:=Ln ho (i:=i) (by omega)
  rw[h0] at a
  have:=Rat.mul_nonneg (show 0≤P.costQ X i-P.vQ i by grind) (h.x0 i hi)
  grind
 grind
theorem Fz (hl:fx.length=P.of.length) (hz:∀ i,i<fx.length→fx.getD i 9=0) (ho:P.Sup V X Y v) (hB:P.Bst fx X' Y' B) (h:B≤(V:Rat)):X P.rows=0:=by
 have h1:=C3 ho (y:=Y') (z:=0) (fun r _=>hB.y0 r) Rat.le_refl (fun i hi=>by have:=BI hz hB (i:=i) (by omega); grind) (by rw[acg hz hB]; exact h)
 have h2:=ho.x0 P.rows
 grind
theorem CN (hG:P.Good) (hl:fx.length=P.of.length) (hz:∀ i,i<fx.length→fx.getD i 9=0) (ho:P.Sup V X Y v) (hB:P.Bst fx X' Y' B) (hT:P.Comp fx fx.length T)
  (hV:((((T.map fun i:Nat=>P.at i).map fun o=>o.v).sum:Int):Rat)=(V:Rat)):X P.rows=0↔B=(V:Rat):=by
 have hs:P.Sol fx (tH T):=Ng (fun i hi=>.inr (.inl (hz i hi))) hT
 have hv:=Nh hT
 have hle:(V:Rat)≤B:=by
  rw[← hV,← hv]
  have h1:=aeT (y:=Y') hG hl hs fun r _=>hB.y0 r
  rw[agN hB,Zl hz] at h1
  have:((0:Int):Rat)=0:=rfl
  rw[this] at h1
  grind
 constructor
 ·intro h0
  have h1:=MT hl ho h0 (ae4 hB)
  rw[ach hz hB] at h1
  grind
 ·intro h
  exact Fz hl hz ho hB (by grind)
theorem KE {n:Nat} {f:Nat→Rat} (h0:∀ i,i<n→0≤f i) (hs:zf n f≤0) {i:Nat} (hi:i<n):f i=0:=by
 have h1:=yh (f:=f) hi
 have h2:0≤zf n (fun j=>if j=i then 0 else f j):=xY fun j hj=>by
  split
  ·exact Rat.le_refl
  ·exact h0 j hj
 have h3:=h0 i hi
 grind
theorem Ks (hl:fx.length=P.of.length) (hz:∀ i,i<fx.length→fx.getD i 9=0) (ho:P.Sup V X Y v) (h0:X P.rows=0) (hT:P.Comp fx fx.length T)
  (hV:((((T.map fun i:Nat=>P.at i).map fun o=>o.v).sum:Int):Rat)=(V:Rat)) {i:Nat} (hi:i∈T):P.costQ X i=P.vQ i:=by
 have hs:P.Sol fx (tH T):=Ng (fun i hi=>.inr (.inl (hz i hi))) hT
 have hv:=Nh hT
 rw[hV] at hv
 have h1:=Ni hs fun r _=>ho.x0 r
 have h2:=J1 ho
 have h3:=KE (n:=fx.length) (f:=fun j=>P.costQ X j*tH T j-P.vQ j*tH T j) (fun j hj=>by
  have a:=Ln ho (i:=j) (by omega)
  rw[h0] at a
  have:=Rat.mul_nonneg (show 0≤P.costQ X j-P.vQ j by grind) (hs.x0 j hj)
  grind) (by
  rw[ux]
  have e:zf fx.length (fun j=>P.vQ j*tH T j)=P.val fx.length (tH T):=rfl
  rw[e,hv]
  grind) (hT.lt i hi)
 have e1:tH T i=1:=by unfold tH; rw[if_pos hi]
 simp only[e1] at h3
 grind
end
end Go.Pb
