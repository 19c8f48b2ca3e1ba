/- What the proof rests on, part 9: QG QA QB QC LP LP2 LP3 LP4 PF BA QE N1v N3 N4 N20 N21 N22 N23 N24 N25 N26 N27 N28 N29 N30 F2 F3 F4 F6 F7. -/
import Derived.Test.YtfmcplfbnkoglaaGreatP8
set_option maxRecDepth 100000
set_option maxHeartbeats 4000000
namespace Go.Proofs.YtfmcplfbnkoglaaGreat
open Go Go.Am Go.Pb
noncomputable def qI (l:List Int):List (List AV):=l.map fun n:Int=>fr (n:Rat)
noncomputable def EK (P:Pb) (fx:List Int) (r:Nat):List AV:=plc 3 (qI (P.relC fx r))::fr (P.relB fx r:Int)
noncomputable def qO (P:Pb) (fx:List Int) (k:Nat):List (List AV):=(List.range k).map (EK P fx)
noncomputable def JQ (P:Pb) (fx:List Int):AV:=.agg [.list 3 .plain (qI (P.relG fx)),.list 4 .plain ((List.range P.rows).map fun r=>(.list 3 .plain (qI (P.relC fx r)):AV)::fr (P.relB fx r:Int))]
section
variable {P:Pb} {r n k:Nat} {o:Of} {L:List Of} {fx:List Int}
@[simp] theorem U2 {l:List Int}:(qI l).length=l.length:=by simp[qI]
@[simp] theorem ah3:qI []=[]:=rfl
theorem Kg {l:List Int} {k:Nat} (h:k<l.length):qI (l.take k)++[fr ((l[k]:Int):Rat)]=qI (l.take (k+1)):=by
 unfold qI
 rw[mb (o:=l[k]) (by simp[h]),List.map_append]
 rfl
@[simp] theorem Nv:(qO P fx k).length=k:=by simp[qO]
@[simp] theorem afY:qO P fx 0=[]:=rfl
theorem EJ:qO P fx k++[EK P fx k]=qO P fx (k+1):=by unfold qO; rw[List.range_succ,List.map_append]; rfl
@[simp] theorem aer:zH ((oC o).drop 7) 0 none=some (iv o.v):=by rw[rc]; rfl
@[simp] theorem af2 {q:Rat} {a b c d:AV}:splice [a,b,c,d] 1 (fr q)=a::fr q:=by unfold fr; simp[splice,-mE]
@[simp] theorem af1 {q:Rat} {x a b c d:AV}:splice [a,b,c,d] 0 (x::fr q)=x::fr q:=by unfold fr; simp[splice,-mE]
@[simp] theorem af3 {q:Rat} {x y:AV}:splice (x::fr q) 0 [y]=y::fr q:=by unfold fr; simp[splice,-mE]
@[simp] theorem afP {q:Rat} {x:AV} (h:rf x=true):zH (x::fr q) 0 (some 4)=some (.agg (strip x::fr q)):=by
 rw[uH (by simp) (by rw[List.all_cons,h,Jc]; rfl),List.map_cons,Y5]
@[simp] theorem afI {x:AV} {l:List AV}:zH (x::l) 0 none=some x:=rfl
@[simp] theorem afJ {x y:AV} {l:List AV}:zH (x::y::l) 1 none=some y:=rfl
@[simp] theorem PL {l:List Nat}:(ints l).length=l.length:=by simp[ints]
@[simp] theorem agt:ints []=[]:=rfl
theorem C1 {l m:List Nat}:clR (ints (l++m))=clR (ints l)++clR (ints m):=by simp[ints,clR]
noncomputable def ey (P:Pb) (fx:List Int) (k:Nat):St:={env:=[(2,.ptr 2 0),(4,.ptr 4 0),(8,apc 52 1 (clR (ints (vH fx 0 k)))),(9,apc 62 8 (ofR (P.inK fx k))),(36,clA fx),(37,iv fx.length),(38,iv k)],sto:=[(2,.var (pbC P)),(4,.var [z8,z8])]}
noncomputable abbrev xF (fx:List Int):AV:=apc 52 1 (clR (ints (zK fx)))
noncomputable abbrev xI (P:Pb) (fx:List Int):AV:=apc 62 8 (ofR (P.inL fx))
noncomputable def SO (P:Pb) (fx:List Int) (k:Nat):St:={env:=[(2,.ptr 2 0),(4,.ptr 4 0),(8,xF fx),(9,xI P fx),(12,.ptr 12 0),(13,.ptr 13 0),(71,xF fx),(72,iv (zK fx).length),(73,iv k)],sto:=[(2,.var (pbC P)),(4,.var [z8,z8]),(12,.var (pbC P)),(13,.var [apc 87 3 (qI ((P.relG fx).take k)),z8])]}
noncomputable def SR (P:Pb) (fx:List Int) (k:Nat):St:={env:=[(2,.ptr 2 0),(4,.ptr 4 0),(8,xF fx),(9,xI P fx),(12,.ptr 12 0),(13,.ptr 13 0),(91,iv P.rows),(92,iv k)],sto:=[(2,.var (pbC P)),(4,.var [z8,z8]),(12,.var (pbC P)),(13,.var [apc 87 3 (qI (P.relG fx)),apc 139 4 (qO P fx k)])]}
noncomputable def SP (P:Pb) (fx:List Int) (r k:Nat):St:={env:=[(2,.ptr 2 0),(4,.ptr 4 0),(8,xF fx),(9,xI P fx),(12,.ptr 12 0),(13,.ptr 13 0),(91,iv P.rows),(92,iv r),(16,iv r),(17,iv (P.bnd r-uj (P.coef r) (P.inL fx) k)),(98,xI P fx),(99,iv (P.inL fx).length),(100,iv k)],sto:=[(2,.var (pbC P)),(4,.var [z8,z8]),(12,.var (pbC P)),(13,.var [apc 87 3 (qI (P.relG fx)),apc 139 4 (qO P fx r)])]}
noncomputable def SQ (P:Pb) (fx:List Int) (r k:Nat):St:={env:=[(2,.ptr 2 0),(4,.ptr 4 0),(8,xF fx),(9,xI P fx),(12,.ptr 12 0),(13,.ptr 13 0),(91,iv P.rows),(92,iv r),(16,iv r),(20,.ptr 20 0),(114,xF fx),(115,iv (zK fx).length),(116,iv k)],sto:=[(2,.var (pbC P)),(4,.var [z8,z8]),(12,.var (pbC P)),(13,.var [apc 87 3 (qI (P.relG fx)),apc 139 4 (qO P fx r)]),(20,.var (apc 132 3 (qI ((P.relC fx r).take k))::fr (P.relB fx r:Int)))]}
@[simp] theorem FE {l:List Nat} {k:Nat} {h:k<(ints l).length}:(ints l)[k]=((l[k]'(by simpa using h):Nat):Int):=by simp[ints]
theorem BR {k:Nat} (h:k<(P.relG fx).length):(P.relG fx)[k]=(P.at ((zK fx)[k]'(by simpa [Pb.relG] using h):Nat)).v:=by simp[Pb.relG]
theorem BQ {k:Nat} (h:k<(P.relC fx r).length):(P.relC fx r)[k]=P.coef r (P.at ((zK fx)[k]'(by simpa [Pb.relC] using h):Nat)):=by simp[Pb.relC]
@[simp] theorem Xx:(P.relG fx).length=(zK fx).length:=by simp[Pb.relG]
@[simp] theorem Xw:(P.relC fx r).length=(zK fx).length:=by simp[Pb.relC]
theorem BP:AV.imp (.agg [plc 3 (qI (P.relG fx)),plc 4 (qO P fx P.rows)]) (JQ P fx):=by
 refine LQ (yQ (qy tJ) (yQ (qy ?_) mK))
 refine ⟨by simp,fun i x y hx hy=>?_⟩
 have hi:i<P.rows:=by have:=(List.getElem?_eq_some_iff.1 hx).1; simpa using this
 simp[qO,hi] at hx hy
 subst hx hy
 exact yQ (qy tJ) Rn
theorem Kx (hn:P.cl.length≤1000) (hk:P.of.length≤1000000) (_hl:fx.length<4611686018427387904) :
  zd Tryz.prog nB [.agg (pbC P),clA fx] (if P.relE fx=0 then .tuple [JQ P fx,clA (ints (zK fx)),iv 0] else .tuple [.agg [z8,z8],z8,iv (P.relE fx)]):=by
 refine wR TB (by simp) ?_
 simp[gR]
 refine za (TW hn hk) (by simp) (by simp) ?_
 by_cases c1:P.chk=0
 ·have hG:=uS c1
  by_cases c2:fx.length=P.of.length
  ·have c2':(fx.length:Int)=P.of.length:=by omega
   simp[c1,c2']
   refine zl (ey P fx) (fun k=>∀ q,q<k→okX fx q) fx.length (by simp[ey,fp,Pb.inK,c2']) (fun q hq=>by omega) (fun k hk' hI=>?_) (fun hI=>?_)
   ·have e:(k:Int)<P.of.length:=by omega
    have hko:k<P.of.length:=by omega
    have w1:=zm (k:=k) (by omega)
    have hg:fx.getD k 9=fx[k]:=by rw[List.getD_eq_getElem?_getD,List.getElem?_eq_getElem hk']; rfl
    have hs0:=tK (fx:=fx) (v:=0) (k:=k)
    have hs1:=tK (fx:=fx) (v:=1) (k:=k)
    have hl0:=gc (fx:=fx) (v:=0) (k:=k)
    have hl1:=T8 (P:=P) (fx:=fx) (k:=k)
    rw[hg] at hs0 hs1
    have hx:okX fx k→∀ q,q<k+1→okX fx q:=fun d q hq=>by
     by_cases eq:q=k
     ·subst eq; exact d
     ·exact hI q (by omega)
    by_cases d1:fx[k]=-1
    ·have d:=hx (.inl (by rw[hg,d1]))
     rw[d1] at hs0 hs1
     rw[if_neg (by decide)] at hs0 hs1
     simp[xy,ey,e,c2',hk',d1,w1,hs0,hs1,Pb.inK]
     exact d
    ·by_cases d2:fx[k]=0
     ·have d:=hx (.inr (.inl (by rw[hg,d2])))
      rw[d2] at hs0 hs1
      rw[if_pos rfl] at hs0
      rw[if_neg (by decide)] at hs1
      simp[xy,ey,e,c2',hk',d2]
      refine sK (by decide) rfl ?_ ?_ (by simp) ?_
      ·simp only[jh,PL]; omega
      ·simp only[jh,PL]; omega
      ·have hro:clR (ints (vH fx 0 k))++[[iv k]]=clR (ints (vH fx 0 (k+1))):=by rw[hs0,C1]; rfl
       rw[hro]
       simp[w1,ey,c2',bQ,Pb.inK,hs1]
       exact d
     ·by_cases d3:fx[k]=1
      ·have d:=hx (.inr (.inr (by rw[hg,d3])))
       rw[d3] at hs0 hs1
       rw[if_neg (by decide)] at hs0
       rw[if_pos rfl] at hs1
       simp[xy,ey,e,c2',hk',d3,hko]
       refine sK (by decide) rfl ?_ ?_ (by simp) ?_
       ·simp only[jm]; omega
       ·simp only[jm]; omega
       ·have hro:ofR (P.inK fx k)++[oC P.of[k]]=ofR (P.inK fx (k+1)):=by unfold Pb.inK; rw[hs1,List.map_append,L8,← wI hko]; rfl
        rw[hro]
        simp[w1,ey,c2',bQ,hs0]
        exact d
      ·have hf:P.relE fx=4:=by
        unfold Pb.relE
        rw[if_neg (by simp[c1]),if_neg (by simp[c2]),if_pos (fun h=>by
         rcases h k hk' with h | h | h
         ·exact d1 (by rw[← hg,h])
         ·exact d2 (by rw[← hg,h])
         ·exact d3 (by rw[← hg,h]))]
       simp[xy,ey,e,c2',hk',d1,d2,d3,hf,vz]
       exact AV.imp.refl
   ·have key:∀ K:Exit→St→Prop,K (.exit 0) {env:=[(2,.ptr 2 0),(4,.ptr 4 0),(8,xF fx),(9,xI P fx),(36,clA fx),(37,iv fx.length),(38,iv fx.length),(39,bv false)],sto:=[(2,.var (pbC P)),(4,.var [z8,z8])]}→awp Tryz.prog xy (ey P fx fx.length) (ug K):=by
     intro K h
     simp[xy,ey]
     exact h
    refine key _ ?_
    have hF:okF fx:=hI
    have hm:=LR (P:=P) (fx:=fx) (k:=fx.length) (by omega)
    have hil:=T8 (P:=P) (fx:=fx) (k:=fx.length)
    have hk160:=hG.k
    have hP:∀ o∈P.inL fx,P.offE o=0:=fun o ho=>hG.off o (hm o ho)
    have hil:(P.inL fx).length≤160:=by unfold Pb.inL; omega
    have hfl:(zK fx).length≤160:=by have:=gc (fx:=fx) (v:=0) (k:=fx.length); unfold zK; omega
    have hfm:∀ i∈zK fx,i<P.of.length:=fun i hi=>by have:=(mO hi).1; omega
    simp[mi]
    refine za (PF (Fu (P:=P) (L:=P.inL fx) hn (by omega) (fun o ho=>(xC (yU (hP o ho)).1).1) (fun o ho=>(xC (yU (hP o ho)).1).2.2)) (qy tJ)) (by simp) (by simp) ?_
    by_cases c3:P.fits (P.inL fx)
    ·have hE:P.relE fx=0:=by
      unfold Pb.relE
      rw[if_neg (by simp[c1]),if_neg (by simp[c2]),if_neg (fun h=>h hF),if_pos c3]
     rw[if_pos hE]
     simp[-qo,c3]
     have hR:P.rows≤1012:=by unfold Pb.rows; omega
     have hv:∀ i∈zK fx,-9223372036854775808≤(P.at (i:Nat)).v∧(P.at (i:Nat)).v<9223372036854775808:=fun i hi=>by
      have:=(xC (yU (hG.off _ (at_mem (hfm i hi)))).1).2.1
      omega
     refine zl (SO P fx) (fun _=>True) (zK fx).length (by simp[SO]) trivial (fun k hk' _=>?_) (fun _=>?_)
     ·have e:(k:Int)<(zK fx).length:=by omega
      have w1:=zm (k:=k) (by omega)
      obtain ⟨i,hi⟩:∃ i,(zK fx)[k]=i:=⟨_,rfl⟩
      have him:i∈zK fx:=hi▸List.getElem_mem hk'
      have hio:=hfm i him
      have hof:i<(ofR P.of).length:=by simpa using hio
      have hka:k<(clR (ints (zK fx))).length:=by simpa using hk'
      have hat:P.at (i:Int)=P.of[i]:=wI hio
      obtain ⟨hv1,hv2⟩:=hv i him
      rw[hat] at hv1 hv2
      have hgk:(P.relG fx)[k]'(by simpa using hk')=P.of[i].v:=by rw[BR,hi,hat]
      simp[-y9,uB,SO,e,ee hka,xY hof,hi]
      refine za (yE hv1 hv2) (by simp) (by simp) ?_
      simp
      refine sK (by decide) rfl ?_ ?_ (by simp) ?_
      ·simp only[U2,List.length_take,Xx]; omega
      ·simp only[U2,List.length_take,Xx]; omega
      ·have hro:qI ((P.relG fx).take k)++[fr ((P.of[i].v:Int):Rat)]=qI ((P.relG fx).take (k+1)):=by rw[← Kg (by simpa using hk'),hgk]
       rw[hro]
       simp[-cellsOf,w1,SO,bQ]
     ·have key:∀ K:Exit→St→Prop,K (.exit 3) {env:=[(2,.ptr 2 0),(4,.ptr 4 0),(8,xF fx),(9,xI P fx),(12,.ptr 12 0),(13,.ptr 13 0),(71,xF fx),(72,iv (zK fx).length),(73,iv (zK fx).length),(74,bv false)],sto:=[(2,.var (pbC P)),(4,.var [z8,z8]),(12,.var (pbC P)),(13,.var [apc 87 3 (qI (P.relG fx)),z8])]}→awp Tryz.prog uB (SO P fx (zK fx).length) (ug K):=by
       intro K h
       have ht:(P.relG fx).take (zK fx).length=P.relG fx:=List.take_of_length_le (by simp)
       simp[uB,SO,ht]
       exact h
      refine key _ ?_
      simp[lH]
      refine za (Nz hn) (by simp) (by simp) ?_
      simp
      refine zl (SR P fx) (fun _=>True) P.rows (by simp[SR]) trivial (fun r hr _=>?_) (fun _=>?_)
      ·have e:(r:Int)<P.rows:=by omega
       have w1:=zm (k:=r) (by omega)
       have hco:∀ o∈P.inL fx,0≤P.coef r o∧P.coef r o≤4:=fun o ho=>uq (xC (yU (hP o ho)).1).2.2 hr
       have hbn:-1000≤P.bnd r∧P.bnd r≤1000:=by
        unfold Pb.bnd
        unfold Pb.rows at hr
        split
        ·omega
        ·split
         ·have:=hG.sup (r-P.cl.length) (by omega); omega
         ·have:=hG.set (r-P.cl.length-6) (by omega)
          unfold Pb.okC at this
          have:=hG.sup (r-P.cl.length-6) (by omega)
          omega
       simp[uE,SR,e]
       refine za (TQ (P:=P) hn hr) (by simp) (by simp) ?_
       simp[-qo]
       refine zl (SP P fx r) (fun _=>True) (P.inL fx).length (by simp[SP,aS]) trivial (fun k hk' _=>?_) (fun _=>?_)
       ·have e:(k:Int)<(P.inL fx).length:=by omega
        have w2:=zm (k:=k) (by omega)
        have hka:k<(ofR (P.inL fx)).length:=by simpa using hk'
        have hg:(P.inL fx)[k]?=some (P.inL fx)[k]:=by simp[hk']
        have hmk:=List.getElem_mem hk'
        obtain ⟨p1,p2⟩:=nW hco k (by omega)
        obtain ⟨p3,p4⟩:=hco _ hmk
        have hs:=ft (f:=P.coef r) hg
        have hof:=(xC (yU (hP _ hmk)).1)
        obtain ⟨x,hx⟩:∃ x,P.bnd r-uj (P.coef r) (P.inL fx) k=x:=⟨_,rfl⟩
        have w3:IntKind.i64.wrap (x-P.coef r (P.inL fx)[k])=P.bnd r-uj (P.coef r) (P.inL fx) (k+1):=by rw[hs,wrap64]<;>omega
        simp[-y9,uC,SP,e,ee hka]
        refine za (Ut (P:=P) (r:=r) hn hof.1 hr) (by simp) (by simp) ?_
        simp[hx,w2,w3,SP]
       ·have hall:P.bnd r-uj (P.coef r) (P.inL fx) (P.inL fx).length=P.relB fx r:=by unfold Pb.relB; rw[cq]
        have key:∀ K:Exit→St→Prop,K (.exit 7) {env:=[(2,.ptr 2 0),(4,.ptr 4 0),(8,xF fx),(9,xI P fx),(12,.ptr 12 0),(13,.ptr 13 0),(91,iv P.rows),(92,iv r),(16,iv r),(17,iv (P.relB fx r)),(98,xI P fx),(99,iv (P.inL fx).length),(100,iv (P.inL fx).length),(101,bv false)],sto:=[(2,.var (pbC P)),(4,.var [z8,z8]),(12,.var (pbC P)),(13,.var [apc 87 3 (qI (P.relG fx)),apc 139 4 (qO P fx r)])]}→awp Tryz.prog uC (SP P fx r (P.inL fx).length) (ug K):=by
         intro K h
         simp[uC,SP,hall]
         exact h
        refine key _ ?_
        obtain ⟨q1,q2⟩:=RX hco
        have hB:-9223372036854775808≤P.relB fx r∧P.relB fx r<9223372036854775808:=by unfold Pb.relB; omega
        simp[lD]
        refine za (yE hB.1 hB.2) (by simp) (by simp) ?_
        simp[-qo]
        refine zl (SQ P fx r) (fun _=>True) (zK fx).length (by simp[SQ]) trivial (fun k hk' _=>?_) (fun _=>?_)
        ·have e:(k:Int)<(zK fx).length:=by omega
         have w2:=zm (k:=k) (by omega)
         obtain ⟨i,hi⟩:∃ i,(zK fx)[k]=i:=⟨_,rfl⟩
         have him:i∈zK fx:=hi▸List.getElem_mem hk'
         have hio:=hfm i him
         have hof':i<(ofR P.of).length:=by simpa using hio
         have hka:k<(clR (ints (zK fx))).length:=by simpa using hk'
         have hat:P.at (i:Int)=P.of[i]:=wI hio
         have hof:=xC (yU (hG.off _ (List.getElem_mem hio))).1
         have hc4:=uq (P:=P) hof.2.2 hr
         have hgk:(P.relC fx r)[k]'(by simpa using hk')=P.coef r P.of[i]:=by rw[BQ,hi,hat]
         simp[-y9,uD,SQ,e,ee hka,xY hof',hi]
         refine za (Ut (P:=P) (r:=r) hn hof.1 hr) (by simp) (by simp) ?_
         simp
         refine za (yE (n:=P.coef r P.of[i]) (by omega) (by omega)) (by simp) (by simp) ?_
         simp
         refine sK (by decide) rfl ?_ ?_ (by simp) ?_
         ·simp only[U2,List.length_take,Xw]; omega
         ·simp only[U2,List.length_take,Xw]; omega
         ·have hro:qI ((P.relC fx r).take k)++[fr ((P.coef r P.of[i]:Int):Rat)]=qI ((P.relC fx r).take (k+1)):=by rw[← Kg (by simpa using hk'),hgk]
          rw[hro]
          simp[-cellsOf,w2,SQ,bQ]
        ·have key:∀ K:Exit→St→Prop,K (.exit 9) {env:=[(2,.ptr 2 0),(4,.ptr 4 0),(8,xF fx),(9,xI P fx),(12,.ptr 12 0),(13,.ptr 13 0),(91,iv P.rows),(92,iv r),(16,iv r),(20,.ptr 20 0),(114,xF fx),(115,iv (zK fx).length),(116,iv (zK fx).length),(117,bv false)],sto:=[(2,.var (pbC P)),(4,.var [z8,z8]),(12,.var (pbC P)),(13,.var [apc 87 3 (qI (P.relG fx)),apc 139 4 (qO P fx r)]),(20,.var (apc 132 3 (qI (P.relC fx r))::fr (P.relB fx r:Int)))]}→awp Tryz.prog uD (SQ P fx r (zK fx).length) (ug K):=by
          intro K h
          have ht:(P.relC fx r).take (zK fx).length=P.relC fx r:=List.take_of_length_le (by simp)
          simp[uD,SQ,ht]
          exact h
         refine key _ ?_
         simp[lC]
         refine sK (by decide) rfl ?_ ?_ (by simp) ?_
         ·simp only[Nv]; omega
         ·simp only[Nv]; omega
         ·have hro:qO P fx r++[plc 3 (qI (P.relC fx r))::fr (P.relB fx r:Int)]=qO P fx (r+1):=EJ
          rw[hro]
          simp[-cellsOf,w1,lE,SR,bQ]
      ·have key:∀ K:Exit→St→Prop,K (.exit 5) {env:=[(2,.ptr 2 0),(4,.ptr 4 0),(8,xF fx),(9,xI P fx),(12,.ptr 12 0),(13,.ptr 13 0),(91,iv P.rows),(92,iv P.rows),(93,bv false)],sto:=[(2,.var (pbC P)),(4,.var [z8,z8]),(12,.var (pbC P)),(13,.var [apc 87 3 (qI (P.relG fx)),apc 139 4 (qO P fx P.rows)])]}→awp Tryz.prog uE (SR P fx P.rows) (ug K):=by
        intro K h
        simp[uE,SR]
        exact h
       refine key _ ?_
       simp[lF,vz]
       exact aa7 (yQ BP (yQ (qy tJ) (yQ AV.imp.refl mK)))
    ·have hE:P.relE fx=14:=by
      unfold Pb.relE
      rw[if_neg (by simp[c1]),if_neg (by simp[c2]),if_neg (fun h=>h hF),if_neg c3]
     simp[c3,hE,vz]
     exact AV.imp.refl
  ·have c2':¬ (fx.length:Int)=P.of.length:=by omega
   have hE:P.relE fx=3:=by unfold Pb.relE; rw[if_neg (by simp[c1]),if_pos c2]
   simp[c1,c2',hE,vz]
   exact AV.imp.refl
 ·have hE:P.relE fx=P.chk:=by unfold Pb.relE; rw[if_pos c1]
  simp[c1,hE,vz]
  exact AV.imp.refl
end
def SN (w:Nat→Int) (k:Nat):St:={env:=[(1,.ptr 1 0),(3,iv k)],sto:=[(1,.var (bC w))]}
theorem NB {w:Nat→Int}:zd Tryz.prog pi [.agg (bC w)] (bv (decide (okB w))):=by
 refine zC Qi (by simp) ?_
 simp[ba]
 refine zl (SN w) (fun i=>∀ j,j<i→0≤w j∧w j≤4) 6 (by simp[SN]) (fun j hj=>by omega) (fun i hi hI=>?_) (fun hI=>?_)
 ·have e:(i:Int)<6:=by omega
  have w1:=zm (k:=i) (by omega)
  by_cases c1:w i<0
  ·have hf:¬ okB w:=fun h=>by have:=h i hi; omega
   simp[v8,SN,e,aw hi,c1,hf,pB]
  ·by_cases c2:4<w i
   ·have hf:¬ okB w:=fun h=>by have:=h i hi; omega
    simp[v8,SN,e,aw hi,c1,c2,hf,pB]
   ·simp[v8,SN,e,aw hi,c1,c2,w1]
    exact fun j hj=>by
     by_cases e:j=i
     ·subst e; omega
     ·exact hI j (by omega)
 ·have hf:okB w:=hI
  simp[v8,SN,hf,jM,pB]
section
variable {P:Pb} {r n:Nat} {o:Of}
theorem Z1 (hn:P.cl.length≤1000) (hb:0≤o.b) (hr:r<P.rows):∃ c,(o.b<P.cl.length→c=P.coef r o)∧zd Tryz.prog tf [.agg (pbC P),iv r,.agg (oC o)] (.tuple [iv c,iv (P.bnd r)]):=by
 unfold Pb.rows at hr
 unfold Pb.coef Pb.bnd
 obtain ⟨n,hn'⟩:∃ n,P.cl.length=n:=⟨_,rfl⟩
 rw[hn'] at hr hn ⊢
 by_cases h1:r<n
 ·refine ⟨if o.b=r then 1 else 0,fun _=>by rw[if_pos h1],?_⟩
  refine zC tF (by simp) ?_
  rw[if_pos h1]
  by_cases h2:o.b=r
  ·rw[if_pos h2]
   simp[va,hn',h1,h2,ve]
  ·rw[if_neg h2]
   simp[va,hn',h1,h2,ve]
 ·have w0:IntKind.i64.wrap ((n:Int)+6)=(n:Int)+6:=by rw[wrap64]<;>omega
  obtain ⟨k,hk⟩:∃ k,r=n+k:=⟨r-n,by omega⟩
  have e0:(r:Int)-n=k:=by omega
  have e2:r-n=k:=by omega
  have w1:IntKind.i64.wrap (k:Int)=k:=by rw[wrap64]<;>omega
  rw[if_neg h1,if_neg h1,e2]
  have c1:¬ (r:Int)<n:=by omega
  by_cases h2:k<6
  ·have c2:(r:Int)<(n:Int)+6:=by omega
   have h2':(k:Int)<6:=by omega
   refine ⟨o.w k,fun _=>by rw[if_pos (by omega)],?_⟩
   rw[if_pos (by omega)]
   refine zC tF (by simp) ?_
   simp[va,hn',w0,c1,c2,e0,w1,h2',dY h2,wm h2,ve]
  ·obtain ⟨j,hj0⟩:∃ j,k=6+j:=⟨k-6,by omega⟩
   have hj:j<6:=by omega
   have hj':(j:Int)<6:=by omega
   have c2:¬ (r:Int)<(n:Int)+6:=by omega
   have e3:(k:Int)-6=j:=by omega
   have w2:IntKind.i64.wrap (j:Int)=j:=by rw[wrap64]<;>omega
   have hr6:¬ r<n+6:=by omega
   rw[if_neg hr6,if_neg hr6,show k-6=j by omega]
   by_cases h3:P.cls j=0
   ·refine ⟨0,fun _=>by rw[if_pos (.inl h3)],?_⟩
    refine zC tF (by simp) ?_
    simp[va,hn',w0,c1,c2,e0,w1,e3,w2,hj',ye hj,yk hj,h3,ve]
   ·by_cases h5:o.b<n
    ·obtain ⟨b,hb1,hb2,hb3⟩:=Q5 (P:=P) (o:=o) (by rw[hn']; exact ⟨hb,h5⟩)
     have hbn:(b:Int)<n:=by omega
     have hbn':b<n:=by omega
     have hc:P.cl[b]?=some (P.clOf (b:Int)):=by rw[← hb1]; exact hb3
     have hE:P.cl[b]=P.clOf (b:Int):=by rw[List.getElem?_eq_getElem hb2] at hc; exact Option.some.inj hc
     rw[hb1]
     by_cases h4:P.cls j=P.clOf (b:Int)
     ·refine ⟨0,fun _=>by rw[if_pos (.inr h4)],?_⟩
      rw[h4] at h3
      refine zC tF (by simp) ?_
      simp[va,hn',w0,c1,c2,e0,w1,e3,w2,hj',ye hj,yk hj,h3,hb1,hbn,hbn',hE,h4,ve]
     ·refine ⟨o.w j,fun _=>by rw[if_neg (fun h=>h.elim h3 h4)],?_⟩
      refine zC tF (by simp) ?_
      simp[va,hn',w0,c1,c2,e0,w1,e3,w2,hj',ye hj,yk hj,dY hj,h3,hb1,hbn,hbn',hE,h4,ve]
    ·refine ⟨0,fun h=>absurd h h5,?_⟩
     refine zC tF (by simp) ?_
     simp[va,hn',w0,c1,c2,e0,w1,e3,w2,hj',ye hj,yk hj,h3,h5,ve]
end
def oZ:Of:=⟨0,fun _=>0,0⟩
theorem L7:[iv 0,iv 0,iv 0,iv 0,iv 0,iv 0,iv 0,iv 0]=oC oZ:=by rw[rc]; rfl
def NR (P:Pb) (L:List Of) (r:Nat):St:={env:=[(1,ofA L),(2,.ptr 2 0),(5,iv r)],sto:=[(2,.var (pbC P))]}
def SJ (P:Pb) (L:List Of) (r k:Nat):St:={env:=[(1,ofA L),(2,.ptr 2 0),(5,iv r),(6,iv (uj (P.coef r) L k)),(7,iv k)],sto:=[(2,.var (pbC P))]}
section
variable {P:Pb} {r n:Nat} {o:Of} {L:List Of}
theorem Kz (hn:P.cl.length≤1000) (hL:L.length≤1000) (hb:∀ o∈L,0≤o.b∧o.b<P.cl.length) (hw:∀ o∈L,okB o.w):zd Tryz.prog nE [.agg (pbC P),ofA L] (bv (decide (P.fits L))):=by
 have hR:P.rows≤1012:=by unfold Pb.rows; omega
 have hRi:((P.rows:Nat):Int)=(P.cl.length:Int)+12:=by unfold Pb.rows; omega
 have w0:IntKind.i64.wrap ((P.cl.length:Int)+12)=(P.cl.length:Int)+12:=by rw[wrap64]<;>omega
 refine zC N7 (by simp) ?_
 simp[aa]
 refine zl (NR P L) (fun r=>∀ q,q<r→(L.map (P.coef q)).sum≤P.bnd q) P.rows (by simp[NR]) (fun q hq=>by omega) (fun r hr hI=>?_) (fun hI=>?_)
 ·have e:(r:Int)<(P.cl.length:Int)+12:=by omega
  have w1:=zm (k:=r) (by omega)
  simp[nN,NR,e,w0]
  refine zl (SJ P L r) (fun _=>True) L.length (by simp[SJ,aS]) trivial (fun k hk _=>?_) (fun _=>?_)
  ·have e':(k:Int)<L.length:=by omega
   have hg:L[k]?=some L[k]:=by simp[hk]
   have hm:L[k]∈L:=List.getElem_mem hk
   have w2:=zm (k:=k) (by omega)
   obtain ⟨p1,p2⟩:=nW (f:=P.coef r) (fun o ho=>uq (P:=P) (hw o ho) hr) k (by omega)
   obtain ⟨p3,p4⟩:=uq (P:=P) (hw _ hm) hr
   have w3:IntKind.i64.wrap (uj (P.coef r) L k+P.coef r L[k])=uj (P.coef r) L k+P.coef r L[k]:=by rw[wrap64]<;>omega
   have hs:=ft (f:=P.coef r) hg
   obtain ⟨c,hc,hk'⟩:=Z1 (P:=P) (o:=L[k]) hn (hb _ hm).1 hr
   have hc:=hc (hb _ hm).2
   subst hc
   simp[s7,SJ,e',hk]
   refine za hk' (by simp) (by simp) ?_
   simp[w2,w3,hs,SJ]
  ·have hall:uj (P.coef r) L L.length=(L.map (P.coef r)).sum:=cq
   obtain ⟨z,hz,hz0⟩:∃ z:Of,[iv 0,iv 0,iv 0,iv 0,iv 0,iv 0,iv 0,iv 0]=oC z∧0≤z.b:=⟨oZ,L7,Int.le_refl 0⟩
   obtain ⟨c,_,hk'⟩:=Z1 (P:=P) (o:=z) hn hz0 hr
   have key:∀ K:Exit→St→Prop,K (.exit 2) {env:=[(1,ofA L),(2,.ptr 2 0),(5,iv r),(6,iv (uj (P.coef r) L L.length)),(7,iv L.length),(23,bv false)],sto:=[(2,.var (pbC P))]}→awp Tryz.prog s7 (SJ P L r L.length) (ug K):=by
    intro K h
    simp[s7,SJ]
    exact h
   refine key _ ?_
   simp[gS,hz]
   refine za hk' (by simp) (by simp) ?_
   by_cases hc:P.bnd r<(L.map (P.coef r)).sum
   ·have hf:¬ P.fits L:=fun h=>by have:=h r hr; omega
    simp[hall,hc,hf,gm]
   ·simp[hall,hc,gT,w1,NR]
    exact fun q hq=>by
     by_cases eq:q=r
     ·subst eq; omega
     ·exact hI q (by omega)
 ·have hf:P.fits L:=hI
  have e:¬ ((P.rows:Nat):Int)<(P.cl.length:Int)+12:=by omega
  simp[nN,NR,w0,e,hf,gU,gm]
end
@[simp] theorem aeO {u:Of}:zH (oC u).tail 0 (some 6)=some (.agg (bC u.w)):=by rw[rc,vN]; rfl
section
variable {P:Pb} {r n:Nat} {o:Of} {L:List Of}
def ma (P:Pb) (k:Nat):St:={env:=[(1,.ptr 1 0),(3,iv k)],sto:=[(1,.var (pbC P))]}
def cL (P:Pb) (k:Nat):St:={env:=[(1,.ptr 1 0),(4,iv k)],sto:=[(1,.var (pbC P))]}
def ll (P:Pb) (k:Nat):St:={env:=[(1,.ptr 1 0),(5,iv k)],sto:=[(1,.var (pbC P))]}
def cM (P:Pb) (o:Of) (k j:Nat):St:={env:=[(1,.ptr 1 0),(5,iv k),(6,.ptr 6 0),(7,iv j)],sto:=[(1,.var (pbC P)),(6,.var (oC o))]}
theorem L9 {i:Nat} (h:P.offE o≠0):P.offI i o=P.offE o:=by unfold Pb.offI; rw[if_pos h]
theorem UX (h:o.b<0∨(P.cl.length:Int)≤o.b):P.offE o=6:=by
 have:sS P.cl.length o=6:=by unfold sS; rw[if_pos h]
 unfold Pb.offE; rw[this]; rfl
theorem UY (hb:¬ (o.b<0∨(P.cl.length:Int)≤o.b)) (h:o.v<1∨1000000<o.v):P.offE o=4:=by
 have:sS P.cl.length o=4:=by unfold sS; rw[if_neg hb,if_pos h]
 unfold Pb.offE; rw[this]; rfl
theorem F5 (hb:¬ (o.b<0∨(P.cl.length:Int)≤o.b)) (hv:¬ (o.v<1∨1000000<o.v)) (h:¬ okB o.w):P.offE o=4:=by
 have:sS P.cl.length o=4:=by unfold sS; rw[if_neg hb,if_neg hv,if_neg h]
 unfold Pb.offE; rw[this]; rfl
theorem adm (hb:¬ (o.b<0∨(n:Int)≤o.b)) (hv:¬ (o.v<1∨1000000<o.v)) (h:okB o.w):sS n o=0:=by unfold sS; rw[if_neg hb,if_neg hv,if_pos h]
theorem F6 (hf:sS P.cl.length o=0) (h:lm o.w):P.offE o=4:=by unfold Pb.offE; rw[if_neg (fun h=>h hf),if_pos h]
theorem F4 (hf:sS P.cl.length o=0) (hz:¬ lm o.w):P.offE o=if P.fits [o] then 0 else 14:=by unfold Pb.offE; rw[if_neg (fun h=>h hf),if_neg hz]
theorem Xu (hn:P.cl.length≤1000) (hk:P.of.length≤1000000):zd Tryz.prog ss [.agg (pbC P)] (iv P.chk):=by
 have hkd:kds Tryz.prog Op.maxDepth wo=some (List.replicate 6 (.i .i64)):=by kernel_rfl
 have hg:Tryz.prog.eqGuardType Tryz.prog.depth wo=false:=by kernel_rfl
 have hA:agT Tryz.prog wo=true:=by kernel_rfl
 refine zC Qj (by simp) ?_
 simp[bf]
 refine za (NB (w:=P.sup)) (by simp) (by simp) ?_
 unfold Pb.chk
 by_cases c1:okB P.sup
 ·simp[c1]
  refine zl (ma P) (fun r=>∀ q,q<r→P.okC q) 6 (by simp[ma]) (fun q hq=>by omega) (fun k hk hI=>?_) (fun hI=>?_)
  ·have e:(k:Int)<6:=by omega
   have w1:=zm (k:=k) (by omega)
   by_cases d:P.okC k
   ·have d':=d
    unfold Pb.okC at d'
    obtain ⟨d1,d2,d3,d4,d5⟩:=d'
    have b1:¬ P.cls k<0:=by omega
    have b2:¬ 4<P.cls k:=by omega
    have b3:¬ P.opn k<0:=by omega
    have b4:¬ P.sup k<P.opn k:=by omega
    have hx:∀ q,q<k+1→P.okC q:=fun q hq=>by
     by_cases eq:q=k
     ·subst eq; exact d
     ·exact hI q (by omega)
    by_cases b5:P.cls k=0
    ·have b6:=d5 b5
     rw[b5] at b1 b2
     rw[b6] at b3 b4
     simp[yA,ma,e,yk hk,ye hk,wm hk,b3,b5,b6,w1]
     exact hx
    ·simp[yA,ma,e,yk hk,ye hk,wm hk,b1,b2,b3,b4,b5,w1]
     exact hx
   ·have hF:P.frameE=4:=by unfold Pb.frameE; rw[if_neg (fun h=>h c1),if_pos (show ¬ P.okCs from fun h=>d (h k hk))]
    rw[hF]
    by_cases b1:P.cls k<0
    ·simp[yA,ma,e,ye hk,b1,zZ]
    ·by_cases b2:4<P.cls k
     ·simp[yA,ma,e,ye hk,b1,b2,zZ]
     ·by_cases b3:P.opn k<0
      ·simp[yA,ma,e,yk hk,ye hk,b1,b2,b3,zZ]
      ·by_cases b4:P.sup k<P.opn k
       ·simp[yA,ma,e,yk hk,ye hk,wm hk,b1,b2,b3,b4,zZ]
       ·have b5:P.cls k=0∧¬ P.opn k=P.sup k:=by
         unfold Pb.okC at d
         by_cases b5:P.cls k=0
         ·exact ⟨b5,fun h=>d ⟨by omega,by omega,by omega,by omega,fun _=>h⟩⟩
         ·exact absurd (⟨by omega,by omega,by omega,by omega,fun h=>absurd h b5⟩) d
        simp[yA,ma,e,yk hk,ye hk,wm hk,b3,b4,b5,zZ]
  ·have hs:P.okCs:=hI
   have key:∀ K:Exit→St→Prop,K (.exit 0) {env:=[(1,.ptr 1 0),(3,iv (6:Nat)),(13,bv false)],sto:=[(1,.var (pbC P))]}→awp Tryz.prog yA (ma P 6) (ug K):=by
    intro K h
    simp[yA,ma]
    exact h
   refine key _ ?_
   by_cases f1:8<P.cl.length
   ·have f1':(8:Int)<P.cl.length:=by omega
    have hF:P.frameE=3:=by unfold Pb.frameE; rw[if_neg (fun h=>h c1),if_neg (fun h=>h hs),if_pos (.inl f1)]
    simp[tY,f1',hF,zZ]
   ·have f1':¬ (8:Int)<P.cl.length:=by omega
    by_cases f2:160<P.of.length
    ·have f2':(160:Int)<P.of.length:=by omega
     have hF:P.frameE=3:=by unfold Pb.frameE; rw[if_neg (fun h=>h c1),if_neg (fun h=>h hs),if_pos (.inr f2)]
     simp[tY,f1',f2',hF,zZ]
    ·have f2':¬ (160:Int)<P.of.length:=by omega
     simp[tY,f1',f2']
     refine zl (cL P) (fun r=>∀ q,q<r→(hq:q<P.cl.length)→nV P.cl[q]) P.cl.length (by simp[cL]) (fun q hq=>by omega) (fun k hk hI=>?_) (fun hI=>?_)
     ·have e:(k:Int)<P.cl.length:=by omega
      have w1:=zm (k:=k) (by omega)
      by_cases d:nV P.cl[k]
      ·have d':=d
       unfold nV at d'
       have b1:¬ P.cl[k]<0:=by omega
       have b2:¬ 4<P.cl[k]:=by omega
       simp[wN,cL,e,hk,b1,b2,w1]
       exact fun q hq hl=>by
        by_cases eq:q=k
        ·subst eq; exact d
        ·exact hI q (by omega) hl
      ·have hF:P.frameE=4:=by unfold Pb.frameE; rw[if_neg (fun h=>h c1),if_neg (fun h=>h hs),if_neg (by omega),if_neg (fun h=>d (h _ (List.getElem_mem hk)))]
       rw[hF]
       unfold nV at d
       by_cases b1:P.cl[k]<0
       ·simp[wN,cL,e,hk,b1,zZ]
       ·have b2:4<P.cl[k]:=by omega
        simp[wN,cL,e,hk,b1,b2,zZ]
     ·have hc:=frC P fun i hi=>hI i hi hi
      have hF:P.frameE=0:=by unfold Pb.frameE; rw[if_neg (fun h=>h c1),if_neg (fun h=>h hs),if_neg (by omega),if_pos hc]
      rw[if_pos hF]
      have key:∀ K:Exit→St→Prop,K (.exit 2) {env:=[(1,.ptr 1 0),(4,iv P.cl.length),(78,bv false)],sto:=[(1,.var (pbC P))]}→awp Tryz.prog wN (cL P P.cl.length) (ug K):=by
       intro K h
       simp[wN,cL]
       exact h
      refine key _ ?_
      simp[jP]
      refine zl (ll P) (fun k=>P.chkL k=0) P.of.length (by simp[ll]) rfl (fun k hk' hI=>?_) (fun hI=>?_)
      ·have e:(k:Int)<P.of.length:=by omega
       have hgk:P.of[k]?=some P.of[k]:=by simp[hk']
       have w1:=zm (k:=k) (by omega)
       obtain ⟨o,ho⟩:∃ o,P.of[k]=o:=⟨_,rfl⟩
       rw[ho] at hgk
       have fin:P.offE o≠0→P.chkL P.of.length=P.offE o:=fun h=>by
        rw[kS hI hgk (by rw[L9 h]; exact h) hk',L9 h]
       by_cases b1:o.b<0
       ·rw[fin (by rw[UX (.inl b1)]; decide),UX (.inl b1)]
        simp[xz,ll,e,hk',ho,b1,zZ]
       ·by_cases b2:(P.cl.length:Int)≤o.b
        ·rw[fin (by rw[UX (.inr b2)]; decide),UX (.inr b2)]
         simp[xz,ll,e,hk',ho,b1,b2,zZ]
        ·have hb:¬ (o.b<0∨(P.cl.length:Int)≤o.b):=by omega
         by_cases b3:o.v<1
         ·rw[fin (by rw[UY hb (.inl b3)]; decide),UY hb (.inl b3)]
          simp[xz,ll,e,hk',ho,b1,b2,b3,zZ]
         ·by_cases b4:1000000<o.v
          ·rw[fin (by rw[UY hb (.inr b4)]; decide),UY hb (.inr b4)]
           simp[xz,ll,e,hk',ho,b1,b2,b3,b4,zZ]
          ·have hv:¬ (o.v<1∨1000000<o.v):=by omega
           simp[xz,ll,e,hk',ho,b1,b2,b3,b4]
           refine za (NB (w:=o.w)) (by simp) (by simp) ?_
           by_cases b5:okB o.w
           ·have hf:=adm (n:=P.cl.length) hb hv b5
            have hz:decide (bI o.w=bI (fun _=>0))=decide (lm o.w):=by
             rw[decide_eq_decide,Qr]
             exact Iff.rfl
            simp[b5,Lf]
            rw[kz hkd hg hA nv nv]
            by_cases b6:lm o.w
            ·rw[fin (by rw[F6 hf b6]; decide),F6 hf b6]
             simp[hz,b6,zZ]
            ·simp[hz,b6]
             have hfs:=Kz (P:=P) (L:=[o]) hn (by simp) (fun x hx=>by rw[List.mem_singleton.1 hx]; omega) (fun x hx=>by rw[List.mem_singleton.1 hx]; exact b5)
             refine za (PF hfs (vF (rows:=[oC o]))) (by simp) (by simp) ?_
             by_cases b7:P.fits [o]
             ·have hE:P.offE o=0:=by rw[F4 hf b6,if_pos b7]
              simp[b7]
              refine zl (cM P o k) (fun j=>∀ (q:Nat) u,q<j→P.of[q]?=some u→¬ qC u o) k (by simp[cM]) (fun q u hq=>by omega) (fun j hj hJ=>?_) (fun hJ=>?_)
              ·have ej:(j:Int)<k:=by omega
               have hj2:j<P.of.length:=by omega
               have ej2:(j:Int)<P.of.length:=by omega
               have w2:=zm (k:=j) (by omega)
               obtain ⟨u,hu⟩:∃ u,P.of[j]=u:=⟨_,rfl⟩
               have hgj:P.of[j]?=some u:=by simp[hj2,hu]
               have hzu:decide (bI u.w=bI o.w)=decide (eqB u.w o.w):=by rw[decide_eq_decide,Qr]
               by_cases d1:u.b=o.b
               ·simp[v9,cM,ej,ej2,hj2,hu,d1]
                rw[kz hkd hg hA nv nv]
                by_cases d2:eqB u.w o.w
                ·have hi:P.offI k o=7:=by
                  unfold Pb.offI
                  rw[if_neg (fun h=>h hE),if_pos ⟨u,List.mem_of_getElem? (i:=j) (by rw[List.getElem?_take,if_pos hj]; exact hgj),d1,d2⟩]
                 rw[kS hI hgk (by rw[hi]; decide) hk',hi]
                 simp[hzu,d2,zZ]
                ·simp[hzu,d2,w2,cM]
                 intro q x hq hx
                 by_cases eq:q=j
                 ·subst eq
                  rw[hgj] at hx
                  rw[← Option.some.inj hx]
                  exact fun h=>d2 h.2
                 ·exact hJ q x (by omega) hx
               ·simp[v9,cM,ej,ej2,hj2,hu,d1,w2]
                intro q x hq hx
                by_cases eq:q=j
                ·subst eq
                 rw[hgj] at hx
                 rw[← Option.some.inj hx]
                 exact fun h=>d1 h.1
                ·exact hJ q x (by omega) hx
              ·have hi:P.offI k o=0:=by
                unfold Pb.offI
                rw[if_neg (fun h=>h hE),if_neg]
                rintro ⟨u,hu,hs'⟩
                obtain ⟨q,hq⟩:=List.mem_iff_getElem?.1 hu
                rw[List.getElem?_take] at hq
                split at hq
                ·rename_i hqk; exact hJ q u hqk hq hs'
                ·cases hq
               have hx:=Re hI hgk hi
               have key:∀ K:Exit→St→Prop,K (.exit 6) {env:=[(1,.ptr 1 0),(5,iv k),(6,.ptr 6 0),(7,iv k),(145,bv false)],sto:=[(1,.var (pbC P)),(6,.var (oC o))]}→awp Tryz.prog v9 (cM P o k k) (ug K):=by
                intro K h
                simp[v9,cM]
                exact h
               refine key _ ?_
               simp[jN,w1,hx,ll]
             ·have hE:P.offE o=14:=by rw[F4 hf b6,if_neg b7]
              rw[fin (by rw[hE]; decide),hE]
              simp[b7,zZ]
           ·rw[fin (by rw[F5 hb hv b5]; decide),F5 hb hv b5]
            simp[b5,zZ]
      ·rw[hI]
       have key:∀ K:Exit→St→Prop,K (.exit 4) {env:=[(1,.ptr 1 0),(5,iv P.of.length),(99,bv false)],sto:=[(1,.var (pbC P))]}→awp Tryz.prog xz (ll P P.of.length) (ug K):=by
        intro K h
        simp[xz,ll]
        exact h
       refine key _ ?_
       simp[jO,zZ]
 ·have hF:P.frameE=4:=by unfold Pb.frameE; rw[if_pos c1]
  simp[c1,hF,zZ]
end
end Go.Proofs.YtfmcplfbnkoglaaGreat

namespace Go.LP
def zg:Nat→(Nat→Rat)→Rat
 | 0,_=>0
 | n+1,f=>zg n f+f n
theorem zu {n:Nat} {f g:Nat→Rat} (h:∀ i,i<n→f i=g i):zg n f=zg n g:=by
 induction n with
 | zero=>rfl
 | succ n ih=>simp only[zg]; rw[ih fun i hi=>h i (by omega),h n (by omega)]
theorem zO {n:Nat} {f:Nat→Rat} (h:∀ i,i<n→f i=0):zg n f=0:=by
 induction n with
 | zero=>rfl
 | succ n ih=>simp only[zg]; rw[ih fun i hi=>h i (by omega),h n (by omega)]; grind
theorem mZ {n:Nat} {f g:Nat→Rat}:zg n (fun i=>f i+g i)=zg n f+zg n g:=by
 induction n with
 | zero=>simp only[zg]; grind
 | succ n ih=>simp only[zg]; rw[ih]; grind
theorem m4 {n:Nat} {f:Nat→Rat} {k:Rat}:zg n (fun i=>k*f i)=k*zg n f:=by
 induction n with
 | zero=>simp only[zg]; grind
 | succ n ih=>simp only[zg]; rw[ih]; grind
theorem fJ {n:Nat} {f:Nat→Rat} {k:Rat}:zg n (fun i=>f i*k)=zg n f*k:=by
 induction n with
 | zero=>simp only[zg]; grind
 | succ n ih=>simp only[zg]; rw[ih]; grind
theorem uW {n:Nat} {f g:Nat→Rat}:zg n (fun i=>f i-g i)=zg n f-zg n g:=by
 induction n with
 | zero=>simp only[zg]; grind
 | succ n ih=>simp only[zg]; rw[ih]; grind
theorem gr {n:Nat} {f:Nat→Rat}:zg n (fun i=>- f i)=- zg n f:=by
 induction n with
 | zero=>simp only[zg]; grind
 | succ n ih=>simp only[zg]; rw[ih]; grind
theorem fI {n m:Nat} {f:Nat→Nat→Rat}:zg n (fun i=>zg m (f i))=zg m (fun j=>zg n fun i=>f i j):=by
 induction n with
 | zero=>simp only[zg]; exact (zO fun _ _=>rfl).symm
 | succ n ih=>simp only[zg]; rw[ih,← mZ]
theorem xW {n:Nat} {f:Nat→Rat} (h:∀ i,i<n→0≤f i):0≤zg n f:=by
 induction n with
 | zero=>simp only[zg]; grind
 | succ n ih=>simp only[zg]; have:=ih fun i hi=>h i (by omega); have:=h n (by omega); grind
theorem jr {n:Nat} {f g:Nat→Rat} (h:∀ i,i<n→f i≤g i):zg n f≤zg n g:=by
 induction n with
 | zero=>simp only[zg]; grind
 | succ n ih=>simp only[zg]; have:=ih fun i hi=>h i (by omega); have:=h n (by omega); grind
theorem yq {n q:Nat} {f:Nat→Rat} (hq:q<n):zg n f=f q+zg n (fun j=>if j=q then 0 else f j):=by
 induction n with
 | zero=>omega
 | succ n ih =>
  simp only[zg]
  by_cases h:q=n
  ·subst h
   rw[if_pos rfl,zu (f:=fun j=>if j=q then 0 else f j) (g:=f) fun i hi=>if_neg (by omega)]
   grind
  ·rw[ih (by omega),if_neg (fun e=>h e.symm)]
   grind
theorem wC {n q:Nat} {f:Nat→Rat} (hq:q<n) (h:∀ i,i<n→i≠q→f i=0):zg n f=f q:=by
 rw[yq hq,zO (f:=fun j=>if j=q then 0 else f j) fun i hi=>by
  by_cases e:i=q
  ·exact if_pos e
  ·rw[if_neg e]; exact h i hi e]
 grind
theorem Tv {n:Nat} {f:Nat→Rat} (h:zg n f<0):∃ i,i<n∧f i<0:=by
 induction n with
 | zero=>simp only[zg] at h; grind
 | succ n ih =>
  simp only[zg] at h
  by_cases h1:zg n f<0
  ·obtain ⟨i,hi,hf⟩:=ih h1; exact ⟨i,by omega,hf⟩
  ·exact ⟨n,by omega,by grind⟩
structure zn where
 r:Nat
 c:Nat
 a:Nat→Nat→Rat
 b:Nat→Rat
 cst:Nat→Rat
 v:Rat
 bas:Nat→Nat
 fre:Nat→Nat
def sol (d:zn) (x:Nat→Rat):Prop:=∀ i,i<d.r→x (d.bas i)=d.b i-zg d.c fun j=>d.a i j*x (d.fre j)
def obj (d:zn) (x:Nat→Rat):Rat:=d.v+zg d.c fun j=>d.cst j*x (d.fre j)
def Bij (d:zn) (N:Nat):Prop:=∀ g:Nat→Rat,zg N g=zg d.c (fun j=>g (d.fre j))+zg d.r (fun i=>g (d.bas i))
def upd {α:Type} (f:Nat→α) (p:Nat) (x:α):Nat→α:=fun i=>if i=p then x else f i
def pivot (d:zn) (p q:Nat):zn where
 r:=d.r
 c:=d.c
 a:=fun i j=>if i=p then (if j=q then 1/d.a p q else d.a p j*(1/d.a p q)) else (if j=q then -(d.a i q*(1/d.a p q)) else d.a i j-d.a i q*(d.a p j*(1/d.a p q)))
 b:=fun i=>if i=p then d.b p*(1/d.a p q) else d.b i-d.a i q*(d.b p*(1/d.a p q))
 cst:=fun j=>if j=q then -(d.cst q*(1/d.a p q)) else d.cst j-d.cst q*(d.a p j*(1/d.a p q))
 v:=d.v+d.cst q*(d.b p*(1/d.a p q))
 bas:=upd d.bas p (d.fre q)
 fre:=upd d.fre q (d.bas p)
theorem YD {d:zn} {p q:Nat} (h:d.a p q≠0):pivot (pivot d p q) p q=d:=by
 cases d with
 | mk r c a b cst v bas fre =>
  simp only at h
  simp only[pivot,zn.mk.injEq,upd,if_true,true_and]
  refine ⟨?_,?_,?_,?_,?_,?_⟩
  ·funext i j
   by_cases hi:i=p<;>by_cases hj:j=q<;>simp only[hi,hj,if_true,if_false]<;>grind
  ·funext i
   by_cases hi:i=p<;>simp only[hi,if_true,if_false]<;>grind
  ·funext j
   by_cases hj:j=q<;>simp only[hj,if_true,if_false]<;>grind
  ·grind
  ·funext i; by_cases hi:i=p<;>simp[upd,hi]
  ·funext i; by_cases hi:i=q<;>simp[upd,hi]
theorem RD {d:zn} {p q N:Nat} (hp:p<d.r) (hq:q<d.c) (h:Bij d N):Bij (pivot d p q) N:=by
 intro g
 rw[h g]
 simp only[pivot]
 rw[yq (f:=fun j=>g (d.fre j)) hq,yq (f:=fun j=>g (d.bas j)) hp,yq (f:=fun j=>g (upd d.fre q (d.bas p) j)) hq,
  yq (f:=fun j=>g (upd d.bas p (d.fre q) j)) hp]
 have e1:zg d.c (fun j=>if j=q then 0 else g (upd d.fre q (d.bas p) j))=zg d.c (fun j=>if j=q then 0 else g (d.fre j)):=zu fun i _=>by
  by_cases e:i=q<;>simp[e,upd]
 have e2:zg d.r (fun j=>if j=p then 0 else g (upd d.bas p (d.fre q) j))=zg d.r (fun j=>if j=p then 0 else g (d.bas j)):=zu fun i _=>by
  by_cases e:i=p<;>simp[e,upd]
 rw[e1,e2]
 simp only[upd,if_true]
 grind
theorem RS {d:zn} {p q:Nat} (hp:p<d.r) (hq:q<d.c) (h:d.a p q≠0) {x:Nat→Rat} (hs:sol d x):sol (pivot d p q) x:=by
 have e0:=hs p hp
 rw[yq hq] at e0
 have k1:∀ (k:Rat),zg d.c (fun j=>if j=q then 0 else k*d.a p j*x (d.fre j))=k*zg d.c (fun j=>if j=q then 0 else d.a p j*x (d.fre j)):=fun k=>by
  rw[← m4]
  exact zu fun j _=>by by_cases e:j=q<;>simp[e]; grind
 intro i hi
 simp only[pivot] at hi ⊢
 rw[yq hq]
 by_cases hip:i=p
 ·subst hip
  have e1:zg d.c (fun j=>if j=q then 0 else (if i=i then (if j=q then 1/d.a i q else d.a i j*(1/d.a i q)) else (if j=q then -(d.a i q*(1/d.a i q)) else d.a i j-d.a i q*(d.a i j*(1/d.a i q))))*x (upd d.fre q (d.bas i) j))
    = (1/d.a i q)*zg d.c (fun j=>if j=q then 0 else d.a i j*x (d.fre j)):=by
   rw[← k1]
   exact zu fun j _=>by by_cases e:j=q<;>simp[e,upd]; grind
  rw[e1]
  simp only[upd,if_true]
  grind
 ·have e2:=hs i hi
  rw[yq hq] at e2
  have e1:zg d.c (fun j=>if j=q then 0 else (if i=p then (if j=q then 1/d.a p q else d.a p j*(1/d.a p q)) else (if j=q then -(d.a i q*(1/d.a p q)) else d.a i j-d.a i q*(d.a p j*(1/d.a p q))))*x (upd d.fre q (d.bas p) j))
    = zg d.c (fun j=>if j=q then 0 else d.a i j*x (d.fre j))-(d.a i q*(1/d.a p q))*zg d.c (fun j=>if j=q then 0 else d.a p j*x (d.fre j)):=by
   rw[← k1,← uW]
   exact zu fun j _=>by by_cases e:j=q<;>simp[e,upd,hip]<;>grind
  rw[e1]
  simp only[upd,if_true,if_neg hip]
  grind
theorem kH {d:zn} {p q:Nat} (hp:p<d.r) (hq:q<d.c) (h:d.a p q≠0) {x:Nat→Rat}:sol (pivot d p q) x↔sol d x:=by
 constructor
 ·intro hs
  have h2:(pivot d p q).a p q≠0:=by simp only[pivot,if_true]; grind
  have:=RS (d:=pivot d p q) hp hq h2 hs
  rwa [YD h] at this
 ·exact RS hp hq h
theorem Rz {d:zn} {p q:Nat} (hp:p<d.r) (hq:q<d.c) (h:d.a p q≠0) {x:Nat→Rat} (hs:sol d x):obj (pivot d p q) x=obj d x:=by
 have e0:=hs p hp
 rw[yq hq] at e0
 have k1:∀ (k:Rat),zg d.c (fun j=>if j=q then 0 else k*d.a p j*x (d.fre j))=k*zg d.c (fun j=>if j=q then 0 else d.a p j*x (d.fre j)):=fun k=>by
  rw[← m4]
  exact zu fun j _=>by by_cases e:j=q<;>simp[e]; grind
 simp only[obj,pivot]
 rw[yq hq,yq (f:=fun j=>d.cst j*x (d.fre j)) hq]
 have e1:zg d.c (fun j=>if j=q then 0 else (if j=q then -(d.cst q*(1/d.a p q)) else d.cst j-d.cst q*(d.a p j*(1/d.a p q)))*x (upd d.fre q (d.bas p) j))
    = zg d.c (fun j=>if j=q then 0 else d.cst j*x (d.fre j))-(d.cst q*(1/d.a p q))*zg d.c (fun j=>if j=q then 0 else d.a p j*x (d.fre j)):=by
  rw[← k1,← uW]
  exact zu fun j _=>by by_cases e:j=q<;>simp[e,upd]<;>grind
 rw[e1]
 simp only[upd,if_true]
 grind
section
variable {d:zn} {N:Nat} (hb:Bij d N)
include hb
theorem gI {k:Nat} (hk:k<N):zg d.c (fun j=>if d.fre j=k then 1 else 0)+zg d.r (fun i=>if d.bas i=k then 1 else 0)=1:=by
 have:=hb fun x=>if x=k then 1 else 0
 rw[wC hk (fun i _ hne=>if_neg hne),if_pos rfl] at this
 exact this.symm
theorem X6 {k:Nat} (hk:N≤k):zg d.c (fun j=>if d.fre j=k then 1 else 0)+zg d.r (fun i=>if d.bas i=k then 1 else 0)=0:=by
 have:=hb fun x=>if x=k then 1 else 0
 rw[zO (fun i hi=>if_neg (by omega))] at this
 exact this.symm
omit hb in
theorem kW {n:Nat} {f:Nat→Nat} {k:Nat}:0≤zg n (fun j=>if f j=k then 1 else 0):=xW fun i _=>by split<;>grind
omit hb in
theorem ZO {n j:Nat} {f:Nat→Nat} (hj:j<n):1≤zg n (fun i=>if f i=f j then 1 else 0):=by
 rw[yq hj]
 simp only[if_true]
 have:0≤zg n (fun i=>if i=j then 0 else if f i=f j then (1:Rat) else 0):=xW fun i _=>by split<;>(try split)<;>grind
 grind
omit hb in
theorem LS {n i j:Nat} {f:Nat→Nat} (hi:i<n) (hj:j<n) (hne:i≠j) (he:f i=f j):2≤zg n (fun l=>if f l=f j then 1 else 0):=by
 rw[yq hj,yq (f:=fun l=>if l=j then 0 else if f l=f j then (1:Rat) else 0) hi]
 simp only[if_true,if_neg hne,he]
 have:0≤zg n (fun l=>if l=i then 0 else if l=j then 0 else if f l=f j then (1:Rat) else 0):=xW fun i _=>by split<;>(try split)<;>(try split)<;>grind
 grind
theorem lP {j:Nat} (hj:j<d.c):d.fre j<N:=by
 rcases Nat.lt_or_ge (d.fre j) N with h | h
 ·exact h
 ·have h1:=X6 hb h
  have h2:=ZO (f:=d.fre) hj
  have h3:=kW (n:=d.r) (f:=d.bas) (k:=d.fre j)
  grind
theorem jz {i:Nat} (hi:i<d.r):d.bas i<N:=by
 rcases Nat.lt_or_ge (d.bas i) N with h | h
 ·exact h
 ·have h1:=X6 hb h
  have h2:=ZO (f:=d.bas) hi
  have h3:=kW (n:=d.c) (f:=d.fre) (k:=d.bas i)
  grind
theorem mF {i j:Nat} (hi:i<d.c) (hj:j<d.c) (h:d.fre i=d.fre j):i=j:=by
 by_cases e:i=j
 ·exact e
 ·have h1:=gI hb (lP hb hj)
  have h2:=LS (f:=d.fre) hi hj e h
  have h3:=kW (n:=d.r) (f:=d.bas) (k:=d.fre j)
  grind
theorem jf {i j:Nat} (hi:i<d.r) (hj:j<d.r) (h:d.bas i=d.bas j):i=j:=by
 by_cases e:i=j
 ·exact e
 ·have h1:=gI hb (jz hb hj)
  have h2:=LS (f:=d.bas) hi hj e h
  have h3:=kW (n:=d.c) (f:=d.fre) (k:=d.bas j)
  grind
theorem uG {i j:Nat} (hi:i<d.r) (hj:j<d.c):d.fre j≠d.bas i:=fun e=>by
 have h1:=gI hb (jz hb hi)
 have h2:=ZO (f:=d.bas) hi
 have h3:=ZO (f:=d.fre) hj
 rw[e] at h3
 grind
omit hb in
theorem PK {n k:Nat} {f:Nat→Nat} (h:∀ j,j<n→f j≠k):zg n (fun j=>if f j=k then (1:Rat) else 0)=0:=zO fun i hi=>if_neg (h i hi)
theorem bn {k:Nat} (hk:k<N):(∃ j,j<d.c∧d.fre j=k)∨∃ i,i<d.r∧d.bas i=k:=by
 apply Classical.byContradiction
 intro h
 have h1:=gI hb hk
 rw[PK fun j hj e=>h (.inl ⟨j,hj,e⟩),PK fun j hj e=>h (.inr ⟨j,hj,e⟩)] at h1
 grind
end
def inB (d:zn) (k:Nat):Prop:=∃ i,i<d.r∧d.bas i=k
def vl (d:zn) (k:Nat):Rat:=zg d.r fun i=>if d.bas i=k then d.b i else 0
def cv (d:zn) (k:Nat):Rat:=zg d.c fun j=>if d.fre j=k then d.cst j else 0
section
variable {d:zn} {N:Nat} (hb:Bij d N)
include hb
theorem Zt {i:Nat} (hi:i<d.r):vl d (d.bas i)=d.b i:=by
 unfold vl
 rw[wC hi fun k hk hne=>if_neg fun e=>hne (jf hb hk hi e),if_pos rfl]
omit hb in
theorem gz {k:Nat} (h:¬ inB d k):vl d k=0:=zO fun i hi=>if_neg fun e=>h ⟨i,hi,e⟩
theorem Uu {j:Nat} (hj:j<d.c):cv d (d.fre j)=d.cst j:=by
 unfold cv
 rw[wC hj fun k hk hne=>if_neg fun e=>hne (mF hb hk hj e),if_pos rfl]
theorem Q8 {k:Nat} (h:inB d k):cv d k=0:=by
 obtain ⟨i,hi,rfl⟩:=h
 exact zO fun j hj=>if_neg fun e=>uG hb hi hj e
theorem xU {j:Nat} (hj:j<d.c):¬ inB d (d.fre j):=fun ⟨_,hi,e⟩=>uG hb hi hj e.symm
theorem ji {k:Nat} (hk:k<N) (h:¬ inB d k):∃ j,j<d.c∧d.fre j=k:=(bn hb hk).resolve_right h
def ptq (d:zn) (q:Nat) (y:Rat) (k:Nat):Rat:=zg d.r (fun i=>if d.bas i=k then d.b i-d.a i q*y else 0)+(if d.fre q=k then y else 0)
theorem eZ {q i:Nat} {y:Rat} (hq:q<d.c) (hi:i<d.r):ptq d q y (d.bas i)=d.b i-d.a i q*y:=by
 unfold ptq
 rw[wC hi fun k hk hne=>if_neg fun e=>hne (jf hb hk hi e),if_pos rfl,if_neg (uG hb hi hq)]
 grind
theorem vv {q j:Nat} {y:Rat} (hq:q<d.c) (hj:j<d.c):ptq d q y (d.fre j)=if j=q then y else 0:=by
 unfold ptq
 rw[zO fun i hi=>if_neg fun e=>uG hb hi hj e.symm]
 by_cases e:j=q
 ·subst e; simp; grind
 ·rw[if_neg e,if_neg fun h=>e (mF hb hj hq h.symm)]; grind
theorem qz {q:Nat} {y:Rat} (hq:q<d.c):sol d (ptq d q y):=by
 intro i hi
 rw[eZ hb hq hi,wC hq (fun j hj hne=>by rw[vv hb hq hj,if_neg hne]; grind),vv hb hq hq,if_pos rfl]
theorem ZU {q:Nat} {y:Rat} (hq:q<d.c):obj d (ptq d q y)=d.v+d.cst q*y:=by
 unfold obj
 rw[wC hq (fun j hj hne=>by rw[vv hb hq hj,if_neg hne]; grind),vv hb hq hq,if_pos rfl]
theorem gA:sol d (vl d):=by
 intro i hi
 rw[Zt hb hi,zO fun j hj=>by rw[gz (xU hb hj)]; grind]
 grind
theorem Zu:obj d (vl d)=d.v:=by
 unfold obj
 rw[zO fun j hj=>by rw[gz (xU hb hj)]; grind]
 grind
theorem Nb {x:Nat→Rat}:obj d x=d.v+zg N fun k=>cv d k*x k:=by
 have:=hb fun k=>cv d k*x k
 rw[this,zO (n:=d.r) fun i hi=>by rw[Q8 hb ⟨i,hi,rfl⟩]; grind]
 unfold obj
 rw[zu (g:=fun j=>cv d (d.fre j)*x (d.fre j)) fun j hj=>by rw[Uu hb hj]]
 grind
end
theorem lt_or_le (a b:Rat):a<b∨b≤a:=by
 by_cases h:a<b
 ·exact .inl h
 ·exact .inr (by grind)
theorem cb {a:Rat} (h:0<a):0<1/a:=by
 have h1:a*(1/a)=1:=by grind
 rcases lt_or_le 0 (1/a) with h2 | h2
 ·exact h2
 ·exfalso
  have:0≤a*(-(1/a)):=Rat.mul_nonneg (by grind) (by grind)
  grind
def kP (d:zn) (p q:Nat):Prop:=p<d.r∧q<d.c∧0<d.cst q∧(∀ j,j<d.c→0<d.cst j→d.fre q≤d.fre j)∧0<d.a p q ∧
 ∀ i,i<d.r→0<d.a i q→d.b p*d.a i q≤d.b i*d.a p q∧(d.b p*d.a i q=d.b i*d.a p q→d.bas p≤d.bas i)
def feas (d:zn):Prop:=∀ i,i<d.r→0≤d.b i
theorem JJ {d:zn} {p q:Nat} (hp:p<d.r) (hf:feas d) (ha:0<d.a p q) (hr:∀ i,i<d.r→0<d.a i q→d.b p*d.a i q≤d.b i*d.a p q):feas (pivot d p q):=by
 have hi:=cb ha
 intro i hir
 simp only[pivot] at hir ⊢
 by_cases e:i=p
 ·rw[if_pos e]; exact Rat.mul_nonneg (hf p hp) (by grind)
 ·rw[if_neg e]
  have h0:0≤d.b p*(1/d.a p q):=Rat.mul_nonneg (hf p hp) (by grind)
  by_cases h:0<d.a i q
  ·have h1:=hr i hir h
   have h2:0≤(d.b i*d.a p q-d.b p*d.a i q)*(1/d.a p q):=Rat.mul_nonneg (by grind) (by grind)
   have h3:(d.b i*d.a p q-d.b p*d.a i q)*(1/d.a p q)=d.b i-d.a i q*(d.b p*(1/d.a p q)):=by grind
   rwa [h3] at h2
  ·have h1:0≤(- d.a i q)*(d.b p*(1/d.a p q)):=Rat.mul_nonneg (by grind) h0
   have:=hf i hir
   grind
theorem kP.feas {d:zn} {p q:Nat} (h:kP d p q) (hf:feas d):feas (pivot d p q) :=
 JJ h.1 hf h.2.2.2.2.1 fun i hi ha=>(h.2.2.2.2.2 i hi ha).1
theorem kP.v_le {d:zn} {p q:Nat} (h:kP d p q) (hf:LP.feas d):d.v≤(pivot d p q).v:=by
 have hi:=cb h.2.2.2.2.1
 have h0:0≤d.cst q*(d.b p*(1/d.a p q)):=Rat.mul_nonneg (by have:=h.2.2.1; grind) (Rat.mul_nonneg (hf p h.1) (by grind))
 simp only[pivot]
 grind
theorem kP.v_eq {d:zn} {p q:Nat} (h:kP d p q) (hv:(pivot d p q).v=d.v):d.b p=0:=by
 have hi:=cb h.2.2.2.2.1
 have hc:=h.2.2.1
 simp only[pivot] at hv
 have e:d.cst q*(d.b p*(1/d.a p q))=0:=by grind
 have h1:d.b p*(1/d.a p q)=0:=by grind
 grind
theorem aek {d:zn} {p q:Nat} (h:d.b p=0) (k:Nat):vl (pivot d p q) k=vl d k:=by
 unfold vl
 simp only[pivot]
 refine zu fun i _=>?_
 by_cases e:i=p
 ·subst e
  simp only[h,upd,if_true]
  have:(0:Rat)*(1/d.a i q)=0:=by grind
  rw[this]
  split<;>split<;>rfl
 ·simp only[h,upd,if_neg e]
  have:d.b i-d.a i q*(0*(1/d.a p q))=d.b i:=by grind
  rw[this]
theorem core {d d':zn} {N p q q':Nat} (hb:Bij d N) (hb':Bij d' N) (ho:∀ x,sol d x→obj d x=obj d' x) (hv:d.v=d'.v) (hB:kP d p q)
  (hq':q'<d'.c) (ht:d'.fre q'=d.bas p) (hc':0<d'.cst q') (hm':∀ j,j<d'.c→0<d'.cst j→d'.fre q'≤d'.fre j)
  (hs:d.fre q<d.bas p) (hr:∀ k,inB d k→¬ inB d' k→k≤d.bas p∧vl d k=0) (hp0:d.b p=0) (_hf:feas d):False:=by
 obtain ⟨hp,hq,hc,hmin,ha,hrat⟩:=hB
 have key:∀ y:Rat,d.cst q*y=cv d' (d.fre q)*y+(zg d.r (fun i=>cv d' (d.bas i)*d.b i)-zg d.r (fun i=>cv d' (d.bas i)*d.a i q)*y):=fun y=>by
  have h1:=ho _ (qz hb hq (y:=y))
  rw[ZU hb hq,Nb hb',hb (fun k=>cv d' k*ptq d q y k)] at h1
  rw[wC hq (fun j hj hne=>by rw[vv hb hq hj,if_neg hne]; grind),vv hb hq hq,if_pos rfl] at h1
  rw[zu (g:=fun i=>cv d' (d.bas i)*d.b i-cv d' (d.bas i)*d.a i q*y) fun i hi=>by rw[eZ hb hq hi]; grind] at h1
  rw[uW,fJ] at h1
  grind
 have k0:=key 0
 have k1:=key 1
 have neg_of:∀ {k:Nat},k<d.bas p→k<N→cv d' k≤0:=fun {k} hk hkN=>by
  rcases lt_or_le 0 (cv d' k) with h | h
  ·exfalso
   by_cases hin:inB d' k
   ·rw[Q8 hb' hin] at h; grind
   ·obtain ⟨j,hj,rfl⟩:=ji hb' hkN hin
    rw[Uu hb' hj] at h
    have:=hm' j hj h
    omega
  ·exact h
 have c1:=neg_of hs (lP hb hq)
 have c2:zg d.r (fun i=>cv d' (d.bas i)*d.a i q)<0:=by grind
 obtain ⟨i,hi,hneg⟩:=Tv c2
 have hnin:¬ inB d' (d.bas i):=fun h=>by rw[Q8 hb' h] at hneg; grind
 obtain ⟨h1,h2⟩:=hr _ ⟨i,hi,rfl⟩ hnin
 rw[Zt hb hi] at h2
 have hne:d.bas i≠d.bas p:=fun e=>by
  have e2:=jf hb hi hp e
  subst e2
  rw[← ht,Uu hb' hq'] at hneg
  have:0<d'.cst q'*d.a i q:=Rat.mul_pos hc' ha
  grind
 have hlt:d.bas i<d.bas p:=by omega
 have c3:=neg_of hlt (jz hb hi)
 have c4:0<d.a i q:=by
  rcases lt_or_le 0 (d.a i q) with h | h
  ·exact h
  ·exfalso
   have:0≤(- cv d' (d.bas i))*(- d.a i q):=Rat.mul_nonneg (by grind) (by grind)
   grind
 have:=(hrat i hi c4).2 (by rw[h2,hp0]; grind)
 omega
structure Run (D:Nat→zn) (pp qq:Nat→Nat) (K N:Nat):Prop where
 bij:Bij (D 0) N
 feas:feas (D 0)
 step:∀ k,k<K→kP (D k) (pp k) (qq k)∧D (k+1)=pivot (D k) (pp k) (qq k)
section
variable {D:Nat→zn} {pp qq:Nat→Nat} {K N:Nat} (h:Run D pp qq K N)
include h
theorem Run.bijs:∀ k,k≤K→Bij (D k) N
 | 0,_=>h.bij
 | k+1,hk=>by
  obtain ⟨h1,h2⟩:=h.step k (by omega)
  rw[h2]
  exact RD h1.1 h1.2.1 (Run.bijs k (by omega))
theorem Run.feass:∀ k,k≤K→LP.feas (D k)
 | 0,_=>h.feas
 | k+1,hk=>by
  obtain ⟨h1,h2⟩:=h.step k (by omega)
  rw[h2]
  exact h1.feas (Run.feass k (by omega))
theorem Run.same {i:Nat} {x:Nat→Rat}:∀ j,i≤j→j≤K→((sol (D i) x↔sol (D j) x)∧(sol (D i) x→obj (D i) x=obj (D j) x)):=by
 intro j hij
 induction j with
 | zero =>
   intro _; have:i=0:=by omega
   subst this; exact ⟨Iff.rfl,fun _=>rfl⟩
 | succ j ih =>
  intro hj
  by_cases e:i=j+1
  ·subst e; exact ⟨Iff.rfl,fun _=>rfl⟩
  ·obtain ⟨g1,g2⟩:=ih (by omega) (by omega)
   obtain ⟨h1,h2⟩:=h.step j (by omega)
   have ha:(D j).a (pp j) (qq j)≠0:=by have:=h1.2.2.2.2.1; grind
   rw[h2]
   exact ⟨g1.trans (kH h1.1 h1.2.1 ha).symm,fun hx=>(g2 hx).trans (Rz h1.1 h1.2.1 ha (g1.1 hx)).symm⟩
theorem Run.v_le {i:Nat}:∀ j,i≤j→j≤K→(D i).v≤(D j).v:=by
 intro j hij
 induction j with
 | zero =>
   intro _; have:i=0:=by omega
   subst this; grind
 | succ j ih =>
  intro hj
  by_cases e:i=j+1
  ·subst e; grind
  ·have g:=ih (by omega) (by omega)
   obtain ⟨h1,h2⟩:=h.step j (by omega)
   have:=h1.v_le (h.feass j (by omega))
   rw[← h2] at this
   grind
abbrev en (D:Nat→zn) (qq:Nat→Nat) (m:Nat):Nat:=(D m).fre (qq m)
abbrev lv (D:Nat→zn) (pp:Nat→Nat) (m:Nat):Nat:=(D m).bas (pp m)
theorem Run.next {m k:Nat} (hm:m<K):inB (D (m+1)) k↔(k=en D qq m∨(inB (D m) k∧k≠lv D pp m)):=by
 obtain ⟨h1,h2⟩:=h.step m hm
 have hb:=h.bijs m (by omega)
 rw[h2]
 constructor
 ·rintro ⟨i,hi,e⟩
  simp only[pivot,upd] at hi e
  by_cases hip:i=pp m
  ·rw[if_pos hip] at e; exact .inl e.symm
  ·rw[if_neg hip] at e
   refine .inr ⟨⟨i,hi,e⟩,fun e2=>hip (jf hb hi h1.1 (e.trans e2))⟩
 ·rintro (rfl | ⟨⟨i,hi,rfl⟩,hne⟩)
  ·exact ⟨pp m,h1.1,by simp[pivot,upd]⟩
  ·refine ⟨i,hi,?_⟩
   have:i≠pp m:=fun e=>hne (by rw[e])
   simp[pivot,upd,this]
theorem Run.en_free {m:Nat} (hm:m<K):¬ inB (D m) (en D qq m):=xU (h.bijs m (by omega)) (h.step m hm).1.2.1
omit h in
theorem Run.lv_basic {m:Nat} (h:Run D pp qq K N) (hm:m<K):inB (D m) (lv D pp m):=⟨pp m,(h.step m hm).1.1,rfl⟩
theorem Run.stay_free {k i j:Nat} (hj:j≤K) (hne:∀ m,i≤m→m<j→en D qq m≠k):∀ x y,i≤x→x≤y→y≤j→¬ inB (D x) k→¬ inB (D y) k:=by
 intro x y hx hxy
 induction y with
 | zero =>
   intro _ hf; have:x=0:=by omega
   subst this; exact hf
 | succ y ih =>
  intro hy hf
  by_cases e:x=y+1
  ·subst e; exact hf
  ·have g:=ih (by omega) (by omega) hf
   rw[h.next (by omega)]
   rintro (e2 | ⟨e2,_⟩)
   ·exact hne y (by omega) (by omega) e2.symm
   ·exact g e2
theorem Run.stay_basic {k i j:Nat} (hj:j≤K) (hne:∀ m,i≤m→m<j→lv D pp m≠k):∀ x y,i≤x→x≤y→y≤j→inB (D x) k→inB (D y) k:=by
 intro x y hx hxy
 induction y with
 | zero =>
   intro _ hf; have:x=0:=by omega
   subst this; exact hf
 | succ y ih =>
  intro hy hf
  by_cases e:x=y+1
  ·subst e; exact hf
  ·have g:=ih (by omega) (by omega) hf
   rw[h.next (by omega)]
   exact .inr ⟨g,fun e2=>hne y (by omega) (by omega) e2.symm⟩
theorem Run.enters {k i j x y:Nat} (hj:j≤K) (hij:inB (D i) k↔inB (D j) k) (hx:i≤x∧x≤j) (hy:i≤y∧y≤j) (h1:inB (D x) k) (h2:¬ inB (D y) k):∃ m,i≤m∧m<j∧en D qq m=k:=by
 apply Classical.byContradiction
 intro hno
 have hne:∀ m,i≤m→m<j→en D qq m≠k:=fun m a b e=>hno ⟨m,a,b,e⟩
 have f1:=h.stay_free hj hne y j hy.1 hy.2 (Nat.le_refl _) h2
 have f2:¬ inB (D i) k:=fun e=>f1 (hij.1 e)
 exact h.stay_free hj hne i x (Nat.le_refl _) hx.1 hx.2 f2 h1
theorem Run.leaves {k i j x y:Nat} (hj:j≤K) (hij:inB (D i) k↔inB (D j) k) (hx:i≤x∧x≤j) (hy:i≤y∧y≤j) (h1:inB (D x) k) (h2:¬ inB (D y) k):∃ m,i≤m∧m<j∧lv D pp m=k:=by
 apply Classical.byContradiction
 intro hno
 have hne:∀ m,i≤m→m<j→lv D pp m≠k:=fun m a b e=>hno ⟨m,a,b,e⟩
 have f1:=h.stay_basic hj hne x j hx.1 hx.2 (Nat.le_refl _) h1
 have f2:inB (D i) k:=hij.2 f1
 exact h2 (h.stay_basic hj hne i y (Nat.le_refl _) hy.1 hy.2 f2)
omit h in
theorem K8 (f:Nat→Nat) (i:Nat):∀ j,i<j→∃ m,i≤m∧m<j∧∀ m',i≤m'→m'<j→f m'≤f m:=by
 intro j
 induction j with
 | zero=>intro hj; omega
 | succ j ih =>
  intro hj
  by_cases e:i=j
  ·subst e; exact ⟨i,Nat.le_refl _,by omega,fun m' a b=>by
    have:m'=i:=by omega
    rw[this]
    exact Nat.le_refl _⟩
  ·obtain ⟨m,a,b,g⟩:=ih (by omega)
   by_cases hlt:f m≤f j
   ·refine ⟨j,by omega,by omega,fun m' a' b'=>?_⟩
    by_cases e2:m'=j
    ·rw[e2]; exact Nat.le_refl _
    ·exact Nat.le_trans (g m' a' (by omega)) hlt
   ·refine ⟨m,a,by omega,fun m' a' b'=>?_⟩
    by_cases e2:m'=j
    ·rw[e2]; omega
    ·exact g m' a' (by omega)
theorem Run.no_repeat {i j:Nat} (hij:i<j) (hj:j≤K) (hB:∀ k,inB (D i) k↔inB (D j) k):False:=by
 have bi:=h.bijs i (by omega)
 have bj:=h.bijs j hj
 have hvij:(D i).v=(D j).v:=by
  have s1:=gA bi
  have s2:=(h.same j (by omega) hj (i:=i)).2 s1
  rw[Zu bi] at s2
  rw[s2]
  unfold obj
  rw[zO fun l hl=>by rw[gz fun e=>xU bj hl ((hB _).1 e)]; grind]
  grind
 have hv:∀ m,i≤m→m≤j→(D m).v=(D i).v:=fun m a b=>by
  have g1:=h.v_le m a (by omega)
  have g2:=h.v_le j b hj
  grind
 have hdeg:∀ m,i≤m→m<j→(D m).b (pp m)=0:=fun m a b=>by
  obtain ⟨h1,h2⟩:=h.step m (by omega)
  apply h1.v_eq
  rw[← h2,hv (m+1) (by omega) (by omega),hv m a (by omega)]
 have hvl:∀ k m,i≤m→m≤j→vl (D m) k=vl (D i) k:=fun k m a=>by
  induction m with
  | zero =>
    intro _; have:i=0:=by omega
    rw[this]
  | succ m ih =>
   intro b
   by_cases e:i=m+1
   ·rw[e]
   ·rw[(h.step m (by omega)).2,aek (hdeg m (by omega) (by omega)),ih (by omega) (by omega)]
 obtain ⟨e,e1,e2,emax⟩:=K8 (en D qq) i j hij
 have hfr:=h.en_free (m:=e) (by omega)
 have hin:inB (D (e+1)) (en D qq e):=(h.next (by omega)).2 (.inl rfl)
 obtain ⟨l,l1,l2,hl⟩:=h.leaves hj (hB (en D qq e)) (x:=e+1) (y:=e) ⟨by omega,by omega⟩ ⟨by omega,by omega⟩ hin hfr
 have hBl:=(h.step l (by omega)).1
 have hBe:=(h.step e (by omega)).1
 have hobj:∀ x,sol (D l) x→obj (D l) x=obj (D e) x:=fun x hx=>by
  rcases Nat.le_total l e with hle | hle
  ·exact (h.same e hle (by omega) (i:=l)).2 hx
  ·exact ((h.same l hle (by omega) (i:=e)).2 ((h.same l hle (by omega) (i:=e)).1.2 hx)).symm
 refine core (h.bijs l (by omega)) (h.bijs e (by omega)) hobj (by rw[hv l l1 (by omega),hv e e1 (by omega)]) hBl hBe.2.1 hl.symm hBe.2.2.1 hBe.2.2.2.1 ?_ ?_ (hdeg l l1 l2) (h.feass l (by omega))
 ·have g:=emax l l1 l2
  have hne:en D qq l≠en D qq e:=fun e3=>by
   have:=h.en_free (m:=l) (by omega)
   rw[e3,← hl] at this
   exact this (h.lv_basic (by omega))
  rw[show (D l).bas (pp l)=en D qq e from hl]
  simp only[en] at g hne ⊢
  omega
 ·intro k hk1 hk2
  obtain ⟨m,m1,m2,rfl⟩:=h.enters hj (hB k) (x:=l) (y:=e) ⟨l1,by omega⟩ ⟨e1,by omega⟩ hk1 hk2
  rw[show (D l).bas (pp l)=en D qq e from hl]
  refine ⟨emax m m1 m2,?_⟩
  rw[hvl _ l l1 (by omega),← hvl _ e e1 (by omega)]
  exact gz hk2
end
def code (d:zn):Nat→Nat
 | 0=>0
 | n+1=>2*code d n+(if (List.range d.r).any (fun i=>d.bas i == n)=true then 1 else 0)
theorem p7 {d:zn} {n:Nat}:(List.range d.r).any (fun i=>d.bas i == n)=true↔inB d n:=by
 simp[inB]
theorem LC {d:zn}:∀ n,code d n<2^n
 | 0=>by simp[code]
 | n+1=>by have:=LC (d:=d) n; simp only[code,Nat.pow_succ]; split<;>omega
theorem code_inj {d d':zn}:∀ n,code d n=code d' n→∀ k,k<n→(inB d k↔inB d' k)
 | 0,_,k,hk=>by omega
 | n+1,he,k,hk=>by
  simp only[code] at he
  have h1:code d n=code d' n:=by split at he<;>split at he<;>omega
  by_cases e:k=n
  ·subst e
   rw[← p7,← p7]
   rw[h1] at he
   cases h2:(List.range d.r).any (fun i=>d.bas i == k)<;>cases h3:(List.range d'.r).any (fun i=>d'.bas i == k)<;>simp only[h2,h3,Bool.false_eq_true,if_true,if_false] at he ⊢<;>omega
  ·exact code_inj n h1 k (by omega)
theorem adT:∀ (M K:Nat) (f:Nat→Nat),(∀ k,k<K→f k<M)→(∀ i j,i<j→j<K→f i≠f j)→K≤M:=by
 intro M
 induction M with
 | zero=>intro K f h _; rcases K with _ | K; exact Nat.le_refl _; exact absurd (h 0 (by omega)) (by omega)
 | succ M ih =>
  intro K f h hne
  rcases K with _ | K
  ·omega
  ·-- the last one is moved out of the way
   have:K≤M:=by
    refine ih K (fun k=>if f k=M then f K else f k) (fun k hk=>?_) (fun i j hij hj=>?_)
    ·have h1:=h k (by omega)
     have h2:=h K (by omega)
     have h3:=hne k K hk (by omega)
     by_cases e:f k=M
     ·simp only[e,if_true]; omega
     ·simp only[e,if_false]; omega
    ·have g1:=hne i j hij (by omega)
     have g2:=hne i K (by omega) (by omega)
     have g3:=hne j K hj (by omega)
     by_cases e1:f i=M<;>by_cases e2:f j=M<;>simp only[e1,e2,if_true,if_false]<;>omega
   omega
theorem Run.le {D:Nat→zn} {pp qq:Nat→Nat} {K N:Nat} (h:Run D pp qq K N):K<2^N:=by
 have:=adT (2^N) (K+1) (fun k=>code (D k) N) (fun k _=>LC N) (fun i j hij hj e=>by
  refine h.no_repeat hij (by omega) fun k=>?_
  by_cases hk:k<N
  ·exact code_inj N e k hk
  ·constructor
   ·rintro ⟨i',hi',rfl⟩; exact absurd (jz (h.bijs i (by omega)) hi') hk
   ·rintro ⟨i',hi',rfl⟩; exact absurd (jz (h.bijs j (by omega)) hi') hk)
 omega
def sz (K:Nat) (q:Rat):Prop:=q.num.natAbs≤2^K∧q.den≤2^K
theorem zx {K L:Nat} {q:Rat} (h:sz K q) (hl:K≤L):sz L q :=
 ⟨Nat.le_trans h.1 (Nat.pow_le_pow_right (by omega) hl),Nat.le_trans h.2 (Nat.pow_le_pow_right (by omega) hl)⟩
theorem KH {K:Nat} {n:Int} {d:Nat} (hd:d≠0) (h1:n.natAbs≤2^K) (h2:d≤2^K):sz K (Rat.normalize n d hd):=by
 rw[Rat.normalize_eq]
 exact ⟨Nat.le_trans (Int.natAbs_ediv_le_natAbs _ _) h1,Nat.le_trans (Nat.div_le_self _ _) h2⟩
theorem xQ {K:Nat}:sz K 0:=⟨Nat.zero_le _,Nat.pow_pos (by omega)⟩
theorem Tw {K:Nat}:sz K 1:=⟨Nat.pow_pos (by omega),Nat.pow_pos (by omega)⟩
theorem yg {K L:Nat} {a b:Rat} (ha:sz K a) (hb:sz L b):sz (K+L) (a*b):=by
 rw[Rat.mul_def]
 refine KH _ ?_ ?_
 ·rw[Int.natAbs_mul,Nat.pow_add]; exact Nat.mul_le_mul ha.1 hb.1
 ·rw[Nat.pow_add]; exact Nat.mul_le_mul ha.2 hb.2
theorem r4 {K L:Nat} {a b:Rat} (ha:sz K a) (hb:sz L b):sz (K+L+1) (a+b):=by
 rw[Rat.add_def]
 refine KH _ ?_ ?_
 ·refine Nat.le_trans (Int.natAbs_add_le _ _) ?_
  rw[Int.natAbs_mul,Int.natAbs_mul,Nat.pow_succ,Nat.pow_add]
  have h1:=Nat.mul_le_mul ha.1 hb.2
  have h2:=Nat.mul_le_mul hb.1 ha.2
  rw[Nat.mul_comm (2^L)] at h2
  simp only[Int.natAbs_natCast]
  omega
 ·rw[Nat.pow_succ,Nat.pow_add]
  have:=Nat.mul_le_mul ha.2 hb.2
  omega
theorem r5 {K:Nat} {a:Rat} (ha:sz K a):sz K (-a):=by
 unfold sz
 rw[Rat.neg_num,Rat.neg_den,Int.natAbs_neg]
 exact ha
theorem gu {K L:Nat} {a b:Rat} (ha:sz K a) (hb:sz L b):sz (K+L+1) (a-b):=by
 rw[Rat.sub_eq_add_neg]; exact r4 ha (r5 hb)
theorem N1 {K:Nat} {a:Rat} (ha:sz K a):sz K (1/a):=by
 have:1/a=a⁻¹:=by grind
 rw[this]
 unfold sz
 rw[Rat.num_inv,Rat.den_inv]
 constructor
 ·rw[Int.natAbs_mul,Int.natAbs_natCast,Int.natAbs_sign]
  have:=ha.2
  split<;>omega
 ·split
  ·exact Nat.pow_pos (by omega)
  ·exact ha.1
structure szD (K:Nat) (d:zn):Prop where
 a:∀ i j,i<d.r→j<d.c→sz K (d.a i j)
 b:∀ i,i<d.r→sz K (d.b i)
 cst:∀ j,j<d.c→sz K (d.cst j)
 v:sz K d.v
theorem XP {K L:Nat} {d:zn} (h:szD K d) (hl:K≤L):szD L d :=
 ⟨fun i j hi hj=>zx (h.a i j hi hj) hl,fun i hi=>zx (h.b i hi) hl,fun j hj=>zx (h.cst j hj) hl,zx h.v hl⟩
theorem Dv {K:Nat} {d:zn} {p q:Nat} (hp:p<d.r) (hq:q<d.c) (h:szD K d):szD (4*K+1) (pivot d p q):=by
 have hi:=N1 (h.a p q hp hq)
 constructor
 ·intro i j hir hjc
  simp only[pivot] at hir hjc ⊢
  split<;>split
  ·exact zx hi (by omega)
  ·exact zx (yg (h.a p j hp hjc) hi) (by omega)
  ·exact zx (r5 (yg (h.a i q hir hq) hi)) (by omega)
  ·exact zx (gu (h.a i j hir hjc) (yg (h.a i q hir hq) (yg (h.a p j hp hjc) hi))) (by omega)
 ·intro i hir
  simp only[pivot] at hir ⊢
  split
  ·exact zx (yg (h.b p hp) hi) (by omega)
  ·exact zx (gu (h.b i hir) (yg (h.a i q hir hq) (yg (h.b p hp) hi))) (by omega)
 ·intro j hjc
  simp only[pivot] at hjc ⊢
  split
  ·exact zx (r5 (yg (h.cst q hq) hi)) (by omega)
  ·exact zx (gu (h.cst j hjc) (yg (h.cst q hq) (yg (h.a p j hp hjc) hi))) (by omega)
 ·simp only[pivot]
  exact zx (r4 h.v (yg (h.cst q hq) (yg (h.b p hp) hi))) (by omega)
structure Same (d e:zn) (N:Nat):Prop where
 bd:Bij d N
 be:Bij e N
 sol:∀ x,sol d x↔sol e x
 obj:∀ x,LP.sol d x→obj d x=obj e x
theorem Same.refl {d:zn} {N:Nat} (h:Bij d N):Same d d N:=⟨h,h,fun _=>Iff.rfl,fun _ _=>rfl⟩
theorem Same.symm {d e:zn} {N:Nat} (h:Same d e N):Same e d N:=⟨h.be,h.bd,fun x=>(h.sol x).symm,fun x hx=>(h.obj x ((h.sol x).2 hx)).symm⟩
theorem Same.trans {d e f:zn} {N:Nat} (h:Same d e N) (k:Same e f N):Same d f N :=
 ⟨h.bd,k.be,fun x=>(h.sol x).trans (k.sol x),fun x hx=>(h.obj x hx).trans (k.obj x ((h.sol x).1 hx))⟩
theorem Same.pivot {d:zn} {N p q:Nat} (h:Bij d N) (hp:p<d.r) (hq:q<d.c) (ha:d.a p q≠0):Same (pivot d p q) d N :=
 ⟨RD hp hq h,h,fun _=>kH hp hq ha,fun _ hx=>Rz hp hq ha ((kH hp hq ha).1 hx)⟩
def far (d:zn) (f:Nat→Nat):Nat→Nat
 | 0=>0
 | n+1=>far d f n+(if (List.range d.r).any (fun i=>d.bas i == f n)=true then 0 else 1)
theorem Fq {d:zn} {f:Nat→Nat}:∀ n,far d f n≤n
 | 0=>Nat.le_refl _
 | n+1=>by have:=Fq (d:=d) (f:=f) n; simp only[far]; split<;>omega
theorem Pq {d:zn} {f:Nat→Nat}:∀ n,far d f n=0→∀ i,i<n→inB d (f i)
 | 0,_,i,hi=>by omega
 | n+1,h,i,hi=>by
  simp only[far] at h
  by_cases e:i=n
  ·subst e
   apply p7.1
   cases h2:(List.range d.r).any (fun j=>d.bas j == f i)
   ·rw[h2] at h; simp at h
   ·rfl
  ·exact Pq n (by omega) i (by omega)
theorem LK {d:zn} {f:Nat→Nat}:∀ n,far d f n≠0→∃ i,i<n∧¬ inB d (f i)
 | 0,h=>absurd rfl h
 | n+1,h=>by
  by_cases e:inB d (f n)
  ·have h2:=p7.2 e
   simp only[far,h2,if_true] at h
   obtain ⟨i,hi,hf⟩:=LK n (by omega)
   exact ⟨i,by omega,hf⟩
  ·exact ⟨n,by omega,e⟩
theorem LM {d:zn} {f:Nat→Nat} {p k:Nat} (hk:inB d k) (hp:¬ inB d (f p)):∀ n,far d (upd f p k) n+(if p<n then 1 else 0)=far d f n
 | 0=>by simp[far]
 | n+1=>by
  have ih:=LM (d:=d) (f:=f) (p:=p) (k:=k) hk hp n
  by_cases e:p=n
  ·subst e
   have h1:=p7.2 hk
   have h2:(List.range d.r).any (fun i=>d.bas i == f p)=false:=by
    cases h:(List.range d.r).any (fun i=>d.bas i == f p)
    ·rfl
    ·exact absurd (p7.1 h) hp
   simp only[far,upd,if_true,h1,h2,Bool.false_eq_true,if_false] at ih ⊢
   have:(upd f p k)=fun i=>if i=p then k else f i:=rfl
   simp only[Nat.lt_irrefl,if_false] at ih
   have e2:¬ p<p:=by omega
   simp only[show p<p+1 by omega,if_true]
   omega
  ·have e3:upd f p k n=f n:=by simp[upd,Ne.symm e]
   simp only[far,e3]
   have:(p<n+1)↔(p<n):=by omega
   simp only[this]
   omega
section
variable {d e:zn} {N:Nat} (h:Same d e N)
include h
theorem Same.entries {K:Nat} (hB:∀ k,inB e k→inB d k) (hB2:∀ k,inB d k→inB e k) (hs:szD K d):szD K e:=by
 have hF:∀ j,j<e.c→∃ j',j'<d.c∧d.fre j'=e.fre j:=fun j hj=>ji h.bd (lP h.be hj) fun hin=>xU h.be hj (hB2 _ hin)
 have hR:∀ i,i<e.r→∃ i',i'<d.r∧d.bas i'=e.bas i:=fun i hi=>hB _ ⟨i,hi,rfl⟩
 have hpt:∀ j j' y,j<e.c→j'<d.c→d.fre j'=e.fre j→∀ k,k<N→¬ inB d k→ptq e j y k=ptq d j' y k:=fun j j' y hj hj' ejj k hk hnk=>by
  obtain ⟨l,hl,rfl⟩:=ji h.bd hk hnk
  obtain ⟨l',hl',el⟩:=ji h.be hk fun hin=>hnk (hB _ hin)
  rw[vv h.bd hj' hl,← el,vv h.be hj hl']
  by_cases e1:l'=j
  ·subst e1
   rw[if_pos rfl,if_pos (mF h.bd hl hj' (by rw[ejj,el]))]
  ·rw[if_neg e1,if_neg fun e2=>e1 (by subst e2; exact mF h.be hl' hj (by rw[el,ejj]))]
 -- the point of 'e' is the point of 'd'
 have key:∀ j j' y i i',j<e.c→j'<d.c→d.fre j'=e.fre j→i<e.r→i'<d.r→d.bas i'=e.bas i→e.b i-e.a i j*y=d.b i'-d.a i' j'*y:=fun j j' y i i' hj hj' ejj hi hi' eii=>by
  have s1:=(h.sol _).2 (qz h.be hj (y:=y))
  have s2:=s1 i' hi'
  rw[eii,eZ h.be hj hi] at s2
  rw[s2]
  rw[zu (g:=fun l=>d.a i' l*ptq d j' y (d.fre l)) fun l hl=>by rw[hpt j j' y hj hj' ejj _ (lP h.bd hl) (xU h.bd hl)]]
  rw[wC hj' (fun l hl hne=>by rw[vv h.bd hj' hl,if_neg hne]; grind),vv h.bd hj' hj',if_pos rfl]
 have keyo:∀ j j' y,j<e.c→j'<d.c→d.fre j'=e.fre j→e.v+e.cst j*y=d.v+d.cst j'*y:=fun j j' y hj hj' ejj=>by
  have s1:=(h.sol _).2 (qz h.be hj (y:=y))
  have s2:=h.obj _ s1
  rw[ZU h.be hj] at s2
  rw[← s2]
  unfold LP.obj
  rw[zu (g:=fun l=>d.cst l*ptq d j' y (d.fre l)) fun l hl=>by rw[hpt j j' y hj hj' ejj _ (lP h.bd hl) (xU h.bd hl)]]
  rw[wC hj' (fun l hl hne=>by rw[vv h.bd hj' hl,if_neg hne]; grind),vv h.bd hj' hj',if_pos rfl]
 have hvl:∀ k,k<N→vl e k=0∨inB d k:=fun k hk=>by
  by_cases hin:inB e k
  ·exact .inr (hB _ hin)
  ·exact .inl (gz hin)
 have svl:=(h.sol _).2 (gA h.be)
 have z:∀ l,l<d.c→vl e (d.fre l)=0:=fun l hl=>gz fun hin=>xU h.bd hl (hB _ hin)
 constructor
 ·intro i j hi hj
  obtain ⟨i',hi',ei⟩:=hR i hi
  obtain ⟨j',hj',ej⟩:=hF j hj
  have k0:=key j j' 0 i i' hj hj' ej hi hi' ei
  have k1:=key j j' 1 i i' hj hj' ej hi hi' ei
  have:e.a i j=d.a i' j':=by grind
  rw[this]; exact hs.a i' j' hi' hj'
 ·intro i hi
  obtain ⟨i',hi',ei⟩:=hR i hi
  have s2:=svl i' hi'
  rw[ei,Zt h.be hi,zO fun l hl=>by rw[z l hl]; grind] at s2
  have:e.b i=d.b i':=by grind
  rw[this]; exact hs.b i' hi'
 ·intro j hj
  obtain ⟨j',hj',ej⟩:=hF j hj
  have k0:=keyo j j' 0 hj hj' ej
  have k1:=keyo j j' 1 hj hj' ej
  have:e.cst j=d.cst j':=by grind
  rw[this]; exact hs.cst j' hj'
 ·have s2:=h.obj _ svl
  rw[Zu h.be] at s2
  unfold LP.obj at s2
  rw[zO fun l hl=>by rw[z l hl]; grind] at s2
  have:e.v=d.v:=by grind
  rw[this]; exact hs.v
theorem Same.exchange {i:Nat} (hi:i<e.r) (hn:¬ inB d (e.bas i)):∃ j,j<e.c∧e.a i j≠0∧inB d (e.fre j):=by
 apply Classical.byContradiction
 intro hno
 obtain ⟨q,hq,eq⟩:=ji h.bd (jz h.be hi) hn
 have key:∀ y:Rat,y=e.b i:=fun y=>by
  have s1:=(h.sol _).1 (qz h.bd hq (y:=y)) i hi
  rw[← eq,vv h.bd hq hq,if_pos rfl] at s1
  rw[zO fun j hj=>?_] at s1
  ·grind
  ·by_cases ha:e.a i j=0
   ·rw[ha]; grind
   ·have hnf:¬ inB d (e.fre j):=fun hin=>hno ⟨j,hj,ha,hin⟩
    obtain ⟨l,hl,el⟩:=ji h.bd (lP h.be hj) hnf
    rw[← el,vv h.bd hq hl,if_neg fun e2=>uG h.be hi hj (by rw[← el,e2,eq])]
    grind
 have k0:=key 0
 have k1:=key 1
 grind
end
def grow (K:Nat):Nat→Nat
 | 0=>K
 | n+1=>4*grow K n+1
theorem az {K:Nat} {m n:Nat} (h:m≤n):grow K m≤grow K n:=by
 induction n with
 | zero =>
   have:m=0:=by omega
   rw[this]; exact Nat.le_refl _
 | succ n ih =>
  by_cases e:m=n+1
  ·rw[e]; exact Nat.le_refl _
  ·have:=ih (by omega)
   simp only[grow]; omega
theorem Same.size {d:zn} {N K:Nat} (hs:szD K d):∀ n (e:zn),Same d e N→e.r=d.r→e.c=d.c→far d e.bas e.r≤n→szD (grow K n) e:=by
 intro n
 induction n with
 | zero =>
  intro e h hr hc hn
  have hB:∀ k,inB e k→inB d k:=fun k ⟨i,hi,ek⟩=>by
   have:=Pq _ (Nat.le_zero.1 hn) i hi
   rwa [ek] at this
  refine h.entries hB (fun k hk=>?_) hs
  -- as many basic variables in both
  classical
  apply Classical.byContradiction
  intro hnk
  have hkN:k<N:=by obtain ⟨i,hi,rfl⟩:=hk; exact jz h.bd hi
  have c1:zg N (fun x=>if inB d x then (1:Rat) else 0)=zg d.r (fun _=>1):=by
   rw[h.bd fun x=>if inB d x then (1:Rat) else 0,zO fun j hj=>if_neg (xU h.bd hj),zu (n:=d.r) (g:=fun _=>1) fun i hi=>if_pos ⟨i,hi,rfl⟩]
   grind
  have c2:zg N (fun x=>if inB e x then (1:Rat) else 0)=zg e.r (fun _=>1):=by
   rw[h.be fun x=>if inB e x then (1:Rat) else 0,zO fun j hj=>if_neg (xU h.be hj),zu (n:=e.r) (g:=fun _=>1) fun i hi=>if_pos ⟨i,hi,rfl⟩]
   grind
  rw[hr,← c1] at c2
  rw[yq hkN,yq (f:=fun x=>if inB d x then (1:Rat) else 0) hkN,if_neg hnk,if_pos hk] at c2
  have:zg N (fun j=>if j=k then 0 else if inB e j then (1:Rat) else 0)≤zg N (fun j=>if j=k then 0 else if inB d j then (1:Rat) else 0):=jr fun j _=>by
   by_cases e1:j=k
   ·rw[if_pos e1,if_pos e1]; grind
   ·rw[if_neg e1,if_neg e1]
    by_cases e2:inB e j
    ·rw[if_pos e2,if_pos (hB _ e2)]; grind
    ·rw[if_neg e2]; split<;>grind
  grind
 | succ n ih =>
  intro e h hr hc hn
  by_cases h0:far d e.bas e.r≤n
  ·exact XP (ih e h hr hc h0) (az (by omega))
  ·obtain ⟨i,hi,hni⟩:=LK e.r (by omega:far d e.bas e.r≠0)
   obtain ⟨j,hj,ha,hin⟩:=h.exchange hi hni
   have hS:=h.trans (Same.pivot h.be hi hj ha).symm
   have hfar:=LM (f:=e.bas) hin hni e.r
   rw[if_pos hi] at hfar
   have:=ih (LP.pivot e i j) hS hr hc (by simp only[LP.pivot]; omega)
   have h2:=Dv (p:=i) (q:=j) (d:=LP.pivot e i j) hi hj this
   rwa [YD ha] at h2
open Classical in
theorem LL {d:zn} {f:Nat→Nat}:∀ n,((far d f n:Nat):Rat)=zg n fun i=>if inB d (f i) then 0 else 1
 | 0=>rfl
 | n+1=>by
  have ih:=LL (d:=d) (f:=f) n
  simp only[far,zg]
  rw[← ih]
  by_cases e:inB d (f n)
  ·rw[if_pos (p7.2 e),if_pos e]; simp; grind
  ·rw[if_neg (fun h=>e (p7.1 h)),if_neg e]; simp
theorem RW:∀ n,zg n (fun _=>1)=((n:Nat):Rat)
 | 0=>rfl
 | n+1=>by simp only[zg]; rw[RW n]; simp
open Classical in
theorem Same.far_c {d e:zn} {N:Nat} (h:Same d e N):far d e.bas e.r≤d.c:=by
 have h1:=LL (d:=d) (f:=e.bas) e.r
 have h2:zg N (fun k=>if inB d k then (0:Rat) else 1)=zg e.c (fun j=>if inB d (e.fre j) then 0 else 1)+zg e.r (fun i=>if inB d (e.bas i) then 0 else 1):=h.be fun k=>if inB d k then (0:Rat) else 1
 have h3:zg N (fun k=>if inB d k then (0:Rat) else 1)=zg d.c (fun j=>if inB d (d.fre j) then 0 else 1)+zg d.r (fun i=>if inB d (d.bas i) then 0 else 1):=h.bd fun k=>if inB d k then (0:Rat) else 1
 rw[zO (n:=d.r) fun i hi=>if_pos ⟨i,hi,rfl⟩,zu (n:=d.c) (g:=fun _=>1) fun j hj=>if_neg (xU h.bd hj),RW] at h3
 have h4:0≤zg e.c (fun j=>if inB d (e.fre j) then (0:Rat) else 1):=by
  have:=jr (n:=e.c) (f:=fun _=>(0:Rat)) (g:=fun j=>if inB d (e.fre j) then (0:Rat) else 1) fun j _=>by split<;>grind
  rwa [zO fun _ _=>rfl] at this
 have h5:((far d e.bas e.r:Nat):Rat)≤((d.c:Nat):Rat):=by grind
 exact Rat.natCast_le_natCast.1 h5
theorem Same.size_t {d e:zn} {N K t:Nat} (hs:szD K d) (h:Same d e N) (hr:e.r=d.r) (hc:e.c=d.c) (ht:d.r≤t∨d.c≤t):szD (grow K t) e :=
 Same.size hs t e h hr hc (by
  rcases ht with ht | ht
  ·exact Nat.le_trans (Fq _) (by rw[hr]; exact ht)
  ·exact Nat.le_trans h.far_c ht)
theorem gq (n m:Nat) (g:Nat→Rat):zg (n+m) g=zg n g+zg m (fun i=>g (n+i)):=by
 induction m with
 | zero=>simp only[Nat.add_zero,zg]; grind
 | succ m ih=>rw[← Nat.add_assoc]; simp only[zg]; rw[ih]; grind
section
variable (n m:Nat) (A:Nat→Nat→Rat) (bb gg:Nat→Rat)
def dG:zn:=⟨m,n,A,bb,gg,0,fun i=>n+i,fun j=>j⟩
def dA:zn:=⟨m,n+1,fun i j=>if j<n then A i j else -1,bb,fun j=>if j<n then 0 else -1,0,fun i=>n+i,fun j=>if j<n then j else n+m⟩
def xu (u:Nat→Rat) (k:Nat):Rat:=if k<n then u k else bb (k-n)-zg n fun j=>A (k-n) j*u j
end
section
variable {n m:Nat} {A:Nat→Nat→Rat} {bb gg:Nat→Rat}
theorem G3:Bij (dG n m A bb gg) (n+m):=fun g=>gq n m g
theorem ac9:Bij (dA n m A bb) (n+m+1):=fun g=>by
 simp only[dA,zg]
 rw[gq,if_neg (Nat.lt_irrefl n),zu (n:=n) (f:=fun j=>g (if j<n then j else n+m)) (g:=g) fun i hi=>by rw[if_pos hi]]
 grind
theorem TH {u:Nat→Rat} {k:Nat} (h:k<n):xu n A bb u k=u k:=if_pos h
theorem QB {u:Nat→Rat} {i:Nat}:xu n A bb u (n+i)=bb i-zg n fun j=>A i j*u j:=by
 unfold xu
 rw[if_neg (by omega),Nat.add_sub_cancel_left]
theorem ael {u:Nat→Rat}:sol (dG n m A bb gg) (xu n A bb u):=by
 intro i hi
 simp only[dG] at hi ⊢
 rw[QB]
 congr 1
 exact zu fun j hj=>by rw[TH hj]
theorem Tg {x:Nat→Rat} (h:sol (dG n m A bb gg) x) {i:Nat} (hi:i<m):x (n+i)=bb i-zg n fun j=>A i j*x j:=h i hi
theorem UW {x:Nat→Rat}:obj (dG n m A bb gg) x=zg n fun j=>gg j*x j:=by
 simp only[obj,dG]; grind
theorem LF {d:zn} (h:Same d (dG n m A bb gg) (n+m)) (u:Nat→Rat):zg n (fun j=>gg j*u j)=d.v+zg n (fun k=>cv d k*u k)+zg m (fun i=>cv d (n+i)*(bb i-zg n fun j=>A i j*u j)):=by
 have h1:=h.obj _ ((h.sol _).2 (ael (u:=u)))
 rw[UW,Nb h.bd,gq] at h1
 rw[zu (n:=n) (f:=fun j=>gg j*xu n A bb u j) (g:=fun j=>gg j*u j) fun j hj=>by rw[TH hj],
  zu (n:=n) (f:=fun k=>cv d k*xu n A bb u k) (g:=fun k=>cv d k*u k) fun j hj=>by rw[TH hj],
  zu (n:=m) (g:=fun i=>cv d (n+i)*(bb i-zg n fun j=>A i j*u j)) fun i hi=>by rw[QB]] at h1
 grind
theorem G8 {d:zn} (h:Same d (dG n m A bb gg) (n+m)):zg m (fun i=>-cv d (n+i)*bb i)=d.v:=by
 have h1:=LF h fun _=>0
 rw[zO fun j _=>by grind,zO (n:=n) (f:=fun k=>cv d k*0) fun j _=>by grind,
  zu (n:=m) (g:=fun i=>cv d (n+i)*bb i) fun i _=>by rw[zO fun j _=>by grind]; grind] at h1
 rw[zu (g:=fun i=>-(cv d (n+i)*bb i)) fun i _=>by grind,gr]
 grind
theorem CC {d:zn} (h:Same d (dG n m A bb gg) (n+m)) {j:Nat} (hj:j<n):zg m (fun i=>-cv d (n+i)*A i j)=gg j-cv d j:=by
 have h1:=LF h fun k=>if k=j then 1 else 0
 have h2:=G8 h
 rw[wC hj fun i _ hne=>by rw[if_neg hne]; grind,wC (f:=fun k=>cv d k*if k=j then 1 else 0) hj fun i _ hne=>by rw[if_neg hne]; grind,
  zu (n:=m) (g:=fun i=>-(-cv d (n+i)*bb i)+-cv d (n+i)*A i j) fun i _=>by
   rw[wC hj fun l _ hne=>by rw[if_neg hne]; grind]
   rw[if_pos rfl]; grind,mZ,gr] at h1
 simp only[if_true] at h1
 grind
theorem l9 {d:zn} {N:Nat} (_hb:Bij d N) (hf:feas d) (k:Nat):0≤vl d k:=by
 refine xW fun i hi=>?_
 split
 ·exact hf i hi
 ·grind
theorem g9 {d:zn} (hc:∀ j,j<d.c→d.cst j≤0) (k:Nat):cv d k≤0:=by
 have:0≤zg d.c fun j=>-(if d.fre j=k then d.cst j else 0):=xW fun j hj=>by
  split
  ·have:=hc j hj; grind
  ·grind
 rw[gr] at this
 unfold cv
 grind
theorem Zc {x:Nat→Rat} (h:sol (dG n m A bb gg) x) (hx:∀ k,0≤x k) {i:Nat} (hi:i<m):zg n (fun j=>A i j*x j)≤bb i:=by
 have:=Tg h hi
 have:=hx (n+i)
 grind
structure Opt (n m:Nat) (A:Nat→Nat→Rat) (bb gg:Nat→Rat) (x y:Nat→Rat) (v:Rat):Prop where
 x0:∀ k,0≤x k
 row:∀ i,i<m→zg n (fun j=>A i j*x j)≤bb i
 y0:∀ i,0≤y i
 col:∀ j,j<n→gg j≤zg m (fun i=>y i*A i j)
 vx:zg n (fun j=>gg j*x j)=v
 vy:zg m (fun i=>y i*bb i)=v
theorem adN {d:zn} (h:Same d (dG n m A bb gg) (n+m)) (hf:feas d) (hc:∀ j,j<d.c→d.cst j≤0):Opt n m A bb gg (vl d) (fun i=>-cv d (n+i)) d.v:=by
 have s1:=(h.sol _).1 (gA h.bd)
 refine ⟨l9 h.bd hf,fun i hi=>Zc s1 (l9 h.bd hf) hi,fun i=>by have:=g9 hc (n+i); grind,fun j hj=>?_,?_,G8 h⟩
 ·rw[CC h hj]; have:=g9 hc j; grind
 ·have:=h.obj _ (gA h.bd)
  rw[Zu h.bd,UW] at this
  exact this.symm
def eo (d:zn) (q k:Nat):Rat:=zg d.r (fun i=>if d.bas i=k then-d.a i q else 0)+(if d.fre q=k then 1 else 0)
theorem Z0 {d:zn} {q k:Nat}:eo d q k=ptq d q 1 k-ptq d q 0 k:=by
 unfold eo ptq
 rw[zu (g:=fun i=>(if d.bas i=k then d.b i-d.a i q*1 else 0)-(if d.bas i=k then d.b i-d.a i q*0 else 0)) fun i _=>by split<;>grind,uW]
 split<;>grind
structure Unb (n m:Nat) (A:Nat→Nat→Rat) (bb gg:Nat→Rat) (x ray:Nat→Rat):Prop where
 x0:∀ k,0≤x k
 row:∀ i,i<m→zg n (fun j=>A i j*x j)≤bb i
 r0:∀ k,0≤ray k
 rr:∀ i,i<m→zg n (fun j=>A i j*ray j)≤0
 up:0<zg n (fun j=>gg j*ray j)
theorem aej {d:zn} (h:Same d (dG n m A bb gg) (n+m)) (hf:feas d) {q:Nat} (hq:q<d.c) (hc:0<d.cst q) (ha:∀ i,i<d.r→d.a i q≤0):Unb n m A bb gg (vl d) (eo d q):=by
 have s0:=(h.sol _).1 (gA h.bd)
 have s1:=(h.sol _).1 (qz h.bd hq (y:=1))
 have s2:=(h.sol _).1 (qz h.bd hq (y:=0))
 have r0:∀ k,0≤eo d q k:=fun k=>by
  unfold eo
  have:0≤zg d.r (fun i=>if d.bas i=k then-d.a i q else 0):=xW fun i hi=>by
   split
   ·have:=ha i hi; grind
   ·grind
  split<;>grind
 refine ⟨l9 h.bd hf,fun i hi=>Zc s0 (l9 h.bd hf) hi,r0,fun i hi=>?_,?_⟩
 ·have e1:=Tg s1 hi
  have e2:=Tg s2 hi
  have e3:=r0 (n+i)
  rw[Z0,e1,e2] at e3
  rw[zu (g:=fun j=>A i j*ptq d q 1 j-A i j*ptq d q 0 j) fun j _=>by rw[Z0]; grind,uW]
  grind
 ·have e1:=h.obj _ (qz h.bd hq (y:=1))
  have e2:=h.obj _ (qz h.bd hq (y:=0))
  rw[ZU h.bd hq,UW] at e1 e2
  rw[zu (g:=fun j=>gg j*ptq d q 1 j-gg j*ptq d q 0 j) fun j _=>by rw[Z0]; grind,uW]
  grind
theorem ad8 {x:Nat→Rat} (h:sol (dA n m A bb) x) {i:Nat} (hi:i<m):x (n+i)=bb i-zg n (fun j=>A i j*x j)+x (n+m):=by
 have:=h i hi
 simp only[dA,zg] at this
 rw[if_neg (Nat.lt_irrefl n),if_neg (Nat.lt_irrefl n),zu (n:=n) (g:=fun j=>A i j*x j) fun j hj=>by rw[if_pos hj,if_pos hj]] at this
 grind
theorem Sx {x:Nat→Rat} (h:∀ i,i<m→x (n+i)=bb i-zg n (fun j=>A i j*x j)+x (n+m)):sol (dA n m A bb) x:=by
 intro i hi
 have:=h i hi
 simp only[dA,zg]
 rw[if_neg (Nat.lt_irrefl n),if_neg (Nat.lt_irrefl n),zu (n:=n) (g:=fun j=>A i j*x j) fun j hj=>by rw[if_pos hj,if_pos hj]]
 grind
theorem F3 {x:Nat→Rat}:obj (dA n m A bb) x=- x (n+m):=by
 simp only[obj,dA,zg]
 rw[if_neg (Nat.lt_irrefl n),if_neg (Nat.lt_irrefl n),zO fun j hj=>by rw[if_pos hj]; grind]
 grind
structure Inf (n m:Nat) (A:Nat→Nat→Rat) (bb:Nat→Rat) (y:Nat→Rat):Prop where
 y0:∀ i,0≤y i
 col:∀ j,j<n→0≤zg m (fun i=>y i*A i j)
 vy:zg m (fun i=>y i*bb i)<0
theorem ady {d:zn} (h:Same d (dA n m A bb) (n+m+1)) (hc:∀ j,j<d.c→d.cst j≤0) (hv:d.v<0):Inf n m A bb (fun i=>-cv d (n+i)):=by
 have key:∀ u:Nat→Rat,0=d.v+zg n (fun k=>cv d k*u k)+zg m (fun i=>cv d (n+i)*(bb i-zg n fun j=>A i j*u j)):=fun u=>by
  have hx:∀ i,i<m→(fun k=>if k=n+m then 0 else xu n A bb u k) (n+i)=bb i-zg n (fun j=>A i j*(fun k=>if k=n+m then 0 else xu n A bb u k) j)+(fun k=>if k=n+m then 0 else xu n A bb u k) (n+m):=fun i hi=>by
   simp only[if_true]
   rw[if_neg (by omega),QB,zu (n:=n) (f:=fun j=>A i j*if j=n+m then 0 else xu n A bb u j) (g:=fun j=>A i j*u j) fun j hj=>by rw[if_neg (by omega),TH hj]]
   grind
  have h1:=h.obj _ ((h.sol _).2 (Sx (x:=fun k=>if k=n+m then 0 else xu n A bb u k) hx))
  rw[F3,Nb h.bd] at h1
  simp only[zg,if_true] at h1
  rw[gq,zu (n:=n) (f:=fun k=>cv d k*if k=n+m then 0 else xu n A bb u k) (g:=fun k=>cv d k*u k) fun j hj=>by rw[if_neg (by omega),TH hj],
   zu (n:=m) (g:=fun i=>cv d (n+i)*(bb i-zg n fun j=>A i j*u j)) fun i hi=>by rw[if_neg (by omega),QB]] at h1
  grind
 have hvy:zg m (fun i=>-cv d (n+i)*bb i)=d.v:=by
  have h1:=key fun _=>0
  rw[zO (n:=n) (f:=fun k=>cv d k*0) fun j _=>by grind,
   zu (n:=m) (g:=fun i=>cv d (n+i)*bb i) fun i _=>by rw[zO fun j _=>by grind]; grind] at h1
  rw[zu (g:=fun i=>-(cv d (n+i)*bb i)) fun i _=>by grind,gr]
  grind
 refine ⟨fun i=>by have:=g9 hc (n+i); grind,fun j hj=>?_,by rw[hvy]; exact hv⟩
 have h1:=key fun k=>if k=j then 1 else 0
 rw[wC (f:=fun k=>cv d k*if k=j then 1 else 0) hj fun i _ hne=>by rw[if_neg hne]; grind,
  zu (n:=m) (g:=fun i=>-(-cv d (n+i)*bb i)+-cv d (n+i)*A i j) fun i _=>by
   rw[wC hj fun l _ hne=>by rw[if_neg hne]; grind]
   rw[if_pos rfl]; grind,mZ,gr] at h1
 simp only[if_true] at h1
 have:=g9 hc j
 grind
theorem vi {x y:Nat→Rat} (hx:∀ j,j<n→0≤x j) (hr:∀ i,i<m→zg n (fun j=>A i j*x j)≤bb i) (hy:∀ i,i<m→0≤y i) (hc:∀ j,j<n→gg j≤zg m (fun i=>y i*A i j)) :
  zg n (fun j=>gg j*x j)≤zg m (fun i=>y i*bb i):=by
 have h1:zg n (fun j=>gg j*x j)≤zg n (fun j=>zg m (fun i=>y i*A i j)*x j):=jr fun j hj=>by
  have:=Rat.mul_nonneg (show 0≤zg m (fun i=>y i*A i j)-gg j by have:=hc j hj; grind) (hx j hj)
  grind
 have h2:zg m (fun i=>y i*zg n (fun j=>A i j*x j))≤zg m (fun i=>y i*bb i):=jr fun i hi=>by
  have:=Rat.mul_nonneg (hy i hi) (show 0≤bb i-zg n (fun j=>A i j*x j) by have:=hr i hi; grind)
  grind
 have h3:zg n (fun j=>zg m (fun i=>y i*A i j)*x j)=zg m (fun i=>y i*zg n (fun j=>A i j*x j)):=by
  rw[zu (n:=n) (g:=fun j=>zg m (fun i=>y i*A i j*x j)) fun j _=>by rw[fJ],fI]
  exact zu fun i _=>by rw[← m4]; exact zu fun j _=>by grind
 grind
end
end Go.LP

namespace Go.Pb
open Go.LP
def Pb.cof (P:Pb) (r i:Nat):Rat:=((P.coef r (P.at (i:Int)):Int):Rat)
def Pb.vQ (P:Pb) (i:Nat):Rat:=(((P.at (i:Int)).v:Int):Rat)
def Pb.accV (P:Pb) (fx:List Int) (k:Nat):Int:=((P.inK fx k).map fun o=>o.v).sum
def Pb.exc (P:Pb) (y:Nat→Rat) (R i:Nat):Rat:=P.vQ i-zg R fun r=>y r*P.cof r i
def Pb.bdQ (P:Pb) (fx:List Int) (y:Nat→Rat) (R:Nat):Rat:=((P.accV fx fx.length:Int):Rat)+zg R fun r=>y r*((P.relB fx r:Int):Rat)
def Pb.adQ (P:Pb) (fx:List Int) (y:Nat→Rat) (R k:Nat):Rat:=zg k fun i=>if fx.getD i 9=0∧0<P.exc y R i then P.exc y R i else 0
def Pb.fpQ (P:Pb) (fx:List Int) (y:Nat→Rat):Rat:=P.bdQ fx y P.rows+P.adQ fx y P.rows fx.length
def rU (fx:List Int) (i:Nat):Nat:=(vH fx 0 i).length
def bX (fx:List Int) (X:Nat→Rat) (i:Nat):Rat:=if fx.getD i 9=1 then 1 else if fx.getD i 9=0 then X (rU fx i) else 0
def Pb.lA (P:Pb) (fx:List Int) (r k:Nat):Rat:=(((P.relC fx r).getD k 0:Int):Rat)
def Pb.lB (P:Pb) (fx:List Int) (r:Nat):Rat:=((P.relB fx r:Int):Rat)
def Pb.lG (P:Pb) (fx:List Int) (k:Nat):Rat:=(((P.relG fx).getD k 0:Int):Rat)
def Pb.exP (P:Pb) (fx:List Int) (y:Nat→Rat) (r i:Nat):Rat:=if fx.getD i 9=0 then P.exc y r i else P.vQ i
def Pb.exM (P:Pb) (fx:List Int) (y:Nat→Rat) (r k i:Nat):Rat:=if i<k then P.exP fx y (r+1) i else P.exP fx y r i
def Pb.fixE (P:Pb) (fx:List Int):Int:=if P.chk≠0 then P.chk else if fx.length≠P.of.length then 3 else if okF fx then 0 else 4
section
variable {P:Pb} {fx:List Int} {v:Int} {k i r:Nat}
theorem Na (g:Nat→Int):((((vH fx v k).map g).sum:Int):Rat)=zg k fun i=>if fx.getD i 9=v then ((g i:Int):Rat) else 0:=by
 induction k with
 | zero=>rfl
 | succ k ih =>
  rw[tK]
  simp only[zg]
  rw[← ih]
  by_cases h:fx.getD k 9=v
  ·rw[if_pos h,if_pos h,List.map_append,List.sum_append,Rat.intCast_add]; simp
  ·rw[if_neg h,if_neg h]; grind
theorem M9:((P.accV fx k:Int):Rat)=zg k fun i=>if fx.getD i 9=1 then P.vQ i else 0:=by
 unfold Pb.accV Pb.inK
 rw[List.map_map]
 exact Na _
theorem Nu:P.lB fx r=((P.bnd r:Int):Rat)-zg fx.length fun i=>if fx.getD i 9=1 then P.cof r i else 0:=by
 unfold Pb.lB Pb.relB Pb.inL Pb.inK
 rw[Rat.intCast_sub,List.map_map]
 congr 1
 exact Na _
theorem Ev:rU fx (k+1)=if fx.getD k 9=0 then rU fx k+1 else rU fx k:=by
 unfold rU
 rw[tK]
 split<;>simp
theorem P9 (h:fx.getD i 9=0):∀ k,i<k→(vH fx 0 k)[rU fx i]?=some i
 | 0,hi=>by omega
 | k+1,hi=>by
  rw[tK]
  by_cases e:i=k
  ·subst e
   rw[if_pos h]
   unfold rU
   simp
  ·have ih:=P9 h k (by omega)
   split
   ·rw[List.getElem?_append_left (List.getElem?_eq_some_iff.1 ih).1]; exact ih
   ·exact ih
theorem j3 (h:fx.getD i 9=0) (hi:i<fx.length):(zK fx)[rU fx i]?=some i:=P9 h _ hi
theorem Ps (h:Nat→Nat→Rat):∀ k,k≤fx.length→zg (rU fx k) (fun j=>h j ((zK fx).getD j 0))=zg k fun i=>if fx.getD i 9=0 then h (rU fx i) i else 0
 | 0,_=>rfl
 | k+1,hk=>by
  have ih:=Ps h k (by omega)
  simp only[zg]
  rw[← ih,Ev]
  by_cases e:fx.getD k 9=0
  ·rw[if_pos e,if_pos e]
   simp only[zg]
   rw[List.getD_eq_getElem?_getD,j3 e (by omega)]
   rfl
  ·rw[if_neg e,if_neg e]; grind
theorem Jx:(vH fx v k).Nodup:=List.Nodup.sublist List.filter_sublist List.nodup_range
theorem Bk {l:List Nat} (h:l.Nodup) {i j:Nat} (hi:i<l.length) (hj:j<l.length) (e:l[i]=l[j]):i=j:=by
 rcases Nat.lt_trichotomy i j with h1 | h1 | h1
 ·exact absurd e (List.pairwise_iff_getElem.1 h i j hi hj h1)
 ·exact h1
 ·exact absurd e.symm (List.pairwise_iff_getElem.1 h j i hj hi h1)
theorem BM (h:k<(zK fx).length):rU fx (zK fx)[k]=k:=by
 have hm:=mO (List.getElem_mem h)
 have h1:=j3 (fx:=fx) hm.2 hm.1
 obtain ⟨h2,h3⟩:=List.getElem?_eq_some_iff.1 h1
 exact Bk Jx h2 h h3
theorem UF (h:k<(zK fx).length):P.lA fx r k=P.cof r ((zK fx).getD k 0):=by
 unfold Pb.lA Pb.relC Pb.cof
 simp[h]
theorem Jn (h:k<(zK fx).length):P.lG fx k=P.vQ ((zK fx).getD k 0):=by
 unfold Pb.lG Pb.relG Pb.vQ
 simp[h]
theorem CT:rU fx fx.length=(zK fx).length:=rfl
theorem ZL (h:k<(zK fx).length):(zK fx).getD k 0<fx.length∧fx.getD ((zK fx).getD k 0) 9=0:=by
 have:(zK fx).getD k 0=(zK fx)[k]:=by simp[h]
 rw[this]
 exact mO (List.getElem_mem h)
theorem KC {X:Nat→Rat} (g:Nat→Rat):zg fx.length (fun i=>g i*bX fx X i)=zg fx.length (fun i=>if fx.getD i 9=1 then g i else 0)+zg (zK fx).length (fun j=>g ((zK fx).getD j 0)*X j):=by
 have h:=Ps (fx:=fx) (fun j i=>g i*X j) fx.length (Nat.le_refl _)
 rw[CT] at h
 rw[h,← mZ]
 refine zu fun i _=>?_
 unfold bX
 by_cases h1:fx.getD i 9=1
 ·rw[if_pos h1,if_pos h1,if_neg (by omega)]; grind
 ·by_cases h0:fx.getD i 9=0
  ·rw[if_neg h1,if_pos h0,if_neg h1,if_pos h0]; grind
  ·rw[if_neg h1,if_neg h0,if_neg h1,if_neg h0]; grind
theorem Ka (hG:P.Good) (hi:i<P.of.length):∃ b,b<P.cl.length∧b<P.rows∧P.bnd b=1∧P.cof b i=1:=by
 have hs:=xC (yU (hG.off _ (at_mem hi))).1
 refine ⟨(P.at (i:Int)).b.toNat,by omega,by unfold Pb.rows; omega,?_,?_⟩
 ·unfold Pb.bnd; rw[if_pos (by omega)]
 ·unfold Pb.cof Pb.coef; rw[if_pos (by omega),if_pos (by omega)]; rfl
theorem GZ (hG:P.Good) (hi:i<P.of.length) (hr:r<P.rows):0≤P.cof r i∧P.cof r i≤4:=by
 have:=uq (xC (yU (hG.off _ (at_mem hi))).1).2.2 hr
 unfold Pb.cof
 constructor
 ·exact_mod_cast this.1
 ·exact_mod_cast this.2
end
structure Pb.Sol (P:Pb) (fx:List Int) (x:Nat→Rat):Prop where
 x0:∀ i,i<fx.length→0≤x i
 one:∀ i,i<fx.length→fx.getD i 9=1→x i=1
 out:∀ i,i<fx.length→fx.getD i 9≠1→fx.getD i 9≠0→x i=0
 row:∀ r,r<P.rows→zg fx.length (fun i=>P.cof r i*x i)≤((P.bnd r:Int):Rat)
def Pb.val (P:Pb) (n:Nat) (x:Nat→Rat):Rat:=zg n fun i=>P.vQ i*x i
section
variable {P:Pb} {fx:List Int} {x y:Nat→Rat}
theorem Pb.Sol.le_one (hG:P.Good) (hl:fx.length=P.of.length) (h:P.Sol fx x) {i:Nat} (hi:i<fx.length):x i≤1:=by
 obtain ⟨b,hb,hr,e1,e2⟩:=Ka (i:=i) hG (by omega)
 have h1:=h.row b hr
 rw[e1,yq hi,e2] at h1
 have h2:0≤zg fx.length (fun j=>if j=i then 0 else P.cof b j*x j):=xW fun j hj=>by
  split
  ·exact Rat.le_refl
  ·exact Rat.mul_nonneg (GZ hG (by omega) hr).1 (h.x0 j hj)
 have h3:(((1:Int):Int):Rat)=1:=rfl
 grind
theorem acP (hG:P.Good) (hl:fx.length=P.of.length) (h:P.Sol fx x) (hy:∀ r,r<P.rows→0≤y r):P.val fx.length x≤P.fpQ fx y:=by
 have t1:P.val fx.length x=zg fx.length (fun i=>P.exc y P.rows i*x i)+zg P.rows (fun r=>y r*zg fx.length fun i=>P.cof r i*x i):=by
  have:zg P.rows (fun r=>y r*zg fx.length fun i=>P.cof r i*x i)=zg fx.length fun i=>(zg P.rows fun r=>y r*P.cof r i)*x i:=by
   rw[zu (g:=fun r=>zg fx.length fun i=>y r*(P.cof r i*x i)) fun r _=>m4.symm,fI]
   refine zu fun i _=>?_
   rw[← fJ]
   exact zu fun r _=>by grind
  rw[this,← mZ]
  exact zu fun i _=>by unfold Pb.exc; grind
 have t2:zg fx.length (fun i=>P.exc y P.rows i*x i)≤zg fx.length (fun i=>if fx.getD i 9=1 then P.exc y P.rows i else 0)+P.adQ fx y P.rows fx.length:=by
  unfold Pb.adQ
  rw[← mZ]
  refine jr fun i hi=>?_
  by_cases h1:fx.getD i 9=1
  ·rw[if_pos h1,if_neg (by omega),h.one i hi h1]; grind
  ·rw[if_neg h1]
   by_cases h0:fx.getD i 9=0
   ·have a:=h.x0 i hi
    have b:=h.le_one hG hl hi
    by_cases hp:0<P.exc y P.rows i
    ·rw[if_pos ⟨h0,hp⟩]
     have:=Rat.mul_nonneg (show 0≤P.exc y P.rows i by grind) (show 0≤1-x i by grind)
     grind
    ·rw[if_neg fun h=>hp h.2]
     have:=Rat.mul_nonneg (show 0≤- P.exc y P.rows i by grind) a
     grind
   ·rw[if_neg fun h=>h0 h.1,h.out i hi h1 h0]; grind
 have t3:zg fx.length (fun i=>if fx.getD i 9=1 then P.exc y P.rows i else 0)=((P.accV fx fx.length:Int):Rat)-zg P.rows (fun r=>y r*zg fx.length fun i=>if fx.getD i 9=1 then P.cof r i else 0):=by
  have:zg P.rows (fun r=>y r*zg fx.length fun i=>if fx.getD i 9=1 then P.cof r i else 0)=zg fx.length fun i=>if fx.getD i 9=1 then (zg P.rows fun r=>y r*P.cof r i) else 0:=by
   rw[zu (g:=fun r=>zg fx.length fun i=>y r*(if fx.getD i 9=1 then P.cof r i else 0)) fun r _=>m4.symm,fI]
   refine zu fun i _=>?_
   by_cases h1:fx.getD i 9=1
   ·rw[if_pos h1]; exact zu fun r _=>by rw[if_pos h1]
   ·rw[if_neg h1]; exact zO fun r _=>by rw[if_neg h1]; grind
  rw[this,M9,← uW]
  refine zu fun i _=>?_
  unfold Pb.exc
  split<;>grind
 have t4:zg P.rows (fun r=>y r*zg fx.length fun i=>P.cof r i*x i)-zg P.rows (fun r=>y r*zg fx.length fun i=>if fx.getD i 9=1 then P.cof r i else 0)≤zg P.rows (fun r=>y r*((P.relB fx r:Int):Rat)):=by
  rw[← uW]
  refine jr fun r hr=>?_
  have h1:((P.relB fx r:Int):Rat)=((P.bnd r:Int):Rat)-zg fx.length fun i=>if fx.getD i 9=1 then P.cof r i else 0:=Nu
  have h2:=h.row r hr
  rw[h1]
  clear t1 t2 t3 h1
  generalize zg fx.length (fun i=>P.cof r i*x i)=a at *
  generalize zg fx.length (fun i=>if fx.getD i 9=1 then P.cof r i else 0)=b at *
  have:=Rat.mul_nonneg (hy r hr) (show 0≤((P.bnd r:Int):Rat)-a by grind)
  grind
 unfold Pb.fpQ Pb.bdQ
 grind
abbrev Pb.Bst (P:Pb) (fx:List Int) (X Y:Nat→Rat) (v:Rat):Prop:=Opt (zK fx).length P.rows (P.lA fx) (P.lB fx) (P.lG fx) X Y v
variable {X Y:Nat→Rat} {v:Rat}
theorem GF (hB:P.Bst fx X Y v):P.Sol fx (bX fx X) where
 x0:=fun i _=>by
  unfold bX
  split
  ·grind
  ·split
   ·exact hB.x0 _
   ·grind
 one:=fun i _ h=>if_pos h
 out:=fun i _ h1 h0=>by unfold bX; rw[if_neg h1,if_neg h0]
 row:=fun r hr=>by
  rw[KC (P.cof r)]
  have h1:=hB.row r hr
  rw[zu (g:=fun j=>P.cof r ((zK fx).getD j 0)*X j) fun j hj=>by rw[UF hj],Nu] at h1
  grind
theorem GG (hB:P.Bst fx X Y v):P.val fx.length (bX fx X)=((P.accV fx fx.length:Int):Rat)+v:=by
 unfold Pb.val
 rw[KC P.vQ,M9,← hB.vx,zu (n:=(zK fx).length) (f:=fun j=>P.lG fx j*X j) (g:=fun j=>P.vQ ((zK fx).getD j 0)*X j) fun j hj=>by rw[Jn hj]]
theorem aex (hB:P.Bst fx X Y v):P.fpQ fx Y=((P.accV fx fx.length:Int):Rat)+v:=by
 have h0:P.adQ fx Y P.rows fx.length=0:=zO fun i hi=>by
  refine if_neg fun ⟨h0,hp⟩=>?_
  have hg:=j3 h0 hi
  have hlt:=(List.getElem?_eq_some_iff.1 hg).1
  have hd:(zK fx).getD (rU fx i) 0=i:=by rw[List.getD_eq_getElem?_getD,hg]; rfl
  have h1:=hB.col _ hlt
  rw[Jn hlt,hd,zu (g:=fun r=>Y r*P.cof r i) fun r _=>by rw[UF hlt,hd]] at h1
  unfold Pb.exc at hp
  grind
 have h1:zg P.rows (fun r=>Y r*((P.relB fx r:Int):Rat))=v:=hB.vy
 unfold Pb.fpQ Pb.bdQ
 rw[h0,h1]
 grind
theorem Ro (hf:P.fits (P.inL fx)) {r:Nat} (hr:r<P.rows):0≤P.lB fx r:=by
 have:=hf r hr
 unfold Pb.lB Pb.relB
 exact_mod_cast (by omega:0≤P.bnd r-((P.inL fx).map (P.coef r)).sum)
theorem adF (hf:P.fits (P.inL fx)) (h:Inf (zK fx).length P.rows (P.lA fx) (P.lB fx) y):False:=by
 have:=xW (n:=P.rows) (f:=fun i=>y i*P.lB fx i) fun r hr=>Rat.mul_nonneg (h.y0 r) (Ro hf hr)
 have:=h.vy
 grind
theorem adG (hG:P.Good) (hl:fx.length=P.of.length) {ray:Nat→Rat} (h:Unb (zK fx).length P.rows (P.lA fx) (P.lB fx) (P.lG fx) x ray):False:=by
 have hz:∀ j,j<(zK fx).length→ray j=0:=fun j hj=>by
  obtain ⟨hlt,_⟩:=ZL hj
  obtain ⟨b,_,hr,_,e2⟩:=Ka (i:=(zK fx).getD j 0) hG (by omega)
  have h1:=h.rr b hr
  rw[yq hj,UF hj,e2] at h1
  have h2:0≤zg (zK fx).length (fun k=>if k=j then 0 else P.lA fx b k*ray k):=xW fun k hk=>by
   split
   ·exact Rat.le_refl
   ·rw[UF hk]
    exact Rat.mul_nonneg (GZ hG (by have:=(ZL hk).1; omega) hr).1 (h.r0 k)
  have h3:=h.r0 j
  grind
 have:=h.up
 rw[zO fun j hj=>by rw[hz j hj]; grind] at this
 grind
end
end Go.Pb

namespace Go.Proofs.YtfmcplfbnkoglaaGreat
open Go Go.Am Go.Pb
noncomputable def SF (fx:List Int) (k:Nat):St:={env:=[(19,clA fx),(20,iv fx.length),(21,iv k)],sto:=[]}
section
variable {P:Pb} {fx:List Int} {k:Nat}
theorem jn {x:Int} (hg:fx.getD k 9=x):okX fx k↔¬ x < -1∧¬ 1<x:=by unfold okX; rw[hg]; omega
theorem rN (h:k<fx.length):fx.getD k 9=fx[k]:=by rw[List.getD_eq_getElem?_getD,List.getElem?_eq_getElem h]; rfl
theorem tG (h:P.fixE fx=0):P.chk=0∧fx.length=P.of.length∧okF fx:=by
 unfold Pb.fixE at h
 split at h
 ·rename_i h1; exact absurd h h1
 ·rename_i h1
  split at h
  ·cases h
  ·rename_i h2
   split at h
   ·rename_i h3; exact ⟨Decidable.not_not.1 h1,Decidable.not_not.1 h2,h3⟩
   ·cases h
theorem fg (hn:P.cl.length≤1000) (hk:P.of.length≤1000000):zd Tryz.prog sY [.agg (pbC P),clA fx] (iv (P.fixE fx)):=by
 refine zC Tx (by simp) ?_
 simp[gO]
 refine za (TW hn hk) (by simp) (by simp) ?_
 unfold Pb.fixE
 by_cases c1:P.chk=0
 ·rw[if_neg fun h=>h c1]
  by_cases c2:fx.length=P.of.length
  ·have c2':(fx.length:Int)=P.of.length:=by omega
   rw[if_neg fun h=>h c2]
   simp[c1,c2']
   refine zl (SF fx) (fun k=>∀ q,q<k→okX fx q) fx.length (by simp[SF,c2']) (fun q hq=>by omega) (fun k hk' hI=>?_) (fun hI=>?_)
   ·have e:(k:Int)<P.of.length:=by omega
    have w1:=zm (k:=k) (by omega)
    have hg:=rN hk'
    by_cases d1:fx[k] < -1
    ·have hf:¬ okF fx:=fun h=>((jn hg).1 (h k hk')).1 d1
     simp[w8,SF,c2',e,hk',d1,hf,vw]
    ·by_cases d2:1<fx[k]
     ·have hf:¬ okF fx:=fun h=>((jn hg).1 (h k hk')).2 d2
      simp[w8,SF,c2',e,hk',d1,d2,hf,vw]
     ·simp[w8,SF,c2',e,hk',d1,d2,w1]
      exact fun q hq=>by
       by_cases eq:q=k
       ·subst eq; exact (jn hg).2 ⟨d1,d2⟩
       ·exact hI q (by omega)
   ·have hf:okF fx:=hI
    simp[w8,SF,c2',hf,lu,vw]
  ·have c2':¬ (fx.length:Int)=P.of.length:=by omega
   rw[if_pos c2]
   simp[c1,c2',vw]
 ·rw[if_pos c1]
  simp[c1,vw]
theorem bN:P.accV fx (k+1)=if fx.getD k 9=1 then P.accV fx k+(P.at (k:Int)).v else P.accV fx k:=by
 unfold Pb.accV Pb.inK
 rw[tK]
 split
 ·simp
 ·rfl
theorem eF (hG:P.Good):∀ k,k≤P.of.length→0≤P.accV fx k∧P.accV fx k≤1000000*k
 | 0,_=>⟨Int.le_refl 0,Int.le_refl 0⟩
 | k+1,h=>by
  have ih:=eF hG k (by omega)
  have hv:=(xC (yU (hG.off _ (at_mem (i:=k) (by omega)))).1).2.1
  rw[bN]
  split<;>omega
noncomputable def NI (P:Pb) (fx:List Int) (k:Nat):St:={env:=[(2,.ptr 2 0),(4,.ptr 4 0),(5,iv (P.accV fx k)),(8,clA fx),(9,iv fx.length),(10,iv k)],sto:=[(2,.var (pbC P)),(4,.var zz)]}
theorem X2 (hG:P.Good) (hl:fx.length=P.of.length):zd Tryz.prog tQ [.agg (pbC P),clA fx] (fq ((P.accV fx fx.length:Int):Rat)):=by
 have hb:=hG.k
 refine zC XQ (by simp) ?_
 simp[jF]
 refine zl (NI P fx) (fun _=>True) fx.length (by simp[NI]; rfl) trivial (fun k hk' _=>?_) (fun _=>?_)
 ·have e:(k:Int)<fx.length:=by omega
  have hko:k<P.of.length:=by omega
  have hko':(k:Int)<P.of.length:=by omega
  have w1:=zm (k:=k) (by omega)
  have hg:=rN hk'
  have hs:=bN (P:=P) (fx:=fx) (k:=k)
  have hv:=eF (fx:=fx) hG (k+1) (by omega)
  rw[hg] at hs
  by_cases d:fx[k]=1
  ·rw[if_pos d,wI hko] at hs
   have w2:IntKind.i64.wrap (P.accV fx k+P.of[k].v)=P.accV fx (k+1):=by rw[hs,wrap64]<;>omega
   simp[ue,NI,e,hk',hko,hko',d,w1,w2]
  ·rw[if_neg d] at hs
   simp[ue,NI,e,hk',d,w1,hs]
 ·have hv:=eF (fx:=fx) hG fx.length (by omega)
  simp[ue,NI,mh]
  refine za (yE (n:=P.accV fx fx.length) (by omega) (by omega)) (by simp) (by simp) ?_
  simp[gk]
end
def y6 (P:Pb):Nat:=if P.chk=0 then P.rows else 0
def vO (P:Pb) (r:Nat):List Int:=P.of.map (P.coef r)
section
variable {P:Pb} {r n:Nat} {o:Of} {L:List Of}
theorem KD (hn:P.cl.length≤1000) (hk:P.of.length≤1000000):zd Tryz.prog qf [.agg (pbC P)] (iv (y6 P)):=by
 refine zC SY (by simp) ?_
 simp[eP]
 refine za (TW hn hk) (by simp) (by simp) ?_
 unfold y6
 by_cases c1:P.chk=0
 ·simp[c1]
  refine za (Nz hn) (by simp) (by simp) ?_
  simp[mT]
 ·simp[c1,mT]
theorem Sw (hn:P.cl.length≤1000) (hk:P.of.length≤1000000):zd Tryz.prog rk [.agg (pbC P)] (iv (y6 P)):=by
 refine zC N6 (by simp) ?_
 simp[b9]
 refine za (Xu hn hk) (by simp) (by simp) ?_
 unfold y6
 by_cases c1:P.chk=0
 ·have w1:IntKind.i64.wrap ((P.cl.length:Int)+12)=(P.cl.length:Int)+12:=by rw[wrap64]<;>omega
  have e:((P.rows:Nat):Int)=(P.cl.length:Int)+12:=by unfold Pb.rows; omega
  simp[c1,w1,e,gl]
 ·simp[c1,gl]
noncomputable def NS (P:Pb) (r:Int) (q k:Nat):St:={env:=[(1,iv r),(4,apc 32 1 (clR ((vO P q).take k))),(6,.ptr 6 0),(20,ofA P.of),(21,iv P.of.length),(22,iv k)],sto:=[(6,.var (pbC P))]}
noncomputable def SK (P:Pb) (r:Int) (q k:Nat):St:={env:=[(1,iv r),(2,.ptr 2 0),(6,apc 41 1 (clR ((vO P q).take k))),(7,iv k)],sto:=[(2,.var (pbC P))]}
@[simp] theorem go:(vO P r).length=P.of.length:=by simp[vO]
theorem RO {k:Nat} (h:k<P.of.length):clR ((vO P r).take k)++[[iv (P.coef r P.of[k])]]=clR ((vO P r).take (k+1)):=by
 rw[mb (l:=vO P r) (o:=P.coef r P.of[k]) (by simp[vO,h])]
 simp[clR]
theorem Ny {k:Nat} (h:P.of.length≤k):(vO P r).take k=vO P r:=List.take_of_length_le (by rw[go]; exact h)
def XC (P:Pb) (r:Int):AV:=.tuple [if 0≤r∧r<y6 P then clA (vO P r.toNat) else z8,iv (if 0≤r∧r<y6 P then P.bnd r.toNat else 0)]
theorem afl {r:Int} (hn:P.cl.length≤1000) (hk:P.of.length≤1000000):zd Tryz.prog kh [.agg (pbC P),iv r] (XC P r):=by
 refine wR Qh (by simp) ?_
 unfold XC
 by_cases b1:r<0
 ·have hc:¬ (0≤r∧r<y6 P):=by omega
  simp[ko,b1,hc,pz]
  exact AV.imp.refl
 ·simp[ko,b1]
  refine za (KD hn hk) (by simp) (by simp) ?_
  by_cases b2:(y6 P:Int)≤r
  ·have hc:¬ (0≤r∧r<y6 P):=by omega
   simp[b2,hc,pz]
   exact AV.imp.refl
  ·have hc:0≤r∧r<y6 P:=by omega
   obtain ⟨q,rfl⟩:∃ q:Nat,r=q:=⟨r.toNat,by omega⟩
   have hG:P.Good:=by
    refine uS ?_
    unfold y6 at hc
    split at hc
    ·assumption
    ·omega
   have hq:q<P.rows:=by
    unfold y6 at hc
    split at hc<;>omega
   simp[b2,hc]
   refine zl (NS P q q) (fun _=>True) P.of.length (by simp[NS]) trivial (fun k hk' _=>?_) (fun _=>?_)
   ·have e:(k:Int)<P.of.length:=by omega
    have w1:=zm (k:=k) (by omega)
    have hm:P.of[k]∈P.of:=List.getElem_mem hk'
    have hs:=xC (yU (hG.off _ hm)).1
    simp[pL,NS,e,hk']
    refine za (Ut (P:=P) (r:=q) hn hs.1 hq) (by simp) (by simp) ?_
    simp
    refine sK (by decide) rfl ?_ ?_ (by simp) ?_
    ·simp only[jh,go,List.length_take]; omega
    ·simp only[jh,go,List.length_take]; omega
    ·rw[RO hk']
     simp[w1,NS]
   ·simp[pL,NS,jJ,Ny]
    refine za (TQ (P:=P) (r:=q) hn hq) (by simp) (by simp) ?_
    simp[pz]
    exact AV.imp_tuple2 (qy tJ)
theorem ER {r:Int} (hn:P.cl.length≤1000) (hk:P.of.length≤1000000):zd Tryz.prog m6 [.agg (pbC P),iv r] (XC P r):=by
 refine wR M5 (by simp) ?_
 unfold XC
 by_cases b1:r<0
 ·have hc:¬ (0≤r∧r<y6 P):=by omega
  simp[f7,b1,hc,li]
  exact AV.imp.refl
 ·simp[f7,b1]
  refine za (Sw hn hk) (by simp) (by simp) ?_
  by_cases b2:(y6 P:Int)≤r
  ·have hc:¬ (0≤r∧r<y6 P):=by omega
   simp[b2,hc,li]
   exact AV.imp.refl
  ·have hc:0≤r∧r<y6 P:=by omega
   obtain ⟨q,rfl⟩:∃ q:Nat,r=q:=⟨r.toNat,by omega⟩
   have hG:P.Good:=by
    refine uS ?_
    unfold y6 at hc
    split at hc
    ·assumption
    ·omega
   have hq:q<P.rows:=by
    unfold y6 at hc
    split at hc<;>omega
   simp[b2,hc]
   refine zl (SK P q q) (fun _=>True) P.of.length (by simp[SK]) trivial (fun k hk' _=>?_) (fun _=>?_)
   ·have e:(k:Int)<P.of.length:=by omega
    have w1:=zm (k:=k) (by omega)
    have hm:P.of[k]∈P.of:=List.getElem_mem hk'
    have hs:=xC (yU (hG.off _ hm)).1
    obtain ⟨c,hc1,hk1⟩:=Z1 (P:=P) (o:=P.of[k]) hn hs.1.1 hq
    have hc1:=hc1 hs.1.2
    subst hc1
    simp[ql,SK,e,hk']
    refine za hk1 (by simp) (by simp) ?_
    simp
    refine sK (by decide) rfl ?_ ?_ (by simp) ?_
    ·simp only[jh,go,List.length_take]; omega
    ·simp only[jh,go,List.length_take]; omega
    ·rw[RO hk']
     simp[w1,SK]
   ·obtain ⟨z,hz,hz0⟩:∃ z:Of,[iv 0,iv 0,iv 0,iv 0,iv 0,iv 0,iv 0,iv 0]=oC z∧0≤z.b:=⟨oZ,L7,Int.le_refl 0⟩
    obtain ⟨c,_,hk1⟩:=Z1 (P:=P) (o:=z) hn hz0 hq
    have key:∀ K:Exit→St→Prop,K (.exit 0) {env:=[(1,iv q),(2,.ptr 2 0),(6,apc 41 1 (clR (vO P q))),(7,iv P.of.length),(24,bv false)],sto:=[(2,.var (pbC P))]}→awp Tryz.prog ql (SK P q q P.of.length) (ug K):=by
     intro K h
     simp[ql,SK,Ny]
     exact h
    refine key _ ?_
    simp[eR,hz]
    refine za hk1 (by simp) (by simp) ?_
    simp[li]
    exact AV.imp_tuple2 (qy tJ)
end
open Go.Dig
theorem YR {m:Am.Mode} {a:List Nat} (ha:ok a) (hn:a.length<1099511627776):zd Tryz.prog gC [nl m a] (bv (decide (a=zf (val a)))):=by
 refine zC DA (by simp) ?_
 simp[S6]
 refine za (yX (m:=stm m) ha hn) (by simp[qE]) (by simp) ?_
 obtain ⟨h1,h2,h3,h4⟩:=aF ha
 have:decide ((((zf (val a)).length:Nat):Int)=(a.length:Int))=decide (a=zf (val a)):=by
  by_cases h:(zf (val a)).length=a.length
  ·have:a=zf (val a):=by rw[← h4,h]; simp
   simp[← this]
  ·have:a≠zf (val a):=fun e=>h (congrArg List.length e.symm)
   have h':¬ (((zf (val a)).length:Nat):Int)=(a.length:Int):=by omega
   simp[this]
   omega
 simp[RI]
 simpa using this
def Tq (x y:Nat) (k:Nat):St :=
 {env:=[(0,nD x),(1,nD y),(6,.sl 20 1 0 (zf x).length),(7,z7 (bor x y k)),(22,iv (zf x).length),(23,iv k)],sto:=[(20,.arr 1 (zE (ww (zf x).length k (x-y))))]}
theorem RV {m1 m2:Am.Mode} {a b:List Nat} (ha:ok a) (hb:ok b) (hna:a.length<1099511627776) (hnb:b.length<1099511627776) :
  zd Tryz.prog Zx [nl m1 a,nl m2 b] (if val a<val b then .tuple [.list 0 .full [],bv false] else .tuple [nD (val a-val b),bv true]):=by
 refine wR acv (by simp) ?_
 simp[Lp]
 refine za (yX (m:=stm m1) ha hna) (by simp[qE]) (by simp) ?_
 simp
 refine za (yX (m:=stm m2) hb hnb) (by simp[qE]) (by simp) ?_
 simp
 have lx:=wb ha
 have ly:=wb hb
 have key:=lN (m1:=.plain) (m2:=.plain) (zw (val a)) (zw (val b)) (by omega) (by omega)
 rw[zI,zI] at key
 refine za key (by simp) (by simp) ?_
 generalize val a=x at *
 generalize val b=y at *
 by_cases hlt:x<y
 ·simp[yO,hlt,So]
  exact AV.imp.refl
 ·have hle:y≤x:=by omega
  have hly:(zf y).length≤(zf x).length:=by
   apply Nat.le_of_not_lt
   intro h
   have:=fj h
   omega
  have hS:x-y<B^(zf x).length:=by
   have:=zG.1 (Nat.le_refl (zf x).length)
   omega
  have hc:¬ yO x y<0:=by
   simp only[yO,hlt,if_false]
   split<;>omega
  simp[hc,hlt,eMk]
  refine ⟨by omega,by omega,?_⟩
  refine zl (Tq x y) (fun _=>True) (zf x).length (by simp[Tq,dx,kU]) trivial (fun k hk _=>?_) (fun _=>?_)
  ·have e:(k:Int)<(zf x).length:=by omega
   have hak:=xA (zw x) hk
   have hb1:=X9 (x:=x) (y:=y) (k:=k)
   have hfl:=fe (n:=(zf x).length) (k:=k) (S:=x-y) (by omega)
   have hfk:k<(ww (zf x).length k (x-y)).length:=by omega
   have hset:=ff (n:=(zf x).length) (k:=k) (S:=x-y) (by omega)
   have hsd:=fH (k:=k) hle
   have hbs:=dw (x:=x) (y:=y) (k:=k)
   rw[← pO hk] at hsd hbs
   obtain ⟨d,hd⟩:∃ d,(x-y)/B^k%B=d:=⟨_,rfl⟩
   rw[hd] at hset hsd
   have hset':(zE (ww (zf x).length k (x-y))).set k [uv d]=zE (ww (zf x).length (k+1) (x-y)):=by rw[xa,hset]
   have e1:IntKind.u64.wrap (((zf x)[k]:Nat):Int)=((zf x)[k]:Nat):=w64 (by rw[z5] at hak; omega)
   rw[z5] at hak
   by_cases hkb:k<(zf y).length
   ·have e2:(k:Int)<(zf y).length:=by omega
    have hbk:=xA (zw y) hkb
    rw[z5] at hbk
    rw[← pO hkb] at hsd hbs
    have e3:IntKind.u64.wrap (((zf y)[k]:Nat):Int)=((zf y)[k]:Nat):=w64 (by omega)
    have e5:=AY (((zf x)[k]:Nat)-(bor x y k:Nat):Int) ((zf y)[k]:Nat)
    have e6:=QA (((zf x)[k]:Nat)-(bor x y k:Nat)-((zf y)[k]:Nat):Int)
    have e7:=Qx (u:=(((zf x)[k]:Nat)-(bor x y k:Nat)-((zf y)[k]:Nat):Int)) (by omega) (by omega)
    have e8:(((zf x)[k]:Nat)-(bor x y k:Nat)-((zf y)[k]:Nat):Int)%4294967296=(d:Int):=by omega
    rw[e8] at e6
    have e9:(if (((zf x)[k]:Nat)-(bor x y k:Nat)-((zf y)[k]:Nat):Int)<0 then (1:Int) else 0)=(bor x y (k+1):Int):=by
     rw[hbs]
     split<;>split<;>omega
    rw[e9] at e7
    simp[kQ,Tq,e,e2,hk,hkb,e1,e3,e5,e6,e7,wu,hfk,splice,hset',zm (show k<4611686018427387904 by omega)]
   ·have e2:¬ (k:Int)<(zf y).length:=by omega
    have hy0:y/B^k%B=0:=by rw[← FA,List.getElem?_eq_none (by omega)]; rfl
    rw[hy0] at hsd hbs
    have e6:=QA (((zf x)[k]:Nat)-(bor x y k:Nat):Int)
    have e7:=Qx (u:=(((zf x)[k]:Nat)-(bor x y k:Nat):Int)) (by omega) (by omega)
    have e8:(((zf x)[k]:Nat)-(bor x y k:Nat):Int)%4294967296=(d:Int):=by omega
    rw[e8] at e6
    have e9:(if (((zf x)[k]:Nat)-(bor x y k:Nat):Int)<0 then (1:Int) else 0)=(bor x y (k+1):Int):=by
     rw[hbs]
     split<;>split<;>omega
    rw[e9] at e7
    simp[kQ,Tq,e,e2,hk,e1,e6,e7,wu,hfk,splice,hset',zm (show k<4611686018427387904 by omega)]
  ·have htk:(zE (zt (zf x).length (x-y))).take (zf x).length=zE (zt (zf x).length (x-y)):=List.take_of_length_le (by rw[List.length_map,zy]; exact Nat.le_refl _)
   have hle2:(zf x).length≤(zt (zf x).length (x-y)).length:=by rw[zy]; exact Nat.le_refl _
   have key:=yX (m:=.plain) (a:=zt (zf x).length (x-y)) yu (by rw[zy]; omega)
   rw[yh hS] at key
   simp[kQ,Tq,an,Ui,y8,sU,htk,hle2]
   refine za key (by simp) (by simp) ?_
   simp[So]
   exact AV.imp.refl
def Tj (m1 m2:Am.Mode) (a b:List Nat) (i k:Nat):St :=
 {env:=[(0,nl m1 a),(1,nl m2 b),(5,.sl 15 1 0 (a.length+b.length)),(17,iv a.length),(18,iv i),(6,iv i),(7,z7 (x4 a b i k).2),(22,iv b.length),(23,iv k)],sto:=[(15,.arr 1 (zE (x4 a b i k).1))]}
def Zh (m1 m2:Am.Mode) (a b:List Nat) (i:Nat):St :=
 {env:=[(0,nl m1 a),(1,nl m2 b),(5,.sl 15 1 0 (a.length+b.length)),(17,iv a.length),(18,iv i)],sto:=[(15,.arr 1 (zE (sV a b i)))]}
theorem rT {m1 m2:Am.Mode} {a b:List Nat} (ha:ok a) (hb:ok b) (hna:a.length<1099511627776) (hnb:b.length<1099511627776) (hs:a.length+b.length<1099511627776) (f1:stm m1=m1) (f2:stm m2=m2) :
  zd Tryz.prog qe [nl m1 a,nl m2 b] (nD (val a*val b)):=by
 refine wR acu (by simp) ?_
 have w:IntKind.i64.wrap ((a.length:Int)+b.length)=(a.length:Int)+b.length:=wrap64 (by omega) (by omega)
 have e1:((a.length:Int)+b.length).toNat=a.length+b.length:=by omega
 simp[Lo,w,eMk,e1]
 refine ⟨by omega,by omega,by omega,?_⟩
 refine zl (Zh m1 m2 a b) (fun _=>True) a.length (by simp[Zh,sV]) trivial (fun i hi _=>?_) (fun _=>?_)
 ·have hO:=aN ha hb i (by omega)
  have ei:(i:Int)<a.length:=by omega
  simp[dD,Zh,ei]
  refine zl (Tj m1 m2 a b i) (fun _=>True) b.length (by simp[Tj,FX]) trivial (fun k hk _=>?_) (fun _=>?_)
  ·have hI:=fo ha hb hi hO k (by omega)
   have ek:(k:Int)<b.length:=by omega
   have hst:=Rx (a:=a) (b:=b) (i:=i) (k:=k)
   have hlen:=hI.len
   have hik:i+k<(x4 a b i k).1.length:=by omega
   have eik:((i:Int)+k)<(x4 a b i k).1.length:=by omega
   have wik:IntKind.i64.wrap ((i:Int)+k)=((i+k:Nat):Int):=by rw[wrap64]<;>omega
   have hbd:=fm (vU ha i) (vU hb k) (vU hI.ok (i+k)) hI.lt
   have g1:=xA ha hi
   have g2:=xA hb hk
   have g3:=xA hI.ok hik
   have g4:=hI.lt
   simp only[mN] at hst
   have q1:a.getD i 0=a[i]:=by simp[hi]
   have q2:b.getD k 0=b[k]:=by simp[hk]
   have q3:(x4 a b i k).1.getD (i+k) 0=(x4 a b i k).1[i+k]:=by simp[hik]
   rw[q1,q2,q3] at hst hbd
   obtain ⟨t,ht⟩:∃ t,a[i]*b[k]+(x4 a b i k).1[i+k]+(x4 a b i k).2=t:=⟨_,rfl⟩
   obtain ⟨p,hp⟩:∃ p,a[i]*b[k]=p:=⟨_,rfl⟩
   rw[ht] at hst hbd
   rw[hp] at ht
   obtain ⟨d,hd⟩:∃ d,t%B=d:=⟨_,rfl⟩
   obtain ⟨q,hq⟩:∃ q,t/B=q:=⟨_,rfl⟩
   rw[hd,hq] at hst
   have f1:IntKind.u32.wrap (t:Int)=(d:Int):=by rw[w32,hd]
   have f2:(t:Int).fdiv (2^min 32 IntKind.u64.bits)=(q:Int):=by rw[cD,hq]
   have hBB:B*B=18446744073709551616:=by decide
   rw[hBB] at hbd
   rw[z5] at g1 g2 g3 g4
   have u1:IntKind.u64.wrap ((a[i]:Nat):Int)=(a[i]:Nat):=w64 (by omega)
   have u2:IntKind.u64.wrap ((b[k]:Nat):Int)=(b[k]:Nat):=w64 (by omega)
   have u3:IntKind.u64.wrap (((x4 a b i k).1[i+k]:Nat):Int)=((x4 a b i k).1[i+k]:Nat):=w64 (by omega)
   have u4:IntKind.u64.wrap ((a[i]:Int)*(b[k]:Int))=(p:Int):=by
    rw[show (a[i]:Int)*(b[k]:Int)=((a[i]*b[k]:Nat):Int) by simp,hp]; exact w64 (by omega)
   have u5:IntKind.u64.wrap ((p:Int)+((x4 a b i k).1[i+k]:Nat))=(p:Int)+((x4 a b i k).1[i+k]:Nat):=by rw[vJ]<;>omega
   have u6:IntKind.u64.wrap ((p:Int)+((x4 a b i k).1[i+k]:Nat)+((x4 a b i k).2:Nat))=(t:Int):=by rw[vJ]<;>omega
   have hset:(zE (x4 a b i k).1).set (i+k) [uv d]=zE (x4 a b i (k+1)).1:=by rw[xa,hst]
   have hq2:(x4 a b i (k+1)).2=q:=by rw[hst]
   have en:((i:Int)+k).toNat=i+k:=by omega
   have e0:(0:Int)≤(i:Int)+k:=by omega
   have elt:(i:Int)+k<(a.length:Int)+b.length:=by omega
   simp only[Int.natCast_add] at wik
   simp[dC,Tj,ek,hi,hk,ei,wik,en,e0,elt,hik,u1,u2,u3,u4,u5,u6,wu,splice,f1,f2,hset,hq2,zm (show k<4611686018427387904 by omega)]
  ·have hI:=fo ha hb hi hO b.length (Nat.le_refl _)
   have hlen:=hI.len
   have hik:i+b.length<(x4 a b i b.length).1.length:=by omega
   have wik:IntKind.i64.wrap ((i:Int)+b.length)=(i:Int)+b.length:=by rw[wrap64]<;>omega
   have en:((i:Int)+b.length).toNat=i+b.length:=by omega
   have e0:(0:Int)≤(i:Int)+b.length:=by omega
   have hset:(zE (x4 a b i b.length).1).set (i+b.length) [uv (x4 a b i b.length).2]=zE (sV a b (i+1)):=by rw[Ry]; exact xa
   have g4:=hI.lt
   rw[z5] at g4
   have f1:IntKind.u32.wrap ((x4 a b i b.length).2:Int)=((x4 a b i b.length).2:Int):=IntWalk.u32_in _ (by omega)
   simp[dC,Tj,Zh,Uf,Ug,wik,en,e0,hik,f1,splice,hset,ei,zm (show i<4611686018427387904 by omega)]
 ·obtain ⟨h1,h2,h3⟩:=abi ha hb
  have htk:(zE (sV a b a.length)).take (a.length+b.length)=zE (sV a b a.length):=List.take_of_length_le (by rw[List.length_map,h2]; exact Nat.le_refl _)
  have hle2:a.length+b.length≤(sV a b a.length).length:=by rw[h2]; exact Nat.le_refl _
  have key:=yX (m:=.plain) h1 (by rw[h2]; omega)
  rw[h3] at key
  simp[dD,Zh,Uh,y8,Y7 f1,Y7 f2,sU,htk,hle2]
  refine za key (by simp) (by simp) ?_
  simp[Kn]
  exact AV.imp.refl
theorem vP {m:Am.Mode} {a:List Nat} {i:Nat} (ha:ok a) (_hn:a.length<1099511627776) (_hi:i<1099511627776):zd Tryz.prog xN [nl m a,iv i] (z7 (a.getD i 0)):=by
 refine zC DF (by simp) ?_
 by_cases h:i<a.length
 ·have hg:a.getD i 0=a[i]:=by simp[h]
  have hB:=xA ha h
  rw[hg]
  generalize ha2:a[i]=x at *
  rw[z5] at hB
  have w:IntKind.u64.wrap (x:Int)=x:=w64 (by omega)
  have h':(i:Int)<a.length:=by omega
  simp[bY,h,h',ha2,w,aY]
 ·have hg:a.getD i 0=0:=by simp[List.getD,List.getElem?_eq_none (Nat.le_of_not_lt h)]
  have h':¬ (i:Int)<a.length:=by omega
  rw[hg]
  simp[bY,h',aY]
theorem R1 {m:Am.Mode} {a:List Nat} (ha:ok a) (hn:a.length<1099511627776):zd Tryz.prog gD [nl m a] (bv (decide (a=zf (val a)))):=by
 refine zC DE (by simp) ?_
 rcases Nat.eq_zero_or_pos a.length with h | h
 ·rw[List.length_eq_zero_iff] at h
  subst h
  simp[bW,aX,val,yf]
 ·obtain ⟨k,hk⟩:∃ k,a.length=k+1:=⟨a.length-1,by omega⟩
  have hl:(a.length:Int)=(k:Int)+1:=by omega
  have w:IntKind.i64.wrap (k:Int)=(k:Int):=by rw[wrap64]<;>omega
  have hkl:k<a.length:=by omega
  have hne:¬ a.length=0:=by omega
  have hnil:¬ a=[]:=fun e=>by subst e; simp at h
  have hv:(a=zf (val a))↔a[k]≠0:=by
   constructor
   ·intro e h0
    have h1:=fa (x:=val a) (by rw[← e]; exact h)
    simp only[← e,hk,Nat.add_sub_cancel] at h1
    exact h1 h0
   ·intro h0
    refine (LE ha fun _=>?_).symm
    simp only[hk,Nat.add_sub_cancel]
    exact h0
  have hd:decide (a=zf (val a))=!decide (a[k]=0):=by
   by_cases h0:a[k]=0
   ·have:¬ a=zf (val a):=fun e=>hv.1 e h0
    simp[this,h0]
   ·have:a=zf (val a):=hv.2 h0
    rw[decide_eq_true this,decide_eq_false h0]; rfl
  rw[hd]
  generalize ha2:a[k]=x at *
  have hk0:¬ ((k:Int)+1=0):=by omega
  have p1:(k:Int)<(k:Int)+1:=by omega
  simp[bW,aX,hl,w,hkl,ha2,hk0,p1]
def Zk (m:Am.Mode) (a:List Nat) (k:Nat):St:={env:=[(0,nl (if k=0 then m else .plain) (a.take (a.length-k)))],sto:=[]}
theorem pX {m:Am.Mode} {a:List Nat} (ha:ok a) (hn:a.length<1099511627776):zd Tryz.prog tT [nl m a] (nD (val a)):=by
 obtain ⟨h1,h2,h3,h4⟩:=aF ha
 refine wR AT (by simp) ?_
 simp[Q1]
 generalize hT:(zf (val a)).length=T at h1 h2 h3 h4
 refine zl (Zk m a) (fun _=>True) (a.length-T) (by simp[Zk]) trivial (fun k hk _=>?_) (fun _=>?_)
 ·obtain ⟨c,hc⟩:∃ c,a.take (a.length-k)=c:=⟨_,rfl⟩
  obtain ⟨L,hL⟩:∃ L,a.length-k=L+1:=⟨a.length-k-1,by omega⟩
  have hL2:a.length-(k+1)=L:=by omega
  have hcl:c.length=L+1:=by rw[← hc]; simp; omega
  have hLl:L<c.length:=by omega
  have hz:c[L]=0:=by
   have:=h2 L (by omega) (by omega)
   subst hc
   simpa using this
  have hc2:a.take L=c.take L:=by rw[← hc,List.take_take]; congr 1; omega
  have hcz:(c.length:Int)=(L:Int)+1:=by omega
  have w:IntKind.i64.wrap (L:Int)=(L:Int):=by rw[wrap64]<;>omega
  have hg:∃ r,zE (c.take L)=r:=⟨_,rfl⟩
  have hst:Zk m a (k+1)={env:=[(0,.list 1 .plain (List.take L (zE c)))],sto:=[]}:=by
   rw[Zk,hL2,hc2]; simp[List.map_take]
  obtain ⟨m',hst0⟩:∃ m',Zk m a k={env:=[(0,nl m' c)],sto:=[]}:=⟨_,by rw[Zk,hc]⟩
  have p3:(L:Int)<(L:Int)+1:=by omega
  have p1:(0:Int)<(L:Int)+1:=by omega
  have p2:(L:Int)≤(L:Int)+1:=by omega
  rw[hst0]
  simp[la,hcl,w,hz,hst,p1,p2,p3]
 ·have e:a.length-(a.length-T)=T:=by omega
  obtain ⟨m',hst⟩:∃ m',Zk m a (a.length-T)={env:=[(0,nl m' (zf (val a)))],sto:=[]}:=⟨_,by rw[Zk,e,h4]⟩
  rw[hst]
  clear hst
  generalize hcE:zf (val a)=c at *
  rcases T with _ | L
  ·have hc0:c=[]:=List.length_eq_zero_iff.1 hT
   subst hc0
   simp[la,f6,Xt]
   rw[nD,hcE]
   exact AV.imp.refl
  ·have hLl:L<c.length:=by omega
   have hcz:(c.length:Int)=(L:Int)+1:=by omega
   have w:IntKind.i64.wrap (L:Int)=(L:Int):=by rw[wrap64]<;>omega
   have hz:¬ c[L]=0:=by
    have:=fa (x:=val a) (by rw[hcE]; omega)
    simp only[hcE,hT,Nat.add_sub_cancel] at this
    exact this
   have p1:(0:Int)<(L:Int)+1:=by omega
   simp[la,hT,w,hz,p1,f6,Xt]
   rw[nD,hcE]
   exact ⟨by omega,by omega,by omega,AV.imp.refl⟩
theorem j4 {x:Nat} (h:x<18446744073709551616):zd Tryz.prog te [z7 x] (nD x):=by
 have hq2:x/B<B:=by rw[z5]; omega
 have e1:=Nat.mod_add_div x B
 have hm2:x%B<B:=Nat.mod_lt _ zU
 have t1:(x:Int).tmod 4294967296=((x%B:Nat):Int):=by
  rw[z5,show (4294967296:Int)=((4294967296:Nat):Int) from rfl,← Int.ofNat_tmod]
 have t2:IntKind.u64.wrap ((x:Int)/4294967296)=((x/B:Nat):Int):=by
  rw[show (x:Int)/4294967296=((x/B:Nat):Int) by rw[z5]; omega]
  exact w64 (Nat.lt_of_le_of_lt (Nat.div_le_self _ _) h)
 obtain ⟨d0,h0⟩:∃ d,x%B=d:=⟨_,rfl⟩
 obtain ⟨d1,h1⟩:∃ q,x/B=q:=⟨_,rfl⟩
 rw[h0] at t1 e1 hm2
 rw[h1] at t2 e1 hq2
 have hok:ok [d0,d1]:=by
  intro d hd
  simp at hd
  rcases hd with rfl | rfl
  ·exact hm2
  ·exact hq2
 have hv:val [d0,d1]=x:=by
  simp only[val,Nat.mul_zero,Nat.add_zero]
  exact e1
 have key:=pX (m:=.full) (a:=[d0,d1]) hok (by simp)
 rw[hv] at key
 rw[z5] at hm2 hq2
 have f1:IntKind.u32.wrap (d0:Int)=d0:=IntWalk.u32_in _ (by omega)
 have f2:IntKind.u32.wrap (d1:Int)=d1:=IntWalk.u32_in _ (by omega)
 refine zC N5 (by simp) ?_
 simp[bV,vD,rL,t1,t2,f1,f2,uh]
 refine za key (by simp) (by simp) ?_
 simp[aW]
theorem t8 {a:List Nat} (ha:ok a) (i:Nat):a.getD i 0=val a/B^i%B:=by
 rcases Nat.lt_or_ge i a.length with h | h
 ·rw[← mH ha h]; simp[h]
 ·have h1:val a<B^i:=yS ha h
  rw[Nat.div_eq_of_lt h1,Nat.zero_mod]
  simp[List.getD,List.getElem?_eq_none h]
theorem fC (x j:Nat):x/B^j=B*(x/B^(j+1))+x/B^j%B:=by
 rw[Nat.pow_succ,← Nat.div_div_eq_div_mul]
 exact (Nat.div_add_mod _ _).symm
theorem Q6 {x y j:Nat} (h:x/B^(j+1)=y/B^(j+1)) (hlt:x/B^j%B<y/B^j%B):x<y:=by
 have h1:=fC x j
 have h2:=fC y j
 rw[h] at h1
 apply Nat.lt_of_not_le
 intro hle
 have h3:y/B^j≤x/B^j:=Nat.div_le_div_right hle
 generalize x/B^j%B=p at *
 generalize y/B^j%B=q at *
 omega
theorem cmp_eq {x y j:Nat} (h:x/B^(j+1)=y/B^(j+1)) (he:x/B^j%B=y/B^j%B):x/B^j=y/B^j:=by
 rw[fC x j,fC y j,h,he]
def SB (m1 m2:Am.Mode) (a b:List Nat) (M k:Nat):St:={env:=[(0,nl m1 a),(1,nl m2 b),(5,iv ((M:Int)-1-k))],sto:=[]}
theorem LB {m1 m2:Am.Mode} {a b:List Nat} (ha:ok a) (hb:ok b) (hna:a.length<1099511627776) (hnb:b.length<1099511627776) (f1:stm m1=m1) (f2:stm m2=m2) :
  zd Tryz.prog ZB [nl m1 a,nl m2 b] (iv (yO (val a) (val b))):=by
 refine zC acE (by simp) ?_
 obtain ⟨M,hM⟩:∃ M,max a.length b.length=M:=⟨_,rfl⟩
 have hMz:max (a.length:Int) (b.length:Int)=(M:Int):=by omega
 have w0:IntKind.i64.wrap ((M:Int)-1)=(M:Int)-1:=by rw[wrap64]<;>omega
 simp[Lw,hMz,w0]
 refine zl (SB m1 m2 a b M) (fun k=>val a/B^(M-k)=val b/B^(M-k)) M (by simp[SB]) ?_ (fun k hk hi=>?_) (fun hi=>?_)
 ·rw[Nat.sub_zero,Nat.div_eq_of_lt (yS ha (by omega)),Nat.div_eq_of_lt (yS hb (by omega))]
 ·obtain ⟨j,hj⟩:∃ j,M-1-k=j:=⟨_,rfl⟩
  have hj2:M-k=j+1:=by omega
  have hj3:M-(k+1)=j:=by omega
  have hjz:(M:Int)-1-k=(j:Int):=by omega
  have d1:=vP (m:=m1) (i:=j) ha hna (by omega)
  have d2:=vP (m:=m2) (i:=j) hb hnb (by omega)
  rw[hj2] at hi
  rw[t8 ha] at d1
  rw[t8 hb] at d2
  have c1:=fun h=>Q6 (x:=val a) (y:=val b) (j:=j) hi h
  have c2:=fun h=>Q6 (x:=val b) (y:=val a) (j:=j) hi.symm h
  have c3:=fun h=>cmp_eq (x:=val a) (y:=val b) (j:=j) hi h
  generalize val a/B^j%B=p at *
  generalize val b/B^j%B=q at *
  have e0:(0:Int)≤(j:Int):=by omega
  have w1:IntKind.i64.wrap ((j:Int)-1)=(j:Int)-1:=by rw[wrap64]<;>omega
  have hst:SB m1 m2 a b M (k+1)={env:=[(0,nl m1 a),(1,nl m2 b),(5,iv ((j:Int)-1))],sto:=[]}:=by
   rw[SB,show (M:Int)-1-((k+1:Nat):Int)=(j:Int)-1 by omega]
  rw[SB,hjz]
  simp[dH]
  refine za d1 (by simp[f1]) (by simp) ?_
  simp
  refine za d2 (by simp[f2]) (by simp) ?_
  by_cases h:p<q
  ·have hc:yO (val a) (val b)=-1:=by simp[yO,c1 h]
   simp[h,ZZ,hc]
  ·simp[h]
   refine za d1 (by simp[f1]) (by simp) ?_
   simp
   refine za d2 (by simp[f2]) (by simp) ?_
   by_cases h2:q<p
   ·have hc:yO (val a) (val b)=1:=by
     have:¬ val a<val b:=by have:=c2 h2; omega
     simp[yO,c2 h2,this]
    simp[h2,ZZ,hc]
   ·have he:=c3 (by omega)
    simp[h2,w1,hst,hj3,he]
 ·have hxy:val a=val b:=by simpa using hi
  have hc:yO (val a) (val b)=0:=by simp[yO,hxy]
  have e0:¬ (0:Int)≤(M:Int)-1-M:=by omega
  have e1:¬ (M:Int)≤(M:Int)-1:=by omega
  simp[dH,SB,e1,Uk,ZZ,hc]
def cry (x y k:Nat):Nat:=(x%B^k+y%B^k)/B^k
theorem Cq {x y:Nat}:cry x y 0=0:=by simp[cry,Nat.mod_one]
theorem ac8 {x y k:Nat}:cry x y k≤1:=by
 unfold cry
 have h1:=Nat.mod_lt x (vd k)
 have h2:=Nat.mod_lt y (vd k)
 have:(x%B^k+y%B^k)/B^k<2:=Nat.div_lt_of_lt_mul (by omega)
 omega
theorem Gz {x y k:Nat}:(x+y)/B^k%B=(x/B^k%B+y/B^k%B+cry x y k)%B∧cry x y (k+1)=(x/B^k%B+y/B^k%B+cry x y k)/B:=by
 have m1:x%B^(k+1)=x%B^k+B^k*(x/B^k%B):=by rw[Nat.pow_succ,Nat.mod_mul]
 have m2:y%B^(k+1)=y%B^k+B^k*(y/B^k%B):=by rw[Nat.pow_succ,Nat.mod_mul]
 have d1:=Nat.mod_add_div x (B^(k+1))
 have d2:=Nat.mod_add_div y (B^(k+1))
 have hs:x+y=(x%B^k+y%B^k)+B^k*(x/B^k%B+y/B^k%B)+B^(k+1)*(x/B^(k+1)+y/B^(k+1)):=by
  rw[Nat.mul_add,Nat.mul_add]
  omega
 constructor
 ·rw[hs,gZ]
  unfold cry
  congr 1
  omega
 ·unfold cry
  rw[m1,m2,show x%B^k+B^k*(x/B^k%B)+(y%B^k+B^k*(y/B^k%B))=(x%B^k+y%B^k)+B^k*(x/B^k%B+y/B^k%B) by rw[Nat.mul_add]; omega,gY]
  congr 1
  omega
theorem jX {m:Am.Mode} {l:Nat} {a:List Nat} (h:stm m=m):dg l (nl m a)=nl m a:=by
 cases m with
 | plain=>simp
 | full=>simp
 | own d=>simp at h
def Sy (m1 m2:Am.Mode) (a b:List Nat) (k:Nat):St :=
 {env:=[(0,nl m1 a),(1,nl m2 b),(5,wk 1 32 (zE (zt k (val a+val b)))),(6,z7 (cry (val a) (val b) k)),(7,iv k)],sto:=[]}
theorem je {m1 m2:Am.Mode} {a b:List Nat} (ha:ok a) (hb:ok b) (hna:a.length<1099511627775) (hnb:b.length<1099511627775) (f1:stm m1=m1) (f2:stm m2=m2) :
  zd Tryz.prog qg [nl m1 a,nl m2 b] (nD (val a+val b)):=by
 refine zC acC (by simp) ?_
 obtain ⟨M,hM⟩:∃ M,max a.length b.length=M:=⟨_,rfl⟩
 have hMz:max (a.length:Int) (b.length:Int)=(M:Int):=by omega
 have hxM:val a<B^M:=yS ha (by omega)
 have hyM:val b<B^M:=yS hb (by omega)
 simp[Lu]
 refine zl (Sy m1 m2 a b) (fun _=>True) (M+1) (by simp[Sy,Cq,zt]) trivial (fun k hk _=>?_) (fun _=>?_)
 ·have d1:=vP (m:=m1) (i:=k) ha (by omega) (by omega)
  have d2:=vP (m:=m2) (i:=k) hb (by omega) (by omega)
  rw[t8 ha] at d1
  rw[t8 hb] at d2
  obtain ⟨g1,g2⟩:=Gz (x:=val a) (y:=val b) (k:=k)
  have hsucc:=t0 (n:=k) (x:=val a+val b)
  have hpB:val a/B^k%B<B:=Nat.mod_lt _ zU
  have hqB:val b/B^k%B<B:=Nat.mod_lt _ zU
  have hc:=ac8 (x:=val a) (y:=val b) (k:=k)
  have hdl:=zy (n:=k) (x:=val a+val b)
  rw[g1] at hsucc
  have hst:Sy m1 m2 a b (k+1)={env:=[(0,nl m1 a),(1,nl m2 b),(5,wk 1 32 (zE (zt (k+1) (val a+val b)))),(6,z7 (cry (val a) (val b) (k+1))),(7,iv ((k:Int)+1))],sto:=[]}:=by
   rw[Sy]; rfl
  rw[hsucc,g2] at hst
  rw[Sy]
  clear g1 g2 hsucc
  generalize val a/B^k%B=p at *
  generalize val b/B^k%B=q at *
  generalize cry (val a) (val b) k=c at *
  generalize zt k (val a+val b)=D at *
  obtain ⟨t,ht⟩:∃ t,p+q+c=t:=⟨_,rfl⟩
  obtain ⟨d,hd⟩:∃ d,t%B=d:=⟨_,rfl⟩
  obtain ⟨e,he⟩:∃ e,t/B=e:=⟨_,rfl⟩
  rw[ht,hd,he] at hst
  have hdB:d<B:=by rw[← hd]; exact Nat.mod_lt _ zU
  have heB:e≤t:=by rw[← he]; exact Nat.div_le_self _ _
  rw[z5] at hpB hqB hdB
  have t1:(t:Int).tmod 4294967296=(d:Int):=by
   rw[← hd,z5,show (4294967296:Int)=((4294967296:Nat):Int) from rfl,← Int.ofNat_tmod]
  have t2:IntKind.u64.wrap ((t:Int)/4294967296)=(e:Int):=by
   rw[show (t:Int)/4294967296=(e:Int) by rw[← he,z5]; omega]
   exact w64 (by omega)
  clear hd he
  have w1:IntKind.u64.wrap ((p:Int)+q)=(p:Int)+q:=vJ (by omega) (by omega)
  have w2:IntKind.u64.wrap ((p:Int)+q+c)=(t:Int):=by rw[vJ]<;>omega
  have w3:IntKind.u32.wrap (d:Int)=d:=IntWalk.u32_in _ (by omega)
  have w4:IntKind.i64.wrap ((k:Int)+1)=(k:Int)+1:=wrap64 (by omega) (by omega)
  have hkM:(k:Int)≤(M:Int):=by omega
  simp[dF,hMz,hkM]
  refine za d1 (by simp[f1]) (by simp) ?_
  simp
  refine za d2 (by simp[f2]) (by simp) ?_
  simp[w1,w2,vD,rL,t1,t2,w3,w4,hdl,hst,jX f1,jX f2]
  omega
 ·have hlt:val a+val b<B^(M+1):=by
   rw[Nat.pow_succ]
   have:B^M*2≤B^M*B:=Nat.mul_le_mul_left _ (by decide)
   omega
  have kt:=pX (m:=.plain) (a:=zt (M+1) (val a+val b)) yu (by rw[zy]; omega)
  rw[yh hlt] at kt
  have hne:¬ zt (M+1) (val a+val b)=[]:=fun h=>by
   have:=congrArg List.length h
   rw[zy] at this
   simp at this
  have hkM:¬ (M:Int)+1≤(M:Int):=by omega
  simp[dF,Sy,hMz,hkM,Uj,Kt]
  refine za kt (by simp[hne]) (.inl rfl) ?_
  simp
theorem d8 {f:FuncId} {x x' r:AV} (h:zd Tryz.prog f [x'] r) (hy:AV.imp x x'):zd Tryz.prog f [x] r:=fun I vs w h1 h2 h3 =>
 h I vs w h1 h2 fun i a hi=>by
  match i,hi with
  | 0,hi=>simp at hi; subst hi; exact hy _ _ _ (h3 0 x rfl)
  | i+1,hi=>simp at hi
theorem Qb {x y k p q c:Nat} (h:y≤x) (hp:x/B^k%B=p) (hq:y/B^k%B=q) (hc:bor x y k=c) (_hpB:p<B) (_hqB:q<B) (hc1:c≤1) :
  ∃ s,4294967296+p-q-c=s∧s<8589934592∧q+c≤4294967296+p∧(x-y)/B^k%B=s%B∧bor x y (k+1)=1-s/B∧s/B≤1:=by
 have h1:=fH (k:=k) h
 have h2:=dw (x:=x) (y:=y) (k:=k)
 rw[hp,hq,hc] at h1 h2
 have hdB:(x-y)/B^k%B<B:=Nat.mod_lt _ zU
 generalize (x-y)/B^k%B=d at *
 rw[z5] at *
 refine ⟨_,rfl,by omega,by omega,by omega,?_,by omega⟩
 rw[h2]
 split<;>omega
def SL (m1 m2:Am.Mode) (a b:List Nat) (k:Nat):St :=
 {env:=[(0,nl m1 a),(1,nl m2 b),(6,wk 1 35 (zE (zt k (val a-val b)))),(7,z7 (bor (val a) (val b) k)),(8,iv k)],sto:=[]}
theorem ST {m1 m2:Am.Mode} {a b:List Nat} (ha:ok a) (hb:ok b) (hna:a.length<1099511627775) (hnb:b.length<1099511627775) (f1:stm m1=m1) (f2:stm m2=m2) :
  zd Tryz.prog eE [nl m1 a,nl m2 b] (.tuple [nD (val a-val b),bv (decide (val b≤val a))]):=by
 have kc:=LB (m1:=m1) (m2:=m2) ha hb (by omega) (by omega) f1 f2
 refine wR acH (by simp) ?_
 simp[Lz]
 refine za kc (by simp[f1,f2]) (by simp) ?_
 by_cases hlt:val a<val b
 ·have hc1:yO (val a) (val b)=-1:=by simp[yO,hlt]
  have hd:decide (val b≤val a)=false:=by simp; omega
  have h0:val a-val b=0:=by omega
  simp[hc1,Sq]
  rw[hd,h0]
  exact AV.imp_tuple2 sj
 ·have hc1:¬ yO (val a) (val b)<0:=by simp only[yO,if_neg hlt]; split<;>omega
  have hle:val b≤val a:=by omega
  have hd:decide (val b≤val a)=true:=by simp[hle]
  rw[hd]
  simp[hc1]
  refine zl (SL m1 m2 a b) (fun _=>True) a.length (by simp[SL,dx,zt]) trivial (fun k hk _=>?_) (fun _=>?_)
  ·have d1:=vP (m:=m1) (i:=k) ha (by omega) (by omega)
   have d2:=vP (m:=m2) (i:=k) hb (by omega) (by omega)
   rw[t8 ha] at d1
   rw[t8 hb] at d2
   have hpB:val a/B^k%B<B:=Nat.mod_lt _ zU
   have hqB:val b/B^k%B<B:=Nat.mod_lt _ zU
   have hc:=X9 (x:=val a) (y:=val b) (k:=k)
   obtain ⟨s,g0,gs,gle,g1,g2,g3⟩:=Qb (k:=k) hle rfl rfl rfl hpB hqB hc
   have hsucc:=t0 (n:=k) (x:=val a-val b)
   have hdl:=zy (n:=k) (x:=val a-val b)
   rw[g1] at hsucc
   have hst:SL m1 m2 a b (k+1)={env:=[(0,nl m1 a),(1,nl m2 b),(6,wk 1 35 (zE (zt (k+1) (val a-val b)))),(7,z7 (bor (val a) (val b) (k+1))),(8,iv ((k:Int)+1))],sto:=[]}:=by
    rw[SL]; rfl
   rw[hsucc,g2] at hst
   rw[SL]
   clear g1 g2 hsucc
   generalize val a/B^k%B=p at *
   generalize val b/B^k%B=q at *
   generalize bor (val a) (val b) k=c at *
   generalize zt k (val a-val b)=D at *
   obtain ⟨d,hd⟩:∃ d,s%B=d:=⟨_,rfl⟩
   obtain ⟨e,he⟩:∃ e,s/B=e:=⟨_,rfl⟩
   rw[hd,he] at hst
   rw[he] at g3
   have hdB:d<B:=by rw[← hd]; exact Nat.mod_lt _ zU
   rw[z5] at hpB hqB hdB
   have t1:(s:Int).tmod 4294967296=(d:Int):=by
    rw[← hd,z5,show (4294967296:Int)=((4294967296:Nat):Int) from rfl,← Int.ofNat_tmod]
   have t2:IntKind.u64.wrap ((s:Int)/4294967296)=(e:Int):=by
    rw[show (s:Int)/4294967296=(e:Int) by rw[← he,z5]; omega]
    exact w64 (by omega)
   clear hd he
   have w1:IntKind.u64.wrap ((4294967296:Int)+p)=(4294967296:Int)+p:=vJ (by omega) (by omega)
   have w2:IntKind.u64.wrap ((4294967296:Int)+p-q)=(4294967296:Int)+p-q:=vJ (by omega) (by omega)
   have w2':IntKind.u64.wrap ((4294967296:Int)+p-q-c)=(s:Int):=by rw[vJ]<;>omega
   have w3:IntKind.u32.wrap (d:Int)=d:=IntWalk.u32_in _ (by omega)
   have w5:IntKind.u64.wrap (1-(e:Int))=((1-e:Nat):Int):=by rw[vJ]<;>omega
   have w4:IntKind.i64.wrap ((k:Int)+1)=(k:Int)+1:=wrap64 (by omega) (by omega)
   have hkM:(k:Int)<(a.length:Int):=by omega
   simp[dK,hkM]
   refine za d1 (by simp[f1]) (by simp) ?_
   simp[w1]
   refine za d2 (by simp[f2]) (by simp) ?_
   simp[w2,w2',w5,vD,rL,t1,t2,w3,w4,hdl,hst,jX f1,jX f2]
   omega
  ·have hlt2:val a-val b<B^a.length:=Nat.lt_of_le_of_lt (Nat.sub_le _ _) (vh ha)
   have kt:=pX (m:=.plain) (a:=zt a.length (val a-val b)) yu (by rw[zy]; omega)
   rw[yh hlt2] at kt
   simp[dK,SL,Un,Sq]
   refine za (d8 kt Xa) (by simp) (.inl rfl) ?_
   simp
   exact AV.imp.refl
def cs (x d k:Nat):Nat:=x%B^k*d/B^k
theorem aaI {x d:Nat}:cs x d 0=0:=by simp[cs,Nat.mod_one]
theorem aeB {x d k:Nat} (hd:d<B):cs x d k<B:=by
 unfold cs
 apply Nat.div_lt_of_lt_mul
 have h1:=Nat.mod_lt x (vd k)
 exact Nat.mul_lt_mul_of_lt_of_lt h1 hd
theorem MS {x d k:Nat}:x*d/B^k%B=(x/B^k%B*d+cs x d k)%B∧cs x d (k+1)=(x/B^k%B*d+cs x d k)/B:=by
 have m1:x%B^(k+1)=x%B^k+B^k*(x/B^k%B):=by rw[Nat.pow_succ,Nat.mod_mul]
 have d1:=Nat.mod_add_div x (B^(k+1))
 have hs:x*d=(x%B^k*d)+B^k*(x/B^k%B*d)+B^(k+1)*(x/B^(k+1)*d):=by
  have h:x*d=(x%B^k+B^k*(x/B^k%B)+B^(k+1)*(x/B^(k+1)))*d:=by rw[← m1,d1]
  rw[h,Nat.add_mul,Nat.add_mul,Nat.mul_assoc,Nat.mul_assoc]
 constructor
 ·rw[hs,gZ]
  unfold cs
  congr 1
  omega
 ·unfold cs
  rw[m1,Nat.add_mul,Nat.mul_assoc,gY]
  congr 1
  omega
def SM (m1:Am.Mode) (a:List Nat) (d k:Nat):St :=
 {env:=[(0,nl m1 a),(1,z7 d),(5,wk 1 27 (zE (zt k (val a*d)))),(6,z7 (cs (val a) d k)),(7,iv k)],sto:=[]}
theorem EU {m1:Am.Mode} {a:List Nat} {d:Nat} (ha:ok a) (hna:a.length<1099511627775) (hd:d<B) (f1:stm m1=m1) :
  zd Tryz.prog bH [nl m1 a,z7 d] (nD (val a*d)):=by
 refine zC DG (by simp) ?_
 simp[Ra]
 refine zl (SM m1 a d) (fun _=>True) (a.length+1) (by simp[SM,aaI,zt]) trivial (fun k hk _=>?_) (fun _=>?_)
 ·have d1:=vP (m:=m1) (i:=k) ha (by omega) (by omega)
  rw[t8 ha] at d1
  obtain ⟨g1,g2⟩:=MS (x:=val a) (d:=d) (k:=k)
  have hsucc:=t0 (n:=k) (x:=val a*d)
  have hpB:val a/B^k%B<B:=Nat.mod_lt _ zU
  have hc:=aeB (x:=val a) (k:=k) hd
  have hdl:=zy (n:=k) (x:=val a*d)
  rw[g1] at hsucc
  have hst:SM m1 a d (k+1)={env:=[(0,nl m1 a),(1,z7 d),(5,wk 1 27 (zE (zt (k+1) (val a*d)))),(6,z7 (cs (val a) d (k+1))),(7,iv ((k:Int)+1))],sto:=[]}:=by
   rw[SM]; rfl
  rw[hsucc,g2] at hst
  rw[SM]
  clear g1 g2 hsucc
  generalize val a/B^k%B=p at *
  generalize cs (val a) d k=c at *
  generalize zt k (val a*d)=D at *
  have hm:=fm hpB hd hc zU
  obtain ⟨pd,hpd⟩:∃ pd,p*d=pd:=⟨_,rfl⟩
  rw[hpd] at hst hm
  obtain ⟨t,ht⟩:∃ t,pd+c=t:=⟨_,rfl⟩
  obtain ⟨y,hy⟩:∃ y,t%B=y:=⟨_,rfl⟩
  obtain ⟨e,he⟩:∃ e,t/B=e:=⟨_,rfl⟩
  rw[ht,hy,he] at hst
  have hBB:B*B=18446744073709551616:=by decide
  rw[hBB] at hm
  have hyB:y<B:=by rw[← hy]; exact Nat.mod_lt _ zU
  have heB:e≤t:=by rw[← he]; exact Nat.div_le_self _ _
  rw[z5] at hpB hyB
  have t1:(t:Int).tmod 4294967296=(y:Int):=by
   rw[← hy,z5,show (4294967296:Int)=((4294967296:Nat):Int) from rfl,← Int.ofNat_tmod]
  have t2:IntKind.u64.wrap ((t:Int)/4294967296)=(e:Int):=by
   rw[show (t:Int)/4294967296=(e:Int) by rw[← he,z5]; omega]
   exact w64 (by omega)
  clear hy he
  have w1:IntKind.u64.wrap ((p:Int)*d)=(pd:Int):=by
   rw[show (p:Int)*(d:Int)=((p*d:Nat):Int) by simp,hpd]; exact w64 (by omega)
  have w2:IntKind.u64.wrap ((pd:Int)+c)=(t:Int):=by rw[vJ]<;>omega
  have w3:IntKind.u32.wrap (y:Int)=y:=IntWalk.u32_in _ (by omega)
  have w4:IntKind.i64.wrap ((k:Int)+1)=(k:Int)+1:=wrap64 (by omega) (by omega)
  have hkM:(k:Int)≤(a.length:Int):=by omega
  have hkM2:k≤a.length:=by omega
  simp[jK,hkM]
  refine za d1 (by simp[f1]) (by simp) ?_
  simp[w1,w2,vD,rL,t1,t2,w3,w4,hdl,hst,jX f1]
  omega
 ·have hlt:val a*d<B^(a.length+1):=by
   rw[Nat.pow_succ]
   exact Nat.mul_lt_mul_of_lt_of_lt (vh ha) hd
  have kt:=pX (m:=.plain) (a:=zt (a.length+1) (val a*d)) yu (by rw[zy]; omega)
  rw[yh hlt] at kt
  have hkM:¬ (a.length:Int)+1≤(a.length:Int):=by omega
  simp[jK,SM,hkM,bZ,RL]
  refine za (d8 kt Xa) (by simp) (.inl rfl) ?_
  simp
def Z9 (m1:Am.Mode) (a:List Nat) (n k:Nat):St :=
 {env:=[(0,nl m1 a),(1,iv n),(5,wk 1 14 (zE (List.replicate k 0))),(6,iv k)],sto:=[]}
theorem EY {m1:Am.Mode} {a:List Nat} {n:Nat} (ha:ok a) (hna:a.length<137438953472) (hn:n<137438953472) (f1:stm m1=m1) :
  zd Tryz.prog bJ [nl m1 a,iv n] (nD (val a*B^n)):=by
 refine zC DH (by simp) ?_
 simp[Rb]
 refine zl (Z9 m1 a n) (fun _=>True) n (by simp[Z9]) trivial (fun k hk _=>?_) (fun _=>?_)
 ·have hst:Z9 m1 a n (k+1)={env:=[(0,nl m1 a),(1,iv n),(5,wk 1 14 (zE (List.replicate k 0++[0]))),(6,iv ((k:Int)+1))],sto:=[]}:=by
   rw[Z9,List.replicate_succ']; rfl
  have hl:(List.replicate k 0).length=k:=List.length_replicate
  rw[Z9]
  generalize List.replicate k 0=D at *
  have w4:IntKind.i64.wrap ((k:Int)+1)=(k:Int)+1:=wrap64 (by omega) (by omega)
  have hkn:(k:Int)<(n:Int):=by omega
  simp[jL,hkn,w4,hl,hst,jX f1]
  exact ⟨by omega,by omega,rfl⟩
 ·have hl:(List.replicate n 0).length=n:=List.length_replicate
  have hv:val (List.replicate n 0++a)=val a*B^n:=by rw[val_append,Yf,hl,Nat.zero_add,Nat.mul_comm]
  have kt:=pX (m:=.plain) (a:=List.replicate n 0++a) (aQ.2 ⟨Nf n,ha⟩) (by rw[List.length_append,hl]; omega)
  rw[hv] at kt
  rw[Z9]
  generalize List.replicate n 0=D at *
  simp[jL,b8]
  refine R4 (by simp) (.inr rfl) (by simp) (by simp) (by simp; omega) (by simp; omega) fun t ht=>?_
  simp
  refine za kt (by simp) (.inl rfl) ?_
  simp[RM]
theorem aC {f:FuncId} {x x' y r:AV} (h:zd Tryz.prog f [x',y] r) (hy:AV.imp x x'):zd Tryz.prog f [x,y] r:=fun I vs w h1 h2 h3 =>
 h I vs w h1 h2 fun i a hi=>by
  match i,hi with
  | 0,hi=>simp at hi; subst hi; exact hy _ _ _ (h3 0 x rfl)
  | 1,hi=>exact h3 1 a hi
  | i+2,hi=>simp at hi
def XL (m1 m2:Am.Mode) (a b:List Nat) (k:Nat):St :=
 {env:=[(0,nl m1 a),(1,nl m2 b),(5,if k=0 then .list 0 .full [] else nD (val a*val (b.take k))),(6,iv k)],sto:=[]}
theorem FY {a b:List Nat} {k:Nat} (hk:k<b.length):val a*val (b.take (k+1))=val a*val (b.take k)+val a*b[k]*B^k:=by
 rw[xD hk,Nat.mul_add,Nat.mul_comm (B^k),Nat.mul_assoc]
theorem eY {m1 m2:Am.Mode} {a b:List Nat} (ha:ok a) (hb:ok b) (hs:a.length+b.length<68719476736) (f1:stm m1=m1) (_f2:stm m2=m2) :
  zd Tryz.prog mn [nl m1 a,nl m2 b] (nD (val a*val b)):=by
 refine wR acG (by simp) ?_
 simp[Ly]
 refine zl (XL m1 m2 a b) (fun _=>True) b.length (by simp[XL]) trivial (fun k hk _=>?_) (fun _=>?_)
 ·have hbk:=xA hb hk
  have hg:∃ x,b[k]=x:=⟨_,rfl⟩
  have hsucc:=FY (a:=a) hk
  have haB:=vh ha
  have hbB:val (b.take k)<B^k:=yS (ut hb k) (by simp; omega)
  generalize hx:b[k]=x at *
  have k1:=EU (m1:=m1) (d:=x) ha (by omega) hbk f1
  have hl1:(zf (val a*x)).length≤a.length+1:=zG.2 (by rw[Nat.pow_succ]; exact Nat.mul_lt_mul_of_lt_of_lt haB hbk)
  have k2:=EY (m1:=.plain) (n:=k) (zw (val a*x)) (by omega) (by omega) rfl
  rw[zI] at k2
  have hl2:(zf (val a*x*B^k)).length≤a.length+1+k:=zG.2 (by
   rw[Nat.pow_add,Nat.pow_succ]
   exact Nat.mul_lt_mul_of_pos_right (Nat.mul_lt_mul_of_lt_of_lt haB hbk) (vd k))
  have hl3:(zf (val a*val (b.take k))).length≤a.length+k:=zG.2 (by
   rw[Nat.pow_add]; exact Nat.mul_lt_mul_of_lt_of_lt haB hbB)
  have k3:=je (m1:=.plain) (m2:=.plain) (zw (val a*val (b.take k))) (zw (val a*x*B^k)) (by omega) (by omega) rfl rfl
  rw[zI,zI] at k3
  rw[← hsucc] at k3
  rw[z5] at hbk
  have w1:IntKind.u64.wrap (x:Int)=x:=w64 (by omega)
  have w4:IntKind.i64.wrap ((k:Int)+1)=(k:Int)+1:=wrap64 (by omega) (by omega)
  have hkb:(k:Int)<(b.length:Int):=by omega
  obtain ⟨o,ho⟩:∃ o,(if k=0 then AV.list 0 .full [] else nD (val a*val (b.take k)))=o:=⟨_,rfl⟩
  simp[kR,hkb,hk,XL,hx,w1]
  refine za k1 (by simp[f1]) (by simp) ?_
  simp
  refine za k2 (by simp) (by simp) ?_
  rcases Nat.eq_zero_or_pos k with h0 | h0
  ·subst h0
   have e0:nl .plain (zf (val a*val (b.take 0)))=nD 0:=by simp[val]
   rw[e0] at k3
   simp
   refine za (aC k3 (sj (sz:=0))) (by simp) (by simp) ?_
   have w0:IntKind.i64.wrap 1=1:=by decide
   simp[w0,XL]
  ·have hk0:¬ k=0:=by omega
   simp[hk0]
   refine za k3 (by simp) (by simp) ?_
   simp[w4,XL]
 ·rcases Nat.eq_zero_or_pos b.length with h0 | h0
  ·have hb0:b=[]:=List.length_eq_zero_iff.1 h0
   subst hb0
   simp[kR,XL,dJ,Sp,val]
   exact sj
  ·have hk0:¬ b.length=0:=by omega
   have hbn:¬ b=[]:=fun e=>by subst e; simp at h0
   simp[kR,XL,dJ,Sp,hk0]
   exact AV.imp.refl
theorem ln (q:Nat):B^q=2^(32*q):=by rw[Nat.pow_mul]; rfl
theorem GK {x i:Nat}:x/B^(i/32)%B/2^(i%32)%2=x/2^i%2:=by
 have hi:2^i=B^(i/32)*2^(i%32):=by rw[ln,← Nat.pow_add]; congr 1; omega
 rw[hi,← Nat.div_div_eq_div_mul]
 generalize x/B^(i/32)=y
 have hr:i%32<32:=Nat.mod_lt _ (by omega)
 generalize i%32=r at *
 have hB:B=2^r*2^(32-r):=by
  rw[← Nat.pow_add,Nat.add_sub_cancel' (by omega)]; rfl
 rw[hB,Nat.mod_mul_right_div_self]
 exact Nat.mod_mod_of_dvd _ ⟨2^(31-r),by rw[show 32-r=(31-r)+1 by omega,Nat.pow_succ,Nat.mul_comm]⟩
theorem TP {m:Am.Mode} {a:List Nat} {i:Nat} (ha:ok a) (hn:a.length<1099511627776) (hi:i<35184372088832) (f1:stm m=m):zd Tryz.prog ZA [nl m a,iv i] (z7 (val a/2^i%2)):=by
 have d1:=vP (m:=m) (i:=i/32) ha hn (by omega)
 rw[t8 ha] at d1
 have hp:=GK (x:=val a) (i:=i)
 have hpB:val a/B^(i/32)%B<B:=Nat.mod_lt _ zU
 rw[← hp]
 clear hp
 generalize val a/B^(i/32)%B=p at *
 have q1:IntKind.i64.wrap ((i:Int)/32)=((i/32:Nat):Int):=by rw[wrap64]<;>omega
 have q2:(i:Int).tmod 32=((i%32:Nat):Int):=by
  rw[show (32:Int)=((32:Nat):Int) from rfl,← Int.ofNat_tmod]
 have hr:i%32<32:=Nat.mod_lt _ (by omega)
 obtain ⟨q,hq⟩:∃ q,i/32=q:=⟨_,rfl⟩
 obtain ⟨r,hr2⟩:∃ r,i%32=r:=⟨_,rfl⟩
 rw[hq] at q1 d1
 rw[hr2] at q2 hr
 rw[hr2]
 clear hq hr2
 have hP:0<2^r:=Nat.pow_pos (by omega)
 have hPB:=ge hr
 have hmin:min r IntKind.u64.bits=r:=by
  have:IntKind.u64.bits=64:=rfl
  omega
 obtain ⟨P,hPe⟩:∃ P,2^r=P:=⟨_,rfl⟩
 rw[hPe] at hP hPB
 rw[hPe]
 have u1:IntKind.u64.wrap ((2:Int)^r)=(P:Int):=by
  rw[show (2:Int)^r=((2^r:Nat):Int) by simp,hPe]; exact w64 (by rw[z5] at hPB; omega)
 have hne:¬ P=0:=by omega
 have u2:IntKind.u64.wrap ((p:Int)/(P:Int))=((p/P:Nat):Int):=by
  rw[← Int.natCast_ediv]; exact w64 (Nat.lt_of_le_of_lt (Nat.div_le_self _ _) (by rw[z5] at hpB; omega))
 obtain ⟨z,hz⟩:∃ z,p/P=z:=⟨_,rfl⟩
 rw[hz] at u2
 rw[hz]
 have u3:(z:Int).tmod 2=((z%2:Nat):Int):=by
  rw[show (2:Int)=((2:Nat):Int) from rfl,← Int.ofNat_tmod]
 clear hz hPe
 refine zC acD (by simp) ?_
 simp[Lv,vD,q1]
 refine za d1 (by simp[f1]) (by simp) ?_
 simp[vD,rL,vE,q2,hmin,u1,hne,u2,u3,Ku]
def bl (x:Nat):Nat:=if x=0 then 0 else Nat.log2 x+1
theorem AZ (x:Nat):x<2^bl x:=by
 unfold bl
 split
 ·subst x; decide
 ·exact Nat.lt_log2_self
theorem ac0 {x:Nat} (h:0<bl x):x/2^(bl x-1)%2=1:=by
 unfold bl at *
 split at h
 ·exact absurd h (Nat.lt_irrefl _)
 ·rename_i h0
  rw[if_neg h0,Nat.add_sub_cancel]
  have h1:=Nat.log2_self_le h0
  have h2:x<2^(Nat.log2 x+1):=Nat.lt_log2_self
  have h3:x/2^Nat.log2 x=1:=by
   rw[Nat.div_eq_iff (Nat.pow_pos (by omega))]
   rw[Nat.pow_succ] at h2
   omega
  rw[h3]
theorem KP {x n:Nat} (h:x<2^n):bl x≤n:=by
 unfold bl
 split
 ·omega
 ·rename_i h0
  exact (Nat.log2_lt h0).2 h
def stB (m:Am.Mode) (a:List Nat) (k:Nat):St:={env:=[(0,nl m a),(3,iv ((32*a.length-k:Nat):Int))],sto:=[]}
theorem QQ {m:Am.Mode} {a:List Nat} (ha:ok a) (hn:a.length<137438953472) (f1:stm m=m):zd Tryz.prog dr [nl m a] (iv (bl (val a))):=by
 refine zC AR (by simp) ?_
 have hlt:val a<2^(32*a.length):=by rw[← ln]; exact vh ha
 have hle:=KP hlt
 have w0:IntKind.i64.wrap (32*(a.length:Int))=((32*a.length:Nat):Int):=by rw[wrap64]<;>omega
 simp[QZ,w0]
 refine zl (stB m a) (fun _=>True) (32*a.length-bl (val a)) (by simp[stB]) trivial (fun k hk _=>?_) (fun _=>?_)
 ·obtain ⟨j,hj⟩:∃ j,32*a.length-k=j+1:=⟨32*a.length-k-1,by omega⟩
  have hj2:32*a.length-(k+1)=j:=by omega
  have hb:=TP (m:=m) (i:=j) ha (by omega) (by omega) f1
  have hz:val a/2^j%2=0:=by
   rw[Nat.div_eq_of_lt]
   exact Nat.lt_of_lt_of_le (AZ _) (Nat.pow_le_pow_right (by omega) (by omega))
  rw[hz] at hb
  have hst:stB m a (k+1)={env:=[(0,nl m a),(3,iv j)],sto:=[]}:=by rw[stB,hj2]
  have hst0:stB m a k={env:=[(0,nl m a),(3,iv ((j:Int)+1))],sto:=[]}:=by rw[stB,hj]; rfl
  have w1:IntKind.i64.wrap (j:Int)=(j:Int):=by rw[wrap64]<;>omega
  have p1:(0:Int)<(j:Int)+1:=by omega
  rw[hst0]
  simp[m9,p1,w1]
  refine za hb (by simp[f1]) (by simp) ?_
  simp[w1,hst]
 ·have e:32*a.length-(32*a.length-bl (val a))=bl (val a):=by omega
  have ht:=fun h=>ac0 (x:=val a) h
  have hb:=fun i h=>TP (m:=m) (i:=i) ha (by omega) h f1
  rw[stB,e]
  generalize bl (val a)=L at *
  rcases L with _ | j
  ·simp[m9,f4,Xs]
  ·have hb:=hb j (by omega)
   have ht:=ht (by omega)
   rw[Nat.add_sub_cancel] at ht
   rw[ht] at hb
   have w1:IntKind.i64.wrap (j:Int)=(j:Int):=by rw[wrap64]<;>omega
   have p1:(0:Int)<(j:Int)+1:=by omega
   simp[m9,p1,w1]
   refine za hb (by simp[f1]) (by simp) ?_
   simp[f4,Xs]
theorem Jl {Y r:Nat} (hr:r<32):(Y%B+Y/B%B*B)/2^r%B=Y/2^r%B:=by
 have h1:Y%B+Y/B%B*B=Y%(2^r*2^(64-r)):=by
  have:2^r*2^(64-r)=B*B:=by
   rw[← Nat.pow_add,Nat.add_sub_cancel' (by omega)]; rfl
  rw[this,Nat.mod_mul,Nat.mul_comm]
 rw[h1,Nat.mod_mul_right_div_self]
 refine Nat.mod_mod_of_dvd _ ⟨2^(32-r),?_⟩
 rw[show 64-r=32+(32-r) by omega,Nat.pow_add]; rfl
theorem Jk {x k t:Nat}:x/2^k/B^t%B=(x/B^(k/32+t)%B+x/B^(k/32+t+1)%B*B)/2^(k%32)%B:=by
 have h1:x/B^(k/32+t+1)=x/B^(k/32+t)/B:=by rw[Nat.pow_succ,Nat.div_div_eq_div_mul]
 rw[h1,Jl (Nat.mod_lt _ (by omega)),Nat.div_div_eq_div_mul,Nat.div_div_eq_div_mul]
 have:2^k*B^t=B^(k/32+t)*2^(k%32):=by
  rw[ln,ln,← Nat.pow_add,← Nat.pow_add]; congr 1; omega
 rw[this]
def stH (m:Am.Mode) (a:List Nat) (k t:Nat):St :=
 {env:=[(0,nl m a),(1,iv k),(5,wk 1 34 (zE (zt t (val a/2^k)))),(6,iv ((k/32+t:Nat):Int))],sto:=[]}
theorem CW {m:Am.Mode} {a:List Nat} {k:Nat} (ha:ok a) (hn:a.length<137438953472) (hk:k<35184372088832) (f1:stm m=m):zd Tryz.prog YS [nl m a,iv k] (nD (val a/2^k)):=by
 refine zC AS (by simp) ?_
 have q0:IntKind.i64.wrap ((k:Int)/32)=((k/32:Nat):Int):=by rw[wrap64]<;>omega
 have q2:(k:Int).tmod 32=((k%32:Nat):Int):=by
  rw[show (32:Int)=((32:Nat):Int) from rfl,← Int.ofNat_tmod]
 simp[Q0,vD,q0]
 refine zl (stH m a k) (fun _=>True) (a.length-k/32) (by simp[stH,zt]) trivial (fun t ht _=>?_) (fun _=>?_)
 ·have d1:=vP (m:=m) (i:=k/32+t) ha (by omega) (by omega)
  have d2:=vP (m:=m) (i:=k/32+t+1) ha (by omega) (by omega)
  rw[t8 ha] at d1 d2
  have hd:=Jk (x:=val a) (k:=k) (t:=t)
  have hsucc:=t0 (n:=t) (x:=val a/2^k)
  have hdl:=zy (n:=t) (x:=val a/2^k)
  rw[hd] at hsucc
  have hst:stH m a k (t+1)={env:=[(0,nl m a),(1,iv k),(5,wk 1 34 (zE (zt (t+1) (val a/2^k)))),(6,iv ((k/32+t:Nat)+1:Int))],sto:=[]}:=by
   rw[stH]; rfl
  rw[hsucc] at hst
  rw[stH]
  clear hd hsucc
  have hpB:val a/B^(k/32+t)%B<B:=Nat.mod_lt _ zU
  have hqB:val a/B^(k/32+t+1)%B<B:=Nat.mod_lt _ zU
  generalize val a/B^(k/32+t)%B=p at *
  generalize val a/B^(k/32+t+1)%B=q at *
  generalize zt t (val a/2^k)=D at *
  have hr:k%32<32:=Nat.mod_lt _ (by omega)
  obtain ⟨i,hi⟩:∃ i,k/32+t=i:=⟨_,rfl⟩
  obtain ⟨r,hr2⟩:∃ r,k%32=r:=⟨_,rfl⟩
  have hil:i<a.length:=by omega
  rw[hi] at d1 d2 hst
  rw[hi]
  rw[hr2] at hst q2 hr
  have htb:t<a.length:=by omega
  clear hi hr2 ht q0
  have hP:0<2^r:=Nat.pow_pos (by omega)
  have hPB:=ge hr
  have hmin:min r IntKind.u64.bits=r:=by
   have:IntKind.u64.bits=64:=rfl
   omega
  obtain ⟨P,hPe⟩:∃ P,2^r=P:=⟨_,rfl⟩
  rw[hPe] at hP hPB hst
  have u1:IntKind.u64.wrap ((2:Int)^r)=(P:Int):=by
   rw[show (2:Int)^r=((2^r:Nat):Int) by simp,hPe]; exact w64 (by rw[z5] at hPB; omega)
  have hne:¬ P=0:=by omega
  clear hPe
  have hs:=TF hqB hpB
  obtain ⟨s,hse⟩:∃ s,p+q*B=s:=⟨_,rfl⟩
  have hsB:s<18446744073709551616:=by rw[← hse,Nat.add_comm]; exact hs
  rw[hse] at hst
  obtain ⟨qb,hqb⟩:∃ qb,q*B=qb:=⟨_,rfl⟩
  rw[hqb] at hse
  have w1:IntKind.u64.wrap ((q:Int)*4294967296)=(qb:Int):=by
   rw[show (q:Int)*4294967296=((q*B:Nat):Int) by rw[z5]; simp,hqb]; exact w64 (by omega)
  have w2:IntKind.u64.wrap ((p:Int)+qb)=(s:Int):=by rw[vJ]<;>omega
  have u2:IntKind.u64.wrap ((s:Int)/(P:Int))=((s/P:Nat):Int):=by
   rw[← Int.natCast_ediv]; exact w64 (Nat.lt_of_le_of_lt (Nat.div_le_self _ _) hsB)
  obtain ⟨z,hz⟩:∃ z,s/P=z:=⟨_,rfl⟩
  rw[hz] at u2 hst
  obtain ⟨d,hd⟩:∃ d,z%B=d:=⟨_,rfl⟩
  rw[hd] at hst
  have u3:(z:Int).tmod 4294967296=(d:Int):=by
   rw[← hd,z5,show (4294967296:Int)=((4294967296:Nat):Int) from rfl,← Int.ofNat_tmod]
  have hdB:d<B:=by rw[← hd]; exact Nat.mod_lt _ zU
  clear hz hd hqb hs
  rw[z5] at hdB
  have w3:IntKind.u32.wrap (d:Int)=d:=IntWalk.u32_in _ (by omega)
  have w4:IntKind.i64.wrap ((i:Int)+1)=(i:Int)+1:=wrap64 (by omega) (by omega)
  have hil':(i:Int)<(a.length:Int):=by omega
  simp[f5,hil']
  refine za d1 (by simp[f1]) (by simp) ?_
  simp[w4]
  refine za d2 (by simp[f1]) (by simp) ?_
  simp[vD,rL,vE,w1,w2,q2,hmin,u1,hne,u2,u3,w3,w4,hst,jX f1]
  omega
 ·have hlt:val a/2^k<B^(a.length-k/32):=by
   apply Nat.div_lt_of_lt_mul
   have h1:=vh ha
   have h2:B^a.length≤2^k*B^(a.length-k/32):=by
    rw[ln,ln,← Nat.pow_add]
    exact Nat.pow_le_pow_right (by omega) (by omega)
   exact Nat.lt_of_lt_of_le h1 h2
  have kt:=pX (m:=.plain) (a:=zt (a.length-k/32) (val a/2^k)) yu (by rw[zy]; omega)
  rw[yh hlt] at kt
  rw[stH]
  generalize val a/2^k=y at *
  have hge:¬ ((k/32+(a.length-k/32):Nat):Int)<(a.length:Int):=by omega
  generalize k/32+(a.length-k/32)=i at *
  generalize a.length-k/32=n at *
  have hge':¬ i<a.length:=by omega
  simp[f5,hge',Yr,Np]
  refine za (d8 kt Xa) (by simp) (.inl rfl) ?_
  simp
theorem Ca {x y j:Nat} (hy:0<y) :
  let r:=2*(x/2^(j+1)%y)+x/2^j%2
  (r<y→x/2^j/y=2*(x/2^(j+1)/y)∧x/2^j%y=r)∧(y≤r→x/2^j/y=2*(x/2^(j+1)/y)+1∧x/2^j%y=r-y):=by
 intro r
 have hX:x/2^j=2*(x/2^(j+1))+x/2^j%2:=by
  have:x/2^(j+1)=x/2^j/2:=by rw[Nat.pow_succ,Nat.div_div_eq_div_mul]
  rw[this]; omega
 have hb:x/2^j%2<2:=Nat.mod_lt _ (by omega)
 have hd:=Nat.div_add_mod (x/2^(j+1)) y
 have hm:=Nat.mod_lt (x/2^(j+1)) hy
 have hr:r=2*(x/2^(j+1)%y)+x/2^j%2:=rfl
 generalize x/2^j%2=b at *
 generalize x/2^(j+1)/y=q at *
 generalize x/2^(j+1)%y=m at *
 generalize x/2^(j+1)=X at *
 generalize x/2^j=Z at *
 have hZ:Z=y*(2*q)+r:=by
  rw[show y*(2*q)=2*(y*q) by rw[Nat.mul_left_comm]]; omega
 clear hX hd
 constructor
 ·intro h
  rw[hZ]
  exact ⟨by rw[Nat.mul_add_div hy,Nat.div_eq_of_lt h,Nat.add_zero],by rw[Nat.mul_add_mod,Nat.mod_eq_of_lt h]⟩
 ·intro h
  have h2:Z=y*(2*q+1)+(r-y):=by rw[Nat.mul_add,Nat.mul_one]; omega
  have h3:r-y<y:=by omega
  rw[h2]
  exact ⟨by rw[Nat.mul_add_div hy,Nat.div_eq_of_lt h3,Nat.add_zero],by rw[Nat.mul_add_mod,Nat.mod_eq_of_lt h3]⟩
theorem GJ {x y:Nat} (hy:0<y):x/2^(bl x+1-bl y)<y∧0<bl y:=by
 have h1:=AZ x
 have hne:y≠0:=by omega
 have hb:bl y=Nat.log2 y+1:=by unfold bl; rw[if_neg hne]
 have h2:=Nat.log2_self_le hne
 refine ⟨Nat.lt_of_lt_of_le ?_ h2,by omega⟩
 apply Nat.div_lt_of_lt_mul
 rw[← Nat.pow_add]
 exact Nat.lt_of_lt_of_le h1 (Nat.pow_le_pow_right (by omega) (by omega))
def qA (t Q:Nat):AV:=if t=0 then .list 0 .full [] else nD Q
def SD (m1 m2:Am.Mode) (a c:List Nat) (k t:Nat):St :=
 {env:=[(0,nl m1 a),(1,nl m2 c),(8,qA t (val a/2^(k-t)/val c)),(9,nD (val a/2^(k-t)%val c)),(10,iv ((k:Int)-1-t))],sto:=[]}
theorem dO {m1 m2:Am.Mode} {a c:List Nat} (ha:ok a) (hc:ok c) (hna:a.length<68719476736) (hnc:c.length<68719476736) (f1:stm m1=m1) (f2:stm m2=m2) (hD:val c≠0) :
  zd Tryz.prog nC [nl m1 a,nl m2 c] (dP (val a) (val c)):=by
 have hy:0<val c:=by omega
 obtain ⟨s1,s2⟩:=GJ (x:=val a) hy
 have b1:=QQ ha (by omega) f1
 have b2:=QQ hc (by omega) f2
 have hl1:bl (val a)≤32*a.length:=KP (by rw[← ln]; exact vh ha)
 have hl2:bl (val c)≤32*c.length:=KP (by rw[← ln]; exact vh hc)
 obtain ⟨k,hk⟩:∃ k,bl (val a)+1-bl (val c)=k:=⟨_,rfl⟩
 have hk2:k≤32*a.length:=by omega
 have hh:=CW (k:=k) ha (by omega) (by omega) f1
 have hcl:¬ c.length=0:=fun h=>by
  rw[List.length_eq_zero_iff] at h
  subst h
  exact hD rfl
 have hcn:¬ c=[]:=fun h=>hcl (by rw[h]; rfl)
 rw[hk] at s1
 have m0:max (1:Int) (bl (val c):Int)=(bl (val c):Int):=by omega
 have w0:IntKind.i64.wrap ((bl (val a):Int)-(bl (val c):Int))=(bl (val a):Int)-(bl (val c):Int):=by rw[wrap64]<;>omega
 have w1:IntKind.i64.wrap ((bl (val a):Int)-(bl (val c):Int)+1)=(bl (val a):Int)-(bl (val c):Int)+1:=by rw[wrap64]<;>omega
 have m1':max (0:Int) ((bl (val a):Int)-(bl (val c):Int)+1)=(k:Int):=by omega
 have w2:IntKind.i64.wrap ((k:Int)-1)=(k:Int)-1:=by rw[wrap64]<;>omega
 refine wR Gs (by simp) ?_
 simp[Ul,hcl]
 refine za b1 (by simp[f1]) (by simp) ?_
 simp
 refine za b2 (by simp[f2]) (by simp) ?_
 simp[m0,w0,w1,m1']
 refine za hh (by simp[f1]) (by simp) ?_
 simp[w2]
 have r0:val a/2^k%val c=val a/2^k:=Nat.mod_eq_of_lt s1
 refine zl (SD m1 m2 a c k) (fun _=>True) k (by simp[SD,qA,r0]) trivial (fun t ht _=>?_) (fun _=>?_)
 ·obtain ⟨j,hj⟩:∃ j,k-1-t=j:=⟨_,rfl⟩
  have hj1:k-t=j+1:=by omega
  have hj2:k-(t+1)=j:=by omega
  have hjz:(k:Int)-1-t=(j:Int):=by omega
  obtain ⟨p1,p2⟩:=Ca (x:=val a) (j:=j) hy
  have hb:=TP (m:=m1) (i:=j) ha (by omega) (by omega) f1
  have hQ:val a/2^(j+1)/val c<B^a.length:=Nat.lt_of_le_of_lt (Nat.le_trans (Nat.div_le_self _ _) (Nat.div_le_self _ _)) (vh ha)
  have hR:val a/2^(j+1)%val c<B^c.length:=Nat.lt_trans (Nat.mod_lt _ hy) (vh hc)
  have hbt:val a/2^j%2<2:=Nat.mod_lt _ (by omega)
  have hst:SD m1 m2 a c k (t+1)={env:=[(0,nl m1 a),(1,nl m2 c),(8,nD (val a/2^j/val c)),(9,nD (val a/2^j%val c)),(10,iv ((j:Int)-1))],sto:=[]}:=by
   rw[SD,hj2,qA,if_neg (by omega),show (k:Int)-1-((t+1:Nat):Int)=(j:Int)-1 by omega]
  rw[SD,hj1,hjz]
  have h2:∀ {z n:Nat},z<B^n→z+z<B^(n+1)∧z+z+1<B^(n+1):=fun {z n} h=>by
   rw[Nat.pow_succ]
   have:B^n*2≤B^n*B:=Nat.mul_le_mul_left _ (by decide)
   omega
  have q0:t=0→val a/2^(j+1)/val c=0:=fun h=>by
   have:j+1=k:=by omega
   rw[this]; exact Nat.div_eq_of_lt s1
  generalize val a/2^(j+1)/val c=Q at *
  generalize val a/2^(j+1)%val c=R at *
  generalize val a/2^j%2=d at *
  have lQ:=zG.2 hQ
  have lR:=zG.2 hR
  have lQQ:=zG.2 (h2 hQ).1
  have lRR:=zG.2 (h2 hR).1
  have lRR1:(zf (R+R+d)).length≤c.length+1:=zG.2 (by have:=h2 hR; omega)
  have ld:(zf d).length≤1:=zG.2 (by rw[Nat.pow_one,z5]; omega)
  have kq:=je (m1:=.plain) (m2:=.plain) (zw Q) (zw Q) (by omega) (by omega) rfl rfl
  have kr:=je (m1:=.plain) (m2:=.plain) (zw R) (zw R) (by omega) (by omega) rfl rfl
  have kf:=j4 (x:=d) (by omega)
  have kr2:=je (m1:=.plain) (m2:=.plain) (zw (R+R)) (zw d) (by omega) (by omega) rfl rfl
  have kc:=LB (m1:=.plain) (m2:=m2) (zw (R+R+d)) hc (by omega) (by omega) rfl f2
  have ks:=ST (m1:=.plain) (m2:=m2) (zw (R+R+d)) hc (by omega) (by omega) rfl f2
  have kf1:=j4 (x:=1) (by omega)
  have l1:(zf 1).length≤1:=zG.2 (by decide)
  have kq1:=je (m1:=.plain) (m2:=.plain) (zw (Q+Q)) (zw 1) (by omega) (by omega) rfl rfl
  simp only[zI] at kq kr kr2 kc ks kq1
  have w3:IntKind.i64.wrap ((j:Int)-1)=(j:Int)-1:=by rw[wrap64]<;>omega
  have kq':zd Tryz.prog qg [qA t Q,qA t Q] (nD (Q+Q))∧qA t Q=(if t=0 then .list 0 .full [] else nD Q):=by
   refine ⟨?_,rfl⟩
   unfold qA
   split
   ·rename_i h0
    have hq0:=q0 h0
    subst hq0
    exact aC (j5 kq (sj (sz:=0))) (sj (sz:=0))
   ·exact kq
  have hsn:wB (fun _=>none) (qA t Q)=some (qA t Q):=by unfold qA; split<;>simp
  have hrf:([qA t Q,qA t Q]:List AV).any rP=false:=by unfold qA; split<;>simp
  simp[ku]
  refine za kq'.1 (by simp[hsn]) (.inl hrf) ?_
  simp
  refine za kr (by simp) (by simp) ?_
  simp
  refine za hb (by simp[f1]) (by simp) ?_
  simp
  refine za kf (by simp) (by simp) ?_
  simp
  refine za kr2 (by simp) (by simp) ?_
  simp
  refine za kc (by simp[f2]) (by simp) ?_
  have e2:R+R+d=2*R+d:=by omega
  have e3:Q+Q=2*Q:=by omega
  by_cases hlt:R+R+d<val c
  ·have hcm:¬ (0:Int)≤yO (R+R+d) (val c):=by simp[yO,hlt]
   obtain ⟨g1,g2⟩:=p1 (by omega)
   rw[g1,g2,← e2,← e3] at hst
   simp[hcm,w3,hst]
  ·have hcm:(0:Int)≤yO (R+R+d) (val c):=by simp only[yO,if_neg hlt]; split<;>omega
   obtain ⟨g1,g2⟩:=p2 (by omega)
   rw[g1,g2,← e2,← e3] at hst
   simp[hcm]
   refine za ks (by simp[f2]) (by simp) ?_
   simp
   refine za kf1 (by simp) (by simp) ?_
   simp
   refine za kq1 (by simp) (by simp) ?_
   simp[w3,hst]
 ·have hkk:¬ (k:Int)≤(k:Int)-1:=by omega
  have e0:¬ (0:Int)≤(k:Int)-1-k:=by omega
  simp[ku,SD,hkk,c9,U4]
  rcases Nat.eq_zero_or_pos k with h0 | h0
  ·subst h0
   have hz:val a/val c=0:=by rw[Nat.pow_zero,Nat.div_one] at s1; exact Nat.div_eq_of_lt s1
   simp[qA]
   rw[dP,hz]
   exact PH sj AV.imp.refl AV.imp.refl
  ·have hk0:¬ k=0:=by omega
   simp[qA,hk0]
   exact AV.imp.refl
theorem LN {A D:Nat} (hna:(zf A).length<68719476736) (hnc:(zf D).length<68719476736) :
  zd Tryz.prog eD [nD A,nD D] (nD (Nat.gcd A D)):=by
 obtain ⟨N,h1,h2⟩:=Fh D A
 obtain ⟨L,hL⟩:∃ L,L=68719476735:=⟨_,rfl⟩
 have hL1:A<B^L:=zG.1 (by omega)
 have hL2:D<B^L:=zG.1 (by omega)
 have hb:=fun k=>K7 k A D hL1 hL2
 have hlen:∀ x,x<B^L→(zf x).length<68719476736:=fun x hx=>Nat.lt_of_le_of_lt (zG.2 hx) (by omega)
 have hg:=hlen _ (show Nat.gcd A D<B^L by have:=(hb N).1; rw[h2] at this; exact this)
 refine zC acF (by simp) ?_
 simp[Lx]
 refine zl (fun k=>stG (eu A D k)) (fun _=>True) N (by simp[stG,eu]) trivial (fun k hk _=>?_) (fun _=>?_)
 ·have hne:=h1 k hk
  obtain ⟨b1,b2⟩:=hb k
  have b1':=hlen _ b1
  have b2':=hlen _ b2
  have hs:=T3 k A D
  obtain ⟨x,hx⟩:∃ x,(eu A D k).1=x:=⟨_,rfl⟩
  obtain ⟨y,hy⟩:∃ y,(eu A D k).2=y:=⟨_,rfl⟩
  rw[hx,hy] at hs
  rw[hx] at b1'
  rw[hy] at b2' hne
  have kd:=dO (m1:=.plain) (m2:=.plain) (zw x) (zw y) b1' b2' rfl rfl (by rw[zI]; exact hne)
  rw[zI,zI] at kd
  have hl0:0<(zf y).length:=by
   rcases Nat.eq_zero_or_pos (zf y).length with h | h
   ·rw[List.length_eq_zero_iff,yB] at h; exact absurd h hne
   ·exact h
  simp[dI,stG,hl0,hx,hy]
  refine za kd (by simp) (by simp) ?_
  simp[hs]
 ·simp only[h2]
  have kt:=pX (m:=.plain) (zw (Nat.gcd A D)) (by omega)
  rw[zI] at kt
  simp[dI,Um,Kv,stG,yf]
  refine za kt (by simp) (by simp) ?_
  simp
theorem j7 {neg:Bool} {N D:Nat} (hN:(zf N).length<68719476736) (hD:(zf D).length<68719476736) (h0:D≠0) :
  zd Tryz.prog pF [bv neg,nD N,nD D] (.tuple [xj neg N D,iv 0]):=by
 obtain ⟨g0,g1,g2⟩:=Pz (N:=N) h0
 have kg:=LN hN hD
 have hgl:(zf (Nat.gcd N D)).length<68719476736:=by
  have h1:D<B^(zf D).length:=zG.1 (Nat.le_refl _)
  exact Nat.lt_of_le_of_lt (zG.2 (Nat.lt_of_le_of_lt g2 h1)) hD
 have hl0:¬ (zf D).length=0:=by rw[List.length_eq_zero_iff,yB]; exact h0
 have hl1:¬ zf D=[]:=by rw[yB]; exact h0
 unfold xj
 have hz:(zf (N/Nat.gcd N D)).length=0↔N=0:=by rw[List.length_eq_zero_iff,yB]; exact g1
 generalize Nat.gcd N D=g at *
 have kn:=dO (m1:=.plain) (m2:=.plain) (zw N) (zw g) (by omega) (by omega) rfl rfl (by rw[zI]; exact g0)
 have kd:=dO (m1:=.plain) (m2:=.plain) (zw D) (zw g) (by omega) (by omega) rfl rfl (by rw[zI]; exact g0)
 simp only[zI] at kn kd
 refine zC AO (by simp) ?_
 simp[QY,hl0]
 refine za kg (by simp) (by simp) ?_
 simp
 refine za kn (by simp) (by simp) ?_
 simp
 refine za kd (by simp) (by simp) ?_
 cases neg
 ·simp[cw]
 ·by_cases hN0:N=0
  ·subst hN0
   simp[cw,yf]
  ·have:0<(zf N).length:=by
    rcases Nat.eq_zero_or_pos (zf N).length with h | h
    ·rw[List.length_eq_zero_iff,yB] at h; exact absurd h hN0
    ·exact h
   simp[cw,this,hN0]
theorem Tb {n:Int} (h1:-9223372036854775808≤n) (h2:n<9223372036854775808):zd Tryz.prog dq [iv n] (nD n.natAbs):=by
 obtain ⟨x,hx⟩:∃ x,n.natAbs=x:=⟨_,rfl⟩
 have hxl:x<18446744073709551616:=by omega
 have k:=j4 (x:=x) hxl
 rw[hx]
 refine zC AQ (by simp) ?_
 by_cases h:n<0
 ·have w1:IntKind.i64.wrap (n+1)=n+1:=by rw[wrap64]<;>omega
  have w2:IntKind.i64.wrap (-(n+1))=(x:Int)-1:=by rw[wrap64]<;>omega
  have w2':IntKind.i64.wrap (-1+-n)=(x:Int)-1:=by rw[wrap64]<;>omega
  have w3:IntKind.u64.wrap ((x:Int)-1)=(x:Int)-1:=by rw[vJ]<;>omega
  have w4:IntKind.u64.wrap (x:Int)=x:=w64 hxl
  simp[YY,h,w1,P4,w2,w3,w4]
  refine za k (by simp) (by simp) ?_
  simp[Xr]
 ·have w4:IntKind.u64.wrap n=(x:Int):=by rw[vJ]<;>omega
  simp[YY,h,w4]
  refine za k (by simp) (by simp) ?_
  simp[Xr]
theorem abq {n d:Int} (h1:-9223372036854775808≤n) (h2:n<9223372036854775808) (h3:-9223372036854775808≤d) (h4:d<9223372036854775808) (h0:d≠0) :
  zd Tryz.prog TL [iv n,iv d] (.tuple [xj (decide (n<0) != decide (d<0)) n.natAbs d.natAbs,iv 0]):=by
 have k1:=Tb h1 h2
 have k2:=Tb h3 h4
 have l1:=qn (x:=n.natAbs) (by omega)
 have l2:=qn (x:=d.natAbs) (by omega)
 have k3:=j7 (neg:=decide (n<0) != decide (d<0)) (N:=n.natAbs) (D:=d.natAbs) (by omega) (by omega) (by omega)
 unfold xj at *
 generalize n.natAbs/Nat.gcd n.natAbs d.natAbs=p at *
 generalize d.natAbs/Nat.gcd n.natAbs d.natAbs=q at *
 generalize hb:(decide (n<0) != decide (d<0))=b at *
 refine zC acA (by simp) ?_
 have hu:Tryz.prog.underlying uz=some .bool:=by first | exact un_T_bool | rfl | kernel_rfl
 have hb':(!(decide (n<0) == decide (d<0)))=b:=hb
 simp[Ls,yG hu]
 rw[hb']
 refine za k1 (by simp) (by simp) ?_
 simp
 refine za k2 (by simp) (by simp) ?_
 simp
 refine za k3 (by simp) (by simp) ?_
 simp[Kq]
theorem Mx {n:Int} (h1:-9223372036854775808≤n) (h2:n<9223372036854775808):zd Tryz.prog yt [iv n] (xj (decide (n<0)) n.natAbs 1):=by
 have k:=abq (n:=n) (d:=1) h1 h2 (by decide) (by decide) (by decide)
 have e:(decide (n<0) != decide ((1:Int)<0))=decide (n<0):=by simp
 rw[e,show (1:Int).natAbs=1 from rfl] at k
 unfold xj at *
 generalize n.natAbs/Nat.gcd n.natAbs 1=p at *
 generalize 1/Nat.gcd n.natAbs 1=q at *
 refine zC M4 (by simp) ?_
 simp[Yq]
 refine za k (by simp) (by simp) ?_
 simp[YI]
theorem F1 {s:Bool} {N D:Nat} (hN:(zf N).length<68719476736) (hD:(zf D).length<68719476736) (h0:D≠0):zd Tryz.prog qc [frA s N D] (xj (!s) N D):=by
 have k:=qw (neg:=!s) hN hD h0
 unfold xj at *
 generalize N/Nat.gcd N D=p at *
 generalize D/Nat.gcd N D=q at *
 refine zC aco (by simp) ?_
 simp[Lj]
 refine za k (by simp) (by simp) ?_
 simp[Kj]
theorem vr {x y n m:Nat} (hx:(zf x).length≤n) (hy:(zf y).length≤m):(zf (x*y)).length≤n+m:=zG.2 (by
 rw[Nat.pow_add]; exact Nat.mul_lt_mul_of_lt_of_lt (zG.1 hx) (zG.1 hy))
theorem Ju {s t:Bool} {N D M E:Nat} (hN:(zf N).length<17179869184) (hD:(zf D).length<17179869184) (hM:(zf M).length<17179869184) (hE:(zf E).length<17179869184) (h0:D≠0) (h1:E≠0) :
  zd Tryz.prog vn [frA s N D,frA t M E] (xj (!(s == t)) (N*M) (D*E)):=by
 have l1:=vr (Nat.le_refl (zf N).length) (Nat.le_refl (zf M).length)
 have l2:=vr (Nat.le_refl (zf D).length) (Nat.le_refl (zf E).length)
 have h2:D*E≠0:=Nat.mul_ne_zero h0 h1
 have k1:=rT (m1:=.plain) (m2:=.plain) (zw N) (zw M) (by omega) (by omega) (by omega) rfl rfl
 have k2:=rT (m1:=.plain) (m2:=.plain) (zw D) (zw E) (by omega) (by omega) (by omega) rfl rfl
 simp only[zI] at k1 k2
 have k:=qw (neg:=!(s == t)) (N:=N*M) (D:=D*E) (by omega) (by omega) h2
 unfold xj at *
 generalize N*M/Nat.gcd (N*M) (D*E)=p at *
 generalize D*E/Nat.gcd (N*M) (D*E)=q at *
 refine zC acn (by simp) ?_
 simp[Li,yG wS]
 refine za k1 (by simp) (by simp) ?_
 simp
 refine za k2 (by simp) (by simp) ?_
 simp
 refine za k (by simp) (by simp) ?_
 simp[Ki]
theorem Yt {s t:Bool} {N D M E:Nat} (hN:(zf N).length<17179869184) (hD:(zf D).length<17179869184) (hM:(zf M).length<17179869184) (hE:(zf E).length<17179869184) :
  zd Tryz.prog gB [frA s N D,frA t M E] (.tuple [nD (N*E),nD (M*D)]):=by
 have k1:=rT (m1:=.plain) (m2:=.plain) (zw N) (zw E) (by omega) (by omega) (by omega) rfl rfl
 have k2:=rT (m1:=.plain) (m2:=.plain) (zw M) (zw D) (by omega) (by omega) (by omega) rfl rfl
 simp only[zI] at k1 k2
 refine zC Dz (by simp) ?_
 simp[S5]
 refine za k1 (by simp) (by simp) ?_
 simp
 refine za k2 (by simp) (by simp) ?_
 simp[RH]
end Go.Proofs.YtfmcplfbnkoglaaGreat
