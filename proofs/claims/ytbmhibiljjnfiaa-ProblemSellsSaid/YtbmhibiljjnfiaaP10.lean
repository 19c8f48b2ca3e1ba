/- What the proof rests on, part 10: QGp QG LA LB QT LD LE LI LJ LK. -/
import Derived.Test.YtbmhibiljjnfiaaP9
set_option maxRecDepth 100000
set_option maxHeartbeats 4000000
namespace Go.Proofs.Ytbmhibiljjnfiaa
open Go Go.Am Go.Pb
noncomputable def qI (l:List Int):List (List AV):=l.map fun n:Int=>fr (n:Rat)
noncomputable def LO (P:Pb) (fx:List Int) (r:Nat):List AV:=plc 3 (qI (P.relC fx r))::fr (P.relB fx r:Int)
noncomputable def qR (P:Pb) (fx:List Int) (k:Nat):List (List AV):=(List.range k).map (LO P fx)
noncomputable def Nz (P:Pb) (fx:List Int):AV:=.agg [.list 3 .plain (qI (P.relG fx)),.list 4 .plain ((List.range P.rows).map fun r=>(.list 3 .plain (qI (P.relC fx r)):AV)::fr (P.relB fx r:Int))]
section
variable {P:Pb} {r n k:Nat} {o:Of} {L:List Of} {fx:List Int}
@[simp] theorem XB {l:List Int}:(qI l).length=l.length:=by simp[qI]
@[simp] theorem aad:qI []=[]:=rfl
theorem Po {l:List Int} {k:Nat} (h:k<l.length):qI (l.take k)++[fr ((l[k]:Int):Rat)]=qI (l.take (k+1)):=by
 unfold qI
 rw[sC (o:=l[k]) (by simp[h]),List.map_append]
 rfl
@[simp] theorem Rp:(qR P fx k).length=k:=by simp[qR]
@[simp] theorem BW:qR P fx 0=[]:=rfl
theorem LN:qR P fx k++[LO P fx k]=qR P fx (k+1):=by unfold qR; rw[List.range_succ,List.map_append]; rfl
@[simp] theorem CH:zx ((oC o).drop 7) 0 none=some (iv o.v):=by rw[uU]; rfl
@[simp] theorem BZ {q:Rat} {a b c d:AV}:splice [a,b,c,d] 1 (fr q)=a::fr q:=by unfold fr; simp[splice,-a7]
@[simp] theorem BY {q:Rat} {x a b c d:AV}:splice [a,b,c,d] 0 (x::fr q)=x::fr q:=by unfold fr; simp[splice,-a7]
@[simp] theorem B0 {q:Rat} {x y:AV}:splice (x::fr q) 0 [y]=y::fr q:=by unfold fr; simp[splice,-a7]
@[simp] theorem BO {q:Rat} {x:AV} (h:rf x=true):zx (x::fr q) 0 (some 4)=some (.agg (strip x::fr q)):=by
 rw[zj (by simp) (by rw[List.all_cons,h,Fl]; rfl),List.map_cons,SF]
@[simp] theorem BJ {x:AV} {l:List AV}:zx (x::l) 0 none=some x:=rfl
@[simp] theorem BK {x y:AV} {l:List AV}:zx (x::y::l) 1 none=some y:=rfl
@[simp] theorem SO {l:List Nat}:(ints l).length=l.length:=by simp[ints]
@[simp] theorem Ag:ints []=[]:=rfl
theorem JK {l m:List Nat}:clR (ints (l++m))=clR (ints l)++clR (ints m):=by simp[ints,clR]
noncomputable def f6 (P:Pb) (fx:List Int) (k:Nat):St:={env:=[(2,.ptr 2 0),(4,.ptr 4 0),(8,apc 52 1 (clR (ints (mv fx 0 k)))),(9,apc 62 8 (ofR (P.inK fx k))),(36,clA fx),(37,iv fx.length),(38,iv k)],sto:=[(2,.var (pbC P)),(4,.var [zX,zX])]}
noncomputable abbrev xF (fx:List Int):AV:=apc 52 1 (clR (ints (yM fx)))
noncomputable abbrev xI (P:Pb) (fx:List Int):AV:=apc 62 8 (ofR (P.inL fx))
noncomputable def UV (P:Pb) (fx:List Int) (k:Nat):St:={env:=[(2,.ptr 2 0),(4,.ptr 4 0),(8,xF fx),(9,xI P fx),(12,.ptr 12 0),(13,.ptr 13 0),(71,xF fx),(72,iv (yM fx).length),(73,iv k)],sto:=[(2,.var (pbC P)),(4,.var [zX,zX]),(12,.var (pbC P)),(13,.var [apc 87 3 (qI ((P.relG fx).take k)),zX])]}
noncomputable def UY (P:Pb) (fx:List Int) (k:Nat):St:={env:=[(2,.ptr 2 0),(4,.ptr 4 0),(8,xF fx),(9,xI P fx),(12,.ptr 12 0),(13,.ptr 13 0),(91,iv P.rows),(92,iv k)],sto:=[(2,.var (pbC P)),(4,.var [zX,zX]),(12,.var (pbC P)),(13,.var [apc 87 3 (qI (P.relG fx)),apc 139 4 (qR P fx k)])]}
noncomputable def UW (P:Pb) (fx:List Int) (r k:Nat):St:={env:=[(2,.ptr 2 0),(4,.ptr 4 0),(8,xF fx),(9,xI P fx),(12,.ptr 12 0),(13,.ptr 13 0),(91,iv P.rows),(92,iv r),(16,iv r),(17,iv (P.bnd r-th (P.coef r) (P.inL fx) k)),(98,xI P fx),(99,iv (P.inL fx).length),(100,iv k)],sto:=[(2,.var (pbC P)),(4,.var [zX,zX]),(12,.var (pbC P)),(13,.var [apc 87 3 (qI (P.relG fx)),apc 139 4 (qR P fx r)])]}
noncomputable def UX (P:Pb) (fx:List Int) (r k:Nat):St:={env:=[(2,.ptr 2 0),(4,.ptr 4 0),(8,xF fx),(9,xI P fx),(12,.ptr 12 0),(13,.ptr 13 0),(91,iv P.rows),(92,iv r),(16,iv r),(20,.ptr 20 0),(114,xF fx),(115,iv (yM fx).length),(116,iv k)],sto:=[(2,.var (pbC P)),(4,.var [zX,zX]),(12,.var (pbC P)),(13,.var [apc 87 3 (qI (P.relG fx)),apc 139 4 (qR P fx r)]),(20,.var (apc 132 3 (qI ((P.relC fx r).take k))::fr (P.relB fx r:Int)))]}
@[simp] theorem BP {l:List Nat} {k:Nat} {h:k<(ints l).length}:(ints l)[k]=((l[k]'(by simpa using h):Nat):Int):=by simp[ints]
theorem Gs {k:Nat} (h:k<(P.relG fx).length):(P.relG fx)[k]=(P.at ((yM fx)[k]'(by simpa [Pb.relG] using h):Nat)).v:=by simp[Pb.relG]
theorem Gr {k:Nat} (h:k<(P.relC fx r).length):(P.relC fx r)[k]=P.coef r (P.at ((yM fx)[k]'(by simpa [Pb.relC] using h):Nat)):=by simp[Pb.relC]
@[simp] theorem Ro:(P.relG fx).length=(yM fx).length:=by simp[Pb.relG]
@[simp] theorem Rn:(P.relC fx r).length=(yM fx).length:=by simp[Pb.relC]
theorem Gq:AV.imp (.agg [plc 3 (qI (P.relG fx)),plc 4 (qR P fx P.rows)]) (Nz P fx):=by
 refine Uw (zH (uB wX) (zH (uB ?_) vu))
 refine ⟨by simp,fun i x y hx hy=>?_⟩
 have hi:i<P.rows:=by have:=(List.getElem?_eq_some_iff.1 hx).1; simpa using this
 simp[qR,hi] at hx hy
 subst hx hy
 exact zH (uB wX) Tl
end
section
variable {P:Pb} {r n k:Nat} {o:Of} {L:List Of} {fx:List Int}
theorem EI (hn:P.cl.length≤1000) (hk:P.of.length≤1000000) (_hl:fx.length<4611686018427387904) :
  zf Try.prog vc [.agg (pbC P),clA fx] (if P.relE fx=0 then .tuple [Nz P fx,clA (ints (yM fx)),iv 0] else .tuple [.agg [zX,zX],zX,iv (P.relE fx)]):=by
 refine uD fw (by simp) ?_
 simp[nZ]
 refine ze (jA hn hk) (by simp) (by simp) ?_
 by_cases c1:P.chk=0
 ·have hG:=j6 c1
  by_cases c2:fx.length=P.of.length
  ·have c2':(fx.length:Int)=P.of.length:=by omega
   simp[c1,c2']
   refine zz (f6 P fx) (fun k=>∀ q,q<k→okX fx q) fx.length (by simp[f6,Lf,Pb.inK,c2']) (fun q hq=>by omega) (fun k hk' hI=>?_) (fun hI=>?_)
   ·have e:(k:Int)<P.of.length:=by omega
    have hko:k<P.of.length:=by omega
    have w1:=zo (k:=k) (by omega)
    have hg:fx.getD k 9=fx[k]:=by rw[List.getD_eq_getElem?_getD,List.getElem?_eq_getElem hk']; rfl
    have hs0:=Tr (fx:=fx) (v:=0) (k:=k)
    have hs1:=Tr (fx:=fx) (v:=1) (k:=k)
    have hl0:=Yv (fx:=fx) (v:=0) (k:=k)
    have hl1:=Pc (P:=P) (fx:=fx) (k:=k)
    rw[hg] at hs0 hs1
    have hx:okX fx k→∀ q,q<k+1→okX fx q:=fun d q hq=>by
     by_cases eq:q=k
     ·subst eq; exact d
     ·exact hI q (by omega)
    by_cases d1:fx[k]=-1
    ·have d:=hx (.inl (by rw[hg,d1]))
     rw[d1] at hs0 hs1
     rw[if_neg (by decide)] at hs0 hs1
     simp[xz,f6,e,c2',hk',d1,w1,hs0,hs1,Pb.inK]
     exact d
    ·by_cases d2:fx[k]=0
     ·have d:=hx (.inr (.inl (by rw[hg,d2])))
      rw[d2] at hs0 hs1
      rw[if_pos rfl] at hs0
      rw[if_neg (by decide)] at hs1
      simp[xz,f6,e,c2',hk',d2]
      refine ve (by decide) rfl ?_ ?_ (by simp) ?_
      ·simp only[uz,SO]; omega
      ·simp only[uz,SO]; omega
      ·have hro:clR (ints (mv fx 0 k))++[[iv k]]=clR (ints (mv fx 0 (k+1))):=by rw[hs0,JK]; rfl
       rw[hro]
       simp[w1,f6,c2',tG,Pb.inK,hs1]
       exact d
     ·by_cases d3:fx[k]=1
      ·have d:=hx (.inr (.inr (by rw[hg,d3])))
       rw[d3] at hs0 hs1
       rw[if_neg (by decide)] at hs0
       rw[if_pos rfl] at hs1
       simp[xz,f6,e,c2',hk',d3,hko]
       refine ve (by decide) rfl ?_ ?_ (by simp) ?_
       ·simp only[sZ]; omega
       ·simp only[sZ]; omega
       ·have hro:ofR (P.inK fx k)++[oC P.of[k]]=ofR (P.inK fx (k+1)):=by unfold Pb.inK; rw[hs1,List.map_append,ew,← YQ hko]; rfl
        rw[hro]
        simp[w1,f6,c2',tG,hs0]
        exact d
      ·have hf:P.relE fx=4:=by
        unfold Pb.relE
        rw[if_neg (by simp[c1]),if_neg (by simp[c2]),if_pos (fun h=>by
         rcases h k hk' with h | h | h
         ·exact d1 (by rw[← hg,h])
         ·exact d2 (by rw[← hg,h])
         ·exact d3 (by rw[← hg,h]))]
       simp[xz,f6,e,c2',hk',d1,d2,d3,hf,wq]
       exact AV.imp.refl
   ·have key:∀ K:Exit→St→Prop,K (.exit 0) {env:=[(2,.ptr 2 0),(4,.ptr 4 0),(8,xF fx),(9,xI P fx),(36,clA fx),(37,iv fx.length),(38,iv fx.length),(39,bv false)],sto:=[(2,.var (pbC P)),(4,.var [zX,zX])]}→awp Try.prog xz (f6 P fx fx.length) (qt K):=by
     intro K h
     simp[xz,f6]
     exact h
    refine key _ ?_
    have hF:okF fx:=hI
    have hm:=Ee (P:=P) (fx:=fx) (k:=fx.length) (by omega)
    have hil:=Pc (P:=P) (fx:=fx) (k:=fx.length)
    have hk160:=hG.k
    have hP:∀ o∈P.inL fx,P.offE o=0:=fun o ho=>hG.off o (hm o ho)
    have hil:(P.inL fx).length≤160:=by unfold Pb.inL; omega
    have hfl:(yM fx).length≤160:=by have:=Yv (fx:=fx) (v:=0) (k:=fx.length); unfold yM; omega
    have hfm:∀ i∈yM fx,i<P.of.length:=fun i hi=>by have:=(S6 hi).1; omega
    simp[mT]
    refine ze (pa (SE (P:=P) (L:=P.inL fx) hn (by omega) (fun o ho=>(uZ (tW (hP o ho)).1).1) (fun o ho=>(uZ (tW (hP o ho)).1).2.2)) (uB wX)) (by simp) (by simp) ?_
    by_cases c3:P.fits (P.inL fx)
    ·have hE:P.relE fx=0:=by
      unfold Pb.relE
      rw[if_neg (by simp[c1]),if_neg (by simp[c2]),if_neg (fun h=>h hF),if_pos c3]
     rw[if_pos hE]
     simp[-vI,c3]
     have hR:P.rows≤1012:=by unfold Pb.rows; omega
     have hv:∀ i∈yM fx,-9223372036854775808≤(P.at (i:Nat)).v∧(P.at (i:Nat)).v<9223372036854775808:=fun i hi=>by
      have:=(uZ (tW (hG.off _ (at_mem (hfm i hi)))).1).2.1
      omega
     refine zz (UV P fx) (fun _=>True) (yM fx).length (by simp[UV]) trivial (fun k hk' _=>?_) (fun _=>?_)
     ·have e:(k:Int)<(yM fx).length:=by omega
      have w1:=zo (k:=k) (by omega)
      obtain ⟨i,hi⟩:∃ i,(yM fx)[k]=i:=⟨_,rfl⟩
      have him:i∈yM fx:=hi▸List.getElem_mem hk'
      have hio:=hfm i him
      have hof:i<(ofR P.of).length:=by simpa using hio
      have hka:k<(clR (ints (yM fx))).length:=by simpa using hk'
      have hat:P.at (i:Int)=P.of[i]:=YQ hio
      obtain ⟨hv1,hv2⟩:=hv i him
      rw[hat] at hv1 hv2
      have hgk:(P.relG fx)[k]'(by simpa using hk')=P.of[i].v:=by rw[Gs,hi,hat]
      simp[-ww,uM,UV,e,fU hka,Xi hof,hi]
      refine ze (bH hv1 hv2) (by simp) (by simp) ?_
      simp
      refine ve (by decide) rfl ?_ ?_ (by simp) ?_
      ·simp only[XB,List.length_take,Ro]; omega
      ·simp only[XB,List.length_take,Ro]; omega
      ·have hro:qI ((P.relG fx).take k)++[fr ((P.of[i].v:Int):Rat)]=qI ((P.relG fx).take (k+1)):=by rw[← Po (by simpa using hk'),hgk]
       rw[hro]
       simp[-cellsOf,w1,UV,tG]
     ·have key:∀ K:Exit→St→Prop,K (.exit 3) {env:=[(2,.ptr 2 0),(4,.ptr 4 0),(8,xF fx),(9,xI P fx),(12,.ptr 12 0),(13,.ptr 13 0),(71,xF fx),(72,iv (yM fx).length),(73,iv (yM fx).length),(74,bv false)],sto:=[(2,.var (pbC P)),(4,.var [zX,zX]),(12,.var (pbC P)),(13,.var [apc 87 3 (qI (P.relG fx)),zX])]}→awp Try.prog uM (UV P fx (yM fx).length) (qt K):=by
       intro K h
       have ht:(P.relG fx).take (yM fx).length=P.relG fx:=List.take_of_length_le (by simp)
       simp[uM,UV,ht]
       exact h
      refine key _ ?_
      simp[lX]
      refine ze (Rt hn) (by simp) (by simp) ?_
      simp
      refine zz (UY P fx) (fun _=>True) P.rows (by simp[UY]) trivial (fun r hr _=>?_) (fun _=>?_)
      ·have e:(r:Int)<P.rows:=by omega
       have w1:=zo (k:=r) (by omega)
       have hco:∀ o∈P.inL fx,0≤P.coef r o∧P.coef r o≤4:=fun o ho=>aV (uZ (tW (hP o ho)).1).2.2 hr
       have hbn:-1000≤P.bnd r∧P.bnd r≤1000:=by
        unfold Pb.bnd
        unfold Pb.rows at hr
        split
        ·omega
        ·split
         ·have:=hG.sup (r-P.cl.length) (by omega); omega
         ·have:=hG.set (r-P.cl.length-6) (by omega)
          unfold Pb.okC at this
          have:=hG.sup (r-P.cl.length-6) (by omega)
          omega
       simp[uP,UY,e]
       refine ze (Uc (P:=P) hn hr) (by simp) (by simp) ?_
       simp[-vI]
       refine zz (UW P fx r) (fun _=>True) (P.inL fx).length (by simp[UW,bT]) trivial (fun k hk' _=>?_) (fun _=>?_)
       ·have e:(k:Int)<(P.inL fx).length:=by omega
        have w2:=zo (k:=k) (by omega)
        have hka:k<(ofR (P.inL fx)).length:=by simpa using hk'
        have hg:(P.inL fx)[k]?=some (P.inL fx)[k]:=by simp[hk']
        have hmk:=List.getElem_mem hk'
        obtain ⟨p1,p2⟩:=mw hco k (by omega)
        obtain ⟨p3,p4⟩:=hco _ hmk
        have hs:=fg (f:=P.coef r) hg
        have hof:=(uZ (tW (hP _ hmk)).1)
        obtain ⟨x,hx⟩:∃ x,P.bnd r-th (P.coef r) (P.inL fx) k=x:=⟨_,rfl⟩
        have w3:IntKind.i64.wrap (x-P.coef r (P.inL fx)[k])=P.bnd r-th (P.coef r) (P.inL fx) (k+1):=by rw[hs,wrap64]<;>omega
        simp[-ww,uN,UW,e,fU hka]
        refine ze (Xd (P:=P) (r:=r) hn hof.1 hr) (by simp) (by simp) ?_
        simp[hx,w2,w3,UW]
       ·have hall:P.bnd r-th (P.coef r) (P.inL fx) (P.inL fx).length=P.relB fx r:=by unfold Pb.relB; rw[dG]
        have key:∀ K:Exit→St→Prop,K (.exit 7) {env:=[(2,.ptr 2 0),(4,.ptr 4 0),(8,xF fx),(9,xI P fx),(12,.ptr 12 0),(13,.ptr 13 0),(91,iv P.rows),(92,iv r),(16,iv r),(17,iv (P.relB fx r)),(98,xI P fx),(99,iv (P.inL fx).length),(100,iv (P.inL fx).length),(101,bv false)],sto:=[(2,.var (pbC P)),(4,.var [zX,zX]),(12,.var (pbC P)),(13,.var [apc 87 3 (qI (P.relG fx)),apc 139 4 (qR P fx r)])]}→awp Try.prog uN (UW P fx r (P.inL fx).length) (qt K):=by
         intro K h
         simp[uN,UW,hall]
         exact h
        refine key _ ?_
        obtain ⟨q1,q2⟩:=Kz hco
        have hB:-9223372036854775808≤P.relB fx r∧P.relB fx r<9223372036854775808:=by unfold Pb.relB; omega
        simp[lU]
        refine ze (bH hB.1 hB.2) (by simp) (by simp) ?_
        simp[-vI]
        refine zz (UX P fx r) (fun _=>True) (yM fx).length (by simp[UX]) trivial (fun k hk' _=>?_) (fun _=>?_)
        ·have e:(k:Int)<(yM fx).length:=by omega
         have w2:=zo (k:=k) (by omega)
         obtain ⟨i,hi⟩:∃ i,(yM fx)[k]=i:=⟨_,rfl⟩
         have him:i∈yM fx:=hi▸List.getElem_mem hk'
         have hio:=hfm i him
         have hof':i<(ofR P.of).length:=by simpa using hio
         have hka:k<(clR (ints (yM fx))).length:=by simpa using hk'
         have hat:P.at (i:Int)=P.of[i]:=YQ hio
         have hof:=uZ (tW (hG.off _ (List.getElem_mem hio))).1
         have hc4:=aV (P:=P) hof.2.2 hr
         have hgk:(P.relC fx r)[k]'(by simpa using hk')=P.coef r P.of[i]:=by rw[Gr,hi,hat]
         simp[-ww,uO,UX,e,fU hka,Xi hof',hi]
         refine ze (Xd (P:=P) (r:=r) hn hof.1 hr) (by simp) (by simp) ?_
         simp
         refine ze (bH (n:=P.coef r P.of[i]) (by omega) (by omega)) (by simp) (by simp) ?_
         simp
         refine ve (by decide) rfl ?_ ?_ (by simp) ?_
         ·simp only[XB,List.length_take,Rn]; omega
         ·simp only[XB,List.length_take,Rn]; omega
         ·have hro:qI ((P.relC fx r).take k)++[fr ((P.coef r P.of[i]:Int):Rat)]=qI ((P.relC fx r).take (k+1)):=by rw[← Po (by simpa using hk'),hgk]
          rw[hro]
          simp[-cellsOf,w2,UX,tG]
        ·have key:∀ K:Exit→St→Prop,K (.exit 9) {env:=[(2,.ptr 2 0),(4,.ptr 4 0),(8,xF fx),(9,xI P fx),(12,.ptr 12 0),(13,.ptr 13 0),(91,iv P.rows),(92,iv r),(16,iv r),(20,.ptr 20 0),(114,xF fx),(115,iv (yM fx).length),(116,iv (yM fx).length),(117,bv false)],sto:=[(2,.var (pbC P)),(4,.var [zX,zX]),(12,.var (pbC P)),(13,.var [apc 87 3 (qI (P.relG fx)),apc 139 4 (qR P fx r)]),(20,.var (apc 132 3 (qI (P.relC fx r))::fr (P.relB fx r:Int)))]}→awp Try.prog uO (UX P fx r (yM fx).length) (qt K):=by
          intro K h
          have ht:(P.relC fx r).take (yM fx).length=P.relC fx r:=List.take_of_length_le (by simp)
          simp[uO,UX,ht]
          exact h
         refine key _ ?_
         simp[lT]
         refine ve (by decide) rfl ?_ ?_ (by simp) ?_
         ·simp only[Rp]; omega
         ·simp only[Rp]; omega
         ·have hro:qR P fx r++[plc 3 (qI (P.relC fx r))::fr (P.relB fx r:Int)]=qR P fx (r+1):=LN
          rw[hro]
          simp[-cellsOf,w1,lV,UY,tG]
      ·have key:∀ K:Exit→St→Prop,K (.exit 5) {env:=[(2,.ptr 2 0),(4,.ptr 4 0),(8,xF fx),(9,xI P fx),(12,.ptr 12 0),(13,.ptr 13 0),(91,iv P.rows),(92,iv P.rows),(93,bv false)],sto:=[(2,.var (pbC P)),(4,.var [zX,zX]),(12,.var (pbC P)),(13,.var [apc 87 3 (qI (P.relG fx)),apc 139 4 (qR P fx P.rows)])]}→awp Try.prog uP (UY P fx P.rows) (qt K):=by
        intro K h
        simp[uP,UY]
        exact h
       refine key _ ?_
       simp[lW,wq]
       exact nk (zH Gq (zH (uB wX) (zH AV.imp.refl vu)))
    ·have hE:P.relE fx=14:=by
      unfold Pb.relE
      rw[if_neg (by simp[c1]),if_neg (by simp[c2]),if_neg (fun h=>h hF),if_neg c3]
     simp[c3,hE,wq]
     exact AV.imp.refl
  ·have c2':¬ (fx.length:Int)=P.of.length:=by omega
   have hE:P.relE fx=3:=by unfold Pb.relE; rw[if_neg (by simp[c1]),if_pos c2]
   simp[c1,c2',hE,wq]
   exact AV.imp.refl
 ·have hE:P.relE fx=P.chk:=by unfold Pb.relE; rw[if_pos c1]
  simp[c1,hE,wq]
  exact AV.imp.refl
end
def T4:AV:=.agg [.list 5 .full [[.val (.string ⟨#[97]⟩),iv 2,iv 3,iv 1,iv 0]],.list 4 .full [[.val (.string ⟨#[120]⟩),iv 0,iv 0,iv 0]],zX,zX]
theorem Co:zf Try.prog nE [] T4:=.of_run R2 1000 100 (by kernel_rfl)
theorem FF:zf Try.prog wg [T4,.list 8 .full [[iv 0,iv 1,iv 0,iv 0,iv 0,iv 0,iv 0,iv 5],[iv 0,iv 2,iv 0,iv 0,iv 0,iv 0,iv 0,iv 6]]] (.tuple [.agg [iv 2,iv 0,iv 0,iv 0,iv 0,iv 0,iv 2,iv 0,iv 0,iv 0,iv 0,iv 0,iv 0,iv 0,iv 0,iv 0,iv 0,iv 0,.list 1 .plain [[iv 0]],.list 8 .plain [[iv 0,iv 1,iv 0,iv 0,iv 0,iv 0,iv 0,iv 2]]],.list 1 .plain [[iv 0]],iv 0]):=.of_run R2 1000 100 (by kernel_rfl)
def w0:List Int→Nat→Int:=fun l k=>l.getD k 0
def P3:Pb:=⟨w0 [1,1],w0 [1,1],w0 [],[0,0,0],[⟨0,w0 [1,1],10⟩,⟨1,w0 [1],6⟩,⟨2,w0 [0,1],6⟩]⟩
theorem E6:zf Try.prog sE [] (.agg [iv 1,iv 1,iv 0,iv 0,iv 0,iv 0,iv 1,iv 1,iv 0,iv 0,iv 0,iv 0,iv 0,iv 0,iv 0,iv 0,iv 0,iv 0,.list 1 .full [[iv 0],[iv 0],[iv 0]],.list 8 .full [[iv 0,iv 1,iv 1,iv 0,iv 0,iv 0,iv 0,iv 10],[iv 1,iv 1,iv 0,iv 0,iv 0,iv 0,iv 0,iv 6],[iv 2,iv 0,iv 1,iv 0,iv 0,iv 0,iv 0,iv 6]]]):=.of_run R2 1000 100 (by kernel_rfl)
theorem E7:zf Try.prog sE [] (.agg (pbC P3)):=by
 refine Km E6 ?_
 have e:ofR P3.of=[[iv 0,iv 1,iv 1,iv 0,iv 0,iv 0,iv 0,iv 10],[iv 1,iv 1,iv 0,iv 0,iv 0,iv 0,iv 0,iv 6],[iv 2,iv 0,iv 1,iv 0,iv 0,iv 0,iv 0,iv 6]]:=by
  unfold ofR P3
  simp only[List.map_cons,List.map_nil,uU]
  rfl
 simp only[z5]
 refine Uw ?_
 have h2:AV.imp (.list 8 .full [[iv 0,iv 1,iv 1,iv 0,iv 0,iv 0,iv 0,iv 10],[iv 1,iv 1,iv 0,iv 0,iv 0,iv 0,iv 0,iv 6],[iv 2,iv 0,iv 1,iv 0,iv 0,iv 0,iv 0,iv 6]]) (ofA P3.of):=by
  unfold ofA
  rw[e]
  exact xD
 have h1:AV.imp (.list 1 .full [[iv 0],[iv 0],[iv 0]]) (clA P3.cl):=xD
 repeat' first | exact zH h1 (zH h2 vu) | refine zH AV.imp.refl ?_
theorem Di:P3.chk=0:=by decide +kernel
theorem eV:P3.cl.length≤1000:=by decide
theorem eU:P3.of.length≤1000000:=by decide
theorem DG:zf Try.prog yf [.agg (pbC P3)] (iv 0):=by have h:=jA eV eU; rwa [Di] at h
theorem C0:zf Try.prog z9 [.agg (pbC P3),.list 1 .full [[iv 0]]] (iv 0):=by
 have h:=dn (ch:=[0]) eV eU (by decide)
 rw[show P3.feaE [0]=0 by decide +kernel] at h
 exact pa h xD
theorem C1:zf Try.prog z9 [.agg (pbC P3),.list 1 .full [[iv 1],[iv 2]]] (iv 0):=by
 have h:=dn (ch:=[1,2]) eV eU (by decide)
 rw[show P3.feaE [1,2]=0 by decide +kernel] at h
 exact pa h xD
theorem C2:zf Try.prog z9 [.agg (pbC P3),.list 1 .full [[iv 0],[iv 1]]] (iv 14):=by
 have h:=dn (ch:=[0,1]) eV eU (by decide)
 rw[show P3.feaE [0,1]=14 by decide +kernel] at h
 exact pa h xD
theorem Aa:zf Try.prog vd [.agg (pbC P3),.list 1 .full [[iv 1],[iv 2]]] (iv 12):=by
 have h:=Df (ch:=[1,2]) eV eU (by decide)
 rw[show P3.valE [1,2]=12 by decide +kernel] at h
 exact pa h xD
theorem F5:zf Try.prog x4 [.agg (pbC P3)] (iv 15):=by
 have h:=Ps eV eU
 rwa [show pK P3=15 by decide +kernel] at h
theorem DH:zf Try.prog vp [.agg (pbC P3),iv 3] (.tuple [clA [1,1,0],iv 1]):=by
 have h:=Bu (r:=3) eV eU
 have e:NB P3 3=.tuple [clA [1,1,0],iv 1]:=by
  have hr:pK P3=15:=by decide +kernel
  unfold NB
  rw[hr,if_pos (by decide),if_pos (by decide),show gp P3 (Int.toNat 3)=[1,1,0] by decide +kernel,show P3.bnd (Int.toNat 3)=1 by decide +kernel]
 rwa [e] at h
theorem Jz:zf Try.prog vc [.agg (pbC P3),.list 1 .full [[iv 0],[iv 1],[iv 0]]] (.tuple [Nz P3 [0,1,0],clA [0,2],iv 0]):=by
 have h:=EI (fx:=[0,1,0]) eV eU (by decide)
 rw[if_pos (by decide +kernel),show ints (yM [0,1,0])=[0,2] by decide +kernel] at h
 exact pa h xD
theorem C3:zf Try.prog xe [.agg (pbC P3),iv 2] (.agg (pbC (woE P3 2))):=KH (by decide) (by decide) eV eU
theorem DI:(woE P3 2).of.length=2:=by decide +kernel
theorem CW:zf Try.prog z4 [clA [1,1,0],.list 1 .full [[iv 1],[iv 1],[iv 0]]] (iv 0):=pa (aa (a:=[1,1,0]) (b:=[1,1,0]) (by decide) (by decide)) xD
theorem CX:zf Try.prog z4 [clA [0],.list 1 .full [[iv 0]]] (iv 0):=pa (aa (a:=[0]) (b:=[0]) (by decide) (by decide)) xD
theorem CY:zf Try.prog z4 [clA [0,2],.list 1 .full [[iv 0],[iv 2]]] (iv 0):=pa (aa (a:=[0,2]) (b:=[0,2]) (by decide) (by decide)) xD
theorem CZ:zf Try.prog yL [.list 1 .full [[iv 0],[iv 3]],.list 1 .full [[iv 1]]] (iv (-1)) :=
 JG (Cf (a:=[0,3]) (b:=[1]) (by decide) (by decide)) (Bf xD xD)
theorem jy:zf Try.prog zS [] (bv true):=by
 refine zC cn (by simp) ?_
 simp[ko]
 refine ze (xs:=[]) (args:=[]) E7 rfl (.inl rfl) ?_
 simp[dE]
 refine ze (xs:=[]) (args:=[]) Co rfl (.inl rfl) ?_
 have hb:=FF
 unfold T4 at hb
 simp[T4,splice]
 refine ze hb (by simp) (by simp) ?_
 simp
 refine ze DH (by simp) (by simp) ?_
 simp
 refine ze Jz (by simp) (by simp) ?_
 simp[Nz]
 refine ze DG (by simp) (by simp) ?_
 simp
 refine ze C0 (by simp) (by simp) ?_
 simp
 refine ze C1 (by simp) (by simp) ?_
 simp
 refine ze C2 (by simp) (by simp) ?_
 simp
 refine ze Aa (by simp) (by simp) ?_
 simp
 refine ze F5 (by simp) (by simp) ?_
 simp
 refine ze CW (by simp) (by simp) ?_
 simp
 refine ze (show zf Try.prog z4 [.list 1 .plain [[iv 0]],.list 1 .full [[iv 0]]] (iv 0) from CX) (by simp) (by simp) ?_
 simp
 refine ze CY (by simp) (by simp) ?_
 have hr:P3.rows=15:=by decide
 simp[hr]
 refine ze CZ (by simp) (by simp) ?_
 simp
 refine ze C3 (by simp) (by simp) ?_
 simp[DI,wO,kH]
abbrev tyB:Ty:=.arr 6 (.int .i64)
abbrev T9:Ty:=.st [.int .i64,tyB,.int .i64]
theorem Dt {cs:List AV} (h:TyC tyB cs):∃ w:Nat→Int,cs=bC w:=by
 obtain ⟨rows,rfl,hl,h⟩:=h
 obtain ⟨L,rfl,_⟩:=lu (fun n:Int=>[iv n]) (fun _=>True) (fun r hr=>by
  obtain ⟨n,rfl,_⟩:=hr
  exact ⟨n,rfl,trivial⟩) h
 refine ⟨fun k=>L.getD k 0,?_⟩
 match L,hl with
 | [a,b,c,d,e,f],_=>rw[yQ]; rfl
theorem J0 {cs:List AV} (h:TyC T9 cs):∃ o:Of,cs=oC o:=by
 obtain ⟨a1,b1,rfl,⟨n,rfl,_⟩,a2,b2,rfl,h2,a3,b3,rfl,⟨v,rfl,_⟩,rfl⟩:=h
 obtain ⟨w,rfl⟩:=Dt h2
 exact ⟨⟨n,w,v⟩,by rw[uU,yQ]; rfl⟩
theorem Es {cs:List AV} (h:TyC (.slice T9) cs):∃ L:List Of,cs=[ofA L]∧L.length≤reachBytes:=by
 obtain ⟨rows,rfl,hl,h⟩:=h
 obtain ⟨L,rfl,h2⟩:=lu oC (fun _=>True) (fun r hr=>by
  obtain ⟨o,rfl⟩:=J0 hr
  exact ⟨o,rfl,trivial⟩) h
 exact ⟨L,rfl,by simpa using hl⟩
section
variable {P:Pb}
theorem bn:∀ a:List Int,cmpL a a=0
 | []=>rfl
 | a::l=>by rw[cmpL,(K9 (a:=a) (b:=a)).1.2 rfl,if_pos rfl]; exact bn l
end
section
variable {P:Pb}
@[simp] theorem Tm {o:Of}:r5 8 (oC o)=true:=by
 rw[uU]; rfl
def US (P:Pb) (k:Nat):St:={env:=[(2,.ptr 2 0),(3,.ptr 3 0),(5,iv k)],sto:=[(2,.var (pbC P)),(3,.var (pbC P))]}
theorem Cp (hn:P.cl.length≤1000) (hk:P.of.length≤1000000):zf Try.prog tE [.agg (pbC P),.agg (pbC P)] (bv true):=by
 have hkd:kds Try.prog Op.maxDepth zI=some (List.replicate 6 (.i .i64)):=by kernel_rfl
 have hg:Try.prog.eqGuardType Try.prog.depth zI=false:=by kernel_rfl
 have hA:agT Try.prog zI=true:=by kernel_rfl
 have hkd2:kds Try.prog Op.maxDepth lE=some (List.replicate 8 (.i .i64)):=by kernel_rfl
 have hg2:Try.prog.eqGuardType Try.prog.depth lE=false:=by kernel_rfl
 have hA2:agT Try.prog lE=true:=by kernel_rfl
 refine zC aG (by simp) ?_
 simp[j1,dE]
 rw[sO hkd hg hA xf xf]
 simp
 rw[sO hkd hg hA xf xf]
 simp
 rw[sO hkd hg hA xf xf]
 simp
 refine ze (aa (a:=P.cl) (b:=P.cl) (by omega) (by omega)) (by simp) (by simp) ?_
 simp[bn]
 refine zz (US P) (fun _=>True) P.of.length (by simp[US]) trivial (fun k hk' _=>?_) (fun _=>?_)
 ·have e:(k:Int)<P.of.length:=by omega
  have w1:=zo (k:=k) (by omega)
  simp[ry,US,e,hk']
  rw[sO hkd2 hg2 hA2 Tm Tm]
  simp[w1,US]
 ·have key:∀ K:Exit→St→Prop,K (.exit 0) {env:=[(2,.ptr 2 0),(3,.ptr 3 0),(5,iv P.of.length),(46,bv false)],sto:=[(2,.var (pbC P)),(3,.var (pbC P))]}→awp Try.prog ry (US P P.of.length) (qt K):=by
   intro K h
   simp[ry,US]
   exact h
  refine key _ ?_
  simp[gW,gm]
end
abbrev Cw:Ty:=.st [.str,.int .i64,.int .i64,.int .i64,.int .i64]
abbrev Cv:Ty:=.st [.str,.int .i64,.int .i64,.int .i64]
abbrev Fg:Ty:=.st [.int .i64,.int .i64,.int .i64]
abbrev Ff:Ty:=.st [.slice Cw,.slice Cv,.slice Fg,.slice Fg]
theorem Cg {cs:List AV} (h:TyC (.slice Cw) cs):∃ l:List Prd,cs=[.list 5 .plain (xL l)]∧l.length≤reachBytes∧∀ x∈l,x.nm.size≤reachBytes:=by
 obtain ⟨rows,rfl,hl,h⟩:=h
 obtain ⟨l,rfl,hp⟩:=lu Rh (fun x:Prd=>x.nm.size≤reachBytes) (fun r hr=>by
  obtain ⟨a1,b1,rfl,⟨s,rfl,hs⟩,a2,b2,rfl,⟨n2,rfl,_⟩,a3,b3,rfl,⟨n3,rfl,_⟩,a4,b4,rfl,⟨n4,rfl,_⟩,a5,b5,rfl,⟨n5,rfl,_⟩,rfl⟩:=hr
  exact ⟨⟨s,n2,n3,n4,n5⟩,rfl,hs⟩) h
 exact ⟨l,rfl,by simpa using hl,hp⟩
theorem Dm {cs:List AV} (h:TyC (.slice Cv) cs):∃ l:List Bid,cs=[.list 4 .plain (sI l)]∧l.length≤reachBytes∧∀ x∈l,x.nm.size≤reachBytes:=by
 obtain ⟨rows,rfl,hl,h⟩:=h
 obtain ⟨l,rfl,hp⟩:=lu Fj (fun x:Bid=>x.nm.size≤reachBytes) (fun r hr=>by
  obtain ⟨a1,b1,rfl,⟨s,rfl,hs⟩,a2,b2,rfl,⟨n2,rfl,_⟩,a3,b3,rfl,⟨n3,rfl,_⟩,a4,b4,rfl,⟨n4,rfl,_⟩,rfl⟩:=hr
  exact ⟨⟨s,n2,n3,n4⟩,rfl,hs⟩) h
 exact ⟨l,rfl,by simpa using hl,hp⟩
theorem KA {cs:List AV} (h:TyC (.slice Fg) cs):∃ l:List T3,cs=[.list 3 .plain (mM l)]∧l.length≤reachBytes:=by
 obtain ⟨rows,rfl,hl,h⟩:=h
 obtain ⟨l,rfl,hp⟩:=lu U1 (fun _=>True) (fun r hr=>by
  obtain ⟨a2,b2,rfl,⟨n2,rfl,_⟩,a3,b3,rfl,⟨n3,rfl,_⟩,a4,b4,rfl,⟨n4,rfl,_⟩,rfl⟩:=hr
  exact ⟨⟨n2,n3,n4⟩,rfl,trivial⟩) h
 exact ⟨l,rfl,by simpa using hl⟩
theorem GL {x:AV} (h:cN Ff x):∃ S:Stp,x=.agg (suC S)∧S.Sm:=by
 obtain ⟨cs,rfl,a1,b1,rfl,h1,a2,b2,rfl,h2,a3,b3,rfl,h3,a4,b4,rfl,h4,rfl⟩:=h
 obtain ⟨p,rfl,hp1,hp2⟩:=Cg h1
 obtain ⟨b,rfl,hb1,hb2⟩:=Dm h2
 obtain ⟨c,rfl,hc⟩:=KA h3
 obtain ⟨s,rfl,hs⟩:=KA h4
 have hr:reachBytes<4611686018427387904:=by decide
 exact ⟨⟨p,b,c,s⟩,rfl,⟨Nat.lt_of_le_of_lt hp1 hr,Nat.lt_of_le_of_lt hb1 hr,Nat.lt_of_le_of_lt hc hr,Nat.lt_of_le_of_lt hs hr,fun x hx=>Nat.lt_of_le_of_lt (hp2 x hx) hr,fun x hx=>Nat.lt_of_le_of_lt (hb2 x hx) hr⟩⟩
section
variable {S:Stp} {L:List Of}
theorem FC:(if wb S L=0 then ZY S L else pbZ).cl.length≤S.bd.length∧(if wb S L=0 then ZY S L else pbZ).of.length≤L.length∧(if wb S L=0 then xS S L L.length else []).length≤L.length:=by
 obtain ⟨l1,l2⟩:=jE (S:=S) (L:=L) L.length
 by_cases h:wb S L=0
 ·rw[if_pos h,if_pos h]
  refine ⟨by simp[ZY],?_,l1⟩
  show (vR S L L.length).length≤_
  omega
 ·rw[if_neg h,if_neg h]
  exact ⟨Nat.zero_le _,Nat.zero_le _,Nat.zero_le _⟩
theorem M5 (hS:S.Sm):zf Try.prog vb [.agg (suC S),ofA L] (bv true):=by
 refine zC nA (by simp) ?_
 by_cases g1:50<S.pd.length
 ·have g1':(50:Int)<S.pd.length:=by omega
  simp[yv,g1']
  refine ze (xs:=[]) (args:=[]) jy rfl (.inl rfl) ?_
  simp[yx]
 have g1':¬ (50:Int)<S.pd.length:=by omega
 by_cases g2:50<S.bd.length
 ·have g2':(50:Int)<S.bd.length:=by omega
  simp[yv,g1',g2']
  refine ze (xs:=[]) (args:=[]) jy rfl (.inl rfl) ?_
  simp[yx]
 have g2':¬ (50:Int)<S.bd.length:=by omega
 by_cases g3:50<S.cp.length
 ·have g3':(50:Int)<S.cp.length:=by omega
  simp[yv,g1',g2',g3']
  refine ze (xs:=[]) (args:=[]) jy rfl (.inl rfl) ?_
  simp[yx]
 have g3':¬ (50:Int)<S.cp.length:=by omega
 by_cases g4:50<S.sa.length
 ·have g4':(50:Int)<S.sa.length:=by omega
  simp[yv,g1',g2',g3',g4']
  refine ze (xs:=[]) (args:=[]) jy rfl (.inl rfl) ?_
  simp[yx]
 have g4':¬ (50:Int)<S.sa.length:=by omega
 by_cases g5:330<L.length
 ·have g5':(330:Int)<L.length:=by omega
  simp[yv,g1',g2',g3',g4',g5']
  refine ze (xs:=[]) (args:=[]) jy rfl (.inl rfl) ?_
  simp[yx]
 have g5':¬ (330:Int)<L.length:=by omega
 obtain ⟨b1,b2,b3⟩:=FC (S:=S) (L:=L)
 have kb:=Do (L:=L) hS
 have kr:=EG (L:=L) hS
 unfold rg at kb kr
 generalize (if wb S L=0 then ZY S L else pbZ)=Q at *
 generalize (if wb S L=0 then xS S L L.length else [])=J at *
 simp[yv,g1',g2',g3',g4',g5']
 refine ze kb (by simp) (by simp) ?_
 simp
 refine ze kr (by simp) (by simp) ?_
 simp
 refine ze (Cp (P:=Q) (by omega) (by omega)) (by simp) (by simp) ?_
 simp
 refine ze (aa (a:=J) (b:=J) (by omega) (by omega)) (by simp) (by simp) ?_
 simp[bn]
 refine ze (xs:=[]) (args:=[]) jy rfl (.inl rfl) ?_
 simp[yx]
end
theorem problemBuilds_contract (xs:List AV) (h:aO [Ff,.slice T9] xs):zf Try.prog vb xs (bv true):=by
 obtain ⟨x,y,rfl,h1,h2⟩:=Ma h
 obtain ⟨S,rfl,hS⟩:=GL h1
 obtain ⟨L,hL,_⟩:=Es h2
 simp only[List.cons.injEq,and_true] at hL
 subst hL
 exact M5 hS
def wsu (g:Of→Int) (l:List Of) (b:Nat):Int:=(l.map fun o:Of=>if o.b=(b:Int) then g o else 0).sum
def wnF (l:List Of) (b j:Nat):Int:=wsu (fun o=>o.w j) l b
section
variable {S:Stp} {L l:List Of} {o:Of} {g:Of→Int} {b n j:Nat}
theorem aau:wsu g (o::l) b=(if o.b=(b:Int) then g o else 0)+wsu g l b:=by simp[wsu]
theorem aaF:wsu g (l++[o]) b=wsu g l b+if o.b=(b:Int) then g o else 0:=by simp[wsu]
theorem aaB:∀ {l:List Of},(∀ o∈l,¬ o.b=(b:Int))→wsu g l b=0
 | [],_=>rfl
 | o::l,h=>by rw[aau,if_neg (h o (by simp)),aaB (l:=l) fun u hu=>h u (by simp[hu])]; rfl
theorem aaR:∀ l:List Of,0≤wsu (fun _=>1) l b
 | []=>Int.le_refl 0
 | o::l=>by have:=aaR l; rw[aau]; split<;>omega
theorem aaE:∀ {l:List Of},wsu (fun _=>1) l b≤0→∀ o∈l,¬ o.b=(b:Int)
 | [],_,u,hu=>by cases hu
 | o::l,h,u,hu=>by
  have h0:=aaR (b:=b) l
  rw[aau] at h
  by_cases e:o.b=(b:Int)
  ·rw[if_pos e] at h; omega
  ·rw[if_neg e] at h
   rcases List.mem_cons.1 hu with rfl | hu
   ·exact e
   ·exact aaE (l:=l) (by omega) u hu
theorem aaS:∀ {l:List Of},wsu (fun _=>1) l b≤1→(∀ o∈l,¬ o.b=(b:Int))∨∃ o∈l,o.b=(b:Int)∧∀ g,wsu g l b=g o
 | [],_=>.inl fun u hu=>by cases hu
 | o::l,h=>by
  rw[aau] at h
  by_cases e:o.b=(b:Int)
  ·rw[if_pos e] at h
   have h1:=aaE (b:=b) (l:=l) (by omega)
   exact .inr ⟨o,by simp,e,fun g=>by rw[aau,if_pos e,aaB h1]; omega⟩
  ·rw[if_neg e] at h
   rcases aaS (l:=l) (by omega) with h1 | ⟨u,hu,e1,h1⟩
   ·refine .inl fun u hu=>?_
    rcases List.mem_cons.1 hu with rfl | hu
    ·exact e
    ·exact h1 u hu
   ·exact .inr ⟨u,by simp[hu],e1,fun g=>by rw[aau,if_neg e,h1]; omega⟩
theorem aaM {f g:Nat→Int}:∀ n,f4 (fun b=>f b+g b) n=f4 f n+f4 g n
 | 0=>rfl
 | n+1=>by show f4 _ n+(f n+g n)=(f4 f n+f n)+(f4 g n+g n); rw[aaM n]; omega
theorem aaI:∀ n,f4 (fun _=>0) n=0
 | 0=>rfl
 | n+1=>by show f4 _ n+0=0; rw[aaI n]; rfl
theorem aaA {f g:Nat→Int}:∀ {n},(∀ b,b<n→f b=g b)→f4 f n=f4 g n
 | 0,_=>rfl
 | n+1,h=>by show f4 f n+f n=f4 g n+g n; rw[aaA fun b hb=>h b (by omega),h n (by omega)]
theorem aaN {x i:Int}:∀ n:Nat,f4 (fun b=>if i=(b:Int) then x else 0) n=if 0≤i∧i<n then x else 0
 | 0=>by rw[if_neg (by omega)]; rfl
 | n+1=>by
  show f4 _ n+(if i=(n:Int) then x else 0)=_
  rw[aaN n]
  by_cases e:i=(n:Int)
  ·rw[if_pos e,if_neg (by omega),if_pos (by omega)]; omega
  ·rw[if_neg e]
   by_cases e2:0≤i∧i<n
   ·rw[if_pos e2,if_pos (by omega)]; omega
   ·rw[if_neg e2,if_neg (by omega)]; rfl
theorem aaG:∀ {l:List Of},(∀ o∈l,0≤o.b∧o.b<n)→f4 (wsu g l) n=(l.map g).sum
 | [],_=>aaI n
 | o::l,h=>by
  have e:f4 (wsu g (o::l)) n=f4 (fun b=>(if o.b=(b:Int) then g o else 0)+wsu g l b) n:=aaA fun b _=>aau
  rw[e,aaM,aaN,if_pos (h o (by simp)),aaG (l:=l) fun u hu=>h u (by simp[hu])]
  simp
theorem aaz:∀ {k},∀ o∈vR S L k,∃ i u,Zb S L i u∧o=D7 S u
 | 0,o,h=>by cases h
 | k+1,o,h=>by
  cases hg:L[k]? with
  | none =>
   have e2:vR S L (k+1)=vR S L k:=by show (match L[k]? with | none=>_ | some o=>_)=_; rw[hg]
   rw[e2] at h
   exact aaz o h
  | some u =>
   by_cases hk:Zb S L k u
   ·rw[(UM hg hk).2] at h
    rcases List.mem_append.1 h with h | h
    ·exact aaz o h
    ·simp at h; exact ⟨k,u,hk,h⟩
   ·rw[(Rv hg hk).2] at h
    exact aaz o h
theorem aaJ {b:Int} {w:Nat→Int} (h:alE S b w=0):(0≤b∧b<S.bd.length)∧okB w∧PD S b.toNat w:=by
 unfold alE at h
 split at h
 ·cases h
 rename_i h1
 split at h
 ·cases h
 rename_i h2
 split at h
 ·rename_i h3; exact ⟨by omega,Decidable.not_not.1 h2,h3⟩
 ·cases h
theorem aaC (h:o∈(ZY S L).of):(0≤o.b∧o.b<S.bd.length)∧alE S o.b o.w=0:=by
 obtain ⟨i,u,hk,rfl⟩:=aaz o h
 have:=hk.2.2.2
 exact ⟨(aaJ this).1,this⟩
theorem aay:(ZY S L).cl.length=S.bd.length:=by simp[ZY]
theorem aa5 (h:wb S L=0):xC S=0:=by
 unfold wb at h
 split at h
 ·exact h
 ·rename_i h1; exact Decidable.not_not.1 h1
theorem aaK (h:xC S=0) (j:Nat):0≤opW S j∧opW S j≤zY S.pd j∧zY S.pd j≤4:=by
 obtain ⟨hp,_,_,ha⟩:=rW h
 obtain ⟨h6,hA⟩:=PH ha
 exact S9 hp hA (k:=S.sa.length) (j:=j) (Nat.le_refl _)
theorem aa1 (h:xC S=0):(ZY S L).fits []:=fun r hr=>by
 show 0≤_
 unfold Pb.bnd
 split
 ·omega
 split
 ·have:=aaK h (r-(ZY S L).cl.length); show 0≤zY S.pd _; omega
 ·exact (aaK h _).1
theorem aaP {l:List Prd} {wt:Prd→Int}:∀ k,usK l (fun _=>0) wt k=0
 | 0=>rfl
 | k+1=>by
  have:=aaP (l:=l) (wt:=wt) k
  simp[usK,this]
theorem abe (h:xC S=0):∀ c∈S.cp,0≤c.c:=fun c hc=>by
 obtain ⟨_,_,hcp,_⟩:=rW h
 unfold yn at hcp
 split at hcp
 ·cases hcp
 obtain ⟨k,hk,rfl⟩:=List.getElem_of_mem hc
 have:=Qs hcp k hk
 unfold cpE at this
 rw[List.getElem?_eq_getElem hk] at this
 simp only at this
 repeat' split at this
 all_goals first | omega | cases this
theorem aa9 (h:xC S=0) (hb:b<S.bd.length):alE S b (fun _=>0)=0:=by
 have hle:=aaK h
 refine Mc hb (fun j _=>⟨Int.le_refl 0,by omega⟩) ⟨fun j _=>?_,fun j _=>?_,fun c hc hn=>?_⟩
 ·have:=hle j; show (0:Int)≤_; omega
 ·have:=hle j; unfold lj; split
  ·omega
  ·show (0:Int)≤_; omega
 ·have:=abe h c hc
  have h2:=hn.2
  unfold usE at h2
  split at h2
  ·rw[aaP] at h2; omega
  ·omega
theorem aaQ (hb:b<S.bd.length) (hf:(ZY S L).fits l):wsu (fun _=>1) l b≤1:=by
 have h:=hf b (by unfold Pb.rows; rw[aay]; omega)
 have e1:(ZY S L).bnd b=1:=if_pos (by rw[aay]; exact hb)
 have e2:(ZY S L).coef b=fun o:Of=>if o.b=(b:Int) then (1:Int) else 0:=funext fun o=>if_pos (by rw[aay]; exact hb)
 rw[e1,e2] at h
 exact h
theorem aaZ (h:xC S=0) (hb:b<S.bd.length) (hm:∀ o∈l,o∈(ZY S L).of) (hf:(ZY S L).fits l):alE S b (wnF l b)=0:=by
 rcases aaS (aaQ hb hf) with h1 | ⟨o,ho,e,h1⟩
 ·have:wnF l b=fun _=>0:=funext fun j=>aaB h1
  rw[this]
  exact aa9 h hb
 ·have:wnF l b=o.w:=funext fun j=>h1 _
  rw[this,← e]
  exact (aaC (hm o ho)).2
theorem abd (hj:j<6) (hm:∀ o∈l,o∈(ZY S L).of) (hf:(ZY S L).fits l):f4 (fun b=>wnF l b j) S.bd.length≤zY S.pd j:=by
 have h:=hf (S.bd.length+j) (by unfold Pb.rows; rw[aay]; omega)
 have e1:(ZY S L).bnd (S.bd.length+j)=zY S.pd j:=by
  unfold Pb.bnd
  rw[aay,if_neg (by omega),if_pos (by omega),show S.bd.length+j-S.bd.length=j by omega]
  rfl
 have e2:(ZY S L).coef (S.bd.length+j)=fun o:Of=>o.w j:=funext fun o=>by
  unfold Pb.coef
  rw[aay,if_neg (by omega),if_pos (by omega),show S.bd.length+j-S.bd.length=j by omega]
 rw[e1,e2,← aaG (n:=S.bd.length) fun o ho=>(aaC (hm o ho)).1] at h
 exact h
theorem aa7 (hb:b<S.bd.length):∀ {l:List Of},lj S b (wnF l b) j=wsu ((ZY S L).coef (S.bd.length+6+j)) l b:=by
 have e2:∀ o:Of,o.b=(b:Int)→(ZY S L).coef (S.bd.length+6+j) o=if clW S j=0∨clW S j=cbW S b then 0 else o.w j:=fun o ho=>by
  unfold Pb.coef
  rw[aay,if_neg (by omega),if_neg (by omega),show S.bd.length+6+j-S.bd.length-6=j by omega]
  have e:(ZY S L).clOf o.b=cbW S b:=by
   unfold Pb.clOf cbW
   rw[ho,Int.toNat_natCast]
   simp[ZY,List.getD_eq_getElem?_getD,hb]
  rw[e]
  rfl
 intro l
 induction l with
 | nil=>unfold lj; split<;>rfl
 | cons o l ih =>
  rw[aau,← ih]
  have e:wnF (o::l) b j=(if o.b=(b:Int) then o.w j else 0)+wnF l b j:=aau
  unfold lj
  rw[e]
  by_cases ho:o.b=(b:Int)
  ·rw[if_pos ho,if_pos ho,e2 o ho]
   split<;>omega
  ·rw[if_neg ho,if_neg ho]
   split<;>omega
theorem abb (hj:j<6) (hm:∀ o∈l,o∈(ZY S L).of) (hf:(ZY S L).fits l):f4 (fun b=>lj S b (wnF l b) j) S.bd.length≤opW S j:=by
 have h:=hf (S.bd.length+6+j) (by unfold Pb.rows; rw[aay]; omega)
 have e1:(ZY S L).bnd (S.bd.length+6+j)=opW S j:=by
  unfold Pb.bnd
  rw[aay,if_neg (by omega),if_neg (by omega),show S.bd.length+6+j-S.bd.length-6=j by omega]
  rfl
 rw[e1,← aaG (n:=S.bd.length) fun o ho=>(aaC (hm o ho)).1] at h
 rw[aaA fun b hb=>aa7 (S:=S) (L:=L) (l:=l) (j:=j) hb]
 exact h
theorem aa8 (hb:b<S.bd.length) (hf:(ZY S L).fits (l++[o])):wnF (l++[o]) b=if o.b=(b:Int) then o.w else wnF l b:=by
 have hc:=aaQ hb hf
 rw[aaF] at hc
 by_cases e:o.b=(b:Int)
 ·rw[if_pos e] at hc ⊢
  have h0:=aaE (b:=b) (l:=l) (by omega)
  exact funext fun j=>by show wsu _ _ _=_; rw[aaF,if_pos e,aaB h0]; omega
 ·rw[if_neg e]
  exact funext fun j=>by show wsu _ _ _=wsu _ _ _; rw[aaF,if_neg e]; omega
theorem aaW (hf:(ZY S L).fits (l++[o])) (h0:0≤o.b):(aat S.bd.length (wnF l)).set o.b.toNat (bC o.w)=aat S.bd.length (wnF (l++[o])):=by
 refine List.ext_getElem (by simp) fun b h1 h2=>?_
 have hb:b<S.bd.length:=by simpa using h2
 rw[List.getElem_set,aax,aax,aa8 hb hf]
 by_cases e:o.b.toNat=b
 ·rw[if_pos e,if_pos (by omega)]
 ·rw[if_neg e,if_neg (by omega)]
theorem aaY:aat n (wnF [])=List.replicate n (bC fun _=>0):=by
 refine List.ext_getElem (by simp) fun b h1 h2=>?_
 rw[aax]
 simp
 rfl
theorem abf {P:Pb} {ch:List Int} (h:P.feaE ch=0):okP P.of.length ch∧P.fits (P.pick ch):=by
 unfold Pb.feaE at h
 split at h
 ·rename_i h1; exact absurd h h1
 split at h
 ·cases h
 rename_i h2
 split at h
 ·rename_i h3; exact ⟨Decidable.not_not.1 h2,h3⟩
 ·cases h
end
section
variable {S:Stp} {L:List Of}
theorem aa4 {sz0 sz by_ d t:Nat} {s:St} {KS:St→Prop} {rows:List (List AV)} (h0:0<sz) (h1:s.base+d=d) (h2:rows.length*by_≤140737488355328) (h3:rows.length≤9223372036854775807) (h4:lk s.sto d=none)
  (hK:KS ((s.dg d).put (some d) (.list sz (.own d) rows))):xu sz by_ s (some d) KS [.list sz0 .full [],apc t sz rows]:=by
 have key:∀ x:AV,(∀ k:List (List AV)→Prop,k rows→yB (lk s.sto) sz x k)→xu sz by_ s (some d) KS [.list sz0 .full [],x]:=fun x hx=>by
  refine hx _ ?_
  simp only[h1,List.nil_append,List.length_nil,Nat.zero_add]
  exact ⟨h0,h2,h3,.inl trivial,h4,hK⟩
 refine key _ fun k hk=>?_
 unfold apc
 split
 ·rename_i he
  have:rows=[]:=List.eq_nil_of_length_eq_zero he
  subst this
  exact ⟨.inl rfl,hk⟩
 ·exact ⟨.inr rfl,hk⟩
theorem aaX {n:Nat} {wn:Nat→Nat→Int}:(aat n wn).take n=aat n wn:=List.take_of_length_le (by simp)
def chK (P:Pb) (q:Nat→Bool):Nat→List Int
 | 0=>[]
 | k+1=>if q k=true∧P.feaE (chK P q k++[(k:Int)])=0 then chK P q k++[(k:Int)] else chK P q k
theorem aba {P:Pb} {q:Nat→Bool} {k:Nat} (h:q k=true) (h2:P.feaE (chK P q k++[(k:Int)])=0):chK P q (k+1)=chK P q k++[(k:Int)]:=if_pos ⟨h,h2⟩
theorem aa0 {P:Pb} {q:Nat→Bool} {k:Nat} (h:¬ (q k=true∧P.feaE (chK P q k++[(k:Int)])=0)):chK P q (k+1)=chK P q k:=if_neg h
noncomputable def aaD (S:Stp) (P:Pb) (s:Int) (q:Nat→Bool) (k:Nat):St :=
 {env:=[(2,.val (.int .u64 s)),(3,.ptr 3 0),(7,.ptr 7 0),(10,.sl 54 6 0 S.bd.length),(11,apc 100 1 (clR (chK P q k))),(12,iv k)],
  sto:=[(3,.var (suC S)),(7,.var (pbC P)),(54,.arr 6 (aat S.bd.length (wnF (P.pick (chK P q k)))))]}
theorem aa6 {s:Int} (hS:S.Sm):zf Try.prog nB [.agg (suC S),ofA L,.val (.int .u64 s)] (bv true):=by
 refine zC dV (by simp) ?_
 by_cases g1:60<L.length
 ·have g1':(60:Int)<L.length:=by omega
  simp[nS,g1']
  refine ze (xs:=[]) (args:=[]) jy rfl (.inl rfl) ?_
  simp[mB]
 have g1':¬ (60:Int)<L.length:=by omega
 by_cases g2:6<S.pd.length
 ·have g2':(6:Int)<S.pd.length:=by omega
  simp[nS,g1',g2']
  refine ze (xs:=[]) (args:=[]) jy rfl (.inl rfl) ?_
  simp[mB]
 have g2':¬ (6:Int)<S.pd.length:=by omega
 by_cases g3:8<S.bd.length
 ·have g3':(8:Int)<S.bd.length:=by omega
  simp[nS,g1',g2',g3']
  refine ze (xs:=[]) (args:=[]) jy rfl (.inl rfl) ?_
  simp[mB]
 have g3':¬ (8:Int)<S.bd.length:=by omega
 by_cases g4:16<S.cp.length
 ·have g4':(16:Int)<S.cp.length:=by omega
  simp[nS,g1',g2',g3',g4']
  refine ze (xs:=[]) (args:=[]) jy rfl (.inl rfl) ?_
  simp[mB]
 have g4':¬ (16:Int)<S.cp.length:=by omega
 by_cases g5:6<S.sa.length
 ·have g5':(6:Int)<S.sa.length:=by omega
  simp[nS,g1',g2',g3',g4',g5']
  refine ze (xs:=[]) (args:=[]) jy rfl (.inl rfl) ?_
  simp[mB]
 have g5':¬ (6:Int)<S.sa.length:=by omega
 have kb:=Do (L:=L) hS
 unfold rg at kb
 simp[nS,g1',g2',g3',g4',g5']
 by_cases c0:wb S L=0
 rotate_left
 ·refine ze kb (by simp) (by simp) ?_
  simp[c0]
  refine ze (xs:=[]) (args:=[]) jy rfl (.inl rfl) ?_
  simp[mB]
 refine ze kb (by simp) (by simp) ?_
 obtain ⟨b1,b2,b3⟩:=FC (S:=S) (L:=L)
 rw[if_pos c0] at b1 b2
 simp[c0]
 have hbig:(S.bd.length:Int)*48≤140737488355328:=by omega
 have hbig2:(S.bd.length:Int)≤9223372036854775807:=by omega
 have hz6:[iv 0,iv 0,iv 0,iv 0,iv 0,iv 0]=bC fun _=>0:=by rw[yQ]
 have hz:List.replicate S.bd.length [iv 0,iv 0,iv 0,iv 0,iv 0,iv 0]=aat S.bd.length (wnF []):=by rw[hz6,aaY]
 simp[eMk,hbig,hbig2]
 obtain ⟨q,hq⟩:∃ q:Nat→Bool,∀ k,q k=decide (sk .and .u64 (s.fdiv (2^k)) 1=1):=⟨fun k=>decide (sk .and .u64 (s.fdiv (2^k)) 1=1),fun _=>rfl⟩
 have c1:=aa5 c0
 refine zz (aaD S (ZY S L) s q) (fun k=>okP (ZY S L).of.length (chK (ZY S L) q k)∧(ZY S L).fits ((ZY S L).pick (chK (ZY S L) q k))) (ZY S L).of.length (by simp[aaD,chK,Pb.pick,hz,clR]) ⟨fun k h=>absurd h (Nat.not_lt_zero k),aa1 c1⟩ (fun k hk hI=>?_) (fun hI=>?_)
 ·have e:(k:Int)<(ZY S L).of.length:=by omega
  have w1:=zo (show k<4611686018427387904 by omega)
  obtain ⟨hbr,hal⟩:=aaC (S:=S) (L:=L) (List.getElem_mem hk)
  obtain ⟨o,ho⟩:∃ o,(ZY S L).of[k]=o:=⟨_,rfl⟩
  rw[ho] at hbr hal
  have n1:¬ o.b<0:=by omega
  have n2:¬ (S.bd.length:Int)≤o.b:=by omega
  have u1:IntKind.u64.wrap (k:Int)=k:=w64 (by omega)
  have u2:min k IntKind.u64.bits=k:=by have:IntKind.u64.bits=64:=rfl; omega
  have u3:¬ (k:Int)<0:=by omega
  by_cases hb:sk .and .u64 (s.fdiv (2^k)) 1=1
  rotate_left
  ·have hqk:q k=false:=by rw[hq]; exact decide_eq_false hb
   have hc:chK (ZY S L) q (k+1)=chK (ZY S L) q k:=aa0 (by simp[hqk])
   simp[gH,aaD,e,hk,ho,n1,n2,u1,u2,wI u3,hb,w1,hc]
   exact hI
  simp[gH,aaD,e,hk,ho,n1,n2,u1,u2,wI u3,hb]
  have hlen:=UD hI.1
  have hft:=dn (P:=ZY S L) (ch:=chK (ZY S L) q k++[(k:Int)]) (by omega) (by omega) (by simp; omega)
  have hcl:clA (chK (ZY S L) q k++[(k:Int)])=.list 1 .plain (clR (chK (ZY S L) q k)++[[iv k]]):=by show AV.list 1 .plain (clR _)=_; rw[Q1]; rfl
  rw[hcl] at hft
  have hqk:q k=true:=by rw[hq]; exact decide_eq_true hb
  refine aa4 (by decide) rfl ?_ ?_ (by simp) ?_
  ·simp only[uz]; omega
  ·simp only[uz]; omega
  generalize hC:chK (ZY S L) q k=C at *
  have l1:((clR C).length+1)*8≤140737488355328:=by simp only[uz]; omega
  have l2:(clR C).length+1≤9223372036854775807:=by simp only[uz]; omega
  simp[tG (show ¬ 100=90 by decide)]
  refine ⟨by omega,by omega,?_⟩
  refine ze hft (by simp) (by simp) ?_
  by_cases hf:(ZY S L).feaE (C++[(k:Int)])=0
  rotate_left
  ·have hc:chK (ZY S L) q (k+1)=C:=by rw[aa0 (by rw[hC]; exact fun h=>hf h.2),hC]
   simp[hf,w1,aaD,hc]
   exact hI
  have hc:chK (ZY S L) q (k+1)=C++[(k:Int)]:=by rw[aba hqk (by rw[hC]; exact hf),hC]
  have hI2:=abf hf
  have hpk:(ZY S L).pick (C++[(k:Int)])=(ZY S L).pick C++[o]:=by rw[← ho,← YQ hk]; simp[Pb.pick]
  simp[hf]
  refine ve (by decide) rfl ?_ ?_ (by simp) ?_
  ·simp only[uz]; omega
  ·simp only[uz]; omega
  have hro:clR C++[[iv k]]=clR (C++[(k:Int)]):=by rw[Q1]; rfl
  rw[hro]
  have hmore:=aaW (S:=S) (L:=L) (by rw[← hpk]; exact hI2.2) hbr.1
  simp[-cellsOf,w1,aaD,hc,hpk,e,hk,ho]
  have hcells:cellsOf (AV.agg (bC o.w))=some (bC o.w):=by rw[yQ]; rfl
  have hlt:o.b.toNat<(aat S.bd.length (wnF ((ZY S L).pick C))).length:=by rw[aa3]; omega
  have hlt2:o.b.toNat<S.bd.length:=by omega
  have hsp:∀ u:Nat→Int,splice (bC u) 0 ((bC o.w).map strip)=bC o.w:=fun u=>by rw[yQ,yQ]; rfl
  have hrf:∀ x∈bC o.w,rf x=true:=fun x hx=>by rw[yQ] at hx; simp at hx; rcases hx with rfl | rfl | rfl | rfl | rfl | rfl<;>rfl
  rw[hcells]
  refine ⟨hbr.1,hbr.2,rfl,YS,hlt,hrf,?_⟩
  rw[aa2 hlt2]
  refine ⟨.inl ?_,hI2.1,by rw[← hpk]; exact hI2.2⟩
  rw[hsp,hmore]
 ·obtain ⟨ch,hch⟩:∃ ch,chK (ZY S L) q (ZY S L).of.length=ch:=⟨_,rfl⟩
  simp[gH,aaD,gG,hch]
  have ks:zf Try.prog pN [.agg (suC S),.list 6 .plain (aat S.bd.length (wnF ((ZY S L).pick ch)))] (iv 0):=by
   rw[hch] at hI
   have hm:∀ o∈(ZY S L).pick ch,o∈(ZY S L).of:=Rf hI.1
   refine abc hS c1 (fun b hb=>aaZ c1 hb hm hI.2) (fun b hb j hj=>(aaJ (aaZ c1 hb hm hI.2)).2.1 j hj) (fun j hj=>abd hj hm hI.2) (fun j hj=>abb hj hm hI.2)
  refine ze ks (by simp[aaX]) (by simp) ?_
  simp
  refine ze (xs:=[]) (args:=[]) jy rfl (.inl rfl) ?_
  simp[mB]
end
theorem problemSells_contract (xs:List AV) (h:aO [Ff,.slice T9,.int .u64] xs):zf Try.prog nB xs (bv true):=by
 obtain ⟨x,y,z,rfl,h1,h2,h3⟩:=CD h
 obtain ⟨S,rfl,hS⟩:=GL h1
 obtain ⟨L,hL,_⟩:=Es h2
 simp only[List.cons.injEq,and_true] at hL
 subst hL
 obtain ⟨n,hn,_⟩:=h3
 simp only[List.cons.injEq,and_true] at hn
 subst hn
 exact aa6 hS
end Go.Proofs.Ytbmhibiljjnfiaa
