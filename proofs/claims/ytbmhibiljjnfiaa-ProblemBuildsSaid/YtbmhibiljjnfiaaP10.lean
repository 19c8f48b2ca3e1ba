/- What the proof rests on, part 10: QG LA LB QT LD LE LI. -/
import Derived.Test.YtbmhibiljjnfiaaP9
set_option maxRecDepth 100000
set_option maxHeartbeats 4000000
namespace Go.Proofs.Ytbmhibiljjnfiaa
open Go Go.Am Go.Pb
section
variable {P:Pb} {r n k:Nat} {o:Of} {L:List Of} {fx:List Int}
theorem EI (hn:P.cl.length≤1000) (hk:P.of.length≤1000000) (_hl:fx.length<4611686018427387904) :
  zf Try.prog vc [.agg (pbC P),clA fx] (if P.relE fx=0 then .tuple [Nz P fx,clA (ints (yM fx)),iv 0] else .tuple [.agg [zX,zX],zX,iv (P.relE fx)]):=by
 refine uD fw (by simp) ?_
 simp[nZ]
 refine ze (jA hn hk) (by simp) (by simp) ?_
 by_cases c1:P.chk=0
 ·have hG:=j6 c1
  by_cases c2:fx.length=P.of.length
  ·have c2':(fx.length:Int)=P.of.length:=by omega
   simp[c1,c2']
   refine zz (f6 P fx) (fun k=>∀ q,q<k→okX fx q) fx.length (by simp[f6,Lf,Pb.inK,c2']) (fun q hq=>by omega) (fun k hk' hI=>?_) (fun hI=>?_)
   ·have e:(k:Int)<P.of.length:=by omega
    have hko:k<P.of.length:=by omega
    have w1:=zo (k:=k) (by omega)
    have hg:fx.getD k 9=fx[k]:=by rw[List.getD_eq_getElem?_getD,List.getElem?_eq_getElem hk']; rfl
    have hs0:=Tr (fx:=fx) (v:=0) (k:=k)
    have hs1:=Tr (fx:=fx) (v:=1) (k:=k)
    have hl0:=Yv (fx:=fx) (v:=0) (k:=k)
    have hl1:=Pc (P:=P) (fx:=fx) (k:=k)
    rw[hg] at hs0 hs1
    have hx:okX fx k→∀ q,q<k+1→okX fx q:=fun d q hq=>by
     by_cases eq:q=k
     ·subst eq; exact d
     ·exact hI q (by omega)
    by_cases d1:fx[k]=-1
    ·have d:=hx (.inl (by rw[hg,d1]))
     rw[d1] at hs0 hs1
     rw[if_neg (by decide)] at hs0 hs1
     simp[xz,f6,e,c2',hk',d1,w1,hs0,hs1,Pb.inK]
     exact d
    ·by_cases d2:fx[k]=0
     ·have d:=hx (.inr (.inl (by rw[hg,d2])))
      rw[d2] at hs0 hs1
      rw[if_pos rfl] at hs0
      rw[if_neg (by decide)] at hs1
      simp[xz,f6,e,c2',hk',d2]
      refine ve (by decide) rfl ?_ ?_ (by simp) ?_
      ·simp only[uz,SO]; omega
      ·simp only[uz,SO]; omega
      ·have hro:clR (ints (mv fx 0 k))++[[iv k]]=clR (ints (mv fx 0 (k+1))):=by rw[hs0,JK]; rfl
       rw[hro]
       simp[w1,f6,c2',tG,Pb.inK,hs1]
       exact d
     ·by_cases d3:fx[k]=1
      ·have d:=hx (.inr (.inr (by rw[hg,d3])))
       rw[d3] at hs0 hs1
       rw[if_neg (by decide)] at hs0
       rw[if_pos rfl] at hs1
       simp[xz,f6,e,c2',hk',d3,hko]
       refine ve (by decide) rfl ?_ ?_ (by simp) ?_
       ·simp only[sZ]; omega
       ·simp only[sZ]; omega
       ·have hro:ofR (P.inK fx k)++[oC P.of[k]]=ofR (P.inK fx (k+1)):=by unfold Pb.inK; rw[hs1,List.map_append,ew,← YQ hko]; rfl
        rw[hro]
        simp[w1,f6,c2',tG,hs0]
        exact d
      ·have hf:P.relE fx=4:=by
        unfold Pb.relE
        rw[if_neg (by simp[c1]),if_neg (by simp[c2]),if_pos (fun h=>by
         rcases h k hk' with h | h | h
         ·exact d1 (by rw[← hg,h])
         ·exact d2 (by rw[← hg,h])
         ·exact d3 (by rw[← hg,h]))]
       simp[xz,f6,e,c2',hk',d1,d2,d3,hf,wq]
       exact AV.imp.refl
   ·have key:∀ K:Exit→St→Prop,K (.exit 0) {env:=[(2,.ptr 2 0),(4,.ptr 4 0),(8,xF fx),(9,xI P fx),(36,clA fx),(37,iv fx.length),(38,iv fx.length),(39,bv false)],sto:=[(2,.var (pbC P)),(4,.var [zX,zX])]}→awp Try.prog xz (f6 P fx fx.length) (qt K):=by
     intro K h
     simp[xz,f6]
     exact h
    refine key _ ?_
    have hF:okF fx:=hI
    have hm:=Ee (P:=P) (fx:=fx) (k:=fx.length) (by omega)
    have hil:=Pc (P:=P) (fx:=fx) (k:=fx.length)
    have hk160:=hG.k
    have hP:∀ o∈P.inL fx,P.offE o=0:=fun o ho=>hG.off o (hm o ho)
    have hil:(P.inL fx).length≤160:=by unfold Pb.inL; omega
    have hfl:(yM fx).length≤160:=by have:=Yv (fx:=fx) (v:=0) (k:=fx.length); unfold yM; omega
    have hfm:∀ i∈yM fx,i<P.of.length:=fun i hi=>by have:=(S6 hi).1; omega
    simp[mT]
    refine ze (pa (SE (P:=P) (L:=P.inL fx) hn (by omega) (fun o ho=>(uZ (tW (hP o ho)).1).1) (fun o ho=>(uZ (tW (hP o ho)).1).2.2)) (uB wX)) (by simp) (by simp) ?_
    by_cases c3:P.fits (P.inL fx)
    ·have hE:P.relE fx=0:=by
      unfold Pb.relE
      rw[if_neg (by simp[c1]),if_neg (by simp[c2]),if_neg (fun h=>h hF),if_pos c3]
     rw[if_pos hE]
     simp[-vI,c3]
     have hR:P.rows≤1012:=by unfold Pb.rows; omega
     have hv:∀ i∈yM fx,-9223372036854775808≤(P.at (i:Nat)).v∧(P.at (i:Nat)).v<9223372036854775808:=fun i hi=>by
      have:=(uZ (tW (hG.off _ (at_mem (hfm i hi)))).1).2.1
      omega
     refine zz (UV P fx) (fun _=>True) (yM fx).length (by simp[UV]) trivial (fun k hk' _=>?_) (fun _=>?_)
     ·have e:(k:Int)<(yM fx).length:=by omega
      have w1:=zo (k:=k) (by omega)
      obtain ⟨i,hi⟩:∃ i,(yM fx)[k]=i:=⟨_,rfl⟩
      have him:i∈yM fx:=hi▸List.getElem_mem hk'
      have hio:=hfm i him
      have hof:i<(ofR P.of).length:=by simpa using hio
      have hka:k<(clR (ints (yM fx))).length:=by simpa using hk'
      have hat:P.at (i:Int)=P.of[i]:=YQ hio
      obtain ⟨hv1,hv2⟩:=hv i him
      rw[hat] at hv1 hv2
      have hgk:(P.relG fx)[k]'(by simpa using hk')=P.of[i].v:=by rw[Gs,hi,hat]
      simp[-ww,uM,UV,e,fU hka,Xi hof,hi]
      refine ze (bH hv1 hv2) (by simp) (by simp) ?_
      simp
      refine ve (by decide) rfl ?_ ?_ (by simp) ?_
      ·simp only[XB,List.length_take,Ro]; omega
      ·simp only[XB,List.length_take,Ro]; omega
      ·have hro:qI ((P.relG fx).take k)++[fr ((P.of[i].v:Int):Rat)]=qI ((P.relG fx).take (k+1)):=by rw[← Po (by simpa using hk'),hgk]
       rw[hro]
       simp[-cellsOf,w1,UV,tG]
     ·have key:∀ K:Exit→St→Prop,K (.exit 3) {env:=[(2,.ptr 2 0),(4,.ptr 4 0),(8,xF fx),(9,xI P fx),(12,.ptr 12 0),(13,.ptr 13 0),(71,xF fx),(72,iv (yM fx).length),(73,iv (yM fx).length),(74,bv false)],sto:=[(2,.var (pbC P)),(4,.var [zX,zX]),(12,.var (pbC P)),(13,.var [apc 87 3 (qI (P.relG fx)),zX])]}→awp Try.prog uM (UV P fx (yM fx).length) (qt K):=by
       intro K h
       have ht:(P.relG fx).take (yM fx).length=P.relG fx:=List.take_of_length_le (by simp)
       simp[uM,UV,ht]
       exact h
      refine key _ ?_
      simp[lX]
      refine ze (Rt hn) (by simp) (by simp) ?_
      simp
      refine zz (UY P fx) (fun _=>True) P.rows (by simp[UY]) trivial (fun r hr _=>?_) (fun _=>?_)
      ·have e:(r:Int)<P.rows:=by omega
       have w1:=zo (k:=r) (by omega)
       have hco:∀ o∈P.inL fx,0≤P.coef r o∧P.coef r o≤4:=fun o ho=>aV (uZ (tW (hP o ho)).1).2.2 hr
       have hbn:-1000≤P.bnd r∧P.bnd r≤1000:=by
        unfold Pb.bnd
        unfold Pb.rows at hr
        split
        ·omega
        ·split
         ·have:=hG.sup (r-P.cl.length) (by omega); omega
         ·have:=hG.set (r-P.cl.length-6) (by omega)
          unfold Pb.okC at this
          have:=hG.sup (r-P.cl.length-6) (by omega)
          omega
       simp[uP,UY,e]
       refine ze (Uc (P:=P) hn hr) (by simp) (by simp) ?_
       simp[-vI]
       refine zz (UW P fx r) (fun _=>True) (P.inL fx).length (by simp[UW,bT]) trivial (fun k hk' _=>?_) (fun _=>?_)
       ·have e:(k:Int)<(P.inL fx).length:=by omega
        have w2:=zo (k:=k) (by omega)
        have hka:k<(ofR (P.inL fx)).length:=by simpa using hk'
        have hg:(P.inL fx)[k]?=some (P.inL fx)[k]:=by simp[hk']
        have hmk:=List.getElem_mem hk'
        obtain ⟨p1,p2⟩:=mw hco k (by omega)
        obtain ⟨p3,p4⟩:=hco _ hmk
        have hs:=fg (f:=P.coef r) hg
        have hof:=(uZ (tW (hP _ hmk)).1)
        obtain ⟨x,hx⟩:∃ x,P.bnd r-th (P.coef r) (P.inL fx) k=x:=⟨_,rfl⟩
        have w3:IntKind.i64.wrap (x-P.coef r (P.inL fx)[k])=P.bnd r-th (P.coef r) (P.inL fx) (k+1):=by rw[hs,wrap64]<;>omega
        simp[-ww,uN,UW,e,fU hka]
        refine ze (Xd (P:=P) (r:=r) hn hof.1 hr) (by simp) (by simp) ?_
        simp[hx,w2,w3,UW]
       ·have hall:P.bnd r-th (P.coef r) (P.inL fx) (P.inL fx).length=P.relB fx r:=by unfold Pb.relB; rw[dG]
        have key:∀ K:Exit→St→Prop,K (.exit 7) {env:=[(2,.ptr 2 0),(4,.ptr 4 0),(8,xF fx),(9,xI P fx),(12,.ptr 12 0),(13,.ptr 13 0),(91,iv P.rows),(92,iv r),(16,iv r),(17,iv (P.relB fx r)),(98,xI P fx),(99,iv (P.inL fx).length),(100,iv (P.inL fx).length),(101,bv false)],sto:=[(2,.var (pbC P)),(4,.var [zX,zX]),(12,.var (pbC P)),(13,.var [apc 87 3 (qI (P.relG fx)),apc 139 4 (qR P fx r)])]}→awp Try.prog uN (UW P fx r (P.inL fx).length) (qt K):=by
         intro K h
         simp[uN,UW,hall]
         exact h
        refine key _ ?_
        obtain ⟨q1,q2⟩:=Kz hco
        have hB:-9223372036854775808≤P.relB fx r∧P.relB fx r<9223372036854775808:=by unfold Pb.relB; omega
        simp[lU]
        refine ze (bH hB.1 hB.2) (by simp) (by simp) ?_
        simp[-vI]
        refine zz (UX P fx r) (fun _=>True) (yM fx).length (by simp[UX]) trivial (fun k hk' _=>?_) (fun _=>?_)
        ·have e:(k:Int)<(yM fx).length:=by omega
         have w2:=zo (k:=k) (by omega)
         obtain ⟨i,hi⟩:∃ i,(yM fx)[k]=i:=⟨_,rfl⟩
         have him:i∈yM fx:=hi▸List.getElem_mem hk'
         have hio:=hfm i him
         have hof':i<(ofR P.of).length:=by simpa using hio
         have hka:k<(clR (ints (yM fx))).length:=by simpa using hk'
         have hat:P.at (i:Int)=P.of[i]:=YQ hio
         have hof:=uZ (tW (hG.off _ (List.getElem_mem hio))).1
         have hc4:=aV (P:=P) hof.2.2 hr
         have hgk:(P.relC fx r)[k]'(by simpa using hk')=P.coef r P.of[i]:=by rw[Gr,hi,hat]
         simp[-ww,uO,UX,e,fU hka,Xi hof',hi]
         refine ze (Xd (P:=P) (r:=r) hn hof.1 hr) (by simp) (by simp) ?_
         simp
         refine ze (bH (n:=P.coef r P.of[i]) (by omega) (by omega)) (by simp) (by simp) ?_
         simp
         refine ve (by decide) rfl ?_ ?_ (by simp) ?_
         ·simp only[XB,List.length_take,Rn]; omega
         ·simp only[XB,List.length_take,Rn]; omega
         ·have hro:qI ((P.relC fx r).take k)++[fr ((P.coef r P.of[i]:Int):Rat)]=qI ((P.relC fx r).take (k+1)):=by rw[← Po (by simpa using hk'),hgk]
          rw[hro]
          simp[-cellsOf,w2,UX,tG]
        ·have key:∀ K:Exit→St→Prop,K (.exit 9) {env:=[(2,.ptr 2 0),(4,.ptr 4 0),(8,xF fx),(9,xI P fx),(12,.ptr 12 0),(13,.ptr 13 0),(91,iv P.rows),(92,iv r),(16,iv r),(20,.ptr 20 0),(114,xF fx),(115,iv (yM fx).length),(116,iv (yM fx).length),(117,bv false)],sto:=[(2,.var (pbC P)),(4,.var [zX,zX]),(12,.var (pbC P)),(13,.var [apc 87 3 (qI (P.relG fx)),apc 139 4 (qR P fx r)]),(20,.var (apc 132 3 (qI (P.relC fx r))::fr (P.relB fx r:Int)))]}→awp Try.prog uO (UX P fx r (yM fx).length) (qt K):=by
          intro K h
          have ht:(P.relC fx r).take (yM fx).length=P.relC fx r:=List.take_of_length_le (by simp)
          simp[uO,UX,ht]
          exact h
         refine key _ ?_
         simp[lT]
         refine ve (by decide) rfl ?_ ?_ (by simp) ?_
         ·simp only[Rp]; omega
         ·simp only[Rp]; omega
         ·have hro:qR P fx r++[plc 3 (qI (P.relC fx r))::fr (P.relB fx r:Int)]=qR P fx (r+1):=LN
          rw[hro]
          simp[-cellsOf,w1,lV,UY,tG]
      ·have key:∀ K:Exit→St→Prop,K (.exit 5) {env:=[(2,.ptr 2 0),(4,.ptr 4 0),(8,xF fx),(9,xI P fx),(12,.ptr 12 0),(13,.ptr 13 0),(91,iv P.rows),(92,iv P.rows),(93,bv false)],sto:=[(2,.var (pbC P)),(4,.var [zX,zX]),(12,.var (pbC P)),(13,.var [apc 87 3 (qI (P.relG fx)),apc 139 4 (qR P fx P.rows)])]}→awp Try.prog uP (UY P fx P.rows) (qt K):=by
        intro K h
        simp[uP,UY]
        exact h
       refine key _ ?_
       simp[lW,wq]
       exact nk (zH Gq (zH (uB wX) (zH AV.imp.refl vu)))
    ·have hE:P.relE fx=14:=by
      unfold Pb.relE
      rw[if_neg (by simp[c1]),if_neg (by simp[c2]),if_neg (fun h=>h hF),if_neg c3]
     simp[c3,hE,wq]
     exact AV.imp.refl
  ·have c2':¬ (fx.length:Int)=P.of.length:=by omega
   have hE:P.relE fx=3:=by unfold Pb.relE; rw[if_neg (by simp[c1]),if_pos c2]
   simp[c1,c2',hE,wq]
   exact AV.imp.refl
 ·have hE:P.relE fx=P.chk:=by unfold Pb.relE; rw[if_pos c1]
  simp[c1,hE,wq]
  exact AV.imp.refl
end
def T4:AV:=.agg [.list 5 .full [[.val (.string ⟨#[97]⟩),iv 2,iv 3,iv 1,iv 0]],.list 4 .full [[.val (.string ⟨#[120]⟩),iv 0,iv 0,iv 0]],zX,zX]
theorem Co:zf Try.prog nE [] T4:=.of_run R2 1000 100 (by kernel_rfl)
theorem FF:zf Try.prog wg [T4,.list 8 .full [[iv 0,iv 1,iv 0,iv 0,iv 0,iv 0,iv 0,iv 5],[iv 0,iv 2,iv 0,iv 0,iv 0,iv 0,iv 0,iv 6]]] (.tuple [.agg [iv 2,iv 0,iv 0,iv 0,iv 0,iv 0,iv 2,iv 0,iv 0,iv 0,iv 0,iv 0,iv 0,iv 0,iv 0,iv 0,iv 0,iv 0,.list 1 .plain [[iv 0]],.list 8 .plain [[iv 0,iv 1,iv 0,iv 0,iv 0,iv 0,iv 0,iv 2]]],.list 1 .plain [[iv 0]],iv 0]):=.of_run R2 1000 100 (by kernel_rfl)
def w0:List Int→Nat→Int:=fun l k=>l.getD k 0
def P3:Pb:=⟨w0 [1,1],w0 [1,1],w0 [],[0,0,0],[⟨0,w0 [1,1],10⟩,⟨1,w0 [1],6⟩,⟨2,w0 [0,1],6⟩]⟩
theorem E6:zf Try.prog sE [] (.agg [iv 1,iv 1,iv 0,iv 0,iv 0,iv 0,iv 1,iv 1,iv 0,iv 0,iv 0,iv 0,iv 0,iv 0,iv 0,iv 0,iv 0,iv 0,.list 1 .full [[iv 0],[iv 0],[iv 0]],.list 8 .full [[iv 0,iv 1,iv 1,iv 0,iv 0,iv 0,iv 0,iv 10],[iv 1,iv 1,iv 0,iv 0,iv 0,iv 0,iv 0,iv 6],[iv 2,iv 0,iv 1,iv 0,iv 0,iv 0,iv 0,iv 6]]]):=.of_run R2 1000 100 (by kernel_rfl)
theorem E7:zf Try.prog sE [] (.agg (pbC P3)):=by
 refine Km E6 ?_
 have e:ofR P3.of=[[iv 0,iv 1,iv 1,iv 0,iv 0,iv 0,iv 0,iv 10],[iv 1,iv 1,iv 0,iv 0,iv 0,iv 0,iv 0,iv 6],[iv 2,iv 0,iv 1,iv 0,iv 0,iv 0,iv 0,iv 6]]:=by
  unfold ofR P3
  simp only[List.map_cons,List.map_nil,uU]
  rfl
 simp only[z5]
 refine Uw ?_
 have h2:AV.imp (.list 8 .full [[iv 0,iv 1,iv 1,iv 0,iv 0,iv 0,iv 0,iv 10],[iv 1,iv 1,iv 0,iv 0,iv 0,iv 0,iv 0,iv 6],[iv 2,iv 0,iv 1,iv 0,iv 0,iv 0,iv 0,iv 6]]) (ofA P3.of):=by
  unfold ofA
  rw[e]
  exact xD
 have h1:AV.imp (.list 1 .full [[iv 0],[iv 0],[iv 0]]) (clA P3.cl):=xD
 repeat' first | exact zH h1 (zH h2 vu) | refine zH AV.imp.refl ?_
theorem Di:P3.chk=0:=by decide +kernel
theorem eV:P3.cl.length≤1000:=by decide
theorem eU:P3.of.length≤1000000:=by decide
theorem DG:zf Try.prog yf [.agg (pbC P3)] (iv 0):=by have h:=jA eV eU; rwa [Di] at h
theorem C0:zf Try.prog z9 [.agg (pbC P3),.list 1 .full [[iv 0]]] (iv 0):=by
 have h:=dn (ch:=[0]) eV eU (by decide)
 rw[show P3.feaE [0]=0 by decide +kernel] at h
 exact pa h xD
theorem C1:zf Try.prog z9 [.agg (pbC P3),.list 1 .full [[iv 1],[iv 2]]] (iv 0):=by
 have h:=dn (ch:=[1,2]) eV eU (by decide)
 rw[show P3.feaE [1,2]=0 by decide +kernel] at h
 exact pa h xD
theorem C2:zf Try.prog z9 [.agg (pbC P3),.list 1 .full [[iv 0],[iv 1]]] (iv 14):=by
 have h:=dn (ch:=[0,1]) eV eU (by decide)
 rw[show P3.feaE [0,1]=14 by decide +kernel] at h
 exact pa h xD
theorem Aa:zf Try.prog vd [.agg (pbC P3),.list 1 .full [[iv 1],[iv 2]]] (iv 12):=by
 have h:=Df (ch:=[1,2]) eV eU (by decide)
 rw[show P3.valE [1,2]=12 by decide +kernel] at h
 exact pa h xD
theorem F5:zf Try.prog x4 [.agg (pbC P3)] (iv 15):=by
 have h:=Ps eV eU
 rwa [show pK P3=15 by decide +kernel] at h
theorem DH:zf Try.prog vp [.agg (pbC P3),iv 3] (.tuple [clA [1,1,0],iv 1]):=by
 have h:=Bu (r:=3) eV eU
 have e:NB P3 3=.tuple [clA [1,1,0],iv 1]:=by
  have hr:pK P3=15:=by decide +kernel
  unfold NB
  rw[hr,if_pos (by decide),if_pos (by decide),show gp P3 (Int.toNat 3)=[1,1,0] by decide +kernel,show P3.bnd (Int.toNat 3)=1 by decide +kernel]
 rwa [e] at h
theorem Jz:zf Try.prog vc [.agg (pbC P3),.list 1 .full [[iv 0],[iv 1],[iv 0]]] (.tuple [Nz P3 [0,1,0],clA [0,2],iv 0]):=by
 have h:=EI (fx:=[0,1,0]) eV eU (by decide)
 rw[if_pos (by decide +kernel),show ints (yM [0,1,0])=[0,2] by decide +kernel] at h
 exact pa h xD
theorem C3:zf Try.prog xe [.agg (pbC P3),iv 2] (.agg (pbC (woE P3 2))):=KH (by decide) (by decide) eV eU
theorem DI:(woE P3 2).of.length=2:=by decide +kernel
theorem CW:zf Try.prog z4 [clA [1,1,0],.list 1 .full [[iv 1],[iv 1],[iv 0]]] (iv 0):=pa (aa (a:=[1,1,0]) (b:=[1,1,0]) (by decide) (by decide)) xD
theorem CX:zf Try.prog z4 [clA [0],.list 1 .full [[iv 0]]] (iv 0):=pa (aa (a:=[0]) (b:=[0]) (by decide) (by decide)) xD
theorem CY:zf Try.prog z4 [clA [0,2],.list 1 .full [[iv 0],[iv 2]]] (iv 0):=pa (aa (a:=[0,2]) (b:=[0,2]) (by decide) (by decide)) xD
theorem CZ:zf Try.prog yL [.list 1 .full [[iv 0],[iv 3]],.list 1 .full [[iv 1]]] (iv (-1)) :=
 JG (Cf (a:=[0,3]) (b:=[1]) (by decide) (by decide)) (Bf xD xD)
theorem jy:zf Try.prog zS [] (bv true):=by
 refine zC cn (by simp) ?_
 simp[ko]
 refine ze (xs:=[]) (args:=[]) E7 rfl (.inl rfl) ?_
 simp[dE]
 refine ze (xs:=[]) (args:=[]) Co rfl (.inl rfl) ?_
 have hb:=FF
 unfold T4 at hb
 simp[T4,splice]
 refine ze hb (by simp) (by simp) ?_
 simp
 refine ze DH (by simp) (by simp) ?_
 simp
 refine ze Jz (by simp) (by simp) ?_
 simp[Nz]
 refine ze DG (by simp) (by simp) ?_
 simp
 refine ze C0 (by simp) (by simp) ?_
 simp
 refine ze C1 (by simp) (by simp) ?_
 simp
 refine ze C2 (by simp) (by simp) ?_
 simp
 refine ze Aa (by simp) (by simp) ?_
 simp
 refine ze F5 (by simp) (by simp) ?_
 simp
 refine ze CW (by simp) (by simp) ?_
 simp
 refine ze (show zf Try.prog z4 [.list 1 .plain [[iv 0]],.list 1 .full [[iv 0]]] (iv 0) from CX) (by simp) (by simp) ?_
 simp
 refine ze CY (by simp) (by simp) ?_
 have hr:P3.rows=15:=by decide
 simp[hr]
 refine ze CZ (by simp) (by simp) ?_
 simp
 refine ze C3 (by simp) (by simp) ?_
 simp[DI,wO,kH]
abbrev tyB:Ty:=.arr 6 (.int .i64)
abbrev T9:Ty:=.st [.int .i64,tyB,.int .i64]
theorem Dt {cs:List AV} (h:TyC tyB cs):∃ w:Nat→Int,cs=bC w:=by
 obtain ⟨rows,rfl,hl,h⟩:=h
 obtain ⟨L,rfl,_⟩:=lu (fun n:Int=>[iv n]) (fun _=>True) (fun r hr=>by
  obtain ⟨n,rfl,_⟩:=hr
  exact ⟨n,rfl,trivial⟩) h
 refine ⟨fun k=>L.getD k 0,?_⟩
 match L,hl with
 | [a,b,c,d,e,f],_=>rw[yQ]; rfl
theorem J0 {cs:List AV} (h:TyC T9 cs):∃ o:Of,cs=oC o:=by
 obtain ⟨a1,b1,rfl,⟨n,rfl,_⟩,a2,b2,rfl,h2,a3,b3,rfl,⟨v,rfl,_⟩,rfl⟩:=h
 obtain ⟨w,rfl⟩:=Dt h2
 exact ⟨⟨n,w,v⟩,by rw[uU,yQ]; rfl⟩
theorem Es {cs:List AV} (h:TyC (.slice T9) cs):∃ L:List Of,cs=[ofA L]∧L.length≤reachBytes:=by
 obtain ⟨rows,rfl,hl,h⟩:=h
 obtain ⟨L,rfl,h2⟩:=lu oC (fun _=>True) (fun r hr=>by
  obtain ⟨o,rfl⟩:=J0 hr
  exact ⟨o,rfl,trivial⟩) h
 exact ⟨L,rfl,by simpa using hl⟩
section
variable {P:Pb}
theorem bn:∀ a:List Int,cmpL a a=0
 | []=>rfl
 | a::l=>by rw[cmpL,(K9 (a:=a) (b:=a)).1.2 rfl,if_pos rfl]; exact bn l
end
section
variable {P:Pb}
@[simp] theorem Tm {o:Of}:r5 8 (oC o)=true:=by
 rw[uU]; rfl
def US (P:Pb) (k:Nat):St:={env:=[(2,.ptr 2 0),(3,.ptr 3 0),(5,iv k)],sto:=[(2,.var (pbC P)),(3,.var (pbC P))]}
theorem Cp (hn:P.cl.length≤1000) (hk:P.of.length≤1000000):zf Try.prog tE [.agg (pbC P),.agg (pbC P)] (bv true):=by
 have hkd:kds Try.prog Op.maxDepth zI=some (List.replicate 6 (.i .i64)):=by kernel_rfl
 have hg:Try.prog.eqGuardType Try.prog.depth zI=false:=by kernel_rfl
 have hA:agT Try.prog zI=true:=by kernel_rfl
 have hkd2:kds Try.prog Op.maxDepth lE=some (List.replicate 8 (.i .i64)):=by kernel_rfl
 have hg2:Try.prog.eqGuardType Try.prog.depth lE=false:=by kernel_rfl
 have hA2:agT Try.prog lE=true:=by kernel_rfl
 refine zC aG (by simp) ?_
 simp[j1,dE]
 rw[sO hkd hg hA xf xf]
 simp
 rw[sO hkd hg hA xf xf]
 simp
 rw[sO hkd hg hA xf xf]
 simp
 refine ze (aa (a:=P.cl) (b:=P.cl) (by omega) (by omega)) (by simp) (by simp) ?_
 simp[bn]
 refine zz (US P) (fun _=>True) P.of.length (by simp[US]) trivial (fun k hk' _=>?_) (fun _=>?_)
 ·have e:(k:Int)<P.of.length:=by omega
  have w1:=zo (k:=k) (by omega)
  simp[ry,US,e,hk']
  rw[sO hkd2 hg2 hA2 Tm Tm]
  simp[w1,US]
 ·have key:∀ K:Exit→St→Prop,K (.exit 0) {env:=[(2,.ptr 2 0),(3,.ptr 3 0),(5,iv P.of.length),(46,bv false)],sto:=[(2,.var (pbC P)),(3,.var (pbC P))]}→awp Try.prog ry (US P P.of.length) (qt K):=by
   intro K h
   simp[ry,US]
   exact h
  refine key _ ?_
  simp[gW,gm]
end
abbrev Cw:Ty:=.st [.str,.int .i64,.int .i64,.int .i64,.int .i64]
abbrev Cv:Ty:=.st [.str,.int .i64,.int .i64,.int .i64]
abbrev Fg:Ty:=.st [.int .i64,.int .i64,.int .i64]
abbrev Ff:Ty:=.st [.slice Cw,.slice Cv,.slice Fg,.slice Fg]
theorem Cg {cs:List AV} (h:TyC (.slice Cw) cs):∃ l:List Prd,cs=[.list 5 .plain (xL l)]∧l.length≤reachBytes∧∀ x∈l,x.nm.size≤reachBytes:=by
 obtain ⟨rows,rfl,hl,h⟩:=h
 obtain ⟨l,rfl,hp⟩:=lu Rh (fun x:Prd=>x.nm.size≤reachBytes) (fun r hr=>by
  obtain ⟨a1,b1,rfl,⟨s,rfl,hs⟩,a2,b2,rfl,⟨n2,rfl,_⟩,a3,b3,rfl,⟨n3,rfl,_⟩,a4,b4,rfl,⟨n4,rfl,_⟩,a5,b5,rfl,⟨n5,rfl,_⟩,rfl⟩:=hr
  exact ⟨⟨s,n2,n3,n4,n5⟩,rfl,hs⟩) h
 exact ⟨l,rfl,by simpa using hl,hp⟩
theorem Dm {cs:List AV} (h:TyC (.slice Cv) cs):∃ l:List Bid,cs=[.list 4 .plain (sI l)]∧l.length≤reachBytes∧∀ x∈l,x.nm.size≤reachBytes:=by
 obtain ⟨rows,rfl,hl,h⟩:=h
 obtain ⟨l,rfl,hp⟩:=lu Fj (fun x:Bid=>x.nm.size≤reachBytes) (fun r hr=>by
  obtain ⟨a1,b1,rfl,⟨s,rfl,hs⟩,a2,b2,rfl,⟨n2,rfl,_⟩,a3,b3,rfl,⟨n3,rfl,_⟩,a4,b4,rfl,⟨n4,rfl,_⟩,rfl⟩:=hr
  exact ⟨⟨s,n2,n3,n4⟩,rfl,hs⟩) h
 exact ⟨l,rfl,by simpa using hl,hp⟩
theorem KA {cs:List AV} (h:TyC (.slice Fg) cs):∃ l:List T3,cs=[.list 3 .plain (mM l)]∧l.length≤reachBytes:=by
 obtain ⟨rows,rfl,hl,h⟩:=h
 obtain ⟨l,rfl,hp⟩:=lu U1 (fun _=>True) (fun r hr=>by
  obtain ⟨a2,b2,rfl,⟨n2,rfl,_⟩,a3,b3,rfl,⟨n3,rfl,_⟩,a4,b4,rfl,⟨n4,rfl,_⟩,rfl⟩:=hr
  exact ⟨⟨n2,n3,n4⟩,rfl,trivial⟩) h
 exact ⟨l,rfl,by simpa using hl⟩
theorem GL {x:AV} (h:cN Ff x):∃ S:Stp,x=.agg (suC S)∧S.Sm:=by
 obtain ⟨cs,rfl,a1,b1,rfl,h1,a2,b2,rfl,h2,a3,b3,rfl,h3,a4,b4,rfl,h4,rfl⟩:=h
 obtain ⟨p,rfl,hp1,hp2⟩:=Cg h1
 obtain ⟨b,rfl,hb1,hb2⟩:=Dm h2
 obtain ⟨c,rfl,hc⟩:=KA h3
 obtain ⟨s,rfl,hs⟩:=KA h4
 have hr:reachBytes<4611686018427387904:=by decide
 exact ⟨⟨p,b,c,s⟩,rfl,⟨Nat.lt_of_le_of_lt hp1 hr,Nat.lt_of_le_of_lt hb1 hr,Nat.lt_of_le_of_lt hc hr,Nat.lt_of_le_of_lt hs hr,fun x hx=>Nat.lt_of_le_of_lt (hp2 x hx) hr,fun x hx=>Nat.lt_of_le_of_lt (hb2 x hx) hr⟩⟩
section
variable {S:Stp} {L:List Of}
theorem FC:(if wb S L=0 then ZY S L else pbZ).cl.length≤S.bd.length∧(if wb S L=0 then ZY S L else pbZ).of.length≤L.length∧(if wb S L=0 then xS S L L.length else []).length≤L.length:=by
 obtain ⟨l1,l2⟩:=jE (S:=S) (L:=L) L.length
 by_cases h:wb S L=0
 ·rw[if_pos h,if_pos h]
  refine ⟨by simp[ZY],?_,l1⟩
  show (vR S L L.length).length≤_
  omega
 ·rw[if_neg h,if_neg h]
  exact ⟨Nat.zero_le _,Nat.zero_le _,Nat.zero_le _⟩
theorem M5 (hS:S.Sm):zf Try.prog vb [.agg (suC S),ofA L] (bv true):=by
 refine zC nA (by simp) ?_
 by_cases g1:50<S.pd.length
 ·have g1':(50:Int)<S.pd.length:=by omega
  simp[yv,g1']
  refine ze (xs:=[]) (args:=[]) jy rfl (.inl rfl) ?_
  simp[yx]
 have g1':¬ (50:Int)<S.pd.length:=by omega
 by_cases g2:50<S.bd.length
 ·have g2':(50:Int)<S.bd.length:=by omega
  simp[yv,g1',g2']
  refine ze (xs:=[]) (args:=[]) jy rfl (.inl rfl) ?_
  simp[yx]
 have g2':¬ (50:Int)<S.bd.length:=by omega
 by_cases g3:50<S.cp.length
 ·have g3':(50:Int)<S.cp.length:=by omega
  simp[yv,g1',g2',g3']
  refine ze (xs:=[]) (args:=[]) jy rfl (.inl rfl) ?_
  simp[yx]
 have g3':¬ (50:Int)<S.cp.length:=by omega
 by_cases g4:50<S.sa.length
 ·have g4':(50:Int)<S.sa.length:=by omega
  simp[yv,g1',g2',g3',g4']
  refine ze (xs:=[]) (args:=[]) jy rfl (.inl rfl) ?_
  simp[yx]
 have g4':¬ (50:Int)<S.sa.length:=by omega
 by_cases g5:330<L.length
 ·have g5':(330:Int)<L.length:=by omega
  simp[yv,g1',g2',g3',g4',g5']
  refine ze (xs:=[]) (args:=[]) jy rfl (.inl rfl) ?_
  simp[yx]
 have g5':¬ (330:Int)<L.length:=by omega
 obtain ⟨b1,b2,b3⟩:=FC (S:=S) (L:=L)
 have kb:=Do (L:=L) hS
 have kr:=EG (L:=L) hS
 unfold rg at kb kr
 generalize (if wb S L=0 then ZY S L else pbZ)=Q at *
 generalize (if wb S L=0 then xS S L L.length else [])=J at *
 simp[yv,g1',g2',g3',g4',g5']
 refine ze kb (by simp) (by simp) ?_
 simp
 refine ze kr (by simp) (by simp) ?_
 simp
 refine ze (Cp (P:=Q) (by omega) (by omega)) (by simp) (by simp) ?_
 simp
 refine ze (aa (a:=J) (b:=J) (by omega) (by omega)) (by simp) (by simp) ?_
 simp[bn]
 refine ze (xs:=[]) (args:=[]) jy rfl (.inl rfl) ?_
 simp[yx]
end
theorem problemBuilds_contract (xs:List AV) (h:aO [Ff,.slice T9] xs):zf Try.prog vb xs (bv true):=by
 obtain ⟨x,y,rfl,h1,h2⟩:=Ma h
 obtain ⟨S,rfl,hS⟩:=GL h1
 obtain ⟨L,hL,_⟩:=Es h2
 simp only[List.cons.injEq,and_true] at hL
 subst hL
 exact M5 hS
end Go.Proofs.Ytbmhibiljjnfiaa
