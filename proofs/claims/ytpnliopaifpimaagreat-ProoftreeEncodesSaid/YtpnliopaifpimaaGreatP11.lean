/- What the proof rests on, part 11: QC PF BA QE Y1 BBs BAr BB CM BC QDp GQ QV GF VO VP PT5 VQ VR VS VT VU QZ VW VX VY VZ QT LA LB LC LD. -/
import Derived.Test.YtpnliopaifpimaaGreatP10
set_option maxRecDepth 100000
set_option maxHeartbeats 4000000
namespace Go.Proofs.YtpnliopaifpimaaGreat
open Go Go.Am Go.Pb
@[simp] theorem aim {u:Of}:zH (oC u).tail 0 (some 6)=some (.agg (bC u.w)):=by rw[pc,tn]; rfl
section
variable {P:Pb} {r n:Nat} {o:Of} {L:List Of}
def kS (P:Pb) (k:Nat):St:={env:=[(1,.ptr 1 0),(3,iv k)],sto:=[(1,.var (pbC P))]}
def ZN (P:Pb) (k:Nat):St:={env:=[(1,.ptr 1 0),(4,iv k)],sto:=[(1,.var (pbC P))]}
def jV (P:Pb) (k:Nat):St:={env:=[(1,.ptr 1 0),(5,iv k)],sto:=[(1,.var (pbC P))]}
def ZO (P:Pb) (o:Of) (k j:Nat):St:={env:=[(1,.ptr 1 0),(5,iv k),(6,.ptr 6 0),(7,iv j)],sto:=[(1,.var (pbC P)),(6,.var (oC o))]}
theorem FA {i:Nat} (h:P.offE o≠0):P.offI i o=P.offE o:=by unfold Pb.offI; rw[if_pos h]
theorem RG (h:o.b<0∨(P.cl.length:Int)≤o.b):P.offE o=6:=by
 have:qT P.cl.length o=6:=by unfold qT; rw[if_pos h]
 unfold Pb.offE; rw[this]; rfl
theorem RH (hb:¬ (o.b<0∨(P.cl.length:Int)≤o.b)) (h:o.v<1∨1000000<o.v):P.offE o=4:=by
 have:qT P.cl.length o=4:=by unfold qT; rw[if_neg hb,if_pos h]
 unfold Pb.offE; rw[this]; rfl
theorem Bq (hb:¬ (o.b<0∨(P.cl.length:Int)≤o.b)) (hv:¬ (o.v<1∨1000000<o.v)) (h:¬ okB o.w):P.offE o=4:=by
 have:qT P.cl.length o=4:=by unfold qT; rw[if_neg hb,if_neg hv,if_neg h]
 unfold Pb.offE; rw[this]; rfl
theorem agM (hb:¬ (o.b<0∨(n:Int)≤o.b)) (hv:¬ (o.v<1∨1000000<o.v)) (h:okB o.w):qT n o=0:=by unfold qT; rw[if_neg hb,if_neg hv,if_pos h]
theorem Br (hf:qT P.cl.length o=0) (h:jX o.w):P.offE o=4:=by unfold Pb.offE; rw[if_neg (fun h=>h hf),if_pos h]
theorem Bp (hf:qT P.cl.length o=0) (hz:¬ jX o.w):P.offE o=if P.fits [o] then 0 else 14:=by unfold Pb.offE; rw[if_neg (fun h=>h hf),if_neg hz]
theorem KG:ze Tryz.prog vB [.agg (pbC P)] (iv P.chk):=by
 have hkd:kds Tryz.prog Op.maxDepth vg=some (List.replicate 6 (.i .i64)):=by kernel_rfl
 have hg:Tryz.prog.eqGuardType Tryz.prog.depth vg=false:=by kernel_rfl
 have hA:agT Tryz.prog vg=true:=by kernel_rfl
 refine zn Me (by simp) ?_
 simp[Z5]
 refine za (KQ (w:=P.sup)) (by simp) (by simp) ?_
 unfold Pb.chk
 by_cases c1:okB P.sup
 ·simp[c1]
  refine zw (kS P) (fun r=>∀ q,q<r→P.okC q) 6 (by simp[kS]) (fun q hq=>by omega) (fun k hk hI=>?_) (fun hI=>?_)
  ·have e:(k:Int)<6:=by omega
   have w1:=zm (k:=k) (by omega)
   by_cases d:P.okC k
   ·have d':=d
    unfold Pb.okC at d'
    obtain ⟨d1,d2,d3,d4,d5⟩:=d'
    have b1:¬ P.cls k<0:=by omega
    have b2:¬ 4<P.cls k:=by omega
    have b3:¬ P.opn k<0:=by omega
    have b4:¬ P.sup k<P.opn k:=by omega
    have hx:∀ q,q<k+1→P.okC q:=fun q hq=>by
     by_cases eq:q=k
     ·subst eq; exact d
     ·exact hI q (by omega)
    by_cases b5:P.cls k=0
    ·have b6:=d5 b5
     rw[b5] at b1 b2
     rw[b6] at b3 b4
     simp[yT,kS,e,yA hk,yn hk,vd hk,b3,b5,b6,w1]
     exact hx
    ·simp[yT,kS,e,yA hk,yn hk,vd hk,b1,b2,b3,b4,b5,w1]
     exact hx
   ·have hF:P.frameE=4:=by unfold Pb.frameE; rw[if_neg (fun h=>h c1),if_pos (show ¬ P.okCs from fun h=>d (h k hk))]
    rw[hF]
    by_cases b1:P.cls k<0
    ·simp[yT,kS,e,yn hk,b1,yb]
    ·by_cases b2:4<P.cls k
     ·simp[yT,kS,e,yn hk,b1,b2,yb]
     ·by_cases b3:P.opn k<0
      ·simp[yT,kS,e,yA hk,yn hk,b1,b2,b3,yb]
      ·by_cases b4:P.sup k<P.opn k
       ·simp[yT,kS,e,yA hk,yn hk,vd hk,b1,b2,b3,b4,yb]
       ·have b5:P.cls k=0∧¬ P.opn k=P.sup k:=by
         unfold Pb.okC at d
         by_cases b5:P.cls k=0
         ·exact ⟨b5,fun h=>d ⟨by omega,by omega,by omega,by omega,fun _=>h⟩⟩
         ·exact absurd (⟨by omega,by omega,by omega,by omega,fun h=>absurd h b5⟩) d
        simp[yT,kS,e,yA hk,yn hk,vd hk,b3,b4,b5,yb]
  ·have hs:P.okCs:=hI
   have key:∀ K:Exit→St→Prop,K (.exit 0) {env:=[(1,.ptr 1 0),(3,iv (6:Nat)),(13,bv false)],sto:=[(1,.var (pbC P))]}→awp Tryz.prog yT (kS P 6) (t7 K):=by
    intro K h
    simp[yT,kS]
    exact h
   refine key _ ?_
   by_cases f1:8<P.cl.length
   ·have f1':(8:Int)<P.cl.length:=by omega
    have hF:P.frameE=3:=by unfold Pb.frameE; rw[if_neg (fun h=>h c1),if_neg (fun h=>h hs),if_pos (.inl f1)]
    simp[qe,f1',hF,yb]
   ·have f1':¬ (8:Int)<P.cl.length:=by omega
    have hn:P.cl.length≤1000:=by omega
    by_cases f2:160<P.of.length
    ·have f2':(160:Int)<P.of.length:=by omega
     have hF:P.frameE=3:=by unfold Pb.frameE; rw[if_neg (fun h=>h c1),if_neg (fun h=>h hs),if_pos (.inr f2)]
     simp[qe,f1',f2',hF,yb]
    ·have f2':¬ (160:Int)<P.of.length:=by omega
     simp[qe,f1',f2']
     refine zw (ZN P) (fun r=>∀ q,q<r→(hq:q<P.cl.length)→kI P.cl[q]) P.cl.length (by simp[ZN]) (fun q hq=>by omega) (fun k hk hI=>?_) (fun hI=>?_)
     ·have e:(k:Int)<P.cl.length:=by omega
      have w1:=zm (k:=k) (by omega)
      by_cases d:kI P.cl[k]
      ·have d':=d
       unfold kI at d'
       have b1:¬ P.cl[k]<0:=by omega
       have b2:¬ 4<P.cl[k]:=by omega
       simp[vO,ZN,e,hk,b1,b2,w1]
       exact fun q hq hl=>by
        by_cases eq:q=k
        ·subst eq; exact d
        ·exact hI q (by omega) hl
      ·have hF:P.frameE=4:=by unfold Pb.frameE; rw[if_neg (fun h=>h c1),if_neg (fun h=>h hs),if_neg (by omega),if_neg (fun h=>d (h _ (List.getElem_mem hk)))]
       rw[hF]
       unfold kI at d
       by_cases b1:P.cl[k]<0
       ·simp[vO,ZN,e,hk,b1,yb]
       ·have b2:4<P.cl[k]:=by omega
        simp[vO,ZN,e,hk,b1,b2,yb]
     ·have hc:=frC P fun i hi=>hI i hi hi
      have hF:P.frameE=0:=by unfold Pb.frameE; rw[if_neg (fun h=>h c1),if_neg (fun h=>h hs),if_neg (by omega),if_pos hc]
      rw[if_pos hF]
      have key:∀ K:Exit→St→Prop,K (.exit 2) {env:=[(1,.ptr 1 0),(4,iv P.cl.length),(78,bv false)],sto:=[(1,.var (pbC P))]}→awp Tryz.prog vO (ZN P P.cl.length) (t7 K):=by
       intro K h
       simp[vO,ZN]
       exact h
      refine key _ ?_
      simp[er]
      refine zw (jV P) (fun k=>P.chkL k=0) P.of.length (by simp[jV]) rfl (fun k hk' hI=>?_) (fun hI=>?_)
      ·have e:(k:Int)<P.of.length:=by omega
       have hgk:P.of[k]?=some P.of[k]:=by simp[hk']
       have w1:=zm (k:=k) (by omega)
       obtain ⟨o,ho⟩:∃ o,P.of[k]=o:=⟨_,rfl⟩
       rw[ho] at hgk
       have fin:P.offE o≠0→P.chkL P.of.length=P.offE o:=fun h=>by
        rw[gY hI hgk (by rw[FA h]; exact h) hk',FA h]
       by_cases b1:o.b<0
       ·rw[fin (by rw[RG (.inl b1)]; decide),RG (.inl b1)]
        simp[xW,jV,e,hk',ho,b1,yb]
       ·by_cases b2:(P.cl.length:Int)≤o.b
        ·rw[fin (by rw[RG (.inr b2)]; decide),RG (.inr b2)]
         simp[xW,jV,e,hk',ho,b1,b2,yb]
        ·have hb:¬ (o.b<0∨(P.cl.length:Int)≤o.b):=by omega
         by_cases b3:o.v<1
         ·rw[fin (by rw[RH hb (.inl b3)]; decide),RH hb (.inl b3)]
          simp[xW,jV,e,hk',ho,b1,b2,b3,yb]
         ·by_cases b4:1000000<o.v
          ·rw[fin (by rw[RH hb (.inr b4)]; decide),RH hb (.inr b4)]
           simp[xW,jV,e,hk',ho,b1,b2,b3,b4,yb]
          ·have hv:¬ (o.v<1∨1000000<o.v):=by omega
           simp[xW,jV,e,hk',ho,b1,b2,b3,b4]
           refine za (KQ (w:=o.w)) (by simp) (by simp) ?_
           by_cases b5:okB o.w
           ·have hf:=agM (n:=P.cl.length) hb hv b5
            have hz:decide (bI o.w=bI (fun _=>0))=decide (jX o.w):=by
             rw[decide_eq_decide,Mq]
             exact Iff.rfl
            simp[b5,GB]
            rw[gG hkd hg hA lD lD]
            by_cases b6:jX o.w
            ·rw[fin (by rw[Br hf b6]; decide),Br hf b6]
             simp[hz,b6,yb]
            ·simp[hz,b6]
             have hfs:=FU (P:=P) (L:=[o]) hn (by simp) (fun x hx=>by rw[List.mem_singleton.1 hx]; omega) (fun x hx=>by rw[List.mem_singleton.1 hx]; exact b5)
             refine za (LU hfs (qn (rows:=[oC o]))) (by simp) (by simp) ?_
             by_cases b7:P.fits [o]
             ·have hE:P.offE o=0:=by rw[Bp hf b6,if_pos b7]
              simp[b7]
              refine zw (ZO P o k) (fun j=>∀ (q:Nat) u,q<j→P.of[q]?=some u→¬ nr u o) k (by simp[ZO]) (fun q u hq=>by omega) (fun j hj hJ=>?_) (fun hJ=>?_)
              ·have ej:(j:Int)<k:=by omega
               have hj2:j<P.of.length:=by omega
               have ej2:(j:Int)<P.of.length:=by omega
               have w2:=zm (k:=j) (by omega)
               obtain ⟨u,hu⟩:∃ u,P.of[j]=u:=⟨_,rfl⟩
               have hgj:P.of[j]?=some u:=by simp[hj2,hu]
               have hzu:decide (bI u.w=bI o.w)=decide (eqB u.w o.w):=by rw[decide_eq_decide,Mq]
               by_cases d1:u.b=o.b
               ·simp[tO,ZO,ej,ej2,hj2,hu,d1]
                rw[gG hkd hg hA lD lD]
                by_cases d2:eqB u.w o.w
                ·have hi:P.offI k o=7:=by
                  unfold Pb.offI
                  rw[if_neg (fun h=>h hE),if_pos ⟨u,List.mem_of_getElem? (i:=j) (by rw[List.getElem?_take,if_pos hj]; exact hgj),d1,d2⟩]
                 rw[gY hI hgk (by rw[hi]; decide) hk',hi]
                 simp[hzu,d2,yb]
                ·simp[hzu,d2,w2,ZO]
                 intro q x hq hx
                 by_cases eq:q=j
                 ·subst eq
                  rw[hgj] at hx
                  rw[← Option.some.inj hx]
                  exact fun h=>d2 h.2
                 ·exact hJ q x (by omega) hx
               ·simp[tO,ZO,ej,ej2,hj2,hu,d1,w2]
                intro q x hq hx
                by_cases eq:q=j
                ·subst eq
                 rw[hgj] at hx
                 rw[← Option.some.inj hx]
                 exact fun h=>d1 h.1
                ·exact hJ q x (by omega) hx
              ·have hi:P.offI k o=0:=by
                unfold Pb.offI
                rw[if_neg (fun h=>h hE),if_neg]
                rintro ⟨u,hu,hs'⟩
                obtain ⟨q,hq⟩:=List.mem_iff_getElem?.1 hu
                rw[List.getElem?_take] at hq
                split at hq
                ·rename_i hqk; exact hJ q u hqk hq hs'
                ·cases hq
               have hx:=P4 hI hgk hi
               have key:∀ K:Exit→St→Prop,K (.exit 6) {env:=[(1,.ptr 1 0),(5,iv k),(6,.ptr 6 0),(7,iv k),(145,bv false)],sto:=[(1,.var (pbC P)),(6,.var (oC o))]}→awp Tryz.prog tO (ZO P o k k) (t7 K):=by
                intro K h
                simp[tO,ZO]
                exact h
               refine key _ ?_
               simp[eo,w1,hx,jV]
             ·have hE:P.offE o=14:=by rw[Bp hf b6,if_neg b7]
              rw[fin (by rw[hE]; decide),hE]
              simp[b7,yb]
           ·rw[fin (by rw[Bq hb hv b5]; decide),Bq hb hv b5]
            simp[b5,yb]
      ·rw[hI]
       have key:∀ K:Exit→St→Prop,K (.exit 4) {env:=[(1,.ptr 1 0),(5,iv P.of.length),(99,bv false)],sto:=[(1,.var (pbC P))]}→awp Tryz.prog xW (jV P P.of.length) (t7 K):=by
        intro K h
        simp[xW,jV]
        exact h
       refine key _ ?_
       simp[ep,yb]
 ·have hF:P.frameE=4:=by unfold Pb.frameE; rw[if_pos c1]
  simp[c1,hF,yb]
theorem pR (_hn:P.cl.length≤1000) (_hk:P.of.length≤1000000):ze Tryz.prog vB [.agg (pbC P)] (iv P.chk):=KG
end
end Go.Proofs.YtpnliopaifpimaaGreat

namespace Go.Pb
open Go.LP
def Pb.cof (P:Pb) (r i:Nat):Rat:=((P.coef r (P.at (i:Int)):Int):Rat)
def Pb.vQ (P:Pb) (i:Nat):Rat:=(((P.at (i:Int)).v:Int):Rat)
def Pb.accV (P:Pb) (fx:List Int) (k:Nat):Int:=((P.inK fx k).map fun o=>o.v).sum
def Pb.exc (P:Pb) (y:Nat→Rat) (R i:Nat):Rat:=P.vQ i-zu R fun r=>y r*P.cof r i
def Pb.bdQ (P:Pb) (fx:List Int) (y:Nat→Rat) (R:Nat):Rat:=((P.accV fx fx.length:Int):Rat)+zu R fun r=>y r*((P.relB fx r:Int):Rat)
def Pb.adQ (P:Pb) (fx:List Int) (y:Nat→Rat) (R k:Nat):Rat:=zu k fun i=>if fx.getD i 9=0∧0<P.exc y R i then P.exc y R i else 0
def Pb.fpQ (P:Pb) (fx:List Int) (y:Nat→Rat):Rat:=P.bdQ fx y P.rows+P.adQ fx y P.rows fx.length
def Pb.lB (P:Pb) (fx:List Int) (r:Nat):Rat:=((P.relB fx r:Int):Rat)
def Pb.exP (P:Pb) (fx:List Int) (y:Nat→Rat) (r i:Nat):Rat:=if fx.getD i 9=0 then P.exc y r i else P.vQ i
def Pb.exM (P:Pb) (fx:List Int) (y:Nat→Rat) (r k i:Nat):Rat:=if i<k then P.exP fx y (r+1) i else P.exP fx y r i
def Pb.fixE (P:Pb) (fx:List Int):Int:=if P.chk≠0 then P.chk else if fx.length≠P.of.length then 3 else if okF fx then 0 else 4
section
variable {P:Pb} {fx:List Int} {v:Int} {k i r:Nat}
theorem Kl (g:Nat→Int):((((numK fx v k).map g).sum:Int):Rat)=zu k fun i=>if fx.getD i 9=v then ((g i:Int):Rat) else 0:=by
 induction k with
 | zero=>rfl
 | succ k ih =>
  rw[numK_succ]
  simp only[zu]
  rw[← ih]
  by_cases h:fx.getD k 9=v
  ·rw[if_pos h,if_pos h,List.map_append,List.sum_append,Rat.intCast_add]; simp
  ·rw[if_neg h,if_neg h]; grind
theorem adF:((P.accV fx k:Int):Rat)=zu k fun i=>if fx.getD i 9=1 then P.vQ i else 0:=by
 unfold Pb.accV Pb.inK
 rw[List.map_map]
 exact Kl _
theorem acf:P.lB fx r=((P.bnd r:Int):Rat)-zu fx.length fun i=>if fx.getD i 9=1 then P.cof r i else 0:=by
 unfold Pb.lB Pb.relB Pb.inL Pb.inK
 rw[Rat.intCast_sub,List.map_map]
 congr 1
 exact Kl _
theorem aiP:(numK fx v k).Nodup:=List.Nodup.sublist List.filter_sublist List.nodup_range
theorem aeR (hG:P.Good) (hi:i<P.of.length):∃ b,b<P.cl.length∧b<P.rows∧P.bnd b=1∧P.cof b i=1:=by
 have hs:=vJ (wS (hG.off _ (at_mem hi))).1
 refine ⟨(P.at (i:Int)).b.toNat,by omega,by unfold Pb.rows; omega,?_,?_⟩
 ·unfold Pb.bnd; rw[if_pos (by omega)]
 ·unfold Pb.cof Pb.coef; rw[if_pos (by omega),if_pos (by omega)]; rfl
theorem agu (hG:P.Good) (hi:i<P.of.length) (hr:r<P.rows):0≤P.cof r i∧P.cof r i≤4:=by
 have:=nf (vJ (wS (hG.off _ (at_mem hi))).1).2.2 hr
 unfold Pb.cof
 constructor
 ·exact_mod_cast this.1
 ·exact_mod_cast this.2
end
structure Pb.Sol (P:Pb) (fx:List Int) (x:Nat→Rat):Prop where
 x0:∀ i,i<fx.length→0≤x i
 one:∀ i,i<fx.length→fx.getD i 9=1→x i=1
 out:∀ i,i<fx.length→fx.getD i 9≠1→fx.getD i 9≠0→x i=0
 row:∀ r,r<P.rows→zu fx.length (fun i=>P.cof r i*x i)≤((P.bnd r:Int):Rat)
def Pb.val (P:Pb) (n:Nat) (x:Nat→Rat):Rat:=zu n fun i=>P.vQ i*x i
section
variable {P:Pb} {fx:List Int} {x y:Nat→Rat}
theorem Pb.Sol.le_one (hG:P.Good) (hl:fx.length=P.of.length) (h:P.Sol fx x) {i:Nat} (hi:i<fx.length):x i≤1:=by
 obtain ⟨b,hb,hr,e1,e2⟩:=aeR (i:=i) hG (by omega)
 have h1:=h.row b hr
 rw[e1,yF hi,e2] at h1
 have h2:0≤zu fx.length (fun j=>if j=i then 0 else P.cof b j*x j):=jW fun j hj=>by
  split
  ·exact Rat.le_refl
  ·exact Rat.mul_nonneg (agu hG (by omega) hr).1 (h.x0 j hj)
 have h3:(((1:Int):Int):Rat)=1:=rfl
 grind
theorem alb (hG:P.Good) (hl:fx.length=P.of.length) (h:P.Sol fx x) (hy:∀ r,r<P.rows→0≤y r):P.val fx.length x≤P.fpQ fx y:=by
 have t1:P.val fx.length x=zu fx.length (fun i=>P.exc y P.rows i*x i)+zu P.rows (fun r=>y r*zu fx.length fun i=>P.cof r i*x i):=by
  have:zu P.rows (fun r=>y r*zu fx.length fun i=>P.cof r i*x i)=zu fx.length fun i=>(zu P.rows fun r=>y r*P.cof r i)*x i:=by
   rw[ya (g:=fun r=>zu fx.length fun i=>y r*(P.cof r i*x i)) fun r _=>dt.symm,XB]
   refine ya fun i _=>?_
   rw[← XC]
   exact ya fun r _=>by grind
  rw[this,← Sm]
  exact ya fun i _=>by unfold Pb.exc; grind
 have t2:zu fx.length (fun i=>P.exc y P.rows i*x i)≤zu fx.length (fun i=>if fx.getD i 9=1 then P.exc y P.rows i else 0)+P.adQ fx y P.rows fx.length:=by
  unfold Pb.adQ
  rw[← Sm]
  refine af fun i hi=>?_
  by_cases h1:fx.getD i 9=1
  ·rw[if_pos h1,if_neg (by omega),h.one i hi h1]; grind
  ·rw[if_neg h1]
   by_cases h0:fx.getD i 9=0
   ·have a:=h.x0 i hi
    have b:=h.le_one hG hl hi
    by_cases hp:0<P.exc y P.rows i
    ·rw[if_pos ⟨h0,hp⟩]
     have:=Rat.mul_nonneg (show 0≤P.exc y P.rows i by grind) (show 0≤1-x i by grind)
     grind
    ·rw[if_neg fun h=>hp h.2]
     have:=Rat.mul_nonneg (show 0≤- P.exc y P.rows i by grind) a
     grind
   ·rw[if_neg fun h=>h0 h.1,h.out i hi h1 h0]; grind
 have t3:zu fx.length (fun i=>if fx.getD i 9=1 then P.exc y P.rows i else 0)=((P.accV fx fx.length:Int):Rat)-zu P.rows (fun r=>y r*zu fx.length fun i=>if fx.getD i 9=1 then P.cof r i else 0):=by
  have:zu P.rows (fun r=>y r*zu fx.length fun i=>if fx.getD i 9=1 then P.cof r i else 0)=zu fx.length fun i=>if fx.getD i 9=1 then (zu P.rows fun r=>y r*P.cof r i) else 0:=by
   rw[ya (g:=fun r=>zu fx.length fun i=>y r*(if fx.getD i 9=1 then P.cof r i else 0)) fun r _=>dt.symm,XB]
   refine ya fun i _=>?_
   by_cases h1:fx.getD i 9=1
   ·rw[if_pos h1]; exact ya fun r _=>by rw[if_pos h1]
   ·rw[if_neg h1]; exact y6 fun r _=>by rw[if_neg h1]; grind
  rw[this,adF,← du]
  refine ya fun i _=>?_
  unfold Pb.exc
  split<;>grind
 have t4:zu P.rows (fun r=>y r*zu fx.length fun i=>P.cof r i*x i)-zu P.rows (fun r=>y r*zu fx.length fun i=>if fx.getD i 9=1 then P.cof r i else 0)≤zu P.rows (fun r=>y r*((P.relB fx r:Int):Rat)):=by
  rw[← du]
  refine af fun r hr=>?_
  have h1:((P.relB fx r:Int):Rat)=((P.bnd r:Int):Rat)-zu fx.length fun i=>if fx.getD i 9=1 then P.cof r i else 0:=acf
  have h2:=h.row r hr
  rw[h1]
  clear t1 t2 t3 h1
  generalize zu fx.length (fun i=>P.cof r i*x i)=a at *
  generalize zu fx.length (fun i=>if fx.getD i 9=1 then P.cof r i else 0)=b at *
  have:=Rat.mul_nonneg (hy r hr) (show 0≤((P.bnd r:Int):Rat)-a by grind)
  grind
 unfold Pb.fpQ Pb.bdQ
 grind
variable {X Y:Nat→Rat} {v:Rat}
def gH (T:List Nat) (i:Nat):Rat:=if i∈T then 1 else 0
theorem QN {n:Nat} {g:Nat→Int}:∀ {T:List Nat},T.Nodup→(∀ j∈T,j<n)→zu n (fun i=>((g i:Int):Rat)*gH T i)=(((T.map g).sum:Int):Rat)
 | [],_,_=>by rw[y6 fun i _=>by simp[gH]]; rfl
 | a::T,h,hn=>by
  obtain ⟨h1,h2⟩:=List.nodup_cons.1 h
  have ih:=QN (n:=n) (g:=g) h2 fun j hj=>hn j (by simp[hj])
  have ha:=hn a (by simp)
  rw[yF ha] at ih ⊢
  simp only[List.map_cons,List.sum_cons,Rat.intCast_add]
  rw[← ih]
  have e1:gH (a::T) a=1:=by simp[gH]
  have e2:gH T a=0:=by simp[gH,h1]
  rw[e1,e2,ya (f:=fun j=>if j=a then 0 else ((g j:Int):Rat)*gH (a::T) j) (g:=fun j=>if j=a then 0 else ((g j:Int):Rat)*gH T j) fun j _=>by
   by_cases e:j=a
   ·rw[if_pos e,if_pos e]
   ·rw[if_neg e,if_neg e]; simp[gH,e]]
  grind
structure Pb.Comp (P:Pb) (fx:List Int) (k:Nat) (T:List Nat):Prop where
 inc:T.Pairwise (·<·)
 lt:∀ j∈T,j<k
 one:∀ i,i<k→fx.getD i 9=1→i∈T
 out:∀ i∈T,fx.getD i 9≠-1
 fit:P.fits (T.map fun i:Nat=>P.at i)
theorem akd {T:List Nat} (hok:∀ i,i<fx.length→okX fx i) (h:P.Comp fx fx.length T):P.Sol fx (gH T) where
 x0:=fun i _=>by unfold gH; split<;>grind
 one:=fun i hi h1=>if_pos (h.one i hi h1)
 out:=fun i hi h1 h0=>by
  have:=hok i hi
  unfold okX at this
  exact if_neg fun hm=>h.out i hm (by omega)
 row:=fun r hr=>by
  have h1:=h.fit r hr
  rw[List.map_map] at h1
  have:=QN (g:=fun i=>P.coef r (P.at (i:Int))) (h.inc.imp fun h=>Nat.ne_of_lt h) h.lt
  unfold Pb.cof
  rw[this]
  exact_mod_cast h1
theorem ake {T:List Nat} (h:P.Comp fx fx.length T):P.val fx.length (gH T)=((((T.map fun i:Nat=>P.at i).map fun o=>o.v).sum:Int):Rat):=by
 unfold Pb.val
 rw[List.map_map]
 exact QN (g:=fun i=>(P.at (i:Int)).v) (h.inc.imp fun h=>Nat.ne_of_lt h) h.lt
end
end Go.Pb

namespace Go.Proofs.YtpnliopaifpimaaGreat
open Go Go.Am Go.Pb
noncomputable def Pp (fx:List Int) (k:Nat):St:={env:=[(19,clA fx),(20,iv fx.length),(21,iv k)],sto:=[]}
section
variable {P:Pb} {fx:List Int} {k:Nat}
theorem fI {x:Int} (hg:fx.getD k 9=x):okX fx k↔¬ x < -1∧¬ 1<x:=by unfold okX; rw[hg]; omega
theorem nR (h:k<fx.length):fx.getD k 9=fx[k]:=by rw[List.getD_eq_getElem?_getD,List.getElem?_eq_getElem h]; rfl
theorem YQ (h:P.fixE fx=0):P.chk=0∧fx.length=P.of.length∧okF fx:=by
 unfold Pb.fixE at h
 split at h
 ·rename_i h1; exact absurd h h1
 ·rename_i h1
  split at h
  ·cases h
  ·rename_i h2
   split at h
   ·rename_i h3; exact ⟨Decidable.not_not.1 h1,Decidable.not_not.1 h2,h3⟩
   ·cases h
theorem CC (hn:P.cl.length≤1000) (hk:P.of.length≤1000000):ze Tryz.prog lM [.agg (pbC P),clA fx] (iv (P.fixE fx)):=by
 refine zn Qc (by simp) ?_
 simp[dL]
 refine za (Qy hn hk) (by simp) (by simp) ?_
 unfold Pb.fixE
 by_cases c1:P.chk=0
 ·rw[if_neg fun h=>h c1]
  by_cases c2:fx.length=P.of.length
  ·have c2':(fx.length:Int)=P.of.length:=by omega
   rw[if_neg fun h=>h c2]
   simp[c1,c2']
   refine zw (Pp fx) (fun k=>∀ q,q<k→okX fx q) fx.length (by simp[Pp,c2']) (fun q hq=>by omega) (fun k hk' hI=>?_) (fun hI=>?_)
   ·have e:(k:Int)<P.of.length:=by omega
    have w1:=zm (k:=k) (by omega)
    have hg:=nR hk'
    by_cases d1:fx[k] < -1
    ·have hf:¬ okF fx:=fun h=>((fI hg).1 (h k hk')).1 d1
     simp[uo,Pp,c2',e,hk',d1,hf,uV]
    ·by_cases d2:1<fx[k]
     ·have hf:¬ okF fx:=fun h=>((fI hg).1 (h k hk')).2 d2
      simp[uo,Pp,c2',e,hk',d1,d2,hf,uV]
     ·simp[uo,Pp,c2',e,hk',d1,d2,w1]
      exact fun q hq=>by
       by_cases eq:q=k
       ·subst eq; exact (fI hg).2 ⟨d1,d2⟩
       ·exact hI q (by omega)
   ·have hf:okF fx:=hI
    simp[uo,Pp,c2',hf,j1,uV]
  ·have c2':¬ (fx.length:Int)=P.of.length:=by omega
   rw[if_pos c2]
   simp[c1,c2',uV]
 ·rw[if_pos c1]
  simp[c1,uV]
theorem Yp:P.accV fx (k+1)=if fx.getD k 9=1 then P.accV fx k+(P.at (k:Int)).v else P.accV fx k:=by
 unfold Pb.accV Pb.inK
 rw[numK_succ]
 split
 ·simp
 ·rfl
theorem bH (hG:P.Good):∀ k,k≤P.of.length→0≤P.accV fx k∧P.accV fx k≤1000000*k
 | 0,_=>⟨Int.le_refl 0,Int.le_refl 0⟩
 | k+1,h=>by
  have ih:=bH hG k (by omega)
  have hv:=(vJ (wS (hG.off _ (at_mem (i:=k) (by omega)))).1).2.1
  rw[Yp]
  split<;>omega
noncomputable def KZ (P:Pb) (fx:List Int) (k:Nat):St:={env:=[(2,.ptr 2 0),(4,.ptr 4 0),(5,iv (P.accV fx k)),(8,clA fx),(9,iv fx.length),(10,iv k)],sto:=[(2,.var (pbC P)),(4,.var zz)]}
theorem F5 (hG:P.Good) (hl:fx.length=P.of.length):ze Tryz.prog mi [.agg (pbC P),clA fx] (fq ((P.accV fx fx.length:Int):Rat)):=by
 have hb:=hG.k
 refine zn Sn (by simp) ?_
 simp[fX]
 refine zw (KZ P fx) (fun _=>True) fx.length (by simp[KZ]; rfl) trivial (fun k hk' _=>?_) (fun _=>?_)
 ·have e:(k:Int)<fx.length:=by omega
  have hko:k<P.of.length:=by omega
  have hko':(k:Int)<P.of.length:=by omega
  have w1:=zm (k:=k) (by omega)
  have hg:=nR hk'
  have hs:=Yp (P:=P) (fx:=fx) (k:=k)
  have hv:=bH (fx:=fx) hG (k+1) (by omega)
  rw[hg] at hs
  by_cases d:fx[k]=1
  ·rw[if_pos d,px hko] at hs
   have w2:IntKind.i64.wrap (P.accV fx k+P.of[k].v)=P.accV fx (k+1):=by rw[hs,wrap64]<;>omega
   simp[t5,KZ,e,hk',hko,hko',d,w1,w2]
  ·rw[if_neg d] at hs
   simp[t5,KZ,e,hk',d,w1,hs]
 ·have hv:=bH (fx:=fx) hG fx.length (by omega)
  simp[t5,KZ,k8]
  refine za (lw (n:=P.accV fx fx.length) (by omega) (by omega)) (by simp) (by simp) ?_
  simp[da]
end
def xD (P:Pb):Nat:=if P.chk=0 then P.rows else 0
def r6 (P:Pb) (r:Nat):List Int:=P.of.map (P.coef r)
section
variable {P:Pb} {r n:Nat} {o:Of} {L:List Of}
theorem Pd (hn:P.cl.length≤1000) (hk:P.of.length≤1000000):ze Tryz.prog rq [.agg (pbC P)] (iv (xD P)):=by
 refine zn PM (by simp) ?_
 simp[bM]
 refine za (Qy hn hk) (by simp) (by simp) ?_
 unfold xD
 by_cases c1:P.chk=0
 ·simp[c1]
  refine za (B0 hn) (by simp) (by simp) ?_
  simp[jA]
 ·simp[c1,jA]
theorem Pe (hn:P.cl.length≤1000) (hk:P.of.length≤1000000):ze Tryz.prog pr [.agg (pbC P)] (iv (xD P)):=by
 refine zn Jn (by simp) ?_
 simp[YE]
 refine za (pR hn hk) (by simp) (by simp) ?_
 unfold xD
 by_cases c1:P.chk=0
 ·have w1:IntKind.i64.wrap ((P.cl.length:Int)+12)=(P.cl.length:Int)+12:=by rw[wrap64]<;>omega
  have e:((P.rows:Nat):Int)=(P.cl.length:Int)+12:=by unfold Pb.rows; omega
  simp[c1,w1,e,dd]
 ·simp[c1,dd]
noncomputable def Jb (P:Pb) (r:Int) (q k:Nat):St:={env:=[(1,iv r),(4,apc 32 1 (clR ((r6 P q).take k))),(6,.ptr 6 0),(20,ofA P.of),(21,iv P.of.length),(22,iv k)],sto:=[(6,.var (pbC P))]}
noncomputable def Pw (P:Pb) (r:Int) (q k:Nat):St:={env:=[(1,iv r),(2,.ptr 2 0),(6,apc 41 1 (clR ((r6 P q).take k))),(7,iv k)],sto:=[(2,.var (pbC P))]}
@[simp] theorem dj:(r6 P r).length=P.of.length:=by simp[r6]
theorem NG {k:Nat} (h:k<P.of.length):clR ((r6 P r).take k)++[[iv (P.coef r P.of[k])]]=clR ((r6 P r).take (k+1)):=by
 rw[fo (l:=r6 P r) (o:=P.coef r P.of[k]) (by simp[r6,h])]
 simp[clR]
theorem KO {k:Nat} (h:P.of.length≤k):(r6 P r).take k=r6 P r:=List.take_of_length_le (by rw[dj]; exact h)
def Pc (P:Pb) (r:Int):AV:=.tuple [if 0≤r∧r<xD P then clA (r6 P r.toNat) else uw,iv (if 0≤r∧r<xD P then P.bnd r.toNat else 0)]
theorem ajl {r:Int} (hn:P.cl.length≤1000) (hk:P.of.length≤1000000):ze Tryz.prog gq [.agg (pbC P),iv r] (Pc P r):=by
 refine wW Mc (by simp) ?_
 unfold Pc
 by_cases b1:r<0
 ·have hc:¬ (0≤r∧r<xD P):=by omega
  simp[gC,b1,hc,ma]
  exact AV.imp.refl
 ·simp[gC,b1]
  refine za (Pd hn hk) (by simp) (by simp) ?_
  by_cases b2:(xD P:Int)≤r
  ·have hc:¬ (0≤r∧r<xD P):=by omega
   simp[b2,hc,ma]
   exact AV.imp.refl
  ·have hc:0≤r∧r<xD P:=by omega
   obtain ⟨q,rfl⟩:∃ q:Nat,r=q:=⟨r.toNat,by omega⟩
   have hG:P.Good:=by
    refine vR ?_
    unfold xD at hc
    split at hc
    ·assumption
    ·omega
   have hq:q<P.rows:=by
    unfold xD at hc
    split at hc<;>omega
   simp[b2,hc]
   refine zw (Jb P q q) (fun _=>True) P.of.length (by simp[Jb]) trivial (fun k hk' _=>?_) (fun _=>?_)
   ·have e:(k:Int)<P.of.length:=by omega
    have w1:=zm (k:=k) (by omega)
    have hm:P.of[k]∈P.of:=List.getElem_mem hk'
    have hs:=vJ (wS (hG.off _ hm)).1
    simp[mu,Jb,e,hk']
    refine za (Ca (P:=P) (r:=q) hn hs.1 hq) (by simp) (by simp) ?_
    simp
    refine p9 (by decide) rfl ?_ ?_ (by simp) ?_
    ·simp only[lm,dj,List.length_take]; omega
    ·simp only[lm,dj,List.length_take]; omega
    ·rw[NG hk']
     simp[w1,Jb]
   ·simp[mu,Jb,am2,KO]
    refine za (GC (P:=P) (r:=q) hn hq) (by simp) (by simp) ?_
    simp[ma]
    exact AV.imp_tuple2 (fJ lA)
theorem aht {r:Int} (hn:P.cl.length≤1000) (hk:P.of.length≤1000000):ze Tryz.prog cP [.agg (pbC P),iv r] (Pc P r):=by
 refine wW Gs (by simp) ?_
 unfold Pc
 by_cases b1:r<0
 ·have hc:¬ (0≤r∧r<xD P):=by omega
  simp[c6,b1,hc,jT]
  exact AV.imp.refl
 ·simp[c6,b1]
  refine za (Pe hn hk) (by simp) (by simp) ?_
  by_cases b2:(xD P:Int)≤r
  ·have hc:¬ (0≤r∧r<xD P):=by omega
   simp[b2,hc,jT]
   exact AV.imp.refl
  ·have hc:0≤r∧r<xD P:=by omega
   obtain ⟨q,rfl⟩:∃ q:Nat,r=q:=⟨r.toNat,by omega⟩
   have hG:P.Good:=by
    refine vR ?_
    unfold xD at hc
    split at hc
    ·assumption
    ·omega
   have hq:q<P.rows:=by
    unfold xD at hc
    split at hc<;>omega
   simp[b2,hc]
   refine zw (Pw P q q) (fun _=>True) P.of.length (by simp[Pw]) trivial (fun k hk' _=>?_) (fun _=>?_)
   ·have e:(k:Int)<P.of.length:=by omega
    have w1:=zm (k:=k) (by omega)
    have hm:P.of[k]∈P.of:=List.getElem_mem hk'
    have hs:=vJ (wS (hG.off _ hm)).1
    obtain ⟨c,hc1,hk1⟩:=Uo (P:=P) (o:=P.of[k]) hn hs.1.1 hq
    have hc1:=hc1 hs.1.2
    subst hc1
    simp[na,Pw,e,hk']
    refine za hk1 (by simp) (by simp) ?_
    simp
    refine p9 (by decide) rfl ?_ ?_ (by simp) ?_
    ·simp only[lm,dj,List.length_take]; omega
    ·simp only[lm,dj,List.length_take]; omega
    ·rw[NG hk']
     simp[w1,Pw]
   ·obtain ⟨z,hz,hz0⟩:∃ z:Of,[iv 0,iv 0,iv 0,iv 0,iv 0,iv 0,iv 0,iv 0]=oC z∧0≤z.b:=⟨oZ,Fz,Int.le_refl 0⟩
    obtain ⟨c,_,hk1⟩:=Uo (P:=P) (o:=z) hn hz0 hq
    have key:∀ K:Exit→St→Prop,K (.exit 0) {env:=[(1,iv q),(2,.ptr 2 0),(6,apc 41 1 (clR (r6 P q))),(7,iv P.of.length),(24,bv false)],sto:=[(2,.var (pbC P))]}→awp Tryz.prog na (Pw P q q P.of.length) (t7 K):=by
     intro K h
     simp[na,Pw,KO]
     exact h
    refine key _ ?_
    simp[bO,hz]
    refine za hk1 (by simp) (by simp) ?_
    simp[jT]
    exact AV.imp_tuple2 (fJ lA)
end
open Go.Dig Go.LP
abbrev DB:Ty:=.slice (.int .u32)
abbrev Jx:Ty:=.st [.bool,DB,DB]
theorem Bh {cs:List AV} (h:TyC DB cs):∃ a:List Nat,cs=[nl .plain a]∧ok a:=by
 obtain ⟨rows,rfl,_,h⟩:=h
 obtain ⟨a,rfl,h2⟩:=mL (fun d:Nat=>[uv d]) (fun d=>d<B) (fun r hr=>by
  obtain ⟨n,rfl,hn⟩:=hr
  have hn2:0≤n∧n<4294967296:=by
   have h:=Bool.and_eq_true_iff.1 hn
   have h1:=of_decide_eq_true h.1
   have h2:=of_decide_eq_true h.2
   have e1:IntKind.min .u32=0:=by decide
   have e2:IntKind.max .u32=4294967295:=by decide
   omega
  refine ⟨n.toNat,?_,?_⟩
  ·show _=[AV.val (.int .u32 ((n.toNat:Nat):Int))]
   rw[show ((n.toNat:Nat):Int)=n by omega]
  ·show n.toNat<4294967296
   omega) h
 exact ⟨a,rfl,h2⟩
theorem aej {r:List AV} (h:TyC Jx r):∃ x:RF,r=hr x∧(ok x.a∧ok x.c):=by
 obtain ⟨a1,b1,rfl,⟨s,rfl⟩,a2,b2,rfl,h2,a3,b3,rfl,h3,rfl⟩:=h
 obtain ⟨a,rfl,ha⟩:=Bh h2
 obtain ⟨c,rfl,hc⟩:=Bh h3
 exact ⟨⟨s,a,c⟩,by rw[ni]; rfl,ha,hc⟩
section
variable {D:Nat}
theorem Rk {x:RF} {D:Nat} (h:ok x.a∧ok x.c) (hs:KY x D) (hD:D≤1000):x.fine:=⟨h.1,h.2,by have:=hs.1; omega,by have:=hs.2; omega⟩
end
theorem sQ {K:Nat} {n:Int} (h:n.natAbs≤2^K):sz K (n:Rat):=⟨by simpa using h,by simpa using Nat.one_le_two_pow⟩
def RF.q (x:RF):Rat:=mkRat (sg x.s (val x.a)) (val x.c)
theorem akG (q:Rat):(RF.of q).q=q:=by
 unfold RF.q RF.of
 simp only[zJ]
 rw[dk,Rat.mkRat_self]
theorem EL {x:RF} (h:x.v=true):x=RF.of x.q:=by
 obtain ⟨q,h1,h2,h3⟩:=aga h
 have:x=RF.of q:=by cases x; simp only at h1 h2 h3; subst h1 h2 h3; rfl
 rw[this,akG]
def prE (Y:Nat→RF):Nat→Int
 | 0=>0
 | k+1=>if prE Y k≠0 then prE Y k else if (Y k).v=false then 2 else if (Y k).s=true then 4 else 0
def fpE (P:Pb) (fx:List Int) (Y:Nat→RF) (m:Nat):Int:=if P.fixE fx≠0 then P.fixE fx else if m≠P.rows then 3 else prE Y m
def cb (Y:Nat→RF) (m:Nat):Prop:=∀ r,r<m→(Y r).v=true∧(Y r).s=false
theorem anv {Y:Nat→RF} {k:Nat} (h:prE Y k≠0):∀ m,k≤m→prE Y m=prE Y k
 | 0,hm=>by rw[Nat.le_zero.1 hm]
 | m+1,hm=>by
  by_cases e:k=m+1
  ·rw[e]
  ·have ih:=anv h m (by omega)
   simp only[prE]
   rw[ih,if_pos h]
theorem eZ {Y:Nat→RF}:∀ {m:Nat},cb Y m→prE Y m=0
 | 0,_=>rfl
 | m+1,h=>by
  have ih:=eZ (m:=m) fun r hr=>h r (by omega)
  obtain ⟨h1,h2⟩:=h m (by omega)
  simp only[prE]
  rw[if_neg fun e=>e ih,if_neg (by rw[h1]; decide),if_neg (by rw[h2]; decide)]
theorem aa7 {Y:Nat→RF}:∀ {m:Nat},prE Y m=0→cb Y m
 | 0,_=>fun r hr=>by omega
 | m+1,h=>by
  simp only[prE] at h
  split at h
  ·rename_i h0; exact absurd h h0
  ·rename_i h0
   split at h
   ·cases h
   ·rename_i h1
    split at h
    ·cases h
    ·rename_i h2
     have ih:=aa7 (Decidable.not_not.1 h0)
     intro r hr
     by_cases e:r=m
     ·subst e; exact ⟨by simpa using h1,by simpa using h2⟩
     ·exact ih r (by omega)
theorem ady {Y:Nat→RF} {k m:Nat} (h:cb Y k) (hv:(Y k).v=false) (hk:k<m):prE Y m=2:=by
 have h1:prE Y (k+1)=2:=by simp only[prE]; rw[if_neg fun e=>e (eZ h),if_pos hv]
 rw[anv (by rw[h1]; decide) m hk,h1]
theorem adx {Y:Nat→RF} {k m:Nat} (h:cb Y k) (hv:(Y k).v=true) (hs:(Y k).s=true) (hk:k<m):prE Y m=4:=by
 have h1:prE Y (k+1)=4:=by simp only[prE]; rw[if_neg fun e=>e (eZ h),if_neg (by rw[hv]; decide),if_pos hs]
 rw[anv (by rw[h1]; decide) m hk,h1]
theorem Rl {Y:Nat→RF} {k:Nat} (h:cb Y k) (hv:(Y k).v=true) (hs:(Y k).s=false):cb Y (k+1):=fun r hr=>by
 by_cases e:r=k
 ·subst e; exact ⟨hv,hs⟩
 ·exact h r (by omega)
theorem ajm {x:RF} (h:x.v=true):x.s=decide (x.q<0):=by
 have e:=EL h
 have:x.s=decide (x.q.num<0):=congrArg RF.s e
 rw[this,decide_eq_decide]
 exact nS
section
variable {P:Pb} {fx:List Int} {y:Nat→Rat} {S k r i:Nat}
theorem adD (hG:P.Good) (hi:i<P.of.length):sz 20 (P.vQ i):=by
 have hv:=(vJ (wS (hG.off _ (at_mem hi))).1).2.1
 exact sQ (by omega)
theorem agv (hG:P.Good) (hi:i<P.of.length) (hr:r<P.rows):sz 2 (P.cof r i):=by
 have hv:=nf (vJ (wS (hG.off _ (at_mem hi))).1).2.2 hr
 exact sQ (by omega)
theorem Rh (hG:P.Good) (hi:i<P.of.length) (hy:∀ r,r<P.rows→sz S (y r)):∀ R,R≤P.rows→sz (20+R*(S+3)) (P.exc y R i)
 | 0,_=>by
  unfold Pb.exc
  have:zu 0 (fun r=>y r*P.cof r i)=0:=rfl
  rw[this,Rat.sub_eq_add_neg,show P.vQ i+-0=P.vQ i by grind]
  exact zS (adD hG hi) (by omega)
 | R+1,h=>by
  have ih:=Rh hG hi hy R (by omega)
  have:P.exc y (R+1) i=P.exc y R i-y R*P.cof R i:=by unfold Pb.exc; simp only[zu]; grind
  rw[this]
  exact zS (Qb ih (vK (hy R (by omega)) (agv hG hi (by omega)))) (by rw[Nat.add_mul]; omega)
theorem eF (hG:P.Good) (hr:r<P.rows):∀ k,k≤P.of.length→0≤((P.inK fx k).map (P.coef r)).sum∧((P.inK fx k).map (P.coef r)).sum≤4*k:=fun k hk=>by
 have h:=AI (a:=0) (b:=4) (f:=P.coef r) (l:=P.inK fx k) fun o ho=>nf (vJ (wS (hG.off _ (aev hk o ho))).1).2.2 hr
 have:=aeu (P:=P) (fx:=fx) (k:=k)
 omega
theorem Yt (hG:P.Good) (hr:r<P.rows):0≤P.bnd r∧P.bnd r≤4:=by
 unfold Pb.rows at hr
 unfold Pb.bnd
 split
 ·omega
 ·split
  ·exact hG.sup _ (by omega)
  ·have h1:=hG.set (r-P.cl.length-6) (by omega)
   have h2:=hG.sup (r-P.cl.length-6) (by omega)
   unfold Pb.okC at h1
   omega
theorem Q8 (hG:P.Good) (hl:fx.length=P.of.length) (hr:r<P.rows):sz 10 ((P.relB fx r:Int):Rat):=by
 have h1:=eF (fx:=fx) hG hr fx.length (by omega)
 have h2:=Yt hG hr
 have h3:=hG.k
 refine sQ ?_
 unfold Pb.relB Pb.inL
 omega
theorem agd (hG:P.Good) (hl:fx.length=P.of.length):sz 28 ((P.accV fx fx.length:Int):Rat):=by
 have h1:=bH (fx:=fx) hG fx.length (by omega)
 have h3:=hG.k
 exact sQ (by omega)
theorem Mr (hG:P.Good) (hl:fx.length=P.of.length) (hy:∀ r,r<P.rows→sz S (y r)):∀ R,R≤P.rows→sz (28+R*(S+11)) (P.bdQ fx y R)
 | 0,_=>by
  unfold Pb.bdQ
  have:zu 0 (fun r=>y r*((P.relB fx r:Int):Rat))=0:=rfl
  rw[this,show ((P.accV fx fx.length:Int):Rat)+0=((P.accV fx fx.length:Int):Rat) by grind]
  exact zS (agd hG hl) (by omega)
 | R+1,h=>by
  have ih:=Mr hG hl hy R (by omega)
  have:P.bdQ fx y (R+1)=P.bdQ fx y R+y R*((P.relB fx R:Int):Rat):=by unfold Pb.bdQ; simp only[zu]; grind
  rw[this]
  exact zS (kU ih (vK (hy R (by omega)) (Q8 hG hl (by omega)))) (by rw[Nat.add_mul]; omega)
theorem Mn (hG:P.Good) (hl:fx.length=P.of.length) (hy:∀ r,r<P.rows→sz S (y r)):∀ k,k≤fx.length→sz (k*(21+P.rows*(S+3))) (P.adQ fx y P.rows k)
 | 0,_=>PK
 | k+1,h=>by
  have ih:=Mn hG hl hy k (by omega)
  have he:=Rh (i:=k) hG (by omega) hy P.rows (Nat.le_refl _)
  unfold Pb.adQ at ih ⊢
  simp only[zu]
  have e:(k+1)*(21+P.rows*(S+3))=k*(21+P.rows*(S+3))+(20+P.rows*(S+3))+1:=by rw[Nat.add_mul]; omega
  rw[e]
  split
  ·exact kU ih he
  ·exact kU ih (zS PK (Nat.zero_le _))
end
abbrev zfr:AV:=.agg zz
noncomputable def Po (fx:List Int) (k:Nat):St:={env:=[(1,clA fx),(6,iv k)],sto:=[]}
section
variable {P:Pb} {fx:List Int} {k:Nat}
theorem acm (hn:P.cl.length≤1000) (hk:P.of.length≤1000000):ze Tryz.prog gr [.agg (pbC P),clA fx] (iv (P.fixE fx)):=by
 refine zn Mf (by simp) ?_
 simp[Z6]
 refine za (pR hn hk) (by simp) (by simp) ?_
 unfold Pb.fixE
 by_cases c1:P.chk=0
 ·rw[if_neg fun h=>h c1]
  by_cases c2:fx.length=P.of.length
  ·have c2':(fx.length:Int)=P.of.length:=by omega
   rw[if_neg fun h=>h c2]
   simp[c1,c2']
   refine zw (Po fx) (fun k=>∀ q,q<k→okX fx q) fx.length (by simp[Po]) (fun q hq=>by omega) (fun k hk' hI=>?_) (fun hI=>?_)
   ·have e:(k:Int)<P.of.length:=by omega
    have w1:=zm (k:=k) (by omega)
    have hg:=nR hk'
    by_cases d1:fx[k] < -1
    ·have hf:¬ okF fx:=fun h=>((fI hg).1 (h k hk')).1 d1
     simp[tP,Po,c2',e,hk',d1,hf,sA]
    ·by_cases d2:1<fx[k]
     ·have hf:¬ okF fx:=fun h=>((fI hg).1 (h k hk')).2 d2
      simp[tP,Po,c2',e,hk',d1,d2,hf,sA]
     ·simp[tP,Po,c2',e,hk',d1,d2,w1]
      exact fun q hq=>by
       by_cases eq:q=k
       ·subst eq; exact (fI hg).2 ⟨d1,d2⟩
       ·exact hI q (by omega)
   ·have hf:okF fx:=hI
    simp[tP,Po,c2',hf,et,sA]
  ·have c2':¬ (fx.length:Int)=P.of.length:=by omega
   rw[if_pos c2]
   simp[c1,c2',sA]
 ·rw[if_pos c1]
  simp[c1,sA]
end
noncomputable def ZL (P:Pb) (fx:List Int) (Y:Nat→RF) (m k:Nat):St :=
 {env:=[(1,clA fx),(2,hL Y m),(3,.ptr 3 0),(6,.ptr 6 0),(35,hL Y m),(36,iv m),(37,iv k)],sto:=[(3,.var (pbC P)),(6,.var zz)]}
noncomputable def R4 (P:Pb) (fx:List Int) (y:Nat→Rat) (m k:Nat):St :=
 {env:=[(1,clA fx),(2,fL y m),(3,.ptr 3 0),(6,.ptr 6 0),(11,.ptr 11 0),(12,.sl 55 3 0 fx.length),(57,iv fx.length),(58,iv k)],
  sto:=[(3,.var (pbC P)),(6,.var zz),(11,.var (fr ((P.accV fx fx.length:Int):Rat))),(55,.arr 3 (fZ P.vQ k fx.length))]}
noncomputable def ZM (P:Pb) (fx:List Int) (y:Nat→Rat) (m k:Nat):St :=
 {env:=[(1,clA fx),(3,.ptr 3 0),(6,.ptr 6 0),(11,.ptr 11 0),(12,.sl 55 3 0 fx.length),(72,fL y m),(73,iv m),(74,iv k)],
  sto:=[(3,.var (pbC P)),(6,.var zz),(11,.var (fr (P.bdQ fx y k))),(55,.arr 3 (fR (P.exP fx y k) fx.length))]}
noncomputable def cB (P:Pb) (fx:List Int) (y:Nat→Rat) (m r k:Nat):St :=
 {env:=[(1,clA fx),(3,.ptr 3 0),(6,.ptr 6 0),(11,.ptr 11 0),(12,.sl 55 3 0 fx.length),(72,fL y m),(73,iv m),(74,iv r),(15,.ptr 15 0),(17,iv (P.bnd r-((P.inK fx k).map (P.coef r)).sum)),(88,clA (r6 P r)),(89,iv fx.length),(90,iv k)],
  sto:=[(3,.var (pbC P)),(6,.var zz),(11,.var (fr (P.bdQ fx y r))),(55,.arr 3 (fR (P.exM fx y r k) fx.length)),(15,.var (fr (y r)))]}
noncomputable def cC (P:Pb) (fx:List Int) (y:Nat→Rat) (k:Nat):St :=
 {env:=[(6,.ptr 6 0),(11,.ptr 11 0),(12,.sl 55 3 0 fx.length),(133,clA fx),(134,iv fx.length),(135,iv k)],
  sto:=[(6,.var zz),(11,.var (fr (P.bdQ fx y P.rows+P.adQ fx y P.rows k))),(55,.arr 3 (fR (P.exP fx y P.rows) fx.length))]}
section
variable {P:Pb} {fx:List Int} {Y:Nat→RF} {m S:Nat}
theorem LW {r k:Nat}:((P.inK fx (k+1)).map (P.coef r)).sum=if fx.getD k 9=1 then ((P.inK fx k).map (P.coef r)).sum+P.coef r (P.at (k:Int)) else ((P.inK fx k).map (P.coef r)).sum:=by
 unfold Pb.inK
 rw[numK_succ]
 split
 ·simp
 ·rfl
theorem LI (hn:P.cl.length≤1000) (hk:P.of.length≤1000000) (hS:S≤10000) (hm:m<1000000) (hf:∀ r,r<m→(Y r).fine) (hy:∀ r,r<m→sz S (Y r).q) :
  ze Tryz.prog pm [.agg (pbC P),clA fx,hL Y m] (.tuple [if fpE P fx Y m=0 then fq (P.fpQ fx fun r=>(Y r).q) else zfr,iv (fpE P fx Y m)]):=by
 refine zn XF (by simp) ?_
 simp[j0]
 refine za (CC (fx:=fx) hn hk) (by simp) (by simp) ?_
 by_cases c1:P.fixE fx=0
 rotate_left
 ·have he:fpE P fx Y m=P.fixE fx:=if_pos c1
  rw[he,if_neg c1]
  simp[c1,wT]
 obtain ⟨hc,hl,hok⟩:=YQ c1
 have hG:=vR hc
 have hrows:=Pd hn hk
 rw[show xD P=P.rows by unfold xD; rw[if_pos hc]] at hrows
 simp[c1]
 refine za hrows (by simp) (by simp) ?_
 by_cases c2:m=P.rows
 rotate_left
 ·have c2':¬ (m:Int)=P.rows:=by omega
  have he:fpE P fx Y m=3:=by unfold fpE; rw[if_neg fun h=>h c1,if_pos c2]
  rw[he]
  simp[c2',wT]
 have he:fpE P fx Y m=prE Y m:=by unfold fpE; rw[if_neg fun h=>h c1,if_neg fun h=>h c2]
 rw[he]
 have c2':(m:Int)=P.rows:=by omega
 simp[c2']
 refine zw (ZL P fx Y m) (cb Y) m (by simp[ZL,c2']) (fun q hq=>by omega) (fun k hk' hI=>?_) (fun hI=>?_)
 ·have e:(k:Int)<P.rows:=by omega
  have w1:=zm (k:=k) (by omega)
  have kv:=aep (hf k hk')
  cases hv:(Y k).v with
  | false =>
   rw[hv] at kv
   rw[ady hI hv hk']
   simp[wL,ZL,c2',e,hk']
   refine za kv (by simp) (by simp) ?_
   simp[wT]
  | true =>
   rw[hv] at kv
   have hq:=EL hv
   have hrq:hr (Y k)=fr (Y k).q:=by rw[← Mu,← hq]
   have ks:=Xn (q:=(Y k).q)
   have hsn:=ajm hv
   cases hs:(Y k).s with
   | true =>
    rw[adx hI hv hs hk']
    rw[hs] at hsn
    have hlt:(Y k).q<0:=of_decide_eq_true hsn.symm
    have h1:=KU.2 hlt
    simp[wL,ZL,c2',e,hk']
    refine za kv (by simp) (by simp) ?_
    simp[hrq]
    refine za ks (by simp) (by simp) ?_
    simp[h1,wT]
   | false =>
    rw[hs] at hsn
    have hlt:¬ (Y k).q<0:=of_decide_eq_false hsn.symm
    have h1:¬ qw (Y k).q<0:=fun h=>hlt (KU.1 h)
    simp[wL,ZL,c2',e,hk']
    refine za kv (by simp) (by simp) ?_
    simp[hrq]
    refine za ks (by simp) (by simp) ?_
    simp[h1,w1,ZL,c2']
    exact Rl hI hv hs
 rw[eZ hI,if_pos rfl]
 obtain ⟨y,hyd⟩:∃ y:Nat→Rat,(fun r=>(Y r).q)=y:=⟨_,rfl⟩
 have hyr:∀ r,(Y r).q=y r:=fun r=>by rw[← hyd]
 rw[hyd]
 have hYL:hR Y m=fR y m:=adp fun r hr=>by rw[← hyr,← EL (hI r hr).1]
 have hy':∀ r,r<P.rows→sz S (y r):=fun r hr=>by rw[← hyr]; exact hy r (by omega)
 subst c2
 clear hI hyd hyr hy hf c2'
 have hrw:P.rows≤20:=by have:=hG.n; unfold Pb.rows; omega
 have hkk:=hG.k
 have Rm:∀ R,R≤P.rows→R*(S+11)≤20*10011:=fun R hR=>Nat.mul_le_mul (by omega) (by omega)
 have Rm3:∀ R,R≤P.rows→R*(S+3)≤20*10003:=fun R hR=>Nat.mul_le_mul (by omega) (by omega)
 have szE:∀ R i,R≤P.rows→i<P.of.length→sz 300000 (P.exP fx y R i):=fun R i hR hi=>by
  unfold Pb.exP
  split
  ·exact zS (Rh hG hi hy' R hR) (by have:=Rm3 R hR; omega)
  ·exact zS (adD hG hi) (by omega)
 have szB:∀ R,R≤P.rows→sz 300000 (P.bdQ fx y R):=fun R hR=>zS (Mr hG hl hy' R hR) (by have:=Rm R hR; omega)
 have szA:∀ k,k≤fx.length→sz 60000000 (P.adQ fx y P.rows k):=fun k hk=>zS (Mn hG hl hy' k hk) (by
  have h1:=Rm3 P.rows (Nat.le_refl _)
  have h2:k*(21+P.rows*(S+3))≤160*(21+20*10003):=Nat.mul_le_mul (by omega) (by omega)
  omega)
 simp[wL,ZL,nN]
 refine za (F5 (fx:=fx) hG hl) (by simp) (by simp) ?_
 have hbig:(fx.length:Int)*56≤140737488355328:=by omega
 have hbig2:(fx.length:Int)≤9223372036854775807:=by omega
 simp[eMk,hbig,hbig2]
 refine zw (R4 P fx y P.rows) (fun _=>True) fx.length (by simp[R4,hYL,← G7 (f:=P.vQ)]) trivial (fun k hk' _=>?_) (fun _=>?_)
 ·have e:(k:Int)<fx.length:=by omega
  have hko:k<P.of.length:=by omega
  have hko':(k:Int)<P.of.length:=by omega
  have w1:=zm (k:=k) (by omega)
  have hv:=(vJ (wS (hG.off _ (at_mem hko))).1).2.1
  rw[px hko] at hv
  have hset:(fZ P.vQ k fx.length).set k (fr ((P.of[k].v:Int):Rat))=fZ P.vQ (k+1) fx.length:=by
   rw[← Cy hk']
   congr 2
   unfold Pb.vQ
   rw[px hko]
  simp[rE,R4,e,hko,hko']
  refine za (lw (n:=P.of[k].v) (by omega) (by omega)) (by simp) (by simp) ?_
  simp[e,hk',w1,R4,hset]
 have hx0:fR P.vQ fx.length=fR (P.exP fx y 0) fx.length:=s5 fun i hi=>by
  unfold Pb.exP Pb.exc
  have:zu 0 (fun r=>y r*P.cof r i)=0:=rfl
  rw[this]
  split<;>grind
 have hb0:fr ((P.accV fx fx.length:Int):Rat)=fr (P.bdQ fx y 0):=by
  congr 1
  unfold Pb.bdQ
  have:zu 0 (fun r=>y r*((P.relB fx r:Int):Rat))=0:=rfl
  rw[this]; grind
 simp[rE,R4,m6,G6,hx0,hb0]
 refine zw (ZM P fx y P.rows) (fun _=>True) P.rows (by simp[ZM]) trivial (fun r hr _=>?_) (fun _=>?_)
 ·have e:(r:Int)<P.rows:=by omega
  have w1:=zm (k:=r) (by omega)
  have hrow:=ajl (P:=P) (r:=(r:Int)) hn hk
  have e0:(0:Int)≤r∧(r:Int)<(xD P:Nat):=by unfold xD; rw[if_pos hc]; omega
  unfold Pc at hrow
  rw[if_pos e0,if_pos e0,Int.toNat_natCast] at hrow
  have hbd:P.bdQ fx y (r+1)=P.bdQ fx y r+y r*((P.relB fx r:Int):Rat):=by unfold Pb.bdQ; simp only[zu]; grind
  have hex:∀ i,P.exc y (r+1) i=P.exc y r i-y r*P.cof r i:=fun i=>by unfold Pb.exc; simp only[zu]; grind
  by_cases z:y r=0
  ·have z0:qw (y r)=0:=NK.2 z
   have hb1:P.bdQ fx y (r+1)=P.bdQ fx y r:=by rw[hbd,z]; grind
   have hx1:fR (P.exP fx y r) fx.length=fR (P.exP fx y (r+1)) fx.length:=s5 fun i hi=>by
    unfold Pb.exP
    rw[hex,z]
    split<;>grind
   simp[uK,ZM,e,hr]
   refine za (Xn (q:=y r)) (by simp) (by simp) ?_
   simp[z0,rD,w1,ZM,hb1,hx1]
  ·have z0:¬ qw (y r)=0:=fun h=>z (NK.1 h)
   simp[uK,ZM,e,hr]
   refine za (Xn (q:=y r)) (by simp) (by simp) ?_
   simp[z0]
   refine za hrow (by simp) (by simp) ?_
   simp
   have hM0:fR (P.exM fx y r 0) P.of.length=fR (P.exP fx y r) P.of.length:=s5 fun i _=>if_neg (Nat.not_lt_zero i)
   refine zw (cB P fx y P.rows r) (fun _=>True) fx.length (by simp[cB,Pb.inK,No,hl,hM0]) trivial (fun k hk' _=>?_) (fun _=>?_)
   ·have e2:(k:Int)<fx.length:=by omega
    have hko:k<P.of.length:=by omega
    have hko':(k:Int)<P.of.length:=by omega
    have w2:=zm (k:=k) (by omega)
    have hg:=nR hk'
    have hcl:k<(clR (r6 P r)).length:=by simpa using hko
    have hrl:(clR (r6 P r))[k]=[iv (P.coef r P.of[k])]:=by simp[clR,r6]
    have hcf:=nf (vJ (wS (hG.off _ (at_mem hko))).1).2.2 hr
    have hin:=LW (P:=P) (fx:=fx) (r:=r) (k:=k)
    have hs1:=eF (fx:=fx) hG hr k (by omega)
    have hbo:=Yt hG hr
    rw[hg] at hin
    have hck:P.cof r k=((P.coef r P.of[k]:Int):Rat):=by unfold Pb.cof; rw[px hko]
    rw[px hko] at hin hcf
    have keep:(fx[k]=0→P.coef r P.of[k]=0)→fR (P.exM fx y r k) fx.length=fR (P.exM fx y r (k+1)) fx.length:=fun h=>s5 fun i hi=>by
     unfold Pb.exM
     by_cases h1:i<k
     ·rw[if_pos h1,if_pos (by omega)]
     ·rw[if_neg h1]
      by_cases h2:i=k
      ·subst h2
       rw[if_pos (by omega)]
       unfold Pb.exP
       rw[hex,hck,hg]
       by_cases h3:fx[i]=0
       ·rw[if_pos h3,if_pos h3,h h3]; grind
       ·rw[if_neg h3,if_neg h3]
      ·rw[if_neg (by omega)]
    obtain ⟨A,hA⟩:∃ A,((P.inK fx k).map (P.coef r)).sum=A:=⟨_,rfl⟩
    obtain ⟨c,hcc⟩:∃ c,P.coef r P.of[k]=c:=⟨_,rfl⟩
    rw[hA] at hin hs1
    rw[hcc] at hin hcf keep hrl hck
    by_cases d0:c=0
    ·subst d0
     have hin':((P.inK fx (k+1)).map (P.coef r)).sum=A:=by rw[hin]; split<;>omega
     have kp:=keep fun _=>rfl
     simp[-vA,xR,cB,e2,v8 hcl,hrl,hA,w2,hin',kp]
    ·by_cases d1:fx[k]=1
     ·rw[if_pos d1] at hin
      have kp:=keep fun h=>by rw[d1] at h; cases h
      have w3:IntKind.i64.wrap (P.bnd r-A-c)=P.bnd r-(A+c):=by rw[wrap64]<;>omega
      have hgx:k<(clR fx).length:=by simpa using hk'
      have hgc:(clR fx)[k]=[iv 1]:=by simp[clR,d1]
      simp[-vA,xR,cB,e2,v8 hcl,v8 hgx,hgc,hrl,hA,d0,w2,w3,hin,kp]
     ·rw[if_neg d1] at hin
      have hgx:k<(clR fx).length:=by simpa using hk'
      have hgc:(clR fx)[k]=[iv fx[k]]:=by simp[clR]
      by_cases d2:fx[k]=0
      ·have hset:(fR (P.exM fx y r k) fx.length).set k (fr (P.exM fx y r k k-y r*((c:Int):Rat)))=fR (P.exM fx y r (k+1)) fx.length:=by
        rw[Lz]
        refine s5 fun i hi=>?_
        unfold upd
        by_cases h2:i=k
        ·subst h2
         rw[if_pos rfl]
         have hg0:fx.getD i 9=0:=by rw[hg]; exact d2
         have l1:¬ i<i:=by omega
         have l2:i<i+1:=by omega
         unfold Pb.exM Pb.exP
         rw[if_neg l1,if_pos l2,if_pos hg0,if_pos hg0,hex,hck]
        ·rw[if_neg h2]
         unfold Pb.exM
         by_cases h1:i<k
         ·rw[if_pos h1,if_pos (by omega)]
         ·rw[if_neg h1,if_neg (by omega)]
       have s1:sz 300000 (P.exM fx y r k k):=by
        unfold Pb.exM; rw[if_neg (by omega)]; exact szE r k (by omega) hko
       have s2:sz 2 ((c:Int):Rat):=sQ (by omega)
       have s3:sz 300000 (y r*((c:Int):Rat)):=zS (vK (hy' r hr) s2) (by omega)
       simp[-vA,xR,cB,e2,v8 hcl,v8 hgx,hgc,hrl,hA,d0,d2]
       simp[e2,hk']
       refine za (lw (n:=c) (by omega) (by omega)) (by simp) (by simp) ?_
       simp
       refine za (adt (K:=300000) (by decide) (zS (hy' r hr) (by omega)) (zS s2 (by decide))) (by simp) (by simp) ?_
       simp
       refine za (ajs (K:=300000) (by decide) s1 s3) (by simp) (by simp) ?_
       simp[e2,hk',w2,cB,hset,hin]
      ·have kp:=keep fun h=>absurd h d2
       simp[-vA,xR,cB,e2,v8 hcl,v8 hgx,hgc,hrl,hA,d0,d1,d2,w2,hin,kp]
   ·have hrb:=Q8 hG hl hr
    have hM1:fR (P.exM fx y r fx.length) fx.length=fR (P.exP fx y (r+1)) fx.length:=s5 fun i hi=>if_pos hi
    have h1:=eF (fx:=fx) hG hr fx.length (by omega)
    have h2:=Yt hG hr
    have hB:P.bnd r-((P.inK fx fx.length).map (P.coef r)).sum=P.relB fx r:=rfl
    have hB1:-9223372036854775808≤P.relB fx r∧P.relB fx r<9223372036854775808:=by rw[← hB]; omega
    simp[xR,cB,mZ,hM1,hB]
    refine za (lw (n:=P.relB fx r) hB1.1 hB1.2) (by simp) (by simp) ?_
    simp
    refine za (adt (K:=300000) (by decide) (zS (hy' r hr) (by omega)) (zS hrb (by decide))) (by simp) (by simp) ?_
    simp
    refine za (F7 (K:=300000) (by decide) (szB r (by omega)) (zS (vK (hy' r hr) hrb) (by omega))) (by simp) (by simp) ?_
    simp[rD,w1,ZM,hbd]
 have ha0:P.bdQ fx y P.rows=P.bdQ fx y P.rows+P.adQ fx y P.rows 0:=by
  have:P.adQ fx y P.rows 0=0:=rfl
  rw[this]; grind
 have hfr0:fr (P.bdQ fx y P.rows)=fr (P.bdQ fx y P.rows+P.adQ fx y P.rows 0):=congrArg fr ha0
 simp[uK,ZM,m5]
 refine zw (cC P fx y) (fun _=>True) fx.length (by simp[cC,← hfr0]) trivial (fun k hk' _=>?_) (fun _=>?_)
 ·have e:(k:Int)<fx.length:=by omega
  have w1:=zm (k:=k) (by omega)
  have hg:=nR hk'
  have had:P.adQ fx y P.rows (k+1)=P.adQ fx y P.rows k+(if fx.getD k 9=0∧0<P.exc y P.rows k then P.exc y P.rows k else 0):=rfl
  have s1:sz 70000000 (P.bdQ fx y P.rows+P.adQ fx y P.rows k):=zS (kU (szB _ (Nat.le_refl _)) (szA k (by omega))) (by decide)
  have s2:=szE P.rows k (Nat.le_refl _) (by omega)
  rw[hg] at had
  by_cases d:fx[k]=0
  ·have hx:P.exP fx y P.rows k=P.exc y P.rows k:=if_pos (by rw[hg]; exact d)
   rw[hx] at s2
   by_cases hp:0<P.exc y P.rows k
   ·rw[if_pos ⟨d,hp⟩] at had
    have hsg:=ZG.2 hp
    have hsum:P.bdQ fx y P.rows+P.adQ fx y P.rows k+P.exc y P.rows k=P.bdQ fx y P.rows+P.adQ fx y P.rows (k+1):=by rw[had]; grind
    simp[wM,cC,e,hk',d,hx]
    refine za (Xn (q:=P.exc y P.rows k)) (by simp) (by simp) ?_
    simp[hsg,e,hk',hx]
    refine za (F7 (K:=70000000) (by decide) s1 (zS s2 (by decide))) (by simp) (by simp) ?_
    simp[w1,cC,hsum]
   ·rw[if_neg fun h=>hp h.2] at had
    have hsg:¬ 0<qw (P.exc y P.rows k):=fun h=>hp (ZG.1 h)
    have hsum:P.adQ fx y P.rows (k+1)=P.adQ fx y P.rows k:=by rw[had]; grind
    simp[wM,cC,e,hk',d,hx]
    refine za (Xn (q:=P.exc y P.rows k)) (by simp) (by simp) ?_
    simp[hsg,w1,cC,hsum]
  ·rw[if_neg fun h=>d h.1] at had
   have hsum:P.adQ fx y P.rows (k+1)=P.adQ fx y P.rows k:=by rw[had]; grind
   simp[wM,cC,e,hk',d,w1,hsum]
 have hfp:P.bdQ fx y P.rows+P.adQ fx y P.rows fx.length=P.fpQ fx y:=rfl
 simp[wM,cC,m4,hfp,wT]
end
theorem St.imp_env_nil {s:St} {t n l sz:Nat} (hk:lk s.env t=some (.list n .full [])) (hl:lk s.sto l=some (.uarr sz [])):St.imp s {s with env:=pt s.env t (.us l sz 0 0)}:=by
 rintro F a w ⟨I,β,lam,h⟩
 refine ⟨I,β,lam,{h with env:=?_}⟩
 rintro ⟨d,t'⟩ x hx
 cases d with
 | zero =>
  have hx:lk (pt s.env t (.us l sz 0 0)) t'=some x:=hx
  rw[ua] at hx
  by_cases e:t=t'
  ·subst e
   rw[if_pos rfl] at hx
   cases hx
   obtain ⟨v,h1,h2⟩:=h.env (0,t) _ hk
   refine ⟨v,h1,?_⟩
   obtain ⟨av,cap,rfl,_,hf,_⟩:=h2.list_inv
   have hc:=hf rfl
   simp only[List.length_nil] at hc
   subst hc
   obtain ⟨a',cap',g1,g2,g3,g4⟩:=h.usto l sz [] hl
   exact .us l sz 0 0 cap' 0 a' av g1 (Nat.le_refl _) (Nat.zero_le _) (fun h=>absurd rfl h)
  ·rw[if_neg e] at hx
   exact h.env (0,t') x hx
 | succ d=>exact h.env (d+1,t') x hx
theorem Ys {P:Program} {c:zd} {s t:St} {K:Exit→St→Prop} (h:St.imp s t) (ha:awp P (.loop c) t K):awp P (.loop c) s K:=by
 obtain ⟨J,n,s0,h0,h1⟩:=ha
 exact ⟨J,n,s0,h.trans h0,h1⟩
def exN (P:Pb) (y:Nat→Rat) (r k i:Nat):Rat:=if i<k then P.exc y (r+1) i else P.exc y r i
noncomputable def ZP (P:Pb) (fx:List Int) (Y:Nat→RF) (m k:Nat):St :=
 {env:=[(1,clA fx),(2,hL Y m),(3,.ptr 3 0),(6,.ptr 6 0),(9,iv m),(10,iv k)],sto:=[(3,.var (pbC P)),(6,.var zz)]}
noncomputable def cD (P:Pb) (fx:List Int) (y:Nat→Rat) (m k:Nat):St :=
 {env:=[(1,clA fx),(2,fL y m),(3,.ptr 3 0),(6,.ptr 6 0),(9,iv m),(11,.ptr 11 0),(12,.us 67 3 0 k),(13,iv k)],
  sto:=[(3,.var (pbC P)),(6,.var zz),(11,.var (fr ((P.accV fx k:Int):Rat))),(67,.uarr 3 (fR P.vQ k))]}
noncomputable def R5 (P:Pb) (fx:List Int) (y:Nat→Rat) (m k:Nat):St :=
 {env:=[(1,clA fx),(2,fL y m),(3,.ptr 3 0),(6,.ptr 6 0),(9,iv m),(11,.ptr 11 0),(12,.us 67 3 0 fx.length),(14,iv k)],
  sto:=[(3,.var (pbC P)),(6,.var zz),(11,.var (fr (P.bdQ fx y k))),(67,.uarr 3 (fR (P.exc y k) fx.length))]}
noncomputable def ZQ (P:Pb) (fx:List Int) (y:Nat→Rat) (m r k:Nat):St :=
 {env:=[(1,clA fx),(2,fL y m),(3,.ptr 3 0),(6,.ptr 6 0),(9,iv m),(11,.ptr 11 0),(12,.us 67 3 0 fx.length),(14,iv r),(15,clA (r6 P r)),(16,iv (P.bnd r-((P.inK fx k).map (P.coef r)).sum)),(17,iv k)],
  sto:=[(3,.var (pbC P)),(6,.var zz),(11,.var (fr (P.bdQ fx y r))),(67,.uarr 3 (fR (exN P y r k) fx.length))]}
noncomputable def cE (P:Pb) (fx:List Int) (y:Nat→Rat) (k:Nat):St :=
 {env:=[(1,clA fx),(6,.ptr 6 0),(11,.ptr 11 0),(12,.us 67 3 0 fx.length),(18,iv k)],
  sto:=[(6,.var zz),(11,.var (fr (P.bdQ fx y P.rows+P.adQ fx y P.rows k))),(67,.uarr 3 (fR (P.exc y P.rows) fx.length))]}
@[simp] theorem ami {x:RF} {h:0<(hr x).length}:(hr x)[0]=h0 x:=rfl
section
variable {P:Pb} {fx:List Int} {Y:Nat→RF} {m S:Nat}
theorem N4 (hn:P.cl.length≤1000) (hk:P.of.length≤1000000) (hS:S≤22000000) (hm:m<1000000) (hf:∀ r,r<m→(Y r).fine) (hy:∀ r,r<m→sz S (Y r).q) :
  ze Tryz.prog pv [.agg (pbC P),clA fx,hL Y m] (.tuple [if fpE P fx Y m=0 then fq (P.fpQ fx fun r=>(Y r).q) else zfr,iv (fpE P fx Y m)]):=by
 refine zn XM (by simp) ?_
 simp[j7]
 refine za (acm (fx:=fx) hn hk) (by simp) (by simp) ?_
 by_cases c1:P.fixE fx=0
 rotate_left
 ·have he:fpE P fx Y m=P.fixE fx:=if_pos c1
  rw[he,if_neg c1]
  simp[c1,wV]
 obtain ⟨hc,hl,hok⟩:=YQ c1
 have hG:=vR hc
 have hrows:=Pe hn hk
 rw[show xD P=P.rows by unfold xD; rw[if_pos hc]] at hrows
 simp[c1]
 refine za hrows (by simp) (by simp) ?_
 by_cases c2:m=P.rows
 rotate_left
 ·have c2':¬ (m:Int)=P.rows:=by omega
  have he:fpE P fx Y m=3:=by unfold fpE; rw[if_neg fun h=>h c1,if_pos c2]
  rw[he]
  simp[c2',wV]
 have he:fpE P fx Y m=prE Y m:=by unfold fpE; rw[if_neg fun h=>h c1,if_neg fun h=>h c2]
 rw[he]
 have c2':(m:Int)=P.rows:=by omega
 simp[c2']
 refine zw (ZP P fx Y m) (cb Y) m (by simp[ZP,c2']) (fun q hq=>by omega) (fun k hk' hI=>?_) (fun hI=>?_)
 ·have e:(k:Int)<P.rows:=by omega
  have w1:=zm (k:=k) (by omega)
  have kv:=aa9 (hf k hk')
  cases hv:(Y k).v with
  | false =>
   rw[hv] at kv
   rw[ady hI hv hk']
   simp[wP,ZP,c2',e,hk']
   refine za kv (by simp) (by simp) ?_
   simp[wV]
  | true =>
   rw[hv] at kv
   cases hs:(Y k).s with
   | true =>
    rw[adx hI hv hs hk']
    simp[wP,ZP,c2',e,hk']
    refine za kv (by simp) (by simp) ?_
    simp[kB,hs,c2',e,hk',wV]
   | false =>
    simp[wP,ZP,c2',e,hk']
    refine za kv (by simp) (by simp) ?_
    simp[kB,hs,c2',e,hk',w1,ZP]
    exact Rl hI hv hs
 rw[eZ hI,if_pos rfl]
 obtain ⟨y,hyd⟩:∃ y:Nat→Rat,(fun r=>(Y r).q)=y:=⟨_,rfl⟩
 have hyr:∀ r,(Y r).q=y r:=fun r=>by rw[← hyd]
 rw[hyd]
 have hYL:hR Y m=fR y m:=adp fun r hr=>by rw[← hyr,← EL (hI r hr).1]
 have hy':∀ r,r<P.rows→sz S (y r):=fun r hr=>by rw[← hyr]; exact hy r (by omega)
 subst c2
 clear hI hyd hyr hy hf c2'
 have hrw:P.rows≤20:=by have:=hG.n; unfold Pb.rows; omega
 have hkk:=hG.k
 have Rm:∀ R,R≤P.rows→R*(S+11)≤20*22000011:=fun R hR=>Nat.mul_le_mul (by omega) (by omega)
 have Rm3:∀ R,R≤P.rows→R*(S+3)≤20*22000003:=fun R hR=>Nat.mul_le_mul (by omega) (by omega)
 have szE:∀ R i,R≤P.rows→i<P.of.length→sz 500000000 (P.exc y R i):=fun R i hR hi=>zS (Rh hG hi hy' R hR) (by have:=Rm3 R hR; omega)
 have szB:∀ R,R≤P.rows→sz 500000000 (P.bdQ fx y R):=fun R hR=>zS (Mr hG hl hy' R hR) (by have:=Rm R hR; omega)
 have szA:∀ k,k≤fx.length→sz 71000000000 (P.adQ fx y P.rows k):=fun k hk=>zS (Mn hG hl hy' k hk) (by
  have h1:=Rm3 P.rows (Nat.le_refl _)
  have h2:k*(21+P.rows*(S+3))≤160*(21+20*22000003):=Nat.mul_le_mul (by omega) (by omega)
  omega)
 simp[wP,ZP,nP]
 refine za ahS (by simp) (by simp) ?_
 simp
 refine Ys (t:=cD P fx y P.rows 0) ?_ ?_
 ·refine St.imp.trans (St.imp_tok 67 3 (by simp)) ?_
  simp[St.dg]
  refine St.imp.trans (St.imp_env_nil (t:=12) (l:=67) (sz:=3) (by simp; rfl) (by simp)) ?_
  refine St.imp_of ?_
  have hfr0:fr ((P.accV fx 0:Int):Rat)=fr 0:=rfl
  simp[cD,hYL,hfr0,aeh]
 refine zw (cD P fx y P.rows) (fun _=>True) fx.length (by simp[cD]) trivial (fun k hk' _=>?_) (fun _=>?_)
 ·have e:(k:Int)<fx.length:=by omega
  have hko:k<P.of.length:=by omega
  have hko':(k:Int)<P.of.length:=by omega
  have w1:=zm (k:=k) (by omega)
  have hg:=nR hk'
  have hv:=(vJ (wS (hG.off _ (at_mem hko))).1).2.1
  rw[px hko] at hv
  have hvq:P.vQ k=((P.of[k].v:Int):Rat):=by unfold Pb.vQ; rw[px hko]
  have hap:fR P.vQ k++[fr ((P.of[k].v:Int):Rat)]=fR P.vQ (k+1):=by rw[aeg,hvq]
  have hs:=Yp (P:=P) (fx:=fx) (k:=k)
  have hac:=bH (fx:=fx) hG k (by omega)
  rw[hg,px hko] at hs
  simp[rM,cD,e,hko,hko']
  refine za (sL (n:=P.of[k].v) (by omega) (by omega)) (by simp) (by simp) ?_
  have b1:((k:Nat)+1)*56≤140737488355328:=by omega
  have b2:(k:Nat)+1≤9223372036854775807:=by omega
  have hk1:(k:Int)<(k:Int)+1:=by omega
  have hvf:fr ((P.of[k].v:Int):Rat)=fr (P.vQ k):=by rw[hvq]
  by_cases d:fx[k]=1
  ·rw[if_pos d] at hs
   have hsum:((P.accV fx k:Int):Rat)+((P.of[k].v:Int):Rat)=((P.accV fx (k+1):Int):Rat):=by rw[hs,Rat.intCast_add]
   have s1:sz 28 ((P.accV fx k:Int):Rat):=sQ (by omega)
   have s2:sz 28 ((P.of[k].v:Int):Rat):=sQ (by omega)
   simp[e,hk',d,b1,b2,hap,hk1]
   refine za (Mo (K:=28) (by decide) s1 s2) (by simp[hvq]) (by simp) ?_
   simp[w1,cD,hsum]
  ·rw[if_neg d] at hs
   simp[e,hk',d,b1,b2,w1,cD,hs,hap]
 have hx0:fR P.vQ fx.length=fR (P.exc y 0) fx.length:=s5 fun i hi=>by
  unfold Pb.exc
  have:zu 0 (fun r=>y r*P.cof r i)=0:=rfl
  rw[this]
  grind
 have hb0:fr ((P.accV fx fx.length:Int):Rat)=fr (P.bdQ fx y 0):=by
  congr 1
  unfold Pb.bdQ
  have:zu 0 (fun r=>y r*((P.relB fx r:Int):Rat))=0:=rfl
  rw[this]; grind
 simp[rM,cD,ll,hx0,hb0]
 refine zw (R5 P fx y P.rows) (fun _=>True) P.rows (by simp[R5]) trivial (fun r hr _=>?_) (fun _=>?_)
 ·have e:(r:Int)<P.rows:=by omega
  have w1:=zm (k:=r) (by omega)
  have hrow:=aht (P:=P) (r:=(r:Int)) hn hk
  have e0:(0:Int)≤r∧(r:Int)<(xD P:Nat):=by unfold xD; rw[if_pos hc]; omega
  unfold Pc at hrow
  rw[if_pos e0,if_pos e0,Int.toNat_natCast] at hrow
  have hbd:P.bdQ fx y (r+1)=P.bdQ fx y r+y r*((P.relB fx r:Int):Rat):=by unfold Pb.bdQ; simp only[zu]; grind
  have hex:∀ i,P.exc y (r+1) i=P.exc y r i-y r*P.cof r i:=fun i=>by unfold Pb.exc; simp only[zu]; grind
  simp[rN,R5,e]
  refine za hrow (by simp) (by simp) ?_
  simp
  have hM0:fR (exN P y r 0) fx.length=fR (P.exc y r) fx.length:=s5 fun i _=>if_neg (Nat.not_lt_zero i)
  refine zw (ZQ P fx y P.rows r) (fun _=>True) fx.length (by simp[ZQ,Pb.inK,No,hM0]) trivial (fun k hk' _=>?_) (fun _=>?_)
  ·have e2:(k:Int)<fx.length:=by omega
   have hko:k<P.of.length:=by omega
   have w2:=zm (k:=k) (by omega)
   have hg:=nR hk'
   have hcl:k<(clR (r6 P r)).length:=by simpa using hko
   have hrl:(clR (r6 P r))[k]=[iv (P.coef r P.of[k])]:=by simp[clR,r6]
   have hcf:=nf (vJ (wS (hG.off _ (at_mem hko))).1).2.2 hr
   have hin:=LW (P:=P) (fx:=fx) (r:=r) (k:=k)
   have hs1:=eF (fx:=fx) hG hr k (by omega)
   have hbo:=Yt hG hr
   rw[hg] at hin
   have hck:P.cof r k=((P.coef r P.of[k]:Int):Rat):=by unfold Pb.cof; rw[px hko]
   rw[px hko] at hin hcf
   obtain ⟨A,hA⟩:∃ A,((P.inK fx k).map (P.coef r)).sum=A:=⟨_,rfl⟩
   obtain ⟨c,hcc⟩:∃ c,P.coef r P.of[k]=c:=⟨_,rfl⟩
   rw[hA] at hin hs1
   rw[hcc] at hin hcf hrl hck
   have hgx:k<(clR fx).length:=by simpa using hk'
   have hgc:(clR fx)[k]=[iv fx[k]]:=by simp[clR]
   have hset:(fR (exN P y r k) fx.length).set k (fr (exN P y r k k-y r*((c:Int):Rat)))=fR (exN P y r (k+1)) fx.length:=by
    rw[Lz]
    refine s5 fun i hi=>?_
    unfold upd
    by_cases h2:i=k
    ·subst h2
     have l1:¬ i<i:=by omega
     have l2:i<i+1:=by omega
     rw[if_pos rfl]
     unfold exN
     rw[if_neg l1,if_pos l2,hex,hck]
    ·rw[if_neg h2]
     unfold exN
     by_cases h1:i<k
     ·rw[if_pos h1,if_pos (by omega)]
     ·rw[if_neg h1,if_neg (by omega)]
   have s1:sz 500000000 (exN P y r k k):=by
    unfold exN; rw[if_neg (by omega)]; exact szE r k (by omega) hko
   have s2:sz 2 ((c:Int):Rat):=sQ (by omega)
   have s3:sz 500000000 (y r*((c:Int):Rat)):=zS (vK (hy' r hr) s2) (by omega)
   have hkoI:(k:Int)<P.of.length:=by omega
   by_cases d1:fx[k]=1
   ·rw[if_pos d1] at hin
    have w3:IntKind.i64.wrap (P.bnd r-A-c)=P.bnd r-(A+c):=by rw[wrap64]<;>omega
    simp[-vA,uO,ZQ,e2,v8 hcl,v8 hgx,hgc,hrl,hA,d1,w3]
    simp[e2,hk',hr,e,hko,hkoI,hrl]
    refine za (sL (n:=c) (by omega) (by omega)) (by simp) (by simp) ?_
    simp
    refine za (EI (K:=500000000) (by decide) (zS (hy' r hr) (by omega)) (zS s2 (by decide))) (by simp) (by simp) ?_
    simp
    refine za (adB (K:=500000000) (by decide) s1 s3) (by simp) (by simp) ?_
    simp[e2,hk',w2,ZQ,hset,hin]
   ·rw[if_neg d1] at hin
    simp[-vA,uO,ZQ,e2,v8 hgx,hgc,hA,d1]
    simp[e2,hk',hr,e,hko,hkoI,hrl]
    refine za (sL (n:=c) (by omega) (by omega)) (by simp) (by simp) ?_
    simp
    refine za (EI (K:=500000000) (by decide) (zS (hy' r hr) (by omega)) (zS s2 (by decide))) (by simp) (by simp) ?_
    simp
    refine za (adB (K:=500000000) (by decide) s1 s3) (by simp) (by simp) ?_
    simp[e2,hk',w2,ZQ,hset,hin]
  ·have hrb:=Q8 hG hl hr
   have hM1:fR (exN P y r fx.length) fx.length=fR (P.exc y (r+1)) fx.length:=s5 fun i hi=>if_pos hi
   have h1:=eF (fx:=fx) hG hr fx.length (by omega)
   have h2:=Yt hG hr
   have hB:P.bnd r-((P.inK fx fx.length).map (P.coef r)).sum=P.relB fx r:=rfl
   have hB1:-9223372036854775808≤P.relB fx r∧P.relB fx r<9223372036854775808:=by rw[← hB]; omega
   simp[uO,ZQ,lg,hM1,hB,e,hr]
   refine za (sL (n:=P.relB fx r) hB1.1 hB1.2) (by simp) (by simp) ?_
   simp
   refine za (EI (K:=500000000) (by decide) (zS (hy' r hr) (by omega)) (zS hrb (by decide))) (by simp) (by simp) ?_
   simp
   refine za (Mo (K:=500000000) (by decide) (szB r (by omega)) (zS (vK (hy' r hr) hrb) (by omega))) (by simp) (by simp) ?_
   simp[lh,w1,R5,hbd]
 have ha0:P.bdQ fx y P.rows=P.bdQ fx y P.rows+P.adQ fx y P.rows 0:=by
  have:P.adQ fx y P.rows 0=0:=rfl
  rw[this]; grind
 have hfr0:fr (P.bdQ fx y P.rows)=fr (P.bdQ fx y P.rows+P.adQ fx y P.rows 0):=congrArg fr ha0
 simp[rN,R5,lj]
 refine zw (cE P fx y) (fun _=>True) fx.length (by simp[cE,← hfr0]) trivial (fun k hk' _=>?_) (fun _=>?_)
 ·have e:(k:Int)<fx.length:=by omega
  have w1:=zm (k:=k) (by omega)
  have hg:=nR hk'
  have had:P.adQ fx y P.rows (k+1)=P.adQ fx y P.rows k+(if fx.getD k 9=0∧0<P.exc y P.rows k then P.exc y P.rows k else 0):=rfl
  have s1:sz 72000000000 (P.bdQ fx y P.rows+P.adQ fx y P.rows k):=zS (kU (szB _ (Nat.le_refl _)) (szA k (by omega))) (by decide)
  have s2:=szE P.rows k (Nat.le_refl _) (by omega)
  rw[hg] at had
  by_cases d:fx[k]=0
  ·by_cases hp:0<P.exc y P.rows k
   ·rw[if_pos ⟨d,hp⟩] at had
    have hsg:=ZG.2 hp
    have hsum:P.bdQ fx y P.rows+P.adQ fx y P.rows k+P.exc y P.rows k=P.bdQ fx y P.rows+P.adQ fx y P.rows (k+1):=by rw[had]; grind
    simp[wQ,cE,e,hk',d]
    refine za (Ad (q:=P.exc y P.rows k)) (by simp) (by simp) ?_
    simp[hsg,e,hk']
    refine za (Mo (K:=72000000000) (by decide) s1 (zS s2 (by decide))) (by simp) (by simp) ?_
    simp[w1,cE,hsum]
   ·rw[if_neg fun h=>hp h.2] at had
    have hsg:¬ 0<qw (P.exc y P.rows k):=fun h=>hp (ZG.1 h)
    have hsum:P.adQ fx y P.rows (k+1)=P.adQ fx y P.rows k:=by rw[had]; grind
    simp[wQ,cE,e,hk',d]
    refine za (Ad (q:=P.exc y P.rows k)) (by simp) (by simp) ?_
    simp[hsg,w1,cE,hsum]
  ·rw[if_neg fun h=>d h.1] at had
   have hsum:P.adQ fx y P.rows (k+1)=P.adQ fx y P.rows k:=by rw[had]; grind
   simp[wQ,cE,e,hk',d,w1,hsum]
 have hfp:P.bdQ fx y P.rows+P.adQ fx y P.rows fx.length=P.fpQ fx y:=rfl
 simp[wQ,cE,li,hfp,wV]
end
section
variable {P:Pb} {r n:Nat} {o:Of} {L:List Of} {ch:List Int}
noncomputable def Sj (P:Pb) (ch:List Int) (k:Nat):St:={env:=[(2,.ptr 2 0),(6,apc 34 8 (ofR (P.pick (ch.take k)))),(7,iv (prv ch k)),(10,clA ch),(11,iv ch.length),(12,iv k)],sto:=[(2,.var (pbC P))]}
theorem ab3 (hk:P.of.length≤1000000) (hl:ch.length<4611686018427387904):ze Tryz.prog ml [.agg (pbC P),clA ch] (.tuple [if okP P.of.length ch then ofA (P.pick ch) else uw,bv (decide (okP P.of.length ch))]):=by
 refine wW So (by simp) ?_
 simp[am3]
 have h0:apc 34 8 (ofR (P.pick (ch.take 0)))=.list 0 .full []:=by rw[List.take_zero]; exact Qs rfl
 refine zw (Sj P ch) (fun k=>∀ q,q<k→okI P.of.length ch q) ch.length (by simp[Sj,prv,Pb.pick,ofR,apc]) (fun q hq=>by omega) (fun k hk' hI=>?_) (fun hI=>?_)
 ·have e:(k:Int)<ch.length:=by omega
  have w1:=zm (k:=k) (by omega)
  have hp:=RK hI
  have hg:=getD_lt hk'
  by_cases d:okI P.of.length ch k
  ·have d':=d
   unfold okI at d'
   rw[hg] at d'
   obtain ⟨b,hb,hbn⟩:=Uh hI d
   rw[hg] at hb
   have hlen:=aa (n:=P.of.length) (ch:=ch.take (k+1)) (fun q hq=>by
    have hq:q<k+1:=by simp at hq; omega
    have e1:∀ j,j<k+1→(ch.take (k+1)).getD j 0=ch.getD j 0:=fun j hj=>by
     rw[List.getD_eq_getElem?_getD,List.getD_eq_getElem?_getD,List.getElem?_take,if_pos hj]
    have:=if hqk:q=k then hqk▸d else hI q (by omega)
    unfold okI at this ⊢
    rw[e1 q hq]
    cases q with
    | zero=>exact this
    | succ q=>simp only[prv] at this ⊢; rw[e1 q (by omega)]; exact this)
   have hkn:k+1≤P.of.length:=by simpa [List.length_take,Nat.min_eq_left (show k+1≤ch.length by omega)] using hlen
   rw[hb] at d'
   have b1:¬ (b:Int)≤prv ch k:=by omega
   have b2:(b:Int)<P.of.length:=by omega
   have b3:¬ (P.of.length:Int)≤b:=by omega
   have hat:P.of[b]=P.at ch[k]:=by rw[hb,F8 hbn]
   have hpr:prv ch (k+1)=b:=by simp only[prv]; rw[hg,hb]
   simp[vH,Sj,e,hk',hb,b1,b2,b3,hbn]
   refine p9 (by decide) rfl ?_ ?_ (by simp) ?_
   ·simp only[qM,vT,List.length_take]; omega
   ·simp only[qM,vT,List.length_take]; omega
   ·have hro:ofR (P.pick (ch.take k))++[oC P.of[b]]=ofR (P.pick (ch.take (k+1))):=by rw[Y8 hk',QX,hat]; rfl
    rw[hro]
    simp[w1,hpr,Sj]
    exact fun q hq=>by
     by_cases eq:q=k
     ·subst eq; exact d
     ·exact hI q (by omega)
  ·have hf:¬ okP P.of.length ch:=fun h=>d (h k hk')
   unfold okI at d
   rw[hg] at d
   by_cases b1:ch[k]≤prv ch k
   ·simp[vH,Sj,e,hk',b1,hf,qu]
    exact AV.imp.refl
   ·have b2:(P.of.length:Int)≤ch[k]:=by omega
    simp[vH,Sj,e,hk',b1,b2,hf,qu]
    exact AV.imp.refl
 ·have hf:okP P.of.length ch:=hI
  simp[vH,Sj,hf,ja,qu]
  exact AV.imp_tuple2 (fJ lA)
theorem Ew (hn:P.cl.length≤1000) (hk:P.of.length≤1000000) (hl:ch.length<4611686018427387904):ze Tryz.prog po [.agg (pbC P),clA ch] (iv (P.feaE ch)):=by
 refine zn XG (by simp) ?_
 simp[j3]
 refine za (Qy hn hk) (by simp) (by simp) ?_
 unfold Pb.feaE
 by_cases c1:P.chk=0
 ·rw[if_neg (fun h:P.chk≠0=>h c1)]
  simp[c1]
  refine za (ab3 hk hl) (by simp) (by simp) ?_
  by_cases c2:okP P.of.length ch
  ·have hG:=vR c1
   have hm:=anu c2
   simp[c2]
   have hP:∀ o∈P.pick ch,P.offE o=0:=fun o ho=>hG.off o (hm o ho)
   refine za (CB (P:=P) (L:=P.pick ch) hn (by rw[vT]; have:=aa c2; have:=hG.k; omega) (fun o ho=>(vJ (wS (hP o ho)).1).1) (fun o ho=>(vJ (wS (hP o ho)).1).2.2)) (by simp) (by simp) ?_
   by_cases c3:P.fits (P.pick ch)
   ·simp[c3,uz]
   ·simp[c3,uz]
  ·simp[c2,uz]
 ·rw[if_pos c1]
  simp[c1,uz]
end
noncomputable def nF (P:Pb) (ch:List Int) (k:Nat):St:={env:=[(1,clA ch),(2,.ptr 2 0),(6,apc 55 8 (ofR (P.pick (ch.take k)))),(7,iv k)],sto:=[(2,.var (pbC P))]}
section
variable {P:Pb} {ch:List Int}
theorem Xk (hk:P.of.length≤1000000) (ok:okP P.of.length ch):ze Tryz.prog ru [.agg (pbC P),clA ch] (.tuple [ofA (P.pick ch),bv true]):=by
 have hl:=aa ok
 refine wW am (by simp) ?_
 simp[ji]
 have h0:apc 55 8 (ofR (P.pick (ch.take 0)))=.list 0 .full []:=by rw[List.take_zero]; exact Qs rfl
 refine zw (nF P ch) (fun _=>True) ch.length (by simp[nF,Pb.pick,ofR,apc]) trivial (fun k hk' _=>?_) (fun _=>?_)
 ·have e:(k:Int)<ch.length:=by omega
  have w1:=zm (k:=k) (by omega)
  have hg:=getD_lt hk'
  have d:=ok k hk'
  obtain ⟨b,hb,hbn⟩:=Uh (fun q hq=>ok q (by omega)) d
  rw[hg] at hb
  unfold okI at d
  rw[hg,hb] at d
  have b0:¬ (b:Int)<0:=by omega
  have b2:(b:Int)<P.of.length:=by omega
  have b3:¬ (P.of.length:Int)≤b:=by omega
  have hat:P.of[b]=P.at ch[k]:=by rw[hb,F8 hbn]
  have hro:ofR (P.pick (ch.take k))++[oC P.of[b]]=ofR (P.pick (ch.take (k+1))):=by rw[Y8 hk',QX,hat]; rfl
  by_cases hz:0<k
  ·obtain ⟨q,hq⟩:∃ q:Nat,k-1=q:=⟨_,rfl⟩
   have hql:q<ch.length:=by omega
   have hgq:=getD_lt hql
   have hpv:prv ch k=ch[q]:=by
    rw[show k=q+1 by omega]
    exact hgq
   rw[hpv] at d
   have w2:IntKind.i64.wrap ((k:Int)-1)=(q:Int):=by rw[wrap64]<;>omega
   have c1:¬ (b:Int)≤ch[q]:=by omega
   have eq':(q:Int)<ch.length:=by omega
   simp[y9,nF,e,hk',hb,b0,b2,b3,hbn,hz,w2,hql,eq',c1]
   refine p9 (by decide) rfl ?_ ?_ (by simp) ?_
   ·simp only[qM,vT,List.length_take]; omega
   ·simp only[qM,vT,List.length_take]; omega
   ·rw[hro]
    simp[w1,nF]
  ·simp[y9,nF,e,hk',hb,b0,b2,b3,hbn,hz]
   refine p9 (by decide) rfl ?_ ?_ (by simp) ?_
   ·simp only[qM,vT,List.length_take]; omega
   ·simp only[qM,vT,List.length_take]; omega
   ·rw[hro]
    simp[w1,nF]
 ·simp[y9,nF,gT,rZ]
  exact AV.imp_tuple2 (fJ lA)
theorem Gc (hn:P.cl.length≤1000) (hk:P.of.length≤1000000) (hc:P.chk=0) (ok:okP P.of.length ch):ze Tryz.prog tJ [.agg (pbC P),clA ch] (iv (if P.fits (P.pick ch) then 0 else 14)):=by
 have hl:=aa ok
 refine zn mO (by simp) ?_
 simp[qf]
 refine za (pR hn hk) (by simp) (by simp) ?_
 simp[hc]
 refine za (Xk hk ok) (by simp) (by simp) ?_
 have hG:=vR hc
 have hm:=anu ok
 have hP:∀ o∈P.pick ch,P.offE o=0:=fun o ho=>hG.off o (hm o ho)
 simp
 refine za (FU (P:=P) (L:=P.pick ch) hn (by rw[vT]; have:=hG.k; omega) (fun o ho=>(vJ (wS (hP o ho)).1).1) (fun o ho=>(vJ (wS (hP o ho)).1).2.2)) (by simp) (by simp) ?_
 by_cases c3:P.fits (P.pick ch)
 ·simp[c3,tY]
 ·simp[c3,tY]
end
section
variable {P:Pb} {ch:List Int} {T:List Nat}
def MG (L:List Of) (k:Nat):St:={env:=[(5,ofA L),(7,iv (sh (fun o=>o.v) L k)),(8,iv k)],sto:=[]}
theorem acs (hn:P.cl.length≤1000) (hk:P.of.length≤1000000) (hc:P.chk=0) (ok:okP P.of.length ch):ze Tryz.prog nY [.agg (pbC P),clA ch] (iv ((P.pick ch).map fun o=>o.v).sum):=by
 have hG:=vR hc
 have hm:=anu ok
 have hP:∀ o∈P.pick ch,0≤o.v∧o.v≤1000000:=fun o ho=>by have:=(vJ (wS (hG.off o (hm o ho))).1).2.1; omega
 have hl2:(P.pick ch).length≤160:=by rw[vT]; have:=aa ok; have:=hG.k; omega
 refine zn gN (by simp) ?_
 simp[n6]
 refine za (pR hn hk) (by simp) (by simp) ?_
 simp[hc]
 refine za (Xk hk ok) (by simp) (by simp) ?_
 simp
 generalize P.pick ch=L at *
 refine zw (MG L) (fun _=>True) L.length (by simp[MG,Y9]) trivial (fun k hk' _=>?_) (fun _=>?_)
 ·have e:(k:Int)<L.length:=by omega
  have hg:L[k]?=some L[k]:=by simp[hk']
  have w1:=zm (k:=k) (by omega)
  obtain ⟨p1,p2⟩:=kJ (f:=fun o:Of=>o.v) hP k (by omega)
  have p3:=hP _ (List.getElem_mem hk')
  have w3:IntKind.i64.wrap (sh (fun o=>o.v) L k+L[k].v)=sh (fun o=>o.v) L k+L[k].v:=by rw[wrap64]<;>omega
  have hs:=cr (f:=fun o:Of=>o.v) hg
  simp[qg,MG,e,hk',w1,w3,hs]
 ·have hall:sh (fun o=>o.v) L L.length=(L.map fun o=>o.v).sum:=Zv
  simp[qg,MG,mw,hall,mc]
end
section
variable {P:Pb} {ch:List Int}
theorem Bs {n:Nat} {k:Nat} (h:¬ okI n ch k) (hk:k<ch.length):ch[k]<0∨(n:Int)≤ch[k]∨∃ q,k=q+1∧ch[k]≤ch.getD q 0:=by
 unfold okI at h
 rw[getD_lt hk] at h
 cases k with
 | zero =>
  simp only[prv] at h
  omega
 | succ q =>
  simp only[prv] at h
  by_cases h1:ch[q+1]<0
  ·exact .inl h1
  ·by_cases h2:(n:Int)≤ch[q+1]
   ·exact .inr (.inl h2)
   ·exact .inr (.inr ⟨q,rfl,by omega⟩)
theorem NI (hk:P.of.length≤1000000) (hl:ch.length<4611686018427387904):ze Tryz.prog ru [.agg (pbC P),clA ch] (.tuple [if okP P.of.length ch then ofA (P.pick ch) else uw,bv (decide (okP P.of.length ch))]):=by
 by_cases ok:okP P.of.length ch
 ·rw[if_pos ok,decide_eq_true ok]
  exact Xk hk ok
 rw[if_neg ok,decide_eq_false ok]
 refine zn am (by simp) ?_
 simp[ji]
 refine zw (nF P ch) (fun k=>∀ q,q<k→okI P.of.length ch q) ch.length (by simp[nF,Pb.pick,ofR,apc]) (fun q hq=>by omega) (fun k hk' hI=>?_) (fun hI=>absurd hI ok)
 have e:(k:Int)<ch.length:=by omega
 have w1:=zm (k:=k) (by omega)
 have hg:=getD_lt hk'
 by_cases d:okI P.of.length ch k
 ·have hI':∀ q,q<k+1→okI P.of.length ch q:=fun q hq=>by
   by_cases e:q=k
   ·subst e; exact d
   ·exact hI q (by omega)
  have hkl:k<P.of.length:=by
   have h1:=RK hI
   have h2:=d
   unfold okI at h2
   omega
  obtain ⟨b,hb,hbn⟩:=Uh hI d
  rw[hg] at hb
  unfold okI at d
  rw[hg,hb] at d
  have b0:¬ (b:Int)<0:=by omega
  have b2:(b:Int)<P.of.length:=by omega
  have b3:¬ (P.of.length:Int)≤b:=by omega
  have hat:P.of[b]=P.at ch[k]:=by rw[hb,F8 hbn]
  have hro:ofR (P.pick (ch.take k))++[oC P.of[b]]=ofR (P.pick (ch.take (k+1))):=by rw[Y8 hk',QX,hat]; rfl
  by_cases hz:0<k
  ·obtain ⟨q,hq⟩:∃ q:Nat,k-1=q:=⟨_,rfl⟩
   have hql:q<ch.length:=by omega
   have hgq:=getD_lt hql
   have hpv:prv ch k=ch[q]:=by
    rw[show k=q+1 by omega]
    exact hgq
   rw[hpv] at d
   have w2:IntKind.i64.wrap ((k:Int)-1)=(q:Int):=by rw[wrap64]<;>omega
   have c1:¬ (b:Int)≤ch[q]:=by omega
   have eq':(q:Int)<ch.length:=by omega
   simp[y9,nF,e,hk',hb,b0,b2,b3,hbn,hz,w2,hql,eq',c1]
   refine p9 (by decide) rfl ?_ ?_ (by simp) ?_
   ·simp only[qM,vT,List.length_take]; omega
   ·simp only[qM,vT,List.length_take]; omega
   ·rw[hro]
    simp[w1,nF]
    exact hI'
  ·simp[y9,nF,e,hk',hb,b0,b2,b3,hbn,hz]
   refine p9 (by decide) rfl ?_ ?_ (by simp) ?_
   ·simp only[qM,vT,List.length_take]; omega
   ·simp only[qM,vT,List.length_take]; omega
   ·rw[hro]
    simp[w1,nF]
    exact hI'
 ·by_cases b0:ch[k]<0
  ·simp[y9,nF,e,hk',b0,rZ]
  ·by_cases b1:(P.of.length:Int)≤ch[k]
   ·simp[y9,nF,e,hk',b0,b1,rZ]
   ·obtain ⟨q,hq,hle⟩:∃ q,k=q+1∧ch[k]≤ch.getD q 0:=((Bs d hk').resolve_left b0).resolve_left b1
    have hql:q<ch.length:=by omega
    rw[getD_lt hql] at hle
    have hz:0<k:=by omega
    have w2:IntKind.i64.wrap ((k:Int)-1)=(q:Int):=by rw[wrap64]<;>omega
    have eq':(q:Int)<ch.length:=by omega
    simp[y9,nF,e,hk',b0,b1,hz,w2,hql,eq',hle,rZ]
theorem Gb (hn:P.cl.length≤1000) (hk:P.of.length≤1000000) (hl:ch.length<4611686018427387904):ze Tryz.prog tJ [.agg (pbC P),clA ch] (iv (P.feaE ch)):=by
 unfold Pb.feaE
 by_cases hc:P.chk=0
 ·rw[if_neg fun h=>h hc]
  by_cases ok:okP P.of.length ch
  ·rw[if_neg fun h=>h ok]
   exact Gc hn hk hc ok
  ·rw[if_pos ok]
   have kp:=NI hk hl
   rw[if_neg ok,decide_eq_false ok] at kp
   refine zn mO (by simp) ?_
   simp[qf]
   refine za (pR hn hk) (by simp) (by simp) ?_
   simp[hc]
   refine za kp (by simp) (by simp) ?_
   simp[tY]
 ·rw[if_pos hc]
  refine zn mO (by simp) ?_
  simp[qf]
  refine za (pR hn hk) (by simp) (by simp) ?_
  simp[hc,tY]
theorem akJ (hn:P.cl.length≤1000) (hk:P.of.length≤1000000) (hl:ch.length<4611686018427387904):ze Tryz.prog nY [.agg (pbC P),clA ch] (iv (P.valE ch)):=by
 unfold Pb.valE
 by_cases hc:P.chk=0
 ·by_cases ok:okP P.of.length ch
  ·rw[if_pos ⟨ok,hc⟩]
   exact acs hn hk hc ok
  ·rw[if_neg fun h=>ok h.1]
   have kp:=NI hk hl
   rw[if_neg ok] at kp
   refine zn gN (by simp) ?_
   simp[n6]
   refine za (pR hn hk) (by simp) (by simp) ?_
   simp[hc]
   refine za kp (by simp) (by simp) ?_
   simp
   refine zw (fun k=>{env:=[(5,uw),(7,iv 0),(8,iv k)],sto:=[]}) (fun _=>True) 0 (by simp) trivial (fun k hk _=>by omega) (fun _=>?_)
   simp[qg,mw,mc]
 ·rw[if_neg fun h=>hc h.2]
  refine zn gN (by simp) ?_
  simp[n6]
  refine za (pR hn hk) (by simp) (by simp) ?_
  simp[hc,mc]
end
end Go.Proofs.YtpnliopaifpimaaGreat

set_option maxRecDepth 20000
namespace Go.Proofs.YtpnliopaifpimaaGreat
open Go Go.Am Go.Wr Go.Dig Go.Tr Go.LP Go.Pb
def yZ (N:Nz) (r:Nat):RF:=⟨(N.P.getD r (false,[],[])).1,(N.P.getD r (false,[],[])).2.1,(N.P.getD r (false,[],[])).2.2⟩
theorem LJ {N:Nz}:v9 N.P=hR (yZ N) N.P.length:=by
 unfold hR mR
 apply List.ext_getElem
 ·simp
 ·intro i h1 h2
  have hi:i<N.P.length:=by simpa using h1
  simp[ni,yZ,hi]
def eK (N:Nz):Prop:=∀ x∈N.P,wI x∧x.2.1.length≤4∧x.2.2.length≤4
theorem fe {N:Nz} (h:eK N):∀ r,r<N.P.length→(ok (yZ N r).a∧ok (yZ N r).c)∧KY (yZ N r) 4:=fun r hr=>by
 have hx:=h _ (List.getElem_mem hr)
 have e:N.P.getD r (false,[],[])=N.P[r]:=by simp[hr]
 unfold yZ
 rw[e]
 exact ⟨⟨hx.1.1,hx.1.2.1⟩,hx.2⟩
theorem ahF {K:Nat} {n:Int} {d:Nat} (h1:n.natAbs≤2^K) (h2:d≤2^K):sz K (mkRat n d):=by
 unfold mkRat
 split
 ·exact PK
 ·rename_i h; exact PJ h h1 h2
theorem Dw {x:RF} {D:Nat} (h:ok x.a∧ok x.c) (hs:KY x D):sz (32*D) x.q:=by
 have e1:2^(32*D)=B^D:=by rw[Nat.pow_mul,show (2:Nat)^32=B from rfl]
 have h1:=yS h.1 hs.1
 have h2:=yS h.2 hs.2
 unfold RF.q
 refine ahF ?_ ?_
 ·rw[e1,show (sg x.s (val x.a)).natAbs=val x.a by unfold sg; split<;>omega]; omega
 ·rw[e1]; omega
noncomputable def bdZ (P:Pb) (fl:List Int) (N:Nz):Rat:=P.fpQ fl fun r=>(yZ N r).q
theorem DT {P:Pb} {fl:List Int} {N:Nz} (hc:P.chk=0) (hk:P.of.length≤10) (hN:eK N) (h0:fpE P fl (yZ N) N.P.length=0):sz 70000000 (bdZ P fl N):=by
 have hf0:P.fixE fl=0:=by
  unfold fpE at h0
  split at h0
  ·rename_i h; exact absurd h0 h
  ·rename_i h; exact Decidable.not_not.1 h
 obtain ⟨_,hl,_⟩:=YQ hf0
 have hG:=vR hc
 have hr:P.rows=N.P.length:=by
  unfold fpE at h0
  rw[if_neg fun h=>h hf0] at h0
  split at h0
  ·cases h0
  ·rename_i h; exact (Decidable.not_not.1 h).symm
 have hy':∀ r,r<P.rows→sz 128 (yZ N r).q:=fun r h=>by
  obtain ⟨a,b⟩:=fe hN r (by omega)
  exact Dw a b
 have hrw:P.rows≤20:=by have:=hG.n; unfold Pb.rows; omega
 have s1:=Mr hG hl hy' P.rows (Nat.le_refl _)
 have s2:=Mn hG hl hy' fl.length (Nat.le_refl _)
 have m1:P.rows*(128+11)≤20*139:=Nat.mul_le_mul hrw (Nat.le_refl _)
 have m2:fl.length*(21+P.rows*(128+3))≤10*(21+20*131):=Nat.mul_le_mul (by omega) (by have:P.rows*(128+3)≤20*131:=Nat.mul_le_mul hrw (Nat.le_refl _); omega)
 exact zS (kU s1 s2) (by omega)
theorem CZ {value:Int} (h1:-9223372036854775808≤value) (h2:value<9223372036854775808):sz 70000000 ((value:Rat)+1):=by
 have a:sz 64 (value:Rat):=sQ (by omega)
 have b:sz 64 ((1:Int):Rat):=sQ (by decide)
 exact zS (kU a b) (by omega)
noncomputable def bdB (P:Pb) (value:Int) (fl:List Int) (N:Nz):Bool:=decide (fpE P fl (yZ N) N.P.length=0)&&decide (bdZ P fl N<(value:Rat)+1)
theorem BM {P:Pb} {value:Int} {fl:List Int} {N:Nz} (hc:P.chk=0) (hk:P.of.length≤10) (hN:eK N) (hm:N.P.length<1000000) (h1:-9223372036854775808≤value) (h2:value<9223372036854775808) :
  ze Tryz.prog xM [.agg (zc N),.agg (pbC P),iv value,clA fl] (bv (bdB P value fl N)):=by
 have hG:=vR hc
 have kp:=LI (P:=P) (fx:=fl) (Y:=yZ N) (m:=N.P.length) (S:=128) (by have:=hG.n; omega) (by omega) (by omega) hm (fun r hr=>Rk (fe hN r hr).1 (fe hN r hr).2 (by decide)) (fun r hr=>Dw (fe hN r hr).1 (fe hN r hr).2)
 have kv:=lw h1 h2
 have ko:=lw (n:=1) (by decide) (by decide)
 have ka:=F7 (p:=(value:Rat)) (q:=((1:Int):Rat)) (K:=64) (by decide) (sQ (by omega)) (sQ (by decide))
 rw[show ((1:Int):Rat)=1 from rfl] at ka ko
 have hl:=CZ h1 h2
 have kc:=fun h0=>ah4 (p:=bdZ P fl N) (q:=(value:Rat)+1) (K:=70000000) (by decide) (DT (P:=P) (fl:=fl) hc hk hN h0) hl
 refine zn kW (by simp) ?_
 simp[sH,LJ]
 refine za kp (by simp) (by simp) ?_
 unfold bdB
 obtain ⟨e,he⟩:∃ e,fpE P fl (yZ N) N.P.length=e:=⟨_,rfl⟩
 rw[show (P.fpQ fl fun r=>(yZ N r).q)=bdZ P fl N from rfl] at *
 rw[he] at kc ⊢
 obtain ⟨q,hq⟩:∃ q,bdZ P fl N=q:=⟨_,rfl⟩
 rw[hq] at kc ⊢
 by_cases h0:e=0
 ·have kc0:=kc h0
  subst h0
  simp
  refine za kv (by simp) (by simp) ?_
  simp
  refine za ko (by simp) (by simp) ?_
  simp
  refine za ka (by simp) (by simp) ?_
  simp
  refine za kc0 (by simp) (by simp) ?_
  simp[vr,GV]
 ·simp[h0]
  refine za kv (by simp) (by simp) ?_
  simp
  refine za ko (by simp) (by simp) ?_
  simp
  refine za ka (by simp) (by simp) ?_
  simp[h0,vr]
end Go.Proofs.YtpnliopaifpimaaGreat

set_option maxRecDepth 20000
namespace Go.Proofs.YtpnliopaifpimaaGreat
open Go Go.Am Go.Wr Go.Dig Go.Tr Go.LP Go.Pb
noncomputable def Pk (P:Pb) (fl:List Int) (k:Nat):St:={env:=[(5,.ptr 5 0),(9,apc 24 1 (clR (ints (Go.Pb.numK fl 1 k)))),(12,clA fl),(13,iv fl.length),(14,iv k)],sto:=[(5,.var (pbC P))]}
theorem lC {l:List Nat}:(ints l).length=l.length:=by simp[ints]
theorem Km {fl:List Int} {k:Nat} (h:fl.getD k 9=1):clR (ints (Go.Pb.numK fl 1 k))++[[iv k]]=clR (ints (Go.Pb.numK fl 1 (k+1))):=by
 rw[Go.Pb.numK_succ,if_pos h]
 simp[ints,clR]
theorem Np {fl:List Int} {k:Nat} (h:¬ fl.getD k 9=1):Go.Pb.numK fl 1 k=Go.Pb.numK fl 1 (k+1):=by rw[Go.Pb.numK_succ,if_neg h]
noncomputable def cfB (P:Pb) (fl:List Int):Bool:=decide (P.feaE (ints (Go.Pb.numK fl 1 fl.length))≠0)
theorem BN {P:Pb} {value:Int} {fl:List Int} {N:Nz} (hc:P.chk=0) (hf:fl.length≤1000000):ze Tryz.prog xh [.agg (zc N),.agg (pbC P),iv value,clA fl] (bv (cfB P fl)):=by
 have hG:=vR hc
 have kf:=Ew (P:=P) (ch:=ints (Go.Pb.numK fl 1 fl.length)) (by have:=hG.n; omega) (by have:=hG.k; omega) (by rw[lC]; have:=Go.Pb.numK_len (fx:=fl) (v:=1) (k:=fl.length); omega)
 refine zn nU (by simp) ?_
 simp[tw]
 refine yl (Pk P fl) fl.length (by simp[Pk,Go.Pb.numK,ints,clR,apc]) (fun k hk=>?_) ?_
 ·have w1:=zm (k:=k) (by omega)
  have hg:=nR hk
  have hlen:=Go.Pb.numK_len (fx:=fl) (v:=1) (k:=k)
  by_cases h1:fl[k]=1
  ·have hr:=Km (fl:=fl) (k:=k) (by rw[hg,h1])
   simp[yP,Pk,hk,h1]
   refine p9 (by decide) rfl ?_ ?_ (by simp) ?_
   ·simp only[lm,lC]; omega
   ·simp only[lm,lC]; omega
   ·rw[hr]
    simp[w1,Pk]
  ·have hr:=Np (fl:=fl) (k:=k) (by rw[hg]; exact h1)
   simp[yP,Pk,hk,h1,w1,hr]
 ·simp[yP,um,Pk]
  refine za (LU kf (fJ lA)) (by simp) (by simp) ?_
  simp[cfB,tD]
def brB (fl:List Int) (N:Nz):Bool:=decide (N.O<fl.length)&&decide (fl.getD N.O.toNat 9=0)
theorem BO {P:Pb} {value:Int} {fl:List Int} {N:Nz} (h0:0≤N.O):ze Tryz.prog xA [.agg (zc N),.agg (pbC P),iv value,clA fl] (bv (brB fl N)):=by
 refine zn lK (by simp) ?_
 obtain ⟨K,O,U,I,Q⟩:=N
 simp only at h0 ⊢
 obtain ⟨o,rfl⟩:∃ o:Nat,O=o:=⟨O.toNat,by omega⟩
 unfold brB
 by_cases h:o<fl.length
 ·have h':(o:Int)<fl.length:=by omega
  simp[w9,h,h',va]
 ·have h':¬ (o:Int)<fl.length:=by omega
  simp[w9,h,h',va]
theorem aiE : ue Tryz.prog xP "saleroom/prooftree.proves" = some xM := by kernel_rfl
theorem aiG : ue Tryz.prog xG "saleroom/prooftree.proves" = some xA := by kernel_rfl
theorem aiF : ue Tryz.prog xa "saleroom/prooftree.proves" = some xh := by kernel_rfl
theorem aiZ:yy Tryz.prog xM=true:=by kernel_rfl
theorem ai1:yy Tryz.prog xA=true:=by kernel_rfl
theorem ai0:yy Tryz.prog xh=true:=by kernel_rfl
noncomputable def jm (P:Pb) (value:Int) (fl:List Int) (N:Nz):Bool:=if N.K=2 then brB fl N else if N.K=3 then cfB P fl else bdB P value fl N
theorem Ks {N:Nz} (h:okZ N=true):N.K=1∨N.K=2∨N.K=3:=by
 unfold okZ at h
 by_cases h1:N.K=1
 ·exact .inl h1
 ·by_cases h2:N.K=2
  ·exact .inr (.inl h2)
  ·by_cases h3:N.K=3
   ·exact .inr (.inr h3)
   ·rw[if_neg h1,if_neg h2,if_neg h3] at h; cases h
theorem adv {N:Nz} (h:okZ N=true) (hk:N.K=2):0≤N.O∧N.O≤65536:=by
 unfold okZ at h
 rw[if_neg (by omega),if_pos hk] at h
 simp only[Bool.and_eq_true] at h
 have:=qO h.1.1.1
 omega
theorem FB {N:Nz} (h:okZ N=true):N.P.length≤40:=by
 unfold okZ at h
 by_cases h1:N.K=1
 ·rw[if_pos h1] at h
  simp only[Bool.and_eq_true,decide_eq_true_eq] at h
  exact h.1.2
 ·rw[if_neg h1] at h
  by_cases h2:N.K=2
  ·rw[if_pos h2] at h
   simp only[Bool.and_eq_true,decide_eq_true_eq] at h
   rw[h.2]; decide
  ·rw[if_neg h2] at h
   split at h
   ·simp only[Bool.and_eq_true,decide_eq_true_eq] at h
    rw[h.2]; decide
   ·cases h
theorem ab9 {P:Pb} {value:Int} {fl:List Int} {N:Nz} {σ:Nat→Option zf} {K:AV→Option zf→Prop} {x:AV} (hc:P.chk=0) (hk:P.of.length≤10) (hf:fl.length≤1000000) (hN:eK N) (hz:okZ N=true) (h1:-9223372036854775808≤value) (h2:value<9223372036854775808)
  (hx : vv σ x = some (clA fl)) (h : K (bv (jm P value fl N)) none) : tp "saleroom/prooftree.proves" (ofZ N) [.agg (pbC P), iv value, x] σ K := by
 have hsn:yQ (vv σ) [.agg (zc N),.agg (pbC P),iv value,x]=some [.agg (zc N),.agg (pbC P),iv value,clA fl]:=by
  simp[hx]
 have hlen:=FB hz
 unfold ofZ
 unfold jm at h
 rcases Ks hz with k1 | k2 | k3
 ·rw[if_neg (by omega),if_neg (by omega)] at h
  simp only[k1,if_true]
  simp only[tp,aiE,aiZ]
  exact ⟨trivial,za (BM hc hk hN (by omega) h1 h2) hsn (.inr rfl) h⟩
 ·rw[if_pos k2] at h
  rw[if_neg (by omega),if_pos k2]
  simp only[tp,aiG,ai1]
  exact ⟨trivial,za (BO (adv hz k2).1) hsn (.inr rfl) h⟩
 ·rw[if_neg (by omega),if_pos k3] at h
  rw[if_neg (by omega),if_neg (by omega),if_pos k3]
  simp only[tp,aiF,ai0]
  exact ⟨trivial,za (BN hc hf) hsn (.inr rfl) h⟩
end Go.Proofs.YtpnliopaifpimaaGreat

namespace Go.Tr
section
variable {T:Nt} {n i j k x u v:Nat} {g:Nat→Int}
theorem aa4 (h:yx T) (h1:1≤x) (hx:x<T.m):fxS T n x x g=fxS T n (par T T.m x).toNat (par T T.m x).toNat (put g n (T.O (par T T.m x).toNat) (if T.U (par T T.m x).toNat=x then -1 else 1)):=by
 obtain ⟨j',h2,h3,_,_⟩:=xf h h1 hx
 obtain ⟨e,rfl⟩:∃ e,x=e+1:=⟨x-1,by omega⟩
 simp only[fxS]
 rw[if_neg (by omega),h2,Int.toNat_natCast,LM h e j' _ (by omega) (by omega)]
def gA (T:Nt) (n i:Nat):Nat→Nat→Int
 | 0=>fun _=>0
 | q+1=>put (gA T n i q) n (T.O (anc T i (q+1))) (if T.U (anc T i (q+1))=anc T i q then -1 else 1)
theorem CN (h:yx T) (hi:i<T.m):∀ q,q<dep T i→fx T n i=fxS T n (anc T i q) (anc T i q) (gA T n i q)
 | 0,_=>rfl
 | q+1,hq=>by
  obtain ⟨p1,p2⟩:=bJ (j:=q) h hi (by omega)
  rw[CN h hi q (by omega),aa4 h p1 p2]
  rfl
theorem Fb (h:yx T) (hi:i<T.m) (hj:j+1=dep T i):gA T n i j=fx T n i:=by
 rw[CN h hi j (by omega),aD h hi hj]
 rfl
theorem BR {o:Nat} {s:Int} (h:o<n):put g n o s=fun y=>if y=o then s else g y:=by
 funext y
 unfold put
 by_cases e:y=o
 ·rw[if_pos e,if_pos ⟨by omega,by omega⟩]
 ·rw[if_neg e,if_neg (by omega)]
theorem FF {o:Nat} {s:Int} (h:¬ o<n):put g n o s=g:=by
 funext y
 unfold put
 rw[if_neg (by omega)]
theorem DL (h:yx T) (hi:i<T.m):∀ q,q<dep T i→anc T i q≤i
 | 0,_=>Nat.le_refl _
 | q+1,hq=>by
  obtain ⟨p1,p2⟩:=bJ (j:=q) h hi (by omega)
  obtain ⟨p,h2,h3,_⟩:=xf h p1 p2
  have:=DL h hi q (by omega)
  show (par T T.m (anc T i q)).toNat≤i
  rw[h2,Int.toNat_natCast]
  omega
theorem Nw (h:yx T) (h1:1≤x) (hx:x<T.m):∃ p o:Nat,par T T.m x=p∧p<x∧T.K p=2∧T.O p=o∧(T.U p=x∨(T.I p=x∧T.U p≠x)):=by
 obtain ⟨p,h2,h3,h4,_⟩:=xf h h1 hx
 obtain ⟨k2,hs⟩:=AX h (by omega) h4
 have ho:=h.ok p (by omega)
 have hr:rng (T.O p):=by
  rcases ho with a | a | a
  ·omega
  ·exact a.2.1
  ·omega
 unfold rng at hr
 refine ⟨p,(T.O p).toNat,h2,h3,k2,by omega,?_⟩
 rcases hs with a | a
 ·exact .inl a.1
 ·exact .inr ⟨a.1,a.2⟩
def upP (T:Nt) (i k:Nat):Int:=if 1≤k∧par T T.m k<i then par T T.m k else 0
def upI (T:Nt) (i k:Nat):Bool:=decide (1≤k∧par T T.m k<i)&&decide (T.U (par T T.m k).toNat≠k)
theorem af6 (h:yx T) (h1:1≤k) (hk:k<T.m) (hi:k≤i):upP T i k=par T T.m k∧upI T i k=decide (T.U (par T T.m k).toNat≠k):=by
 obtain ⟨p,h2,h3,_⟩:=xf h h1 hk
 have hc:1≤k∧par T T.m k<i:=⟨h1,by omega⟩
 unfold upP upI
 rw[if_pos hc,decide_eq_true hc,Bool.true_and]
 exact ⟨rfl,rfl⟩
theorem af8 (h:yx T) (hk:k<T.m):upP T 0 k=0∧upI T 0 k=false:=by
 have hc:¬ (1≤k∧par T T.m k<(0:Nat)):=by
  rintro ⟨h1,h2⟩
  obtain ⟨p,h3,_⟩:=xf h h1 hk
  omega
 unfold upP upI
 rw[if_neg hc,decide_eq_false hc,Bool.false_and]
 exact ⟨rfl,rfl⟩
theorem af7 (h:yx T) (hi:i<T.m) (hK:T.K i≠2) (hk:k<T.m):upP T (i+1) k=upP T i k∧upI T (i+1) k=upI T i k:=by
 have hc:(1≤k∧par T T.m k<((i+1:Nat):Int))↔(1≤k∧par T T.m k<i):=by
  constructor
  ·rintro ⟨h1,h2⟩
   refine ⟨h1,?_⟩
   obtain ⟨p,h3,_,h4,_⟩:=xf h h1 hk
   apply Classical.byContradiction
   intro hne
   have:p=i:=by omega
   subst this
   have:=ce hK k
   omega
  ·rintro ⟨h1,h2⟩
   exact ⟨h1,by omega⟩
 unfold upP upI
 simp only[hc]
 exact ⟨trivial,trivial⟩
theorem A3 (h:yx T) (hi:i<T.m) (hK:T.K i=2) (hu:T.U i=u) (hv:T.I i=v) (hne:u≠v) (hk:k<T.m) :
  upP T (i+1) k=(if k=v then (i:Int) else if k=u then (i:Int) else upP T i k)∧upI T (i+1) k=(if k=v then true else if k=u then false else upI T i k):=by
 have hpk:∀ x,x=u∨x=v→i<x∧par T T.m x=i:=fun x hx=>by
  have h0:kid T i x≠0:=by
   rcases hx with rfl | rfl
   ·have:=Mz hK hu; omega
   ·have:=My hK hv; omega
  exact ⟨(eS h hi h0).1,Y6 h hi h0⟩
 by_cases e:k=v
 ·subst e
  obtain ⟨a,b⟩:=hpk k (.inr rfl)
  have hc:1≤k∧par T T.m k<((i+1:Nat):Int):=⟨by omega,by omega⟩
  unfold upP upI
  rw[if_pos hc,decide_eq_true hc,if_pos rfl,if_pos rfl,b,Int.toNat_natCast,hu]
  exact ⟨rfl,by rw[decide_eq_true (show ((u:Nat):Int)≠k by omega)]; rfl⟩
 ·by_cases e2:k=u
  ·subst e2
   obtain ⟨a,b⟩:=hpk k (.inl rfl)
   have hc:1≤k∧par T T.m k<((i+1:Nat):Int):=⟨by omega,by omega⟩
   unfold upP upI
   rw[if_pos hc,decide_eq_true hc,if_neg e,if_neg e,if_pos rfl,if_pos rfl,b,Int.toNat_natCast,hu]
   exact ⟨rfl,by rw[decide_eq_false (show ¬ ((k:Nat):Int)≠k by omega)]; rfl⟩
  ·rw[if_neg e,if_neg e,if_neg e2,if_neg e2]
   have hc:(1≤k∧par T T.m k<((i+1:Nat):Int))↔(1≤k∧par T T.m k<i):=by
    constructor
    ·rintro ⟨h1,h2⟩
     refine ⟨h1,?_⟩
     obtain ⟨p,h3,_,h4,_⟩:=xf h h1 hk
     apply Classical.byContradiction
     intro hne
     have:p=i:=by omega
     subst this
     have h0:=Ud (T:=T) (k:=p) (i:=k) (by omega)
     rcases h0.2 with a | a<;>omega
    ·rintro ⟨h1,h2⟩
     exact ⟨h1,by omega⟩
   unfold upP upI
   simp only[hc]
   exact ⟨trivial,trivial⟩
end
end Go.Tr

set_option maxRecDepth 20000
namespace Go.Proofs.YtpnliopaifpimaaGreat
open Go Go.Am Go.Wr Go.Dig Go.Tr Go.LP Go.Pb
def uR (f:Nat→Int) (b:Nat→Bool) (n:Nat):List (List AV):=mR (fun k=>[iv (f k),bv (b k)]) n
section
variable {f:Nat→Int} {b:Nat→Bool} {n i k:Nat} {e:zf}
@[simp] theorem alQ:(uR f b n).length=n:=Rz
@[simp] theorem ak8 {hi:i<(uR f b n).length}:(uR f b n)[i]=[iv (f i),bv (b i)]:=QT
theorem ahK {x:Int} {y:Bool}:(uR f b n).set i [iv x,bv y]=uR (upd f i x) (upd b i y) n:=by
 unfold uR
 rw[C8]
 exact eT fun j _=>by unfold upd; split<;>rfl
theorem Sv {g:Nat→Int} {c:Nat→Bool} (h:∀ i,i<n→f i=g i∧b i=c i):uR f b n=uR g c n:=eT fun i hi=>by rw[(h i hi).1,(h i hi).2]
theorem ahJ:List.replicate n [iv 0,bv false]=uR (fun _=>0) (fun _=>false) n:=by
 unfold uR mR
 apply List.ext_getElem
 ·simp
 ·intro i h1 h2
  simp
@[simp] theorem amq:yC k (uR f b n)=uR f b n:=bZ fun _=>by simp
@[simp] theorem alR:uH k (uR f b n)=false:=C7 fun _=>by simp
@[simp] theorem amr:wh (uR f b n)=true:=Ka fun _=>by simp
@[simp] theorem ams:zT (uR f b n)=uR f b n:=bZ fun _=>by simp
end
def ZK (P:Pb) (T:List Nz) (value:Int) (i:Nat) (c:List AV) (u:Nat→Int) (b:Nat→Bool) (f:Nat→Int) (k:Nat):St :=
 {env:=[(1,iv value),(2,.list 5 .plain (zI T)),(3,.ptr 3 0),(7,.sl 15 2 0 T.length),(16,.list 5 .plain (zI T)),(17,iv T.length),(18,iv i),(9,.ptr 9 0),(8,iv i),(10,.sl 26 1 0 P.of.length),(11,iv k)],
  sto:=[(3,.var (pbC P)),(15,.arr 2 (uR u b T.length)),(9,.var c),(26,.arr 1 (zR f P.of.length))]}
theorem CD {P:Pb} {T:List Nz} {value:Int} {i:Nat} {N:Nz} {KK:Exit→St→Prop} (hTr:yx (ntZ T)) (hi:i<T.length) (_hn:P.of.length≤1000000)
  (h:∀ f:Nat→Int,f=fx (ntZ T) P.of.length i→KK (.exit 2) {env:=[(1,iv value),(2,.list 5 .plain (zI T)),(3,.ptr 3 0),(7,.sl 15 2 0 T.length),(16,.list 5 .plain (zI T)),(17,iv T.length),(18,iv i),(9,.ptr 9 0),(8,iv i),(10,.sl 26 1 0 P.of.length),(11,iv 0),(29,bv false)],sto:=[(3,.var (pbC P)),(15,.arr 2 (uR (upP (ntZ T) i) (upI (ntZ T) i) T.length)),(9,.var (zc N)),(26,.arr 1 (zR f P.of.length))]}) :
  awp Tryz.prog (.loop xS) (ZK P T value i (zc N) (upP (ntZ T) i) (upI (ntZ T) i) (fun _=>0) i) KK:=by
 have ht:=hTr.most
 rw[gJ] at ht
 have hdp:=bT (T:=ntZ T) (i:=i)
 refine zw (fun q=>ZK P T value i (zc N) (upP (ntZ T) i) (upI (ntZ T) i) (gA (ntZ T) P.of.length i q) (anc (ntZ T) i q)) (fun _=>True) (dep (ntZ T) i-1) (by simp[ZK,gA,anc]) trivial (fun q hq _=>?_) (fun _=>?_)
 ·obtain ⟨p1,p2⟩:=bJ (j:=q) hTr hi (by omega)
  obtain ⟨p,o,a1,a2,a3,a4,a5⟩:=Nw hTr p1 p2
  have hle:anc (ntZ T) i q≤i:=DL hTr hi q (by omega)
  obtain ⟨u1,u2⟩:=af6 (i:=i) hTr p1 p2 hle
  have hA2:anc (ntZ T) i (q+1)=p:=by
   show (par (ntZ T) (ntZ T).m (anc (ntZ T) i q)).toNat=p
   rw[a1,Int.toNat_natCast]
  have hg:gA (ntZ T) P.of.length i (q+1)=put (gA (ntZ T) P.of.length i q) P.of.length (o:Int) (if (ntZ T).U p=anc (ntZ T) i q then -1 else 1):=by
   show put _ _ ((ntZ T).O (anc (ntZ T) i (q+1))) (if (ntZ T).U (anc (ntZ T) i (q+1))=_ then _ else _)=_
   rw[hA2,a4]
  rw[a1] at u1
  rw[a1,Int.toNat_natCast] at u2
  have hpm:p<T.length:=by have:anc (ntZ T) i q<T.length:=p2; omega
  have hAm:anc (ntZ T) i q<T.length:=p2
  have hO:=abD hpm
  rw[a4] at hO
  generalize upP (ntZ T) i=uP at *
  generalize upI (ntZ T) i=uI at *
  generalize he:T[p]=M at *
  have hA0:0<anc (ntZ T) i q:=by omega
  have hA':(anc (ntZ T) i q:Int)<T.length:=by omega
  have hpm':(p:Int)<T.length:=by omega
  by_cases ho:o<P.of.length
  ·have ho':(o:Int)<P.of.length:=by omega
   rw[BR ho] at hg
   by_cases hs:(ntZ T).U p=anc (ntZ T) i q
   ·rw[decide_eq_false (fun h=>h hs)] at u2
    rw[if_pos hs] at hg
    have hgu:upd (gA (ntZ T) P.of.length i q) o (-1)=gA (ntZ T) P.of.length i (q+1):=by rw[hg]; rfl
    simp[xS,ZK,hA0,hA',hAm,u1,u2,hpm,hpm',he,← hO,ho,ho',splice,k6,hgu,hA2]
   ·rw[decide_eq_true hs] at u2
    rw[if_neg hs] at hg
    have hgu:upd (upd (gA (ntZ T) P.of.length i q) o (-1)) o 1=gA (ntZ T) P.of.length i (q+1):=by rw[hg]; funext y; unfold upd; split<;>rfl
    simp[xS,ZK,hA0,hA',hAm,u1,u2,hpm,hpm',he,← hO,ho,ho',splice,k6,hgu,hA2]
  ·have ho':¬ (o:Int)<P.of.length:=by omega
   rw[FF ho] at hg
   simp[xS,ZK,hA0,hA',hAm,u1,u2,hpm,hpm',he,← hO,ho',hg,hA2]
 ·have h0:=aD (j:=dep (ntZ T) i-1) hTr hi (by omega)
  have h1:=Fb (n:=P.of.length) (j:=dep (ntZ T) i-1) hTr hi (by omega)
  rw[h0,h1]
  simp[xS,ZK]
  exact h _ rfl
end Go.Proofs.YtpnliopaifpimaaGreat

set_option maxRecDepth 20000
namespace Go.Proofs.YtpnliopaifpimaaGreat
open Go Go.Am Go.Wr Go.Dig Go.Tr Go.LP Go.Pb
def fxL (P:Pb) (T:List Nz) (i:Nat):List Int:=(List.range P.of.length).map (fx (ntZ T) P.of.length i)
@[simp] theorem akW {P:Pb} {T:List Nz} {i:Nat}:(fxL P T i).length=P.of.length:=by simp[fxL]
theorem LL {P:Pb} {T:List Nz} {i:Nat}:zR (fx (ntZ T) P.of.length i) P.of.length=clR (fxL P T i):=ahR
def YI (P:Pb) (value:Int) (T:List Nz) (k:Nat):Prop:=∀ i (hi:i<T.length),i<k→jm P value (fxL P T i) T[i]=true
noncomputable def ba (P:Pb) (value:Int) (T:List Nz):Int:=@ite _ (YI P value T T.length) (Classical.propDecidable _) 0 13
theorem QJ {P:Pb} {value:Int} {T:List Nz} (h:YI P value T T.length):ba P value T=0:=by unfold ba; exact if_pos h
theorem QI {P:Pb} {value:Int} {T:List Nz} (h:¬ YI P value T T.length):ba P value T=13:=by unfold ba; exact if_neg h
def Pn (P:Pb) (T:List Nz) (value:Int) (i:Nat):St :=
 {env:=[(1,iv value),(2,.list 5 .plain (zI T)),(3,.ptr 3 0),(7,.sl 15 2 0 T.length),(16,.list 5 .plain (zI T)),(17,iv T.length),(18,iv i)],sto:=[(3,.var (pbC P)),(15,.arr 2 (uR (upP (ntZ T) i) (upI (ntZ T) i) T.length))]}
theorem aaZ {P:Pb} {T:List Nz} {value:Int} (hc:P.chk=0) (hk:P.of.length≤10) (hN:∀ N∈T,eK N) (hTr:yx (ntZ T)) (h1:-9223372036854775808≤value) (h2:value<9223372036854775808) :
  ze Tryz.prog pq [.agg (pbC P),iv value,.list 5 .plain (zI T)] (iv (ba P value T)):=by
 have ht:=hTr.most
 rw[gJ] at ht
 refine zn XJ (by simp) ?_
 simp[j6,eMk]
 refine ⟨by omega,by omega,?_⟩
 have e0:uR (fun _=>0) (fun _=>false) T.length=uR (upP (ntZ T) 0) (upI (ntZ T) 0) T.length:=Sv fun k hk=>by
  obtain ⟨a,b⟩:=af8 hTr (k:=k) hk
  exact ⟨a.symm,b.symm⟩
 rw[ahJ,e0]
 refine zw (Pn P T value) (fun i=>YI P value T i) T.length (by simp[Pn]) (fun i hi h=>absurd h (Nat.not_lt_zero i)) (fun i hi hI=>?_) (fun hI=>?_)
 ·have w1:=zm (k:=i) (by omega)
  have hi2:(i:Int)<T.length:=by omega
  have hx:=hN _ (List.getElem_mem hi)
  have hz:okZ T[i]=true:=(RD hi).1 (hTr.ok i hi)
  have hK:=Zr hi
  have hU:=Y3 hi
  have hIn:=TW hi
  have hleaf:¬ (ntZ T).K i=2→uR (upP (ntZ T) i) (upI (ntZ T) i) T.length=uR (upP (ntZ T) (i+1)) (upI (ntZ T) (i+1)) T.length:=fun h=>Sv fun k hk=>by
   obtain ⟨a,b⟩:=af7 hTr hi h hk
   exact ⟨a.symm,b.symm⟩
  have hbranch:∀ u v:Nat,(ntZ T).K i=2→(ntZ T).U i=u→(ntZ T).I i=v→u≠v→uR (upd (upd (upP (ntZ T) i) u i) v i) (upd (upd (upI (ntZ T) i) u false) v true) T.length=uR (upP (ntZ T) (i+1)) (upI (ntZ T) (i+1)) T.length:=fun u v h a b hne=>Sv fun k hk=>by
   obtain ⟨c,d⟩:=A3 hTr hi h a b hne hk
   exact ⟨c.symm,d.symm⟩
  have hkids:(ntZ T).K i=2→∃ u v:Nat,(ntZ T).U i=u∧(ntZ T).I i=v∧i<u∧u<T.length∧i<v∧v<T.length∧u≠v:=fun h=>by
   obtain ⟨u,v,a,b,c,d,e,f,g,_⟩:=UA hTr hi h
   exact ⟨u,v,a,b,c,d,e,f,g⟩
  have hno:jm P value (fxL P T i) T[i]=false→ba P value T=13:=fun h=>QI fun hp=>by
   have:=hp i hi hi
   rw[h] at this
   cases this
  have hyes:jm P value (fxL P T i) T[i]=true→YI P value T (i+1):=fun h j hj hji=>by
   by_cases e:j=i
   ·subst e; exact h
   ·exact hI j hj (by omega)
  have hst2:Pn P T value (i+1)={env:=[(1,iv value),(2,.list 5 .plain (zI T)),(3,.ptr 3 0),(7,.sl 15 2 0 T.length),(16,.list 5 .plain (zI T)),(17,iv T.length),(18,iv ((i:Int)+1))],sto:=[(3,.var (pbC P)),(15,.arr 2 (uR (upP (ntZ T) (i+1)) (upI (ntZ T) (i+1)) T.length))]}:=by rw[Pn]; rfl
  generalize he:T[i]=N at *
  simp[rI,Pn,hi,hi2,he,eMk]
  refine ⟨by omega,by omega,?_⟩
  rw[Ql]
  refine Ys (t:=ZK P T value i (zc N) (upP (ntZ T) i) (upI (ntZ T) i) (fun _=>0) i) (St.imp_of (by simp[ZK])) ?_
  refine CD hTr hi (by omega) (fun f hf=>?_)
  subst hf
  rw[LL]
  simp[la]
  refine za (Kq (N:=N)) (by simp) (by simp) ?_
  simp[-ux,pK]
  refine ab9 (fl:=fxL P T i) hc hk (by simp; omega) hx hz h1 h2 (by simp; exact List.take_of_length_le (by simp)) ?_
  cases hcor:jm P value (fxL P T i) N with
  | false =>
   rw[hno hcor]
   simp[pQ]
  | true =>
   have hnext:=hyes hcor
   by_cases hk:N.K=2
   ·rw[hk] at hK
    obtain ⟨u,v,hu,hv,u1,u2,v1,v2,hne⟩:=hkids hK
    have hb2:=hbranch u v hK hu hv hne
    rw[hU] at hu
    rw[hIn] at hv
    have u2':(u:Int)<T.length:=by omega
    have v2':(v:Int)<T.length:=by omega
    simp[hk,hu,hv,u2,u2',v2,v2',splice,ahK]
    simp[rH,w1,hb2,hst2]
    exact hnext
   ·have hl:=hleaf (by rw[hK]; exact hk)
    simp[hk,rH,w1,hl,hst2]
    exact hnext
 ·rw[QJ hI]
  simp[rI,Pn,lb,pQ]
end Go.Proofs.YtpnliopaifpimaaGreat

set_option maxRecDepth 20000
namespace Go.Proofs.YtpnliopaifpimaaGreat
open Go Go.Am Go.Wr Go.Dig Go.Tr Go.LP Go.Pb
def Zl (P:Pb) (T:List Nz) (k:Nat):Prop:=∀ i (hi:i<T.length),i<k→T[i].K=1→T[i].P.length=P.rows
noncomputable def TP (P:Pb) (value:Int) (T:List Nz):Int:=@ite _ (Zl P T T.length) (Classical.propDecidable _) (ba P value T) 2
noncomputable def gE (P:Pb) (value:Int) (T:List Nz):Int :=
 if P.chk≠0 then P.chk else if T.length=0 then 1 else if 65536<T.length then 3 else if vw T=false then 2 else TP P value T
theorem QR {P:Pb} {value:Int} {T:List Nz} (h:Zl P T T.length):TP P value T=ba P value T:=by unfold TP; exact if_pos h
theorem Fm {P:Pb} {value:Int} {T:List Nz} (h:¬ Zl P T T.length):TP P value T=2:=by unfold TP; exact if_neg h
def PA (P:Pb) (T:List Nz) (value:Int) (k:Nat):St :=
 {env:=[(1,iv value),(2,.list 5 .plain (zI T)),(3,.ptr 3 0),(8,iv P.rows),(30,.list 5 .plain (zI T)),(31,iv T.length),(32,iv k)],sto:=[(3,.var (pbC P))]}
theorem dv {P:Pb} {T:List Nz} {value:Int} (hk:P.of.length≤10) (hN:∀ N∈T,eK N) (hT:T.length<4611686018427387904) (h1:-9223372036854775808≤value) (h2:value<9223372036854775808) :
  ze Tryz.prog yG [.agg (pbC P),iv value,.list 5 .plain (zI T)] (iv (gE P value T)):=by
 refine zn UG (by simp) ?_
 simp[gP]
 refine za (GU (P:=P)) (by simp) (by simp) ?_
 unfold gE
 by_cases hc:P.chk=0
 rotate_left
 ·simp[hc,wk]
 by_cases c1:T.length=0
 ·have c1':T=[]:=List.eq_nil_of_length_eq_zero c1
  simp[hc,c1',wk]
 have c1':¬ (T.length:Int)=0:=by omega
 have c1'':¬ T=[]:=fun e=>c1 (by rw[e]; rfl)
 by_cases c2:65536<T.length
 ·have c2':(65536:Int)<T.length:=by omega
  simp[hc,c1,c2,c2',wk]
 have c2':¬ (65536:Int)<T.length:=by omega
 simp[hc,c1,c2,c2']
 refine za (TM (T:=T) (fun N h x hx=>(hN N h x hx).1) hT) (by simp) (by simp) ?_
 cases hb:vw T with
 | false=>simp[wk]
 | true =>
  have hTr:=vx.1 hb
  have hG:=vR hc
  have kr:=Pd (P:=P) (by have:=hG.n; omega) (by have:=hG.k; omega)
  rw[show xD P=P.rows by unfold xD; simp[hc]] at kr
  simp
  refine za kr (by simp) (by simp) ?_
  simp
  refine zw (PA P T value) (fun k=>Zl P T k) T.length (by simp[PA]) (fun i hi h=>absurd h (Nat.not_lt_zero i)) (fun i hi hI=>?_) (fun hI=>?_)
  ·have w1:=zm (k:=i) (by omega)
   have hi2:(i:Int)<T.length:=by omega
   have hyes:(T[i].K=1→T[i].P.length=P.rows)→Zl P T (i+1):=fun h j hj hji=>by
    by_cases e:j=i
    ·subst e; exact h
    ·exact hI j hj (by omega)
   have hno:¬ (T[i].K=1→T[i].P.length=P.rows)→TP P value T=2:=fun h=>Fm fun hp=>h (hp i hi hi)
   generalize he:T[i]=N at *
   by_cases a1:N.K=1
   ·by_cases a2:N.P.length=P.rows
    ·have a2':(N.P.length:Int)=P.rows:=by omega
     have hy:=hyes fun _=>a2
     simp[vm,PA,hi,hi2,he,a1,a2',w1]
     exact hy
    ·have a2':¬ (N.P.length:Int)=P.rows:=by omega
     have hy:=hno fun h=>a2 (h a1)
     simp[vm,PA,hi,hi2,he,a1,a2',hy,wk]
   ·have hy:=hyes fun h=>absurd h a1
    simp[vm,PA,hi,hi2,he,a1,w1]
    exact hy
  ·rw[QR hI]
   simp[vm,PA,l8]
   refine za (aaZ hc hk hN hTr h1 h2) (by simp) (by simp) ?_
   simp[wk]
end Go.Proofs.YtpnliopaifpimaaGreat

set_option maxRecDepth 20000
namespace Go.Proofs.YtpnliopaifpimaaGreat
open Go Go.Am Go.Wr Go.Dig Go.Tr Go.LP Go.Pb
def Dp (P:Pb) (T:List Nz) (f:Nat→Int) (k:Nat):St:={env:=[(1,.list 5 .plain (zI T)),(2,iv k),(7,.sl 14 1 0 P.of.length)],sto:=[(14,.arr 1 (zR f P.of.length))]}
theorem aei {P:Pb} {T:List Nz} {i:Nat} (hTr:yx (ntZ T)) (hi:i<T.length) (hn:P.of.length≤1000000):ze Tryz.prog gx [.agg (pbC P),.list 5 .plain (zI T),iv i] (clA (fxL P T i)):=by
 have ht:=hTr.most
 rw[gJ] at ht
 have hdp:=bT (T:=ntZ T) (i:=i)
 refine zn Mi (by simp) ?_
 simp[Z9,eMk]
 refine ⟨by omega,by omega,?_⟩
 rw[Ql]
 refine zw (fun q=>Dp P T (gA (ntZ T) P.of.length i q) (anc (ntZ T) i q)) (fun _=>True) (dep (ntZ T) i-1) (by simp[Dp,gA,anc]) trivial (fun q hq _=>?_) (fun _=>?_)
 ·obtain ⟨p1,p2⟩:=bJ (j:=q) hTr hi (by omega)
  obtain ⟨p,o,a1,a2,a3,a4,a5⟩:=Nw hTr p1 p2
  have hA2:anc (ntZ T) i (q+1)=p:=by
   show (par (ntZ T) (ntZ T).m (anc (ntZ T) i q)).toNat=p
   rw[a1,Int.toNat_natCast]
  have hg:gA (ntZ T) P.of.length i (q+1)=put (gA (ntZ T) P.of.length i q) P.of.length (o:Int) (if (ntZ T).U p=anc (ntZ T) i q then -1 else 1):=by
   show put _ _ ((ntZ T).O (anc (ntZ T) i (q+1))) (if (ntZ T).U (anc (ntZ T) i (q+1))=_ then _ else _)=_
   rw[hA2,a4]
  have hpm:p<T.length:=by have:anc (ntZ T) i q<T.length:=p2; omega
  have hO:=abD hpm
  have hU:=Y3 hpm
  rw[a4] at hO
  have kp:=Y7 (T:=T) (i:=anc (ntZ T) i q) (by omega)
  rw[show par (ntZ T) T.length (anc (ntZ T) i q)=p from a1] at kp
  generalize he:T[p]=M at *
  have hA0:0<anc (ntZ T) i q:=by omega
  have hpm':(p:Int)<T.length:=by omega
  rw[hU] at hg
  simp[mA,Dp,hA0]
  refine za kp (by simp) (by simp) ?_
  by_cases ho:o<P.of.length
  ·have ho':(o:Int)<P.of.length:=by omega
   rw[BR ho] at hg
   by_cases hs:M.U=anc (ntZ T) i q
   ·rw[if_pos hs] at hg
    have hgu:upd (upd (gA (ntZ T) P.of.length i q) o 1) o (-1)=gA (ntZ T) P.of.length i (q+1):=by rw[hg]; funext y; unfold upd; split<;>rfl
    simp[hpm,hpm',he,← hO,ho,ho',splice,k6,hgu,hA2,hs]
   ·rw[if_neg hs] at hg
    have hgu:upd (gA (ntZ T) P.of.length i q) o 1=gA (ntZ T) P.of.length i (q+1):=by rw[hg]; rfl
    simp[hpm,hpm',he,← hO,ho,ho',splice,k6,hgu,hA2,hs]
  ·have ho':¬ (o:Int)<P.of.length:=by omega
   rw[FF ho] at hg
   simp[hpm,hpm',he,← hO,ho',hg,hA2]
 ·have h0:=aD (j:=dep (ntZ T) i-1) hTr hi (by omega)
  have h1:=Fb (n:=P.of.length) (j:=dep (ntZ T) i-1) hTr hi (by omega)
  rw[h0,h1,Dp,LL]
  simp[mA,eC,Ye]
  exact List.take_of_length_le (by simp)
noncomputable def Ph (fl:List Int) (k:Nat):St:={env:=[(0,clA fl),(3,apc 19 1 (clR (ints (Go.Pb.numK fl 1 k)))),(4,iv k)],sto:=[]}
theorem JD {fl:List Int} (hf:fl.length≤1000000):ze Tryz.prog mq [clA fl] (clA (ints (Go.Pb.numK fl 1 fl.length))):=by
 refine wW Sr (by simp) ?_
 simp[ew]
 refine yl (Ph fl) fl.length (by simp[Ph,Go.Pb.numK,ints,clR,apc]) (fun k hk=>?_) ?_
 ·have w1:=zm (k:=k) (by omega)
  have hg:=nR hk
  have hlen:=Go.Pb.numK_len (fx:=fl) (v:=1) (k:=k)
  by_cases h1:fl[k]=1
  ·have hr:=Km (fl:=fl) (k:=k) (by rw[hg,h1])
   simp[t6,Ph,hk,h1]
   refine p9 (by decide) rfl ?_ ?_ (by simp) ?_
   ·simp only[lm,lC]; omega
   ·simp only[lm,lC]; omega
   ·rw[hr]
    simp[w1,Ph]
  ·have hr:=Np (fl:=fl) (k:=k) (by rw[hg]; exact h1)
   simp[t6,Ph,hk,h1,w1,hr]
 ·simp[t6,jb,Ph,df]
  exact fJ lA
end Go.Proofs.YtpnliopaifpimaaGreat

set_option maxRecDepth 20000
namespace Go.Proofs.YtpnliopaifpimaaGreat
open Go Go.Am Go.Wr Go.Dig Go.Tr Go.LP Go.Pb
theorem Cc {P:Pb} {value:Int} {fl:List Int} {N:Nz} (hc:P.chk=0) (hk:P.of.length≤10) (hf:fl.length≤1000000) (hN:eK N) (hz:okZ N=true) (h1:-9223372036854775808≤value) (h2:value<9223372036854775808) :
  ze Tryz.prog lT [.agg (pbC P),iv value,.agg (zc N),clA fl] (bv (jm P value fl N)):=by
 have hG:=vR hc
 have hlen:=FB hz
 refine zn Qe (by simp) ?_
 unfold jm
 rcases Ks hz with k1 | k2 | k3
 ·rw[if_neg (by omega),if_neg (by omega)]
  have kp:=N4 (P:=P) (fx:=fl) (Y:=yZ N) (m:=N.P.length) (S:=128) (by have:=hG.n; omega) (by omega) (by omega) (by omega) (fun r hr=>Rk (fe hN r hr).1 (fe hN r hr).2 (by decide)) (fun r hr=>Dw (fe hN r hr).1 (fe hN r hr).2)
  have kv:=sL h1 h2
  have ko:=sL (n:=1) (by decide) (by decide)
  have ka:=Mo (p:=(value:Rat)) (q:=((1:Int):Rat)) (K:=64) (by decide) (sQ (by omega)) (sQ (by decide))
  rw[show ((1:Int):Rat)=1 from rfl] at ka ko
  have hl:=CZ h1 h2
  have kc:=fun h0=>ah5 (p:=bdZ P fl N) (q:=(value:Rat)+1) (K:=70000000) (by decide) (DT (P:=P) (fl:=fl) hc hk hN h0) hl
  simp[sK,k1,LJ]
  refine za kp (by simp) (by simp) ?_
  unfold bdB
  obtain ⟨e,he⟩:∃ e,fpE P fl (yZ N) N.P.length=e:=⟨_,rfl⟩
  rw[show (P.fpQ fl fun r=>(yZ N r).q)=bdZ P fl N from rfl] at *
  rw[he] at kc ⊢
  obtain ⟨q,hq⟩:∃ q,bdZ P fl N=q:=⟨_,rfl⟩
  rw[hq] at kc ⊢
  by_cases h0:e=0
  ·have kc0:=kc h0
   subst h0
   simp
   refine za kv (by simp) (by simp) ?_
   simp
   refine za ko (by simp) (by simp) ?_
   simp
   refine za ka (by simp) (by simp) ?_
   simp
   refine za kc0 (by simp) (by simp) ?_
   simp[uW,GV]
  ·simp[h0]
   refine za kv (by simp) (by simp) ?_
   simp
   refine za ko (by simp) (by simp) ?_
   simp
   refine za ka (by simp) (by simp) ?_
   simp[h0,uW]
 ·rw[if_pos k2]
  have hO:=adv hz k2
  obtain ⟨K,O,U,I,Q⟩:=N
  simp only at k2 hO ⊢
  obtain ⟨o,rfl⟩:∃ o:Nat,O=o:=⟨O.toNat,by omega⟩
  unfold brB
  by_cases h:o<fl.length
  ·have h':(o:Int)<fl.length:=by omega
   simp[sK,k2,h,h',uW]
  ·have h':¬ (o:Int)<fl.length:=by omega
   simp[sK,k2,h,h',uW]
 ·rw[if_neg (by omega),if_pos k3]
  have kf:=Gb (P:=P) (ch:=ints (Go.Pb.numK fl 1 fl.length)) (by have:=hG.n; omega) (by have:=hG.k; omega) (by rw[lC]; have:=Go.Pb.numK_len (fx:=fl) (v:=1) (k:=fl.length); omega)
  simp[sK,k3]
  refine za (JD hf) (by simp) (by simp) ?_
  simp
  refine za kf (by simp) (by simp) ?_
  simp[cfB,uW]
def Xv (P:Pb) (T:List Nz) (value:Int) (k:Nat):St:={env:=[(1,iv value),(2,.list 5 .plain (zI T)),(3,.ptr 3 0),(8,iv k)],sto:=[(3,.var (pbC P))]}
def Ja (P:Pb) (T:List Nz) (value:Int) (k:Nat):St:={env:=[(1,iv value),(2,.list 5 .plain (zI T)),(3,.ptr 3 0),(9,iv k)],sto:=[(3,.var (pbC P))]}
theorem B3 {P:Pb} {T:List Nz} {value:Int} (hk:P.of.length≤10) (hN:∀ N∈T,eK N) (hT:T.length<4611686018427387904) (h1:-9223372036854775808≤value) (h2:value<9223372036854775808) :
  ze Tryz.prog gu [.agg (pbC P),iv value,.list 5 .plain (zI T)] (iv (gE P value T)):=by
 refine zn Mg (by simp) ?_
 simp[Z7]
 refine za (KG (P:=P)) (by simp) (by simp) ?_
 unfold gE
 by_cases hc:P.chk=0
 rotate_left
 ·simp[hc,vD]
 by_cases c1:T.length=0
 ·have c1':T=[]:=List.eq_nil_of_length_eq_zero c1
  simp[hc,c1',vD]
 have c1':¬ (T.length:Int)=0:=by omega
 have c1'':¬ T=[]:=fun e=>c1 (by rw[e]; rfl)
 by_cases c2:65536<T.length
 ·have c2':(65536:Int)<T.length:=by omega
  simp[hc,c1,c2,c2',vD]
 have c2':¬ (65536:Int)<T.length:=by omega
 simp[hc,c1,c2,c2']
 refine za (Pf (T:=T) (fun N h x hx=>(hN N h x hx).1) hT) (by simp) (by simp) ?_
 cases hb:vw T with
 | false=>simp[vD]
 | true =>
  have hTr:=vx.1 hb
  have hG:=vR hc
  have kr:=Pe (P:=P) (by have:=hG.n; omega) (by have:=hG.k; omega)
  rw[show xD P=P.rows by unfold xD; simp[hc]] at kr
  simp
  refine zw (Xv P T value) (fun k=>Zl P T k) T.length (by simp[Xv]) (fun i hi h=>absurd h (Nat.not_lt_zero i)) (fun i hi hI=>?_) (fun hI=>?_)
  ·have w1:=zm (k:=i) (by omega)
   have hi2:(i:Int)<T.length:=by omega
   have hyes:(T[i].K=1→T[i].P.length=P.rows)→Zl P T (i+1):=fun h j hj hji=>by
    by_cases e:j=i
    ·subst e; exact h
    ·exact hI j hj (by omega)
   have hno:¬ (T[i].K=1→T[i].P.length=P.rows)→TP P value T=2:=fun h=>Fm fun hp=>h (hp i hi hi)
   generalize he:T[i]=N at *
   by_cases a1:N.K=1
   ·by_cases a2:N.P.length=P.rows
    ·have a2':(N.P.length:Int)=P.rows:=by omega
     have hy:=hyes fun _=>a2
     simp[vP,Xv,hi,hi2,he,a1]
     refine za kr (by simp) (by simp) ?_
     simp[a2',w1,Xv]
     exact hy
    ·have a2':¬ (N.P.length:Int)=P.rows:=by omega
     have hy:=hno fun h=>a2 (h a1)
     simp[vP,Xv,hi,hi2,he,a1]
     refine za kr (by simp) (by simp) ?_
     simp[a2',hy,vD]
   ·have hy:=hyes fun h=>absurd h a1
    simp[vP,Xv,hi,hi2,he,a1,w1]
    exact hy
  ·rw[QR hI]
   have key:∀ K:Exit→St→Prop,K (.exit 0) {env:=[(1,iv value),(2,.list 5 .plain (zI T)),(3,.ptr 3 0),(8,iv T.length),(27,bv false)],sto:=[(3,.var (pbC P))]}→awp Tryz.prog vP (Xv P T value T.length) (t7 K):=by
    intro K h
    simp[vP,Xv]
    exact h
   refine key _ ?_
   simp[ez]
   refine zw (Ja P T value) (fun i=>YI P value T i) T.length (by simp[Ja]) (fun i hi h=>absurd h (Nat.not_lt_zero i)) (fun i hi hI=>?_) (fun hI=>?_)
   ·have w1:=zm (k:=i) (by omega)
    have hi2:(i:Int)<T.length:=by omega
    have hx:=hN _ (List.getElem_mem hi)
    have hz:okZ T[i]=true:=(RD hi).1 (hTr.ok i hi)
    have hno:jm P value (fxL P T i) T[i]=false→ba P value T=13:=fun h=>QI fun hp=>by
     have:=hp i hi hi
     rw[h] at this
     cases this
    have hyes:jm P value (fxL P T i) T[i]=true→YI P value T (i+1):=fun h j hj hji=>by
     by_cases e:j=i
     ·subst e; exact h
     ·exact hI j hj (by omega)
    generalize he:T[i]=N at *
    simp[my,Ja,hi,hi2,he]
    refine za (aei (P:=P) hTr hi (by omega)) (by simp) (by simp) ?_
    simp
    refine za (Cc (fl:=fxL P T i) hc hk (by simp; omega) hx hz h1 h2) (by simp) (by simp) ?_
    cases hcor:jm P value (fxL P T i) N with
    | false =>
     rw[hno hcor]
     simp[vD]
    | true =>
     simp[w1,Ja]
     exact hyes hcor
   ·rw[QJ hI]
    simp[my,Ja,ey,vD]
def pbZ:Pb:=⟨fun _=>0,fun _=>0,fun _=>0,[],[]⟩
section
variable {P:Pb}
theorem ahk:[iv 0,iv 0,iv 0,iv 0,iv 0,iv 0,iv 0,iv 0,iv 0,iv 0,iv 0,iv 0,iv 0,iv 0,iv 0,iv 0,iv 0,iv 0,uw,uw]=pbX pbZ uw uw:=by rw[xw]; rfl
theorem ae3 {c c' o o':AV} (h1:AV.imp c c') (h2:AV.imp o o'):AV.imp (.agg (pbX P c o)) (.agg (pbX P c' o')):=by
 rw[xw,xw]
 refine X8 ?_
 repeat' first | exact z6 h1 (z6 h2 tT) | refine z6 AV.imp.refl ?_
theorem ae5:AV.imp (.agg [iv 0,iv 0,iv 0,iv 0,iv 0,iv 0,iv 0,iv 0,iv 0,iv 0,iv 0,iv 0,iv 0,iv 0,iv 0,iv 0,iv 0,iv 0,uw,uw]) (.agg (pbC pbZ)):=by
 rw[ahk]
 exact ae3 (AV.imp_nil rfl) (AV.imp_nil rfl)
end
end Go.Proofs.YtpnliopaifpimaaGreat

set_option maxRecDepth 20000
namespace Go.Proofs.YtpnliopaifpimaaGreat
open Go Go.Am Go.Wr Go.Dig Go.Tr Go.LP Go.Pb
def Za (x:Fr):Bool:=decide (x.2.1.length≤4)&&decide (x.2.2.length≤4)
def smN (N:Nz):Bool:=decide (N.P.length≤60)&&N.P.all Za
def smT (n:Nat) (T:List Nz):Bool:=decide (n≤10)&&decide (T.length≤200)&&T.all smN
def Sl (T:List Nz) (k:Nat):St:={env:=[(18,.list 5 .plain (zI T)),(19,iv T.length),(20,iv k)],sto:=[]}
def Pz (T:List Nz) (i:Nat) (P:List Fr) (k:Nat):St:={env:=[(18,.list 5 .plain (zI T)),(19,iv T.length),(20,iv i),(29,.list 3 .plain (v9 P)),(30,iv P.length),(31,iv k)],sto:=[]}
theorem Xq {T:List Nz} {i:Nat} {P:List Fr} {KK:Exit→St→Prop} (hl:P.length≤60)
  (bad:P.all Za=false→KK .ret {env:=[(4,bv false)],sto:=[]})
  (good:P.all Za=true→KK (.exit 2) {env:=[(18,.list 5 .plain (zI T)),(19,iv T.length),(20,iv i),(29,.list 3 .plain (v9 P)),(30,iv P.length),(31,iv P.length),(32,bv false)],sto:=[]}) :
  awp Tryz.prog (.loop vM) (Pz T i P 0) KK:=by
 obtain ⟨L,g1,g2,g3⟩:=mr (p:=Za) (P:=P)
 have neg:∀ x:Fr,Za x=false→4<x.2.1.length∨(¬ 4<x.2.1.length∧4<x.2.2.length):=fun x h=>by
  unfold Za at h
  by_cases a:4<x.2.1.length
  ·exact .inl a
  ·refine .inr ⟨a,?_⟩
   rw[decide_eq_true (show x.2.1.length≤4 by omega),Bool.true_and,decide_eq_false_iff_not] at h
   omega
 refine yl (Pz T i P) L rfl (fun k hk=>?_) ?_
 ·have hkP:k<P.length:=by omega
  have w1:=zm (k:=k) (by omega)
  have hv:=g2 k hk
  generalize hx:P[k]=x at *
  unfold Za at hv
  simp only[Bool.and_eq_true,decide_eq_true_eq] at hv
  have a1:¬ (4:Int)<x.2.1.length:=by omega
  have a2:¬ (4:Int)<x.2.2.length:=by omega
  simp[vM,Pz,hkP,hx,a1,a2,w1]
 ·rcases g3 with ⟨g3,g4⟩ | ⟨hLP,g3,g4⟩
  ·subst g3
   simp[vM,Pz]
   exact good g4
  ·generalize hx:P[L]=x at *
   rcases neg x g3 with a | ⟨a,b⟩
   ·have a':(4:Int)<x.2.1.length:=by omega
    simp[vM,Pz,hLP,hx,a']
    exact bad g4
   ·have a':¬ (4:Int)<x.2.1.length:=by omega
    have b':(4:Int)<x.2.2.length:=by omega
    simp[vM,Pz,hLP,hx,a',b']
    exact bad g4
theorem NM {P:Pb} {T:List Nz}:ze Tryz.prog uX [.agg (pbC P),.list 5 .plain (zI T)] (bv (smT P.of.length T)):=by
 refine zn Mb (by simp) ?_
 unfold smT
 by_cases c1:10<P.of.length
 ·have c1':(10:Int)<P.of.length:=by omega
  rw[decide_eq_false (show ¬ P.of.length≤10 by omega)]
  simp[n5,c1',sy]
 have c1':¬ (10:Int)<P.of.length:=by omega
 rw[decide_eq_true (show P.of.length≤10 by omega)]
 by_cases c2:200<T.length
 ·have c2':(200:Int)<T.length:=by omega
  rw[decide_eq_false (show ¬ T.length≤200 by omega)]
  simp[n5,c1',c2',sy]
 have c2':¬ (200:Int)<T.length:=by omega
 rw[decide_eq_true (show T.length≤200 by omega)]
 simp[n5,c1',c2']
 obtain ⟨L,g1,g2,g3⟩:=mr (p:=smN) (P:=T)
 refine yl (Sl T) L (by simp[Sl]) (fun k hk=>?_) ?_
 ·have hkP:k<T.length:=by omega
  have w1:=zm (k:=k) (by omega)
  have hv:=g2 k hk
  generalize hx:T[k]=N at *
  unfold smN at hv
  simp only[Bool.and_eq_true,decide_eq_true_eq] at hv
  have a1:¬ (60:Int)<N.P.length:=by omega
  simp[tM,Sl,hkP,hx,a1]
  refine Xq (T:=T) (i:=k) hv.1 (fun h=>by rw[hv.2] at h; cases h) (fun _=>?_)
  simp[gF,w1,Sl]
 ·rcases g3 with ⟨g3,g4⟩ | ⟨hLP,g3,g4⟩
  ·subst g3
   simp[tM,mb,Sl,sy]
   exact fun x hx=>List.all_eq_true.1 g4 x hx
  ·generalize hx:T[L]=N at *
   rw[g4]
   unfold smN at g3
   by_cases a:60<N.P.length
   ·have a':(60:Int)<N.P.length:=by omega
    simp[tM,Sl,hLP,hx,a',sy]
   ·have a':¬ (60:Int)<N.P.length:=by omega
    rw[decide_eq_true (show N.P.length≤60 by omega),Bool.true_and] at g3
    simp[tM,Sl,hLP,hx,a']
    refine Xq (T:=T) (i:=L) (by omega) (fun _=>?_) (fun h=>by rw[g3] at h; cases h)
    simp[sy]
theorem FY {n:Nat} {T:List Nz} (h:smT n T=true) (hP:∀ N∈T,∀ x∈N.P,ok x.2.1∧ok x.2.2):n≤10∧T.length≤200∧(∀ N∈T,eK N)∧∀ N∈T,N.P.length≤60:=by
 unfold smT at h
 simp only[Bool.and_eq_true,decide_eq_true_eq] at h
 obtain ⟨⟨h1,h2⟩,h3⟩:=h
 have h4:∀ N∈T,N.P.length≤60∧N.P.all Za=true:=fun N hN=>by
  have:=List.all_eq_true.1 h3 N hN
  unfold smN at this
  simpa only[Bool.and_eq_true,decide_eq_true_eq] using this
 refine ⟨h1,h2,fun N hN x hx=>?_,fun N hN=>(h4 N hN).1⟩
 have h5:=List.all_eq_true.1 (h4 N hN).2 x hx
 unfold Za at h5
 simp only[Bool.and_eq_true,decide_eq_true_eq] at h5
 obtain ⟨a,b⟩:=hP N hN x hx
 exact ⟨⟨a,b,by omega,by omega⟩,h5⟩
end Go.Proofs.YtpnliopaifpimaaGreat

set_option maxRecDepth 20000
namespace Go.Proofs.YtpnliopaifpimaaGreat
open Go Go.Am Go.Wr Go.Dig Go.Tr Go.LP Go.Pb
def wL9:List Int→Nat→Int:=fun l k=>l.getD k 0
def P9:Pb:=⟨wL9 [1],wL9 [1],wL9 [],[0,0],[⟨0,wL9 [1],9⟩,⟨1,wL9 [1],7⟩]⟩
def pr9 (x:Rat):Nat→Rat:=upd (fun _=>0) 2 x
abbrev acd:List AV:=[iv 1,iv 0,iv 0,iv 0,iv 0,iv 0,iv 1,iv 0,iv 0,iv 0,iv 0,iv 0,iv 0,iv 0,iv 0,iv 0,iv 0,iv 0,.list 1 .full [[iv 0],[iv 0]],.list 8 .full [[iv 0,iv 1,iv 0,iv 0,iv 0,iv 0,iv 0,iv 9],[iv 1,iv 1,iv 0,iv 0,iv 0,iv 0,iv 0,iv 7]]]
noncomputable def K8 (x:Int) (k:Nat):St:={env:=[(0,iv x),(2,.ptr 2 0),(5,.ptr 5 0),(6,.sl 18 3 0 14),(20,iv 14),(21,iv k)],sto:=[(2,.var [iv 0,iv 0,iv 0,iv 0,iv 0,iv 0,iv 0,iv 0,iv 0,iv 0,iv 0,iv 0,iv 0,iv 0,iv 0,iv 0,iv 0,iv 0,uw,uw]),(5,.var acd),(18,.arr 3 (fZ (fun _=>0) k 14))]}
theorem ag8 {x:Int} (h1:-9223372036854775808≤x) (h2:x<9223372036854775808):ze Tryz.prog lN [iv x] (.tuple [.agg acd,fL (pr9 x) 14]):=by
 refine zn Jj (by simp) ?_
 simp[Yv,eMk,splice]
 have e0:fZ (fun _=>0) 0 14=[zz,zz,zz,zz,zz,zz,zz,zz,zz,zz,zz,zz,zz,zz]:=by rw[← G7]; rfl
 have k0:ze Tryz.prog xi [iv 0] (fq 0):=sL (n:=0) (by decide) (by decide)
 have kx:=sL h1 h2
 refine zw (K8 x) (fun _=>True) 14 (by simp[K8,e0]) trivial (fun k hk _=>?_) (fun _=>?_)
 ·have e:(k:Int)<14:=by omega
  have w:=zm (k:=k) (by omega)
  have hs:=Cy (f:=fun _=>0) hk
  simp[lW,K8,e]
  refine za k0 (by simp) (by simp) ?_
  simp[splice,hk,w,hs,K8]
  exact e
 ·simp[lW,dM,K8,G6]
  refine za kx (by simp) (by simp) ?_
  simp[splice,Lz,Xc,pr9]
theorem ag9 {x:Int} (h1:-9223372036854775808≤x) (h2:x<9223372036854775808):ze Tryz.prog lN [iv x] (.tuple [.agg (pbC P9),fL (pr9 x) 14]):=by
 refine Az (ag8 h1 h2) ?_
 have e:ofR P9.of=[[iv 0,iv 1,iv 0,iv 0,iv 0,iv 0,iv 0,iv 9],[iv 1,iv 1,iv 0,iv 0,iv 0,iv 0,iv 0,iv 7]]:=by
  unfold ofR P9
  simp only[List.map_cons,List.map_nil,pc]
  rfl
 have hpb:AV.imp (.agg acd) (.agg (pbC P9)):=by
  simp only[xw]
  refine X8 ?_
  have h2:AV.imp (.list 8 .full [[iv 0,iv 1,iv 0,iv 0,iv 0,iv 0,iv 0,iv 9],[iv 1,iv 1,iv 0,iv 0,iv 0,iv 0,iv 0,iv 7]]) (ofA P9.of):=by
   unfold ofA
   rw[e]
   exact qn
  have h1:AV.imp (.list 1 .full [[iv 0],[iv 0]]) (clA P9.cl):=qn
  repeat' first | exact z6 h1 (z6 h2 tT) | refine z6 AV.imp.refl ?_
 exact QL (z6 hpb (z6 AV.imp.refl tT))
end Go.Proofs.YtpnliopaifpimaaGreat

set_option maxRecDepth 20000
namespace Go.Proofs.YtpnliopaifpimaaGreat
open Go Go.Am Go.Wr Go.Dig Go.Tr Go.LP Go.Pb
def vF:List Nz:=[⟨2,0,1,2,[]⟩,⟨3,0,0,0,[]⟩,⟨3,0,0,0,[]⟩]
def F9:List Fr:=(List.range 14).map fun r=>(false,if r=2 then [9] else [],[1])
def N9:Nz:=⟨1,0,0,0,F9⟩
theorem F1 {T:List Nz} (h1:1≤T.length) (h2:T.length≤65536) (h3:∀ i (hi:i<T.length),okZ T[i]=true)
  (h4:∀ i (hi:i<T.length),T[i].K=2→(i:Int)<T[i].U∧T[i].U<T.length∧(i:Int)<T[i].I∧T[i].I<T.length∧T[i].U≠T[i].I) (h5:∀ i,1≤i→i<T.length→cnt (ntZ T) T.length i=1):yx (ntZ T) where
 one:=h1
 most:=h2
 ok:=fun i hi=>(RD hi).2 (h3 i hi)
 br:=fun i hi=>by
  have:=h4 i hi
  unfold cS
  rw[Zr hi,Y3 hi,TW hi]
  exact this
 par1:=h5
theorem Jw:∀ i (hi:i<vF.length),okZ vF[i]=true:=by decide +kernel
theorem adh:yx (ntZ vF):=F1 (by decide) (by decide) Jw (by decide) fun i h1 h2=>by
 have h2':i<3:=h2
 have:i=1∨i=2:=by omega
 rcases this with rfl | rfl<;>decide
theorem PT:∀ N∈vF,eK N:=fun N hN x hx=>by
 simp only[vF,List.mem_cons,List.not_mem_nil,or_false] at hN
 rcases hN with rfl | rfl | rfl<;>cases hx
theorem adC:vw vF=true:=vx.2 adh
theorem DA:fH vF=2:=by unfold fH; rw[if_pos adC]; decide
theorem AY:ga vF=2:=by unfold ga; rw[if_pos adC]; decide
theorem abA:vw (vF.drop 1)=false:=te fun h=>by
 have h1:=h.par1 1 (by decide) (by decide)
 exact absurd h1 (by decide)
theorem abB:vw (vF.take 2)=false:=te fun h=>by
 have h1:=(h.br 0 (by decide) (by decide)).2.2.2.1
 exact absurd h1 (by decide)
theorem agx:ga (vF.drop 1)=0:=by unfold ga; rw[abA]; rfl
theorem PS:s4 vF=[3,2,0,1,2,3,3]:=by
 unfold s4 vF
 simp[xl,encZ,bU]
theorem F2:eG [3,2,0,1,2,3,3]=0∧(Qz [3,2,0,1,2,3,3]).map Kp=vF:=by
 have h:=Lf (T:=vF) (fun N hN=>⟨fun x hx=>by
  have:=PT N hN x hx
  exact ⟨this.1,by omega,by omega⟩,by
  obtain ⟨i,hi,rfl⟩:=List.getElem_of_mem hN
  exact Jw i hi⟩) (by decide)
 rw[PS] at h
 exact ⟨h.1,by rw[h.2]; rfl⟩
theorem Fx:eG [0]=0∧Qz [0]=[]:=by
 have h:=Lf (T:=[]) (fun N hN=>by cases hN) (by decide)
 have e:s4 []=[0]:=by unfold s4; simp[bU]
 rw[e] at h
 exact h
theorem Ee:P9.chk=0:=by decide +kernel
theorem agL:∀ N∈[N9],eK N:=fun N hN x hx=>by
 rw[List.mem_singleton] at hN
 subst hN
 obtain ⟨r,_,rfl⟩:=List.mem_map.1 hx
 have h1:ok ([1]:List Nat):=fun d hd=>by rw[List.mem_singleton.1 hd]; decide
 have h9:ok (if r=2 then [9] else []:List Nat):=by
  split
  ·intro d hd; rw[List.mem_singleton.1 hd]; decide
  ·intro d hd; cases hd
 have hl:(if r=2 then [9] else []:List Nat).length≤1:=by split<;>decide
 refine ⟨⟨h9,h1,?_,?_⟩,?_,?_⟩
 ·show (if r=2 then [9] else []:List Nat).length<17179869184; omega
 ·show 1<17179869184; decide
 ·show (if r=2 then [9] else []:List Nat).length≤4; omega
 ·show 1≤4; decide
theorem aiO:okZ N9=true:=by decide +kernel
theorem Fw:yx (ntZ [N9]):=F1 (by decide) (by decide) (fun i hi=>by
 have:i=0:=by simp at hi; omega
 subst this; exact aiO) (fun i hi=>by
 have:i=0:=by simp at hi; omega
 subst this; intro h; exact absurd (show N9.K=2 from h) (by decide)) (fun i h1 h2=>by simp at h2; omega)
theorem aiN:fxL P9 [N9] 0=[0,0]:=rfl
theorem aiM:fpE P9 [0,0] (yZ N9) N9.P.length=0:=by decide +kernel
theorem aiL:bdZ P9 [0,0] N9=9:=by decide +kernel
theorem Bg:Zl P9 [N9] 1:=fun i hi _ _=>by
 have:i=0:=by simp at hi; omega
 subst this; rfl
theorem S8 {P:Pb} {value:Int} {T:List Nz} (h1:P.chk=0) (h2:yx (ntZ T)) (h3:Zl P T T.length):gE P value T=ba P value T:=by
 have a:=h2.one
 have b:=h2.most
 rw[gJ] at a b
 unfold gE
 rw[if_neg (by simp[h1]),if_neg (by omega),if_neg (by omega),vx.2 h2,if_neg (by decide),QR h3]
theorem Bf (value:Int):YI P9 value [N9] 1↔(9:Rat)<(value:Rat)+1:=by
 have key:jm P9 value (fxL P9 [N9] 0) N9=decide ((9:Rat)<(value:Rat)+1):=by
  unfold jm bdB
  rw[if_neg (by decide),if_neg (by decide),aiN,aiM,aiL]
  rfl
 constructor
 ·intro h
  have:=h 0 (by decide) (by decide)
  rw[show ([N9]:List Nz)[0]=N9 from rfl,key] at this
  exact of_decide_eq_true this
 ·intro h i hi _
  have:i=0:=by simp at hi; omega
  subst this
  rw[show ([N9]:List Nz)[0]=N9 from rfl,key]
  exact decide_eq_true h
theorem agq:gE P9 9 [N9]=0:=by
 rw[S8 Ee Fw Bg]
 exact QJ ((Bf 9).2 (by decide +kernel))
theorem agp:gE P9 8 [N9]=13:=by
 rw[S8 Ee Fw Bg]
 exact QI fun h=>absurd ((Bf 8).1 h) (by decide +kernel)
theorem aar:gE P9 9 []=1:=by unfold gE; rw[if_neg (by simp[Ee])]; rfl
theorem aas:gE P9 9 (vF.take 2)=2:=by
 unfold gE
 rw[if_neg (by simp[Ee]),if_neg (by decide),if_neg (by decide),abB]
 rfl
end Go.Proofs.YtpnliopaifpimaaGreat

set_option maxRecDepth 20000
namespace Go.Proofs.YtpnliopaifpimaaGreat
open Go Go.Am Go.Wr Go.Dig Go.Tr Go.LP Go.Pb
theorem aee:v9 F9=fR (pr9 9) 14:=by
 have a0:fr 0=[bv false,nl .plain [],nl .plain [1]]:=by
  rw[← Mu,ni,show (RF.of 0).s=false from by decide +kernel,show (RF.of 0).a=[] from by decide +kernel,show (RF.of 0).c=[1] from by decide +kernel]
 have a9:fr 9=[bv false,nl .plain [9],nl .plain [1]]:=by
  rw[← Mu,ni,show (RF.of 9).s=false from by decide +kernel,show (RF.of 9).a=[9] from by decide +kernel,show (RF.of 9).c=[1] from by decide +kernel]
 apply List.ext_getElem
 ·simp[F9]
 ·intro i h1 h2
  have hi:i<14:=by simpa using h2
  rw[aef]
  by_cases e:i=2
  ·subst e
   simp[F9,pr9,upd,a9]
  ·simp[F9,pr9,upd,e,a0]
noncomputable abbrev rN9:List (List AV):=[[iv 1,iv 0,iv 0,iv 0,fL (pr9 9) 14]]
abbrev rTw:List (List AV):=[[iv 2,iv 0,iv 1,iv 2,uw],[iv 3,iv 0,iv 0,iv 0,uw],[iv 3,iv 0,iv 0,iv 0,uw]]
theorem aeF:zI [N9]=rN9:=by
 show [[iv 1,iv 0,iv 0,iv 0,.list 3 .plain (v9 F9)]]=_
 rw[aee]
theorem CQ:AV.imp (.list 5 .full rN9) (.list 5 .plain (zI [N9])):=by rw[aeF]; exact qn
theorem ju {a b c d:AV}:kF [a,b,c,d,uw] [a,b,c,d,.list 3 .plain []] :=
 z6 AV.imp.refl (z6 AV.imp.refl (z6 AV.imp.refl (z6 AV.imp.refl (z6 (AV.imp_nil rfl) tT))))
theorem X9 {m:Am.Mode} (hm:stm m=m):AV.imp (.list 5 m rTw) (.list 5 .plain (zI vF)):=Zh hm (pF ju (pF ju (pF ju TK)))
theorem abd {m:Am.Mode} (hm:stm m=m):AV.imp (.list 5 m (rTw.take 2)) (.list 5 .plain (zI (vF.take 2))):=Zh hm (pF ju (pF ju TK))
theorem abc {m:Am.Mode} (hm:stm m=m):AV.imp (.list 5 m (rTw.drop 1)) (.list 5 .plain (zI (vF.drop 1))):=Zh hm (pF ju (pF ju TK))
theorem GA:ze Tryz.prog x5 [] (bv true):=by
 have k9:=ag9 (x:=9) (by decide) (by decide)
 refine zn Ma (by simp) ?_
 simp[Z2]
 refine za k9 (by simp) (by simp) ?_
 have hz:∀ N∈vF,okZ N=true:=fun N hN=>by
  obtain ⟨i,hi,rfl⟩:=List.getElem_of_mem hN
  exact Jw i hi
 have hP:∀ N∈vF,∀ x∈N.P,wI x:=fun N hN x hx=>(PT N hN x hx).1
 have kE:=s6 (Ct (T:=vF) hP (by decide) hz (by rw[PS]; decide)) (Mv (X9 (m:=.full) rfl))
 rw[PS] at kE
 have kD:=Lg (l:=[3,2,0,1,2,3,3]) (by decide)
 rw[Fy,F2.2,F2.1] at kD
 have kD0:ze Tryz.prog xV [.val (.string ⟨#[0]⟩)] _:=Lg (l:=[0]) (by decide)
 rw[Fy,Fx.2,Fx.1] at kD0
 have kc1:=s6 (dv (P:=P9) (T:=[N9]) (value:=9) (by decide) agL (by decide) (by decide) (by decide)) (Mw AV.imp.refl AV.imp.refl CQ)
 have kc2:=s6 (dv (P:=P9) (T:=[N9]) (value:=8) (by decide) agL (by decide) (by decide) (by decide)) (Mw AV.imp.refl AV.imp.refl CQ)
 have kc3:=s6 (dv (P:=P9) (T:=[]) (value:=9) (by decide) (fun N hN=>by cases hN) (by decide) (by decide) (by decide)) (Mw AV.imp.refl AV.imp.refl (AV.imp_nil (sz:=0) rfl))
 have kc4:=fun {m:Am.Mode} (hm:stm m=m)=>s6 (dv (P:=P9) (T:=vF.take 2) (value:=9) (by decide) (fun N hN=>PT N (List.mem_of_mem_take hN)) (by decide) (by decide) (by decide)) (Mw AV.imp.refl AV.imp.refl (abd hm))
 rw[agq] at kc1
 rw[agp] at kc2
 rw[aar] at kc3
 rw[aas] at kc4
 have kl:=s6 (L2 (T:=vF) hP (by decide)) (Mv (X9 (m:=.full) rfl))
 rw[DA] at kl
 have kd:=s6 (QB (T:=vF) hP (by decide)) (Mv (X9 (m:=.full) rfl))
 rw[AY] at kd
 have kd1:=fun {m:Am.Mode} (hm:stm m=m)=>s6 (QB (T:=vF.drop 1) (fun N hN=>hP N (List.mem_of_mem_drop hN)) (by decide)) (Mv (abc hm))
 rw[agx] at kd1
 have ks:=s6 (B4 (T:=vF) (by decide) (fun N hN=>⟨by simp only[vF,List.mem_cons,List.not_mem_nil,or_false] at hN; rcases hN with rfl | rfl | rfl<;>decide,hP N hN⟩)) (adq AV.imp.refl (X9 (m:=.full) rfl))
 simp
 refine za kE (by simp) (by simp) ?_
 simp
 refine za kD (by simp) (by simp) ?_
 simp
 refine za kD0 (by simp) (by simp) ?_
 simp
 refine za kc1 (by simp) (by simp) ?_
 simp
 refine za kc2 (by simp) (by simp) ?_
 simp
 refine za kc3 (by simp) (by simp) ?_
 simp
 refine za (kc4 (m:=.plain) rfl) (by simp) (by simp) ?_
 simp
 refine za kl (by simp) (by simp) ?_
 simp
 refine za kd (by simp) (by simp) ?_
 simp
 refine za (kd1 (m:=.plain) rfl) (by simp) (by simp) ?_
 have hstr:str [3,2,0,1,2,3,3]=⟨#[3,2,0,1,2,3,3]⟩:=rfl
 simp[hstr]
 refine za ks (by simp) (by simp) ?_
 simp[Yd]
abbrev tyB:Ty:=.arr 6 (.int .i64)
abbrev DC:Ty:=.st [.int .i64,tyB,.int .i64]
abbrev ahI:Ty:=.st [tyB,tyB,tyB,.slice (.int .i64),.slice DC]
theorem SI {cs:List AV} (h:TyC tyB cs):∃ w:Nat→Int,cs=bC w:=by
 obtain ⟨rows,rfl,hl,h⟩:=h
 obtain ⟨L,rfl,_⟩:=mL (fun n:Int=>[iv n]) (fun _=>True) (fun r hr=>by
  obtain ⟨n,rfl,_⟩:=hr
  exact ⟨n,rfl,trivial⟩) h
 refine ⟨fun k=>L.getD k 0,?_⟩
 match L,hl with
 | [a,b,c,d,e,f],_=>rw[tn]; rfl
theorem abH {cs:List AV} (h:TyC DC cs):∃ o:Of,cs=oC o:=by
 obtain ⟨a1,b1,rfl,⟨n,rfl,_⟩,a2,b2,rfl,h2,a3,b3,rfl,⟨v,rfl,_⟩,rfl⟩:=h
 obtain ⟨w,rfl⟩:=SI h2
 exact ⟨⟨n,w,v⟩,by rw[pc,tn]; rfl⟩
theorem aew {cs:List AV} (h:TyC (.slice (.int .i64)) cs):∃ l:List Int,cs=[clA l]∧l.length≤reachBytes:=by
 obtain ⟨rows,rfl,hl,h⟩:=h
 obtain ⟨L,rfl,h2⟩:=mL (fun d:Int=>[iv d]) (fun _=>True) (fun r hr=>by
  obtain ⟨n,rfl,_⟩:=hr
  exact ⟨n,rfl,trivial⟩) h
 exact ⟨L,rfl,by simpa using hl⟩
theorem aeT {cs:List AV} (h:TyC (.slice DC) cs):∃ L:List Of,cs=[ofA L]∧L.length≤reachBytes:=by
 obtain ⟨rows,rfl,hl,h⟩:=h
 obtain ⟨L,rfl,h2⟩:=mL oC (fun _=>True) (fun r hr=>by
  obtain ⟨o,rfl⟩:=abH hr
  exact ⟨o,rfl,trivial⟩) h
 exact ⟨L,rfl,by simpa using hl⟩
theorem ae6 {x:AV} (h:jc ahI x):∃ P:Pb,x=.agg (pbC P)∧P.cl.length≤reachBytes∧P.of.length≤reachBytes:=by
 obtain ⟨cs,rfl,a1,b1,rfl,h1,a2,b2,rfl,h2,a3,b3,rfl,h3,a4,b4,rfl,h4,a5,b5,rfl,h5,rfl⟩:=h
 obtain ⟨s,rfl⟩:=SI h1
 obtain ⟨p,rfl⟩:=SI h2
 obtain ⟨c,rfl⟩:=SI h3
 obtain ⟨l,rfl,hl⟩:=aew h4
 obtain ⟨L,rfl,hL⟩:=aeT h5
 refine ⟨⟨s,p,c,l,L⟩,?_,hl,hL⟩
 congr 1
 unfold pbC pbX
 simp
theorem ag1 {x:AV} {k:IntKind} (h:jc (.int k) x):∃ n:Int,x=.val (.int k n)∧(Lit.int k n).wf=true:=by
 obtain ⟨n,h1,h2⟩:=h
 simp only[List.cons.injEq,and_true] at h1
 exact ⟨n,h1,h2⟩
theorem fG {n:Int} (h:(Lit.int .i64 n).wf=true):-9223372036854775808≤n∧n<9223372036854775808:=by
 have h1:IntKind.i64.min≤n∧n≤9223372036854775807:=by simpa [Lit.wf] using h
 have h2:IntKind.i64.min=-9223372036854775808:=by decide
 omega
end Go.Proofs.YtpnliopaifpimaaGreat

set_option maxRecDepth 20000
namespace Go.Proofs.YtpnliopaifpimaaGreat
open Go Go.Am Go.Wr Go.Dig Go.Tr Go.LP Go.Pb
abbrev AZ:Ty:=.st [.int .i64,.int .i64,.int .i64,.int .i64,.slice Jx]
abbrev UB:Ty:=.slice AZ
def inZ (N:Nz):Prop:=N.K<9223372036854775808∧N.O<9223372036854775808∧N.U<9223372036854775808∧N.I<9223372036854775808∧N.P.length<4611686018427387904∧∀ x∈N.P,ok x.2.1∧ok x.2.2
theorem BL {cs:List AV} (h:TyC (.slice Jx) cs):∃ P:List Fr,cs=[.list 3 .plain (v9 P)]∧P.length<4611686018427387904∧∀ x∈P,ok x.2.1∧ok x.2.2:=by
 obtain ⟨rows,rfl,hl,h⟩:=h
 obtain ⟨l,rfl,h2⟩:=mL aa1 (fun x=>ok x.2.1∧ok x.2.2) (fun r hr=>by
  obtain ⟨x,rfl,hx⟩:=aej hr
  exact ⟨(x.s,x.a,x.c),ni x,hx⟩) h
 exact ⟨l,rfl,by simp[reachBytes] at hl; omega,h2⟩
theorem aeP {cs:List AV} (h:TyC AZ cs):∃ N:Nz,cs=zc N∧inZ N:=by
 obtain ⟨a1,b1,rfl,⟨k,rfl,hk⟩,a2,b2,rfl,⟨o,rfl,ho⟩,a3,b3,rfl,⟨u,rfl,hu⟩,a4,b4,rfl,⟨i,rfl,hi⟩,a5,b5,rfl,h5,rfl⟩:=h
 obtain ⟨P,rfl,hP⟩:=BL h5
 exact ⟨⟨k,o,u,i,P⟩,rfl,(fG hk).2,(fG ho).2,(fG hu).2,(fG hi).2,hP⟩
theorem KC {x:AV} (h:jc UB x):∃ T:List Nz,x=.list 5 .plain (zI T)∧T.length<4611686018427387904∧∀ N∈T,inZ N:=by
 obtain ⟨rows,hcs,hl,h⟩:=h
 obtain ⟨T,rfl,h2⟩:=mL zc inZ (fun r hr=>aeP hr) h
 rw[List.cons.injEq] at hcs
 exact ⟨T,hcs.1,by simp[reachBytes] at hl; omega,h2⟩
end Go.Proofs.YtpnliopaifpimaaGreat

set_option maxRecDepth 20000
namespace Go.Proofs.YtpnliopaifpimaaGreat
open Go Go.Am Go.Wr Go.Dig Go.Tr Go.LP Go.Pb
theorem CS {T:List Nz} (h:∀ N∈T,inZ N):∀ N∈T,∀ x∈N.P,ok x.2.1∧ok x.2.2:=fun N hN=>(h N hN).2.2.2.2.2
theorem E7 {T:List Nz} (hT:∀ N∈T,inZ N):ze Tryz.prog sd [.list 5 .plain (zI T)] (bv true):=by
 have kl:=s6 (NM (P:=pbZ) (T:=T)) (adq ae5 AV.imp.refl)
 refine zn dz (by simp) ?_
 simp[nB]
 refine za kl (by simp) (by simp) ?_
 cases hs:smT pbZ.of.length T with
 | false=>simp[sk]
 | true =>
  obtain ⟨_,hl,hf,_⟩:=FY hs (CS hT)
  have hP:∀ N∈T,∀ x∈N.P,wI x:=fun N hN x hx=>(hf N hN x hx).1
  simp
  refine za (L2 hP (by omega)) (by simp) (by simp) ?_
  simp
  refine za (BY hP (by omega)) (by simp) (by simp) ?_
  simp
  refine za (QB hP (by omega)) (by simp) (by simp) ?_
  simp
  refine za (ace hP (by omega)) (by simp) (by simp) ?_
  simp
  refine za (xs:=[]) (args:=[]) GA rfl (.inl rfl) ?_
  simp[sk]
theorem prooftreeShapes_contract (xs:List AV) (h:dE [UB] xs):ze Tryz.prog sd xs (bv true):=by
 obtain ⟨x,rfl,h1⟩:=DG h
 obtain ⟨T,rfl,_,hT⟩:=KC h1
 exact E7 hT
theorem M7 {P:Pb} {value:Int} {T:List Nz} (hT:∀ N∈T,inZ N) (h1:-9223372036854775808≤value) (h2:value<9223372036854775808):ze Tryz.prog sc [.agg (pbC P),iv value,.list 5 .plain (zI T)] (bv true):=by
 refine zn dy (by simp) ?_
 simp[nA]
 refine za (NM (P:=P) (T:=T)) (by simp) (by simp) ?_
 cases hs:smT P.of.length T with
 | false=>simp[sj]
 | true =>
  obtain ⟨hk,hl,hf,_⟩:=FY hs (CS hT)
  simp
  refine za (dv (P:=P) (T:=T) hk hf (by omega) h1 h2) (by simp) (by simp) ?_
  simp
  refine za (B3 (P:=P) (T:=T) hk hf (by omega) h1 h2) (by simp) (by simp) ?_
  simp
  refine za (xs:=[]) (args:=[]) GA rfl (.inl rfl) ?_
  simp[sj]
theorem prooftreeChecks_contract (xs:List AV) (h:dE [ahI,.int .i64,UB] xs):ze Tryz.prog sc xs (bv true):=by
 obtain ⟨x,y,z,rfl,h1,h2,h3⟩:=JC h
 obtain ⟨P,rfl,_⟩:=ae6 h1
 obtain ⟨v,rfl,hv⟩:=ag1 h2
 obtain ⟨T,rfl,_,hT⟩:=KC h3
 exact M7 hT (fG hv).1 (fG hv).2
end Go.Proofs.YtpnliopaifpimaaGreat

set_option maxRecDepth 20000
namespace Go.Wr
theorem gO {α:Type} {f:α→List UInt8} {C:Nat}:∀ {l:List α},(∀ x∈l,(f x).length≤C)→(l.flatMap f).length≤l.length*C
 | [],_=>by simp
 | x::l,h=>by
  have h1:=gO (l:=l) fun y hy=>h y (List.mem_cons_of_mem _ hy)
  have h2:=h x (List.mem_cons_self)
  simp only[List.flatMap_cons,List.length_append,List.length_cons,Nat.succ_mul]
  omega
end Go.Wr
namespace Go.Proofs.YtpnliopaifpimaaGreat
open Go Go.Am Go.Wr Go.Dig Go.Tr Go.LP Go.Pb
theorem ao0 {x:Fr} (h:wI x∧x.2.1.length≤4∧x.2.2.length≤4):(uZ x).length≤110:=by
 obtain ⟨⟨h1,h2,_,_⟩,h3,h4⟩:=h
 have e1:=jp h1 (by omega)
 have e2:=jp h2 (by omega)
 have e3:=vS (x:=if x.1=true then 1 else 0) (by split<;>omega)
 show (ku _ _ _).length≤110
 unfold ku
 simp only[List.length_append]
 omega
theorem aoZ {N:Nz} (hi:inZ N) (hl:N.P.length≤60) (hf:eK N):(xl N).length≤7000:=by
 obtain ⟨k,o,u,i,_,_⟩:=hi
 have e1:=vS (x:=N.K.toNat) (by omega)
 have e2:=vS (x:=N.O.toNat) (by omega)
 have e3:=vS (x:=N.U.toNat) (by omega)
 have e4:=vS (x:=N.I.toNat) (by omega)
 have e5:=vS (x:=N.P.length) (by omega)
 have e6:=gO (f:=fun x=>ku x.1 x.2.1 x.2.2) (C:=110) (l:=N.P) fun x hx=>ao0 (hf x hx)
 have e7:N.P.length*110≤60*110:=Nat.mul_le_mul hl (Nat.le_refl _)
 unfold xl encZ
 simp only[List.length_append]
 split
 ·simp only[List.length_append]; omega
 ·split
  ·simp only[List.length_append]; omega
  ·simp only[List.length_nil]; omega
theorem T1 {T:List Nz} (hT:∀ N∈T,inZ N) (hl:T.length≤200) (hf:∀ N∈T,eK N) (hp:∀ N∈T,N.P.length≤60):(s4 T).length≤10000000:=by
 have e1:=vS (x:=T.length) (by omega)
 have e2:=gO (f:=xl) (C:=7000) (l:=T) fun N hN=>aoZ (hT N hN) (hp N hN) (hf N hN)
 have e3:T.length*7000≤200*7000:=Nat.mul_le_mul hl (Nat.le_refl _)
 unfold s4
 simp only[List.length_append]
 omega
theorem f9 {T:List Nz} (hl:T.length≤200) (hf:∀ N∈T,eK N) (hz:∀ N∈T,okZ N=true) (hb:(s4 T).length≤10000000) :
  ze Tryz.prog xV [sv (s4 T)] (.tuple [.list 5 .plain (zI T),iv 0]):=by
 have h:=Lf (T:=T) (fun N hN=>⟨fun x hx=>by
  have:=hf N hN x hx
  exact ⟨this.1,by omega,by omega⟩,hz N hN⟩) (by omega)
 have k:=Lg (l:=s4 T) (by omega)
 rw[Fy,h.2,h.1,ajS hz] at k
 exact k
theorem T2 {T:List Nz} (hT:∀ N∈T,inZ N):ze Tryz.prog fN [.list 5 .plain (zI T)] (bv true):=by
 have kl:=s6 (NM (P:=pbZ) (T:=T)) (adq ae5 AV.imp.refl)
 refine zn Ji (by simp) ?_
 simp[fY]
 refine za kl (by simp) (by simp) ?_
 cases hs:smT pbZ.of.length T with
 | false =>
  simp
  refine za (xs:=[]) (args:=[]) GA rfl (.inl rfl) ?_
  simp[db]
 | true =>
  obtain ⟨_,hl,hf,hp⟩:=FY hs (CS hT)
  have hP:∀ N∈T,∀ x∈N.P,wI x:=fun N hN x hx=>(hf N hN x hx).1
  have hb:=T1 hT hl hf hp
  cases hz:T.all okZ with
  | true =>
   have hz':∀ N∈T,okZ N=true:=List.all_eq_true.1 hz
   have kd:=f9 hl hf hz' hb
   have ke:=Ct hP (by omega) hz' (by omega)
   have kr:=ajc hP (by omega) hz' (by omega)
   generalize s4 T=E at *
   have ks:=B4 (T:=T) (by omega) fun N hN=>⟨by have:=hp N hN; omega,hP N hN⟩
   simp
   refine za ke (by simp) (by simp) ?_
   simp
   refine za kr (by simp) (by simp) ?_
   simp
   refine za kd (by simp) (by simp) ?_
   simp
   refine za ks (by simp) (by simp) ?_
   simp
   refine za (xs:=[]) (args:=[]) GA rfl (.inl rfl) ?_
   simp[db]
  | false =>
   have ke:=aig hP (by omega) hz (by omega)
   have kr:=ahY hP (by omega) hz (by omega)
   have kd:=Lg (l:=[]) (by decide)
   generalize Zq (Qz [])=R at *
   generalize eG []=e at *
   simp
   refine za ke (by simp) (by simp) ?_
   simp
   refine za kr (by simp) (by simp) ?_
   simp
   refine za kd (by simp) (by simp) ?_
   simp
   refine za (xs:=[]) (args:=[]) GA rfl (.inl rfl) ?_
   simp[db]
end Go.Proofs.YtpnliopaifpimaaGreat

set_option maxRecDepth 20000
namespace Go.Proofs.YtpnliopaifpimaaGreat
open Go Go.Am Go.Wr Go.Dig Go.Tr Go.LP Go.Pb
theorem prooftreeEncodes_contract (xs:List AV) (h:dE [UB] xs):ze Tryz.prog fN xs (bv true):=by
 obtain ⟨x,rfl,h1⟩:=DG h
 obtain ⟨T,rfl,_,hT⟩:=KC h1
 exact T2 hT
end Go.Proofs.YtpnliopaifpimaaGreat
