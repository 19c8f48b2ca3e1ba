/- What the proof rests on, part 9: QF KM KP KN Q8 Q9 LC QDp QDv QC QE N1 N2 N3c Dig2 N4f N5 Dig3 Dig4 N6 N7 N8 N9 N10 Dig5 N11 N6b N12 N13 N14 F1 F3f F5 FR PE. -/
import Derived.Test.YtbmhibiljjnfiaaP8
set_option maxRecDepth 100000
set_option maxHeartbeats 4000000
namespace Go.Proofs.Ytbmhibiljjnfiaa
open Go Go.Am Go.Pb
def pE (m:Int) (L:List Of):List Of:=L.filter fun o=>!mb m o.b.toNat
def woP (P:Pb) (m:Int):Pb:={P with of:=pE m P.of}
def woE (P:Pb) (m:Int):Pb:=if P.chk=0 then woP P m else pbZ
section
variable {P:Pb} {r n:Nat} {o:Of} {L:List Of}
theorem FR {l:List Int} (hl:l.length≤1000000):zf Try.prog xT [clA l] (clA l):=by
 refine uD sW (by simp) ?_
 by_cases h0:l=[]
 ·subst h0
  simp[xU,xV]
  exact ⟨AV.imp_nil rfl,AV.imp.refl⟩
 ·have h1:clR l≠[]:=fun h=>h0 (by have:=congrArg List.length h; simpa using this)
  simp[xU,h1,xV]
  exact ⟨by omega,by omega,AV.imp.refl⟩
theorem P7 {m:Int} {k:Nat} (h:L[k]?=some o):pE m (L.take (k+1))=if mb m o.b.toNat then pE m (L.take k) else pE m (L.take k)++[o]:=by
 unfold pE
 rw[sC h,List.filter_append]
 cases hb:mb m o.b.toNat<;>simp[hb]
theorem M2 {m:Int}:(pE m L).length≤L.length:=List.length_filter_le _ _
noncomputable def UU (P:Pb) (m:Int) (k:Nat):St:={env:=[(1,iv m),(4,.ptr 4 0),(5,.ptr 5 0),(19,ofA P.of),(20,iv P.of.length),(21,iv k)],sto:=[(4,.var (pbX pbZ zX zX)),(5,.var (pbX P (clA P.cl) (apc 35 8 (ofR (pE m (P.of.take k))))))]}
@[simp] theorem CJ {c o c' o':AV} {Q:Pb}:splice (pbX Q c' o') 0 (pbX P c o)=pbX P c o:=dE Zg
theorem mr {c o:AV} (hc:rf c=true) (ho:rf o=true):zx (pbX P c o) 0 (some 20)=some (.agg (pbX P (strip c) (strip o))):=by rw[zj Zg (LA hc ho),Tu]
@[simp] theorem Aq {c o x:AV}:(pbX P c o).set 18 x=pbX P x o:=by rw[z5,z5]; rfl
@[simp] theorem Ar {c o x:AV}:(pbX P c o).set 19 x=pbX P c x:=by rw[z5,z5]; rfl
@[simp] theorem Bd:zx (pbX P zX zX) 0 (some 20)=some (.agg (pbX P zX zX)):=mr rfl rfl
@[simp] theorem Ba {l:List Int} {tok:Nat} {rows:List (List AV)}:zx (pbX P (clA l) (apc tok 8 rows)) 0 (some 20)=some (.agg (pbX P (clA l) (plc 8 rows))):=by rw[mr rfl (by simp),cU]; rfl
@[simp] theorem Bb {l:List Int} {rows:List (List AV)}:zx (pbX P (clA l) (plc 8 rows)) 0 (some 20)=some (.agg (pbX P (clA l) (plc 8 rows))):=by rw[mr rfl (by simp),bS]; rfl
theorem CB {X:List Of} {m:Int} (h:X=pE m P.of):AV.imp (.agg (pbX P (clA P.cl) (plc 8 (ofR X)))) (.agg (pbC (woP P m))):=by
 have e:pbC (woP P m)=pbX P (clA P.cl) (ofA (pE m P.of)):=by unfold woP; simp only[z5]
 rw[e,← h]
 exact UG AV.imp.refl (uB wX)
theorem KH {m:Int} (h1:-9223372036854775808≤m) (h2:m<9223372036854775808) (hn:P.cl.length≤1000) (hk:P.of.length≤1000000):zf Try.prog xe [.agg (pbC P),iv m] (.agg (pbC (woE P m))):=by
 refine uD kS (by simp) ?_
 simp[qK,tY]
 refine ze (jA hn hk) (by simp) (by simp) ?_
 unfold woE
 by_cases c1:P.chk=0
 ·have hG:=j6 c1
  rw[if_pos c1]
  simp[c1]
  refine ze (FR (l:=P.cl) (by omega)) (by simp) (by simp) ?_
  simp
  refine zz (UU P m) (fun _=>True) P.of.length (by simp[UU,pE]) trivial (fun k hk' _=>?_) (fun _=>?_)
  ·have e:(k:Int)<P.of.length:=by omega
   have w1:=zo (k:=k) (by omega)
   have hm:P.of[k]∈P.of:=List.getElem_mem hk'
   obtain ⟨hb,_,_⟩:=uZ (tW (hG.off _ hm)).1
   have hgk:P.of[k]?=some P.of[k]:=by simp[hk']
   have ht:=P7 (m:=m) hgk
   obtain ⟨o,ho⟩:∃ o,P.of[k]=o:=⟨_,rfl⟩
   rw[ho] at hb ht
   have hn8:=hG.n
   have b1:¬ o.b<0:=by omega
   have b2:min o.b.toNat 64=o.b.toNat:=by omega
   have h64:IntKind.i64.bits=64:=rfl
   have hbit:=D1 m o.b.toNat h1 h2 (by omega)
   have hlen:=M2 (m:=m) (L:=P.of.take k)
   rw[List.length_take] at hlen
   cases hv:mb m o.b.toNat
   ·rw[hv] at hbit ht
    simp at hbit
    simp at ht
    simp[vH,UU,e,hk',ho,wI b1,h64,b2,hbit]
    refine ve (by decide) rfl ?_ ?_ (by simp) ?_
    ·simp only[sZ]; omega
    ·simp only[sZ]; omega
    ·have hro:ofR (pE m (P.of.take k))++[oC o]=ofR (pE m (P.of.take (k+1))):=by rw[ht,ew]; rfl
     rw[hro]
     simp[-cellsOf,w1,UU]
   ·rw[hv] at hbit ht
    simp at hbit
    simp at ht
    simp[vH,UU,e,hk',ho,wI b1,h64,b2,hbit,w1,ht]
  ·simp[vH,UU,n9,tv]
   exact CB rfl
 ·rw[if_neg c1]
  simp[c1,tv]
  exact ll
end
section
variable {S:Stp} {L:List Of} {o:Of} {k n:Nat}
def reK (S:Stp) (o:Of):Int:=usE S.pd o.w fun p=>p.re
def D7 (S:Stp) (o:Of):Of:={o with v:=o.v-reK S o}
def Zb (S:Stp) (L:List Of) (k:Nat) (o:Of):Prop:=yr L o L.length=some k∧reK S o<o.v∧¬ mP o.w∧alE S o.b o.w=0
noncomputable def xS (S:Stp) (L:List Of):Nat→List Int
 | 0=>[]
 | k+1=>match L[k]? with
  | none=>xS S L k
  | some o=>@ite _ (Zb S L k o) (Classical.propDecidable _) (xS S L k++[(k:Int)]) (xS S L k)
noncomputable def vR (S:Stp) (L:List Of):Nat→List Of
 | 0=>[]
 | k+1=>match L[k]? with
  | none=>vR S L k
  | some o=>@ite _ (Zb S L k o) (Classical.propDecidable _) (vR S L k++[D7 S o]) (vR S L k)
theorem UM (hg:L[k]?=some o) (h:Zb S L k o):xS S L (k+1)=xS S L k++[(k:Int)]∧vR S L (k+1)=vR S L k++[D7 S o]:=by
 constructor
 ·show (match L[k]? with | none=>_ | some o=>_)=_
  rw[hg]; exact if_pos h
 ·show (match L[k]? with | none=>_ | some o=>_)=_
  rw[hg]; exact if_pos h
theorem Rv (hg:L[k]?=some o) (h:¬ Zb S L k o):xS S L (k+1)=xS S L k∧vR S L (k+1)=vR S L k:=by
 constructor
 ·show (match L[k]? with | none=>_ | some o=>_)=_
  rw[hg]; exact if_neg h
 ·show (match L[k]? with | none=>_ | some o=>_)=_
  rw[hg]; exact if_neg h
theorem jE:∀ k,(xS S L k).length≤k∧(vR S L k).length=(xS S L k).length
 | 0=>⟨Nat.le_refl 0,rfl⟩
 | k+1=>by
  obtain ⟨a,b⟩:=jE k
  cases hg:L[k]? with
  | none =>
   have e1:xS S L (k+1)=xS S L k:=by show (match L[k]? with | none=>_ | some o=>_)=_; rw[hg]
   have e2:vR S L (k+1)=vR S L k:=by show (match L[k]? with | none=>_ | some o=>_)=_; rw[hg]
   rw[e1,e2]; omega
  | some o =>
   by_cases h:Zb S L k o
   ·obtain ⟨e1,e2⟩:=UM hg h
    rw[e1,e2]; simp; omega
   ·obtain ⟨e1,e2⟩:=Rv hg h
    rw[e1,e2]; omega
def sc (S:Stp) (L:List Of) (k:Nat):Int:=((L[k]?).map fun o=>vN S.bd.length o).getD 0
noncomputable def wb (S:Stp) (L:List Of):Int:=if xC S≠0 then xC S else if 320<L.length then 3 else if vF (sc S L) L.length≠0 then vF (sc S L) L.length else if 160<(xS S L L.length).length then 3 else 0
noncomputable def ZY (S:Stp) (L:List Of):Pb:={sup:=zY S.pd,opn:=opW S,cls:=clW S,cl:=S.bd.map fun b=>b.cl,of:=vR S L L.length}
noncomputable def rg (S:Stp) (L:List Of):AV:=.tuple [.agg (pbC (if wb S L=0 then ZY S L else pbZ)),clA (if wb S L=0 then xS S L L.length else []),iv (wb S L)]
noncomputable def DU:TypeId:=match Try.prog.underlying yO with
 | some (.map _ e)=>e
 | _=>0
theorem Dx:Try.prog.underlying yO=some (.map sH DU):=by kernel_rfl
theorem B6:zn Try.prog (zeroValue DU)=some (.int .i64 0):=by kernel_rfl
theorem M8 {σ:Nat→Option zd} {K:AV→Option zd→Prop} {c:Nat} {ok:Bool} (hs:σ 31=some (.map (vQ (vr L k)) c)) :
  vf Try.prog yO ok σ [.mp 31,.agg (kC o)] K=K (if ok=true then .tuple [iv (((yr L o k).map fun n:Nat=>(n:Int)).getD 0),bv (yr L o k).isSome] else iv (((yr L o k).map fun n:Nat=>(n:Int)).getD 0)) none:=by
 have e:kC o=(r6 o).map iv:=by unfold kC; rfl
 rw[e,bt Zd Dx B6 hs lf (cW k),U4]
 cases yr L o k<;>rfl
theorem Fu {s:St} {KS:St→Prop} (hg:L[k]?=some o) (hs:lk s.sto 31=some (.map (vQ (vr L k)) (vr L k).length)) (hb:yr L o (k+1)=some k) :
  vg Try.prog yO s none KS [.mp 31,.agg (kC o),iv k]=KS {s with sto:=pt s.sto 31 (.map (vQ (vr L (k+1))) (vr L (k+1)).length)}:=by
 have e:kC o=(r6 o).map iv:=by unfold kC; rfl
 have e2:vr L (k+1)=ti (r6 o) (.int .i64 k) (vr L k):=by
  show (match L[k]? with | none=>_ | some o=>_)=_
  rw[hg]
  exact if_pos hb
 rw[e,bw Zd Dx hs lf (cW k) rfl,e2]
 simp
theorem DE (hg:L[k]?=some o) (hb:¬ yr L o (k+1)=some k):vr L (k+1)=vr L k:=by
 show (match L[k]? with | none=>_ | some o=>_)=_
 rw[hg]
 exact if_neg hb
theorem Pn {P:Pb} {c o:AV} {u:Nat→Int}:splice (pbX P c o) 0 (bC u)=pbX {P with sup:=u} c o:=by rw[z5,z5,yQ]; rfl
theorem Pm {P:Pb} {c o:AV} {u:Nat→Int}:splice (pbX P c o) 6 (bC u)=pbX {P with opn:=u} c o:=by rw[z5,z5,yQ]; rfl
theorem Pl {P:Pb} {c o:AV} {u:Nat→Int}:splice (pbX P c o) 12 (bC u)=pbX {P with cls:=u} c o:=by rw[z5,z5,yQ]; rfl
theorem ZE {P:Pb} {s t:Nat} {r u:List (List AV)}:zx (pbX P (apc s 1 r) (apc t 8 u)) 0 (some 20)=some (.agg (pbX P (plc 1 r) (plc 8 u))):=by rw[mr (by simp) (by simp),cU,cU]
theorem ZF {P:Pb} {r u:List (List AV)}:zx (pbX P (plc 1 r) (plc 8 u)) 0 (some 20)=some (.agg (pbX P (plc 1 r) (plc 8 u))):=by rw[mr (by simp) (by simp),bS,bS]
noncomputable def cX (S:Stp):Pb:={pbZ with sup:=zY S.pd,opn:=opW S,cls:=clW S}
noncomputable def YH (S:Stp) (L:List Of) (k:Nat):St :=
 {env:=[(1,ofA L),(2,.ptr 2 0),(4,.ptr 4 0),(8,.mp 31),(32,ofA L),(33,iv L.length),(34,iv k)],sto:=[(2,.var (suC S)),(4,.var (pbX pbZ zX zX)),(31,.map (vQ (vr L k)) (vr L k).length)]}
def ri (S:Stp) (k:Nat):List Int:=(S.bd.take k).map fun b=>b.cl
noncomputable def RC (S:Stp) (L:List Of) (k:Nat):St :=
 {env:=[(1,ofA L),(2,.ptr 2 0),(4,.ptr 4 0),(8,.mp 31),(15,.ptr 15 0),(87,.list 4 .plain (sI S.bd)),(88,iv S.bd.length),(89,iv k)],
  sto:=[(2,.var (suC S)),(4,.var (pbX pbZ zX zX)),(31,.map (vQ (vr L L.length)) (vr L L.length).length),(15,.var (pbX (cX S) (apc 98 1 (clR (ri S k))) zX))]}
noncomputable def f5 (S:Stp) (L:List Of) (k:Nat):St :=
 {env:=[(2,.ptr 2 0),(4,.ptr 4 0),(8,.mp 31),(15,.ptr 15 0),(18,apc 155 1 (clR (xS S L k))),(101,ofA L),(102,iv L.length),(103,iv k)],
  sto:=[(2,.var (suC S)),(4,.var (pbX pbZ zX zX)),(31,.map (vQ (vr L L.length)) (vr L L.length).length),(15,.var (pbX (cX S) (apc 98 1 (clR (ri S S.bd.length))) (apc 150 8 (ofR (vR S L k)))))]}
theorem U8 (h:k<S.bd.length):clR (ri S (k+1))=clR (ri S k)++[[iv S.bd[k].cl]]:=by
 have e:ri S (k+1)=ri S k++[S.bd[k].cl]:=by
  unfold ri
  rw[sC (o:=S.bd[k]) (by simp[h]),List.map_append]
  rfl
 rw[e]
 unfold clR
 rw[List.map_append]
 rfl
theorem Q1 {l m:List Int}:clR (l++m)=clR l++clR m:=by simp[clR]
theorem D6 {x:Int}:(oC o).set 7 (iv x)=oC {o with v:=x}:=by rw[uU,uU]; rfl
theorem Sk {l:List Bid} (h:sx l=0):l.length≤8:=by
 unfold sx at h
 split at h
 ·cases h
 split at h
 ·cases h
 omega
theorem Pp (h:vt S.pd=0) (hw:okB o.w):0≤reK S o∧reK S o≤24000000:=by
 obtain ⟨n0,n6,hP,_⟩:=sf h
 unfold reK usE
 rw[if_pos ⟨h,hw⟩]
 obtain ⟨a,b⟩:=lv (wt:=fun p=>p.re) hw (fun j h=>⟨(nr h (hP j h)).2.2.r0,(nr h (hP j h)).2.2.r1⟩) n6 S.pd.length (Nat.le_refl _)
 omega
theorem QY {n:Int}:cellsOf (AV.val (Value.int IntKind.i64 n))=some [AV.val (Value.int IntKind.i64 n)]:=rfl
theorem hmp {l:Nat}:dg l (.mp 31)=.mp 31:=rfl
theorem QX:AV.imp (.agg (pbX (cX S) (plc 1 (clR (ri S S.bd.length))) (plc 8 (ofR (vR S L L.length))))) (.agg (pbC (ZY S L))):=by
 have e0:ri S S.bd.length=S.bd.map fun b=>b.cl:=by unfold ri; rw[List.take_length]
 have e:pbC (ZY S L)=pbX (cX S) (clA (S.bd.map fun b=>b.cl)) (ofA (vR S L L.length)):=by simp only[z5]; rfl
 rw[e,e0]
 exact UG (uB wX) (uB wX)
theorem Do (hS:S.Sm):zf Try.prog wg [.agg (suC S),ofA L] (rg S L):=by
 have hkd:kds Try.prog Op.maxDepth zI=some (List.replicate 6 (.i .i64)):=by kernel_rfl
 have hgd:Try.prog.eqGuardType Try.prog.depth zI=false:=by kernel_rfl
 have hAd:agT Try.prog zI=true:=by kernel_rfl
 refine uD ft (by simp) ?_
 simp[nX,tY]
 refine ze (YD hS) (by simp) (by simp) ?_
 by_cases c1:xC S=0
 rotate_left
 ·have he:wb S L=xC S:=if_pos c1
  simp[c1,wo,rg,he]
  exact nk (zH ll (zH (AV.imp_nil rfl) (zH AV.imp.refl vu)))
 by_cases c2:320<L.length
 ·have c2':(320:Int)<L.length:=by omega
  have he:wb S L=3:=by unfold wb; rw[if_neg fun h=>h c1,if_pos c2]
  simp[c1,c2',wo,rg,he]
  exact nk (zH ll (zH (AV.imp_nil rfl) (zH AV.imp.refl vu)))
 have c2':¬ (320:Int)<L.length:=by omega
 simp[c1,c2']
 refine zz (YH S L) (fun k=>∀ j,j<k→sc S L j=0) L.length (by simp[YH,vr,vQ,vJ]) (fun j hj=>absurd hj (Nat.not_lt_zero j)) (fun k hk hi=>?_) (fun hi=>?_)
 ·have e:(k:Int)<L.length:=by omega
  have w1:=zo (show k<4611686018427387904 by omega)
  have hg:L[k]?=some L[k]:=List.getElem?_eq_getElem hk
  obtain ⟨o,ho⟩:∃ o,L[k]=o:=⟨_,rfl⟩
  rw[ho] at hg
  have hsE:sc S L k=vN S.bd.length o:=by unfold sc; rw[hg]; rfl
  have hnext:vN S.bd.length o=0→∀ j,j<k+1→sc S L j=0:=fun h j hj=>by
   by_cases ej:j=k
   ·rw[ej,hsE]; exact h
   ·exact hi j (by omega)
  simp[rQ,YH,e,hk,ho]
  refine ze (RB (n:=S.bd.length) (o:=o)) (by simp) (by simp) ?_
  by_cases d:vN S.bd.length o=0
  rotate_left
  ·have hf:vF (sc S L) L.length=vN S.bd.length o:=by rw[rY hk hi (by rw[hsE]; exact d),hsE]
   have he:wb S L=vN S.bd.length o:=by unfold wb; rw[if_neg fun h=>h c1,if_neg c2,hf,if_pos d]
   have he0:¬ wb S L=0:=by rw[he]; exact d
   simp[d,wo,rg,he,tY]
   exact nk (zH ll (zH (AV.imp_nil rfl) (zH AV.imp.refl vu)))
  simp[d]
  rw[M8 (L:=L) (k:=k) (c:=(vr L k).length) (by simp)]
  have hx:=hnext d
  have hbk:yr L o (k+1)=(match yr L o k with
   | none=>some k
   | some n=>if (((L[n]?).map fun x=>x.v).getD 0)<o.v then some k else some n):=by
   conv=>lhs; unfold yr
   rw[hg]
   exact if_pos js
  cases hb:yr L o k with
  | none =>
   rw[hb] at hbk
   simp
   rw[Fu (L:=L) hg (by simp) hbk]
   simp[w1,YH]
   exact hx
  | some n =>
   rw[hb] at hbk
   obtain ⟨hn1,hnl,_,_⟩:=qk hb
   have hnl':(n:Int)<L.length:=by omega
   simp only[List.getElem?_eq_getElem hnl,Option.map_some,Option.getD_some] at hbk
   by_cases hlt:L[n].v<o.v
   ·rw[if_pos hlt] at hbk
    simp[hnl,hnl',hlt]
    rw[Fu (L:=L) hg (by simp) hbk]
    simp[w1,YH]
    exact hx
   ·rw[if_neg hlt] at hbk
    have hno:=DE hg (by rw[hbk]; simp; omega)
    simp[hnl,hnl',hlt,w1,YH,hno]
    exact hx
 ·have hF:vF (sc S L) L.length=0:=nj hi
  simp[rQ,YH,lR]
  refine ze (lH (m:=.plain) (l:=S.pd) hS.p) (by simp) (by simp) ?_
  simp[tY,Pn]
  refine ze (D9 hS c1) (by simp) (by simp) ?_
  simp[Pm,Pl]
  have hnb:=hS.b
  have hb8:=Sk (rW c1).2.1
  refine zz (RC S L) (fun _=>True) S.bd.length (by simp[RC,cX,ri,clR]) trivial (fun k hk _=>?_) (fun _=>?_)
  ·have e:(k:Int)<S.bd.length:=by omega
   have w1:=zo (show k<4611686018427387904 by omega)
   have hlen:(ri S k).length≤8:=by simp[ri]; omega
   simp[rR,RC,e,hk,zj,splice]
   refine ve (by decide) rfl ?_ ?_ (by simp) ?_
   ·simp only[uz]; omega
   ·simp only[uz]; omega
   ·rw[← U8 hk]
    simp[-cellsOf,w1,RC]
    exact ⟨rfl,rfl⟩
  ·simp[rR,RC,lQ]
   refine zz (f5 S L) (fun _=>True) L.length (by simp[f5,xS,vR,clR,ofR]) trivial (fun k hk _=>?_) (fun _=>?_)
   ·have e:(k:Int)<L.length:=by omega
    have w1:=zo (show k<4611686018427387904 by omega)
    have hgk:L[k]?=some L[k]:=List.getElem?_eq_getElem hk
    have hsim:=hi k hk
    obtain ⟨o,ho⟩:∃ o,L[k]=o:=⟨_,rfl⟩
    rw[ho] at hgk
    have hfl:vN S.bd.length o=0:=by unfold sc at hsim; rw[hgk] at hsim; exact hsim
    obtain ⟨hb,hv,hw⟩:=uZ hfl
    have hre:=Pp (S:=S) (o:=o) (rW c1).1 hw
    have w2:IntKind.i64.wrap (o.v-reK S o)=o.v-reK S o:=by rw[wrap64]<;>omega
    have kr:zf Try.prog vy [.list 5 .plain (xL S.pd),.agg (bC o.w)] (iv (reK S o)):=LP (m:=.plain) (l:=S.pd) (w:=o.w) hS.p hS.np rfl
    simp[uL,f5,e,hk,ho]
    refine ze kr (by simp) (by simp) ?_
    simp[w2,D6]
    rw[M8 (L:=L) (k:=L.length) (c:=(vr L L.length).length) (by simp)]
    have skip:¬ Zb S L k o→xS S L (k+1)=xS S L k∧vR S L (k+1)=vR S L k:=Rv hgk
    cases hbi:yr L o L.length with
    | none=>exact absurd js (nO hbi k hk hk |> fun h=>by rw[ho] at h; exact h)
    | some n =>
     by_cases hnk:n=k
     rotate_left
     ·have hnk':¬ (n:Int)=k:=by omega
      obtain ⟨k1,k2⟩:=skip fun h=>by rw[h.1] at hbi; cases hbi; exact hnk rfl
      simp[hnk',w1,f5,k1,k2]
     subst hnk
     by_cases hv1:reK S o<o.v
     rotate_left
     ·have hv2:o.v-reK S o<1:=by omega
      obtain ⟨k1,k2⟩:=skip fun h=>hv1 h.2.1
      simp[hv2,w1,f5,k1,k2]
     have hv2:¬ o.v-reK S o<1:=by omega
     simp[hv2,Ub]
     rw[pC hkd hgd hAd xf xf]
     have hz:decide (bI o.w=bI (fun _=>0))=decide (mP o.w):=by
      rw[decide_eq_decide,aR]
      exact Iff.rfl
     by_cases hz0:mP o.w
     ·obtain ⟨k1,k2⟩:=skip fun h=>h.2.2.1 hz0
      simp[hz,hz0,w1,f5,k1,k2]
     simp[hz,hz0]
     refine ze (Fx (bd:=o.b) (w:=o.w) hS c1) (by simp) (by simp) ?_
     by_cases ha:alE S o.b o.w=0
     rotate_left
     ·obtain ⟨k1,k2⟩:=skip fun h=>ha h.2.2.2
      simp[ha,w1,f5,k1,k2]
     obtain ⟨k1,k2⟩:=UM hgk (S:=S) ⟨hbi,hv1,hz0,ha⟩
     obtain ⟨l1,l2⟩:=jE (S:=S) (L:=L) n
     simp[ha]
     refine ve (by decide) rfl ?_ ?_ (by simp) ?_
     ·simp only[sZ]; omega
     ·simp only[sZ]; omega
     have hro:ofR (vR S L n)++[oC {b:=o.b,w:=o.w,v:=o.v-reK S o}]=ofR (vR S L (n+1)):=by rw[k2,ew]; rfl
     rw[hro]
     simp[-cellsOf,QY,hmp,tG (show ¬ 155=150 by decide),tG (show ¬ 98=150 by decide)]
     refine ve (by decide) rfl ?_ ?_ (by simp) ?_
     ·simp only[uz]; omega
     ·simp only[uz]; omega
     have hri:clR (xS S L n)++[[iv n]]=clR (xS S L (n+1)):=by rw[k1,Q1]; rfl
     rw[hri]
     simp[-cellsOf,hmp,tG (show ¬ 150=155 by decide),tG (show ¬ 98=155 by decide),w1,f5]
   ·obtain ⟨l1,l2⟩:=jE (S:=S) (L:=L) L.length
    by_cases c3:160<(xS S L L.length).length
    ·have c3':(160:Int)<(xS S L L.length).length:=by omega
     have he:wb S L=3:=by unfold wb; rw[if_neg fun h=>h c1,if_neg c2,if_neg fun h=>h hF,if_pos c3]
     simp[-vI,g9,uL,f5,rP,c3',wo,rg,he,tY]
     exact nk (zH ll (zH (AV.imp_nil rfl) (zH AV.imp.refl vu)))
    have c3':¬ (160:Int)<(xS S L L.length).length:=by omega
    have he:wb S L=0:=by unfold wb; rw[if_neg fun h=>h c1,if_neg c2,if_neg fun h=>h hF,if_neg c3]
    simp[-vI,g9,uL,f5,rP,c3',ZE,ZF,wo,rg,he]
    exact nk (zH QX (zH (uB wX) (zH AV.imp.refl vu)))
end
def f4 (f:Nat→Int):Nat→Int
 | 0=>0
 | k+1=>f4 f k+f k
theorem aaH {f:Nat→Int} {n:Nat} (h:∀ i,i<n→0≤f i):∀ {k},k≤n→0≤f4 f k∧f4 f k≤f4 f n:=by
 intro k hk
 have h0:∀ k,k≤n→0≤f4 f k:=fun k=>by
  induction k with
  | zero=>intro _; exact Int.le_refl 0
  | succ k ih=>intro hk; have:=ih (by omega); have:=h k (by omega); show 0≤f4 f k+f k; omega
 refine ⟨h0 k hk,?_⟩
 have key:∀ d,k+d≤n→f4 f k≤f4 f (k+d):=fun d=>by
  induction d with
  | zero=>intro _; exact Int.le_refl _
  | succ d ih=>intro hd; have:=ih (by omega); have:=h (k+d) (by omega); show f4 f k≤f4 f (k+d)+f (k+d); omega
 have:=key (n-k) (by omega)
 rwa [show k+(n-k)=n by omega] at this
def aat (n:Nat) (wn:Nat→Nat→Int):List (List AV):=(List.range n).map fun b=>bC (wn b)
section
variable {S:Stp} {wn:Nat→Nat→Int} {n k:Nat}
@[simp] theorem aa3:(aat n wn).length=n:=by simp[aat]
theorem aa2 (h:k<n):(aat n wn)[k]?=some (bC (wn k)):=by simp[aat,h]
theorem aax (h:k<(aat n wn).length):(aat n wn)[k]=bC (wn k):=by simp[aat]
def aaw (S:Stp) (wn:Nat→Nat→Int) (k j:Nat):Int:=zY S.pd j-f4 (fun b=>wn b j) k
def aav (S:Stp) (wn:Nat→Nat→Int) (k j:Nat):Int:=opW S j-f4 (fun b=>lj S b (wn b) j) k
def aaU (S:Stp) (wn:Nat→Nat→Int) (k:Nat):St:={env:=[(2,.ptr 2 0),(9,.ptr 9 0),(10,.ptr 10 0),(11,.ptr 11 0),(51,.list 6 .plain (aat S.bd.length wn)),(52,iv S.bd.length),(53,iv k)],sto:=[(2,.var (suC S)),(9,.var (bC (aav S wn k))),(10,.var (bC (clW S))),(11,.var (bC (aaw S wn k)))]}
def aaT (S:Stp) (wn:Nat→Nat→Int) (k i:Nat):St:={env:=[(2,.ptr 2 0),(9,.ptr 9 0),(10,.ptr 10 0),(11,.ptr 11 0),(51,.list 6 .plain (aat S.bd.length wn)),(52,iv S.bd.length),(53,iv k),(13,.ptr 13 0),(14,.ptr 14 0),(63,iv i)],sto:=[(2,.var (suC S)),(9,.var (bC fun j=>if j<i then aav S wn (k+1) j else aav S wn k j)),(10,.var (bC (clW S))),(11,.var (bC fun j=>if j<i then aaw S wn (k+1) j else aaw S wn k j)),(13,.var (bC (wn k))),(14,.var (bC (lj S k (wn k))))]}
def aaV (S:Stp) (wn:Nat→Nat→Int) (i:Nat):St:={env:=[(9,.ptr 9 0),(11,.ptr 11 0),(94,iv i)],sto:=[(9,.var (bC (aav S wn S.bd.length))),(11,.var (bC (aaw S wn S.bd.length)))]}
theorem aaO {f g:Nat→Int} {i:Nat}:(bC fun j=>if j=i then f i else if j<i then f j else g j)=bC fun j=>if j<i+1 then f j else g j:=xy fun j hj=>by
 by_cases e:j=i
 ·subst e; rw[if_pos rfl,if_pos (by omega)]
 ·rw[if_neg e]
  by_cases e2:j<i
  ·rw[if_pos e2,if_pos (by omega)]
  ·rw[if_neg e2,if_neg (by omega)]
def aaL (S:Stp) (wn:Nat→Nat→Int) (k:Nat):St:={env:=[(1,.list 6 .plain (aat S.bd.length wn)),(2,.ptr 2 0),(28,.list 6 .plain (aat S.bd.length wn)),(29,iv S.bd.length),(30,iv k)],sto:=[(2,.var (suC S))]}
theorem abc (hS:S.Sm) (h:xC S=0) (hal:∀ b,b<S.bd.length→alE S b (wn b)=0) (hpos:∀ b,b<S.bd.length→∀ j,j<6→0≤wn b j∧wn b j≤4) (hsup:∀ j,j<6→f4 (fun b=>wn b j) S.bd.length≤zY S.pd j) (hout:∀ j,j<6→f4 (fun b=>lj S b (wn b) j) S.bd.length≤opW S j):zf Try.prog pN [.agg (suC S),.list 6 .plain (aat S.bd.length wn)] (iv 0):=by
 have z2:∀ u:Nat→Int,splice [iv 0,iv 0,iv 0,iv 0,iv 0,iv 0] 0 (bC u)=bC u:=fun u=>qj rfl
 have hn:=hS.b
 refine zC YM (by simp) ?_
 simp[j3]
 refine ze (YD hS) (by simp) (by simp) ?_
 simp[h]
 refine xt (aaL S wn) S.bd.length (by simp[aaL]) (fun k hk=>?_) ?_
 ·have e:(k:Int)<S.bd.length:=by omega
  have w1:=zo (show k<4611686018427387904 by omega)
  simp[cH,aaL,e,hk,aax,z2]
  refine ze (Md (bd:=(k:Int)) (w:=wn k) hS h) (by simp) (by simp) ?_
  simp[hal k hk,w1,aaL]
 ·simp[cH,aaL,cG]
  refine ze (Rz hS h) (by simp) (by simp) ?_
  simp[z2]
  refine ze (lH (m:=.plain) (l:=S.pd) hS.p) (by simp) (by simp) ?_
  simp[z2]
  have hb8:=Sk (rW h).2.1
  have hop:∀ b,b<S.bd.length→∀ j,j<6→0≤lj S b (wn b) j∧lj S b (wn b) j≤4:=fun b hb j hj=>by
   have:=hpos b hb j hj
   unfold lj
   split<;>omega
  obtain ⟨hp,_,_,ha⟩:=rW h
  obtain ⟨h6,hA⟩:=PH ha
  have hle:∀ j,0≤opW S j∧opW S j≤zY S.pd j∧zY S.pd j≤4:=fun j=>S9 hp hA (k:=S.sa.length) (j:=j) (Nat.le_refl _)
  have s1:∀ k,k≤S.bd.length→∀ j,j<6→0≤aaw S wn k j∧aaw S wn k j≤4:=fun k hk j hj=>by
   have:=aaH (f:=fun b=>wn b j) (fun b hb=>(hpos b hb j hj).1) hk
   have:=hsup j hj
   have:=hle j
   unfold aaw
   omega
  have s2:∀ k,k≤S.bd.length→∀ j,j<6→0≤aav S wn k j∧aav S wn k j≤4:=fun k hk j hj=>by
   have:=aaH (f:=fun b=>lj S b (wn b) j) (fun b hb=>(hop b hb j hj).1) hk
   have:=hout j hj
   have:=hle j
   unfold aav
   omega
  have e0:bC (opW S)=bC (aav S wn 0):=xy fun j hj=>by unfold aav f4; omega
  have e1:bC (zY S.pd)=bC (aaw S wn 0):=xy fun j hj=>by unfold aaw f4; omega
  refine xt (aaU S wn) S.bd.length (by simp[aaU,e0,e1]) (fun k hk=>?_) ?_
  ·have e:(k:Int)<S.bd.length:=by omega
   have w1:=zo (show k<4611686018427387904 by omega)
   simp[cJ,aaU,e,hk,aax,z2]
   refine ze (Lw (b:=k) (w:=wn k) hk) (by simp) (by simp) ?_
   simp[z2]
   refine xt (aaT S wn k) 6 (by simp[aaT]) (fun i hi=>?_) ?_
   ·have ei:(i:Int)<6:=by omega
    have h5:i≤5:=by omega
    have w2:=zo (show i<4611686018427387904 by omega)
    have a1:=s1 (k+1) (by omega) i hi
    have a2:=s2 (k+1) (by omega) i hi
    have b1:aaw S wn k i-wn k i=aaw S wn (k+1) i:=by show zY S.pd i-f4 _ k-wn k i=zY S.pd i-(f4 _ k+wn k i); omega
    have b2:aav S wn k i-lj S k (wn k) i=aav S wn (k+1) i:=by show opW S i-f4 _ k-lj S k (wn k) i=opW S i-(f4 _ k+lj S k (wn k) i); omega
    have w3:IntKind.i64.wrap (aaw S wn k i-wn k i)=aaw S wn (k+1) i:=by rw[b1,wrap64]<;>omega
    have w4:IntKind.i64.wrap (aav S wn k i-lj S k (wn k) i)=aav S wn (k+1) i:=by rw[b2,wrap64]<;>omega
    have n1:¬ aaw S wn (k+1) i<0:=by omega
    have n2:¬ aav S wn (k+1) i<0:=by omega
    simp[cI,aaT,ei,h5,yW hi,w2,w3,w4,nN hi,n1,n2]
    exact ⟨aaO,aaO⟩
   ·simp[cI,aaT,cD,w1]
    have q1:(bC fun j=>if j<6 then aav S wn (k+1) j else aav S wn k j)=bC (aav S wn (k+1)):=xy fun j hj=>if_pos hj
    have q2:(bC fun j=>if j<6 then aaw S wn (k+1) j else aaw S wn k j)=bC (aaw S wn (k+1)):=xy fun j hj=>if_pos hj
    rw[q1,q2]
    rfl
  ·simp[cJ,aaU,cF]
   refine xt (aaV S wn) 6 (by simp[aaV]) (fun i hi=>?_) ?_
   ·have ei:(i:Int)<6:=by omega
    have h5:i≤5:=by omega
    have w2:=zo (show i<4611686018427387904 by omega)
    have a1:=s1 S.bd.length (Nat.le_refl _) i hi
    have a2:=s2 S.bd.length (Nat.le_refl _) i hi
    have n1:¬ aaw S wn S.bd.length i<0:=by omega
    have n2:¬ aav S wn S.bd.length i<0:=by omega
    simp[cL,aaV,ei,yW hi,n1,n2,w2]
   ·simp[cL,aaV,cE,gn]
end
section
variable {S:Stp} {L:List Of} {o:Of} {k n i j:Nat}
noncomputable def nbB (L:List Of) (i j:Nat):Bool:=@decide (∀ q,q<j→¬ kV L q i) (Classical.propDecidable _)
theorem er:nbB L i j=true↔∀ q,q<j→¬ kV L q i:=by unfold nbB; exact @decide_eq_true_iff _ (Classical.propDecidable _)
theorem JT:nbB L i 0=true:=er.2 fun q hq=>absurd hq (Nat.not_lt_zero q)
theorem Em (h:kV L j i):nbB L i (j+1)=false:=by
 cases e:nbB L i (j+1) with
 | false=>rfl
 | true=>exact absurd h (er.1 e j (by omega))
theorem D3 (h:¬ kV L j i):nbB L i (j+1)=nbB L i j:=by
 rw[Bool.eq_iff_iff,er,er]
 constructor
 ·exact fun h2 q hq=>h2 q (by omega)
 ·intro h2 q hq
  by_cases e:q=j
  ·subst e; exact h
  ·exact h2 q (by omega)
theorem El (hi:i<L.length):nbB L i L.length=true↔yr L L[i] L.length=some i:=by
 rw[er,Ml hi]
 constructor
 ·intro h q hq
  exact h q hq.1 hq
 ·exact fun h q _=>h q
theorem Sx {sz:Nat} {m:Am.Mode} {rows:List (List AV)} {K:AV→Option zd→Prop}:vI false K (.list sz m rows)=K (iv rows.length) none:=by simp[vI]
theorem q8:zx (oC o).tail 0 (some 6)=some (.agg (bC o.w)):=by rw[uU,yQ]; rfl
noncomputable def dQ (S:Stp) (L:List Of) (k:Nat):St :=
 {env:=[(1,ofA L),(2,.ptr 2 0),(4,.ptr 4 0),(8,iv k)],sto:=[(2,.var (suC S)),(4,.var (pbX pbZ zX zX))]}
noncomputable def RD (S:Stp) (L:List Of) (k:Nat):St :=
 {env:=[(1,ofA L),(2,.ptr 2 0),(4,.ptr 4 0),(9,.ptr 9 0),(10,iv k)],sto:=[(2,.var (suC S)),(4,.var (pbX pbZ zX zX)),(9,.var (pbX (cX S) (apc 105 1 (clR (ri S k))) zX))]}
noncomputable def sd (S:Stp) (L:List Of) (k:Nat):List (Nat × zd):=[(2,.var (suC S)),(4,.var (pbX pbZ zX zX)),(9,.var (pbX (cX S) (apc 105 1 (clR (ri S S.bd.length))) (apc 232 8 (ofR (vR S L k)))))]
noncomputable def aj (S:Stp) (L:List Of) (k:Nat):St :=
 {env:=[(1,ofA L),(2,.ptr 2 0),(4,.ptr 4 0),(9,.ptr 9 0),(11,apc 237 1 (clR (xS S L k))),(12,iv k)],sto:=sd S L k}
noncomputable def na (S:Stp) (L:List Of) (i:Nat) (re:Int) (base:Bool) (j:Nat):St :=
 {env:=[(1,ofA L),(2,.ptr 2 0),(4,.ptr 4 0),(9,.ptr 9 0),(11,apc 237 1 (clR (xS S L i))),(12,iv i),(14,iv re),(16,bv (base&&nbB L i j)),(17,iv j)],sto:=sd S L i}
theorem EG (hS:S.Sm):zf Try.prog pw [.agg (suC S),ofA L] (rg S L):=by
 have hkd:kds Try.prog Op.maxDepth zI=some (List.replicate 6 (.i .i64)):=by kernel_rfl
 have hgd:Try.prog.eqGuardType Try.prog.depth zI=false:=by kernel_rfl
 have hAd:agT Try.prog zI=true:=by kernel_rfl
 have bad:AV.imp (.tuple [.agg (pbX pbZ zX zX),zX,iv (wb S L)]) (.tuple [.agg (pbC pbZ),clA [],iv (wb S L)]):=nk (zH ll (zH (AV.imp_nil rfl) (zH AV.imp.refl vu)))
 refine uD cy (by simp) ?_
 simp[kz,tY]
 refine ze (ab hS) (by simp) (by simp) ?_
 by_cases c1:xC S=0
 rotate_left
 ·have he:wb S L=xC S:=if_pos c1
  rw[he] at bad
  simp[c1,yN,rg,he]
  exact bad
 by_cases c2:320<L.length
 ·have c2':(320:Int)<L.length:=by omega
  have he:wb S L=3:=by unfold wb; rw[if_neg fun h=>h c1,if_pos c2]
  rw[he] at bad
  simp[c1,c2',yN,rg,he]
  exact bad
 have c2':¬ (320:Int)<L.length:=by omega
 simp[c1,c2']
 refine zz (dQ S L) (fun k=>∀ j,j<k→sc S L j=0) L.length (by simp[dQ]) (fun j hj=>absurd hj (Nat.not_lt_zero j)) (fun k hk hi=>?_) (fun hi=>?_)
 ·have e:(k:Int)<L.length:=by omega
  have w1:=zo (show k<4611686018427387904 by omega)
  have hg:L[k]?=some L[k]:=List.getElem?_eq_getElem hk
  obtain ⟨o,ho⟩:∃ o,L[k]=o:=⟨_,rfl⟩
  rw[ho] at hg
  have hsE:sc S L k=vN S.bd.length o:=by unfold sc; rw[hg]; rfl
  have hnext:vN S.bd.length o=0→∀ j,j<k+1→sc S L j=0:=fun h j hj=>by
   by_cases ej:j=k
   ·rw[ej,hsE]; exact h
   ·exact hi j (by omega)
  have hbad:∀ c,vN S.bd.length o=c→c≠0→wb S L=c:=fun c hc h0=>by
   have hf:vF (sc S L) L.length=c:=by rw[rY hk hi (by rw[hsE,hc]; exact h0),hsE,hc]
   unfold wb
   rw[if_neg fun h=>h c1,if_neg c2,hf,if_pos h0]
  by_cases t1:o.b<0
  ·have he:=hbad 6 (if_pos (.inl t1)) (by decide)
   rw[he] at bad
   simp[xX,dQ,e,hk,ho,t1,yN,rg,he,tY]
   exact bad
  by_cases t2:(S.bd.length:Int)≤o.b
  ·have he:=hbad 6 (if_pos (.inr t2)) (by decide)
   rw[he] at bad
   simp[xX,dQ,e,hk,ho,t1,t2,yN,rg,he,tY]
   exact bad
  have n1:¬ (o.b<0∨(S.bd.length:Int)≤o.b):=by omega
  by_cases t3:o.v<1
  ·have he:=hbad 4 (by unfold vN; rw[if_neg n1,if_pos (.inl t3)]) (by decide)
   rw[he] at bad
   simp[xX,dQ,e,hk,ho,t1,t2,t3,yN,rg,he,tY]
   exact bad
  by_cases t4:1000000<o.v
  ·have he:=hbad 4 (by unfold vN; rw[if_neg n1,if_pos (.inr t4)]) (by decide)
   rw[he] at bad
   simp[xX,dQ,e,hk,ho,t1,t2,t3,t4,yN,rg,he,tY]
   exact bad
  have n2:¬ (o.v<1∨1000000<o.v):=by omega
  simp[xX,dQ,e,hk,ho,t1,t2,t3,t4,q8]
  refine ze (YC (w:=o.w)) (by simp) (by simp) ?_
  by_cases t5:okB o.w
  ·have h0:vN S.bd.length o=0:=by unfold vN; rw[if_neg n1,if_neg n2,if_pos t5]
   simp[t5,w1,dQ]
   exact hnext h0
  ·have he:=hbad 4 (by unfold vN; rw[if_neg n1,if_neg n2,if_neg t5]) (by decide)
   rw[he] at bad
   simp[t5,yN,rg,he,tY]
   exact bad
 ·have hF:vF (sc S L) L.length=0:=nj hi
  simp[xX,dQ,j0]
  refine ze (b9 (m:=.plain) (l:=S.pd) hS.p) (by simp) (by simp) ?_
  simp[tY,Pn]
  refine ze (Pr hS c1) (by simp) (by simp) ?_
  simp[Pm,Pl]
  have hnb:=hS.b
  have hb8:=Sk (rW c1).2.1
  refine zz (RD S L) (fun _=>True) S.bd.length (by simp[RD,cX,ri,clR]) trivial (fun k hk _=>?_) (fun _=>?_)
  ·have e:(k:Int)<S.bd.length:=by omega
   have w1:=zo (show k<4611686018427387904 by omega)
   have hlen:(ri S k).length≤8:=by simp[ri]; omega
   simp[pX,RD,e,hk]
   refine ve (by decide) rfl ?_ ?_ (by simp) ?_
   ·simp only[uz]; omega
   ·simp only[uz]; omega
   ·rw[← U8 hk]
    simp[-cellsOf,w1,RD]
  ·simp[pX,RD,jZ]
   refine zz (aj S L) (fun _=>True) L.length (by simp[aj,sd,xS,vR,clR,ofR]) trivial (fun k hk _=>?_) (fun _=>?_)
   ·have e:(k:Int)<L.length:=by omega
    have w1:=zo (show k<4611686018427387904 by omega)
    have hgk:L[k]?=some L[k]:=List.getElem?_eq_getElem hk
    have hsim:=hi k hk
    have hball:=El hk
    obtain ⟨o,ho⟩:∃ o,L[k]=o:=⟨_,rfl⟩
    rw[ho] at hgk hball
    have hfl:vN S.bd.length o=0:=by unfold sc at hsim; rw[hgk] at hsim; exact hsim
    obtain ⟨hb,hv,hw⟩:=uZ hfl
    have hre:=Pp (S:=S) (o:=o) (rW c1).1 hw
    have w2:IntKind.i64.wrap (o.v-reK S o)=o.v-reK S o:=by rw[wrap64]<;>omega
    have kr:zf Try.prog tC [.list 5 .plain (xL S.pd),iv 0,.agg (bC o.w)] (.tuple [iv (usE S.pd o.w fun p=>p.po),iv (reK S o),iv (usE S.pd o.w (grW 0))]):=Pt (m:=.plain) (l:=S.pd) (w:=o.w) (g:=0) hS.p rfl
    have hz:∀ u w:Nat→Int,decide (bI u=bI w)=decide (eqB u w):=fun u w=>by rw[decide_eq_decide,aR]
    obtain ⟨l1,l2⟩:=jE (S:=S) (L:=L) k
    have key:∀ base:Bool,(base=true↔(reK S o<o.v∧¬ mP o.w∧alE S o.b o.w=0))→awp Try.prog (.loop wG) (na S L k (reK S o) base 0)
      (wA 6 (rk Try.prog sr (wA 5 (rk Try.prog ss (stepW (aj S L) (fun _=>True) (k+1) (wA 4 (rk Try.prog sv (fZ yN (rg S L))))))))) :=fun base hbase=>by
     refine zz (na S L k (reK S o) base) (fun _=>True) L.length (by simp[na,sd]) trivial (fun j hj _=>?_) (fun _=>?_)
     ·have ej:(j:Int)<L.length:=by omega
      have w3:=zo (show j<4611686018427387904 by omega)
      obtain ⟨u,hu⟩:∃ u,L[j]=u:=⟨_,rfl⟩
      have hbt:kV L j k↔y6 u o∧(o.v<u.v∨(j<k∧u.v=o.v)):=by
       unfold kV
       constructor
       ·rintro ⟨h1,h2,h3⟩; rw[hu,ho] at h3; exact h3
       ·intro h; exact ⟨hj,hk,by rw[hu,ho]; exact h⟩
      have no:¬ kV L j k→nbB L k (j+1)=nbB L k j:=D3
      have yes:kV L j k→nbB L k (j+1)=false:=Em
      by_cases u1:u.b=o.b
      rotate_left
      ·have n1:=no fun h=>u1 (hbt.1 h).1.1
       simp[wG,na,sd,e,hk,ho,ej,hj,hu,u1,w3,n1]
      simp[wG,na,sd,e,hk,ho,ej,hj,hu,u1,q8]
      rw[pC hkd hgd hAd xf xf]
      by_cases u2:eqB u.w o.w
      rotate_left
      ·have n1:=no fun h=>u2 (hbt.1 h).1.2
       simp[hz,u2,w3,n1,na,sd]
      by_cases u3:o.v<u.v
      ·have n1:=yes (hbt.2 ⟨⟨u1,u2⟩,.inl u3⟩)
       simp[hz,u2,u3,e,hk,ho,ej,hj,hu,w3,n1,na,sd]
      by_cases u4:j<k
      ·have u4':(j:Int)<k:=by omega
       by_cases u5:u.v=o.v
       ·have n1:=yes (hbt.2 ⟨⟨u1,u2⟩,.inr ⟨u4,u5⟩⟩)
        simp[hz,u2,u4',u5,e,hk,ho,ej,hj,hu,w3,n1,na,sd]
       ·have n1:=no fun h=>(hbt.1 h).2.elim u3 fun h=>u5 h.2
        simp[hz,u2,u3,u4',u5,e,hk,ho,ej,hj,hu,w3,n1,na,sd]
      ·have u4':¬ (j:Int)<k:=by omega
       have n1:=no fun h=>(hbt.1 h).2.elim u3 fun h=>u4 h.1
       simp[hz,u2,u3,u4',e,hk,ho,ej,hj,hu,w3,n1,na,sd]
     ·cases hbb:(base&&nbB L k L.length) with
      | false =>
       obtain ⟨k1,k2⟩:=Rv hgk (S:=S) fun h=>by
        have b1:=hbase.2 ⟨h.2.1,h.2.2.1,h.2.2.2⟩
        have b2:=hball.2 h.1
        rw[b1,b2] at hbb
        cases hbb
       simp[wG,na,sd,hbb,sr,ss,w1,aj,k1,k2]
      | true =>
       obtain ⟨b1,b2⟩:base=true∧nbB L k L.length=true:=by simpa using hbb
       obtain ⟨h1,h2,h3⟩:=hbase.1 b1
       obtain ⟨k1,k2⟩:=UM hgk (S:=S) ⟨hball.1 b2,h1,h2,h3⟩
       simp[wG,na,sd,hbb,sr,e,hk,ho,w2,D6]
       refine ve (by decide) rfl ?_ ?_ (by simp) ?_
       ·simp only[sZ]; omega
       ·simp only[sZ]; omega
       have hro:ofR (vR S L k)++[oC {b:=o.b,w:=o.w,v:=o.v-reK S o}]=ofR (vR S L (k+1)):=by rw[k2,ew]; rfl
       rw[hro]
       simp[-cellsOf,QY,tG (show ¬ 237=232 by decide),tG (show ¬ 105=232 by decide)]
       refine ve (by decide) rfl ?_ ?_ (by simp) ?_
       ·simp only[uz]; omega
       ·simp only[uz]; omega
       have hri:clR (xS S L k)++[[iv k]]=clR (xS S L (k+1)):=by rw[k1,Q1]; rfl
       rw[hri]
       simp[-cellsOf,ss,tG (show ¬ 232=237 by decide),tG (show ¬ 105=237 by decide),w1,aj,sd]
    simp[sw,aj,sd,e,hk,ho,q8]
    refine ze kr (by simp) (by simp) ?_
    by_cases r1:reK S o<o.v
    rotate_left
    ·have kk:=key false ⟨fun h=>(by cases h),fun h=>absurd h.1 r1⟩
     simp[na,sd] at kk
     simp[e,hk,ho,r1]
     exact kk
    simp[e,hk,ho,r1,q8,Ub]
    rw[sO hkd hgd hAd xf xf]
    by_cases r2:mP o.w
    ·have kk:=key false ⟨fun h=>(by cases h),fun h=>absurd r2 h.2.1⟩
     simp[na,sd] at kk
     have hzz:decide (bI o.w=bI (fun _=>0))=true:=by rw[hz]; exact decide_eq_true r2
     simp[hzz]
     exact kk
    have hzz:decide (bI o.w=bI (fun _=>0))=false:=by rw[hz]; exact decide_eq_false r2
    simp[hzz,e,hk,ho,q8]
    refine ze (Gp (bd:=o.b) (w:=o.w) hS c1) (by simp) (by simp) ?_
    have kk:=key (decide (alE S o.b o.w=0)) ⟨fun h=>⟨r1,r2,of_decide_eq_true h⟩,fun h=>decide_eq_true h.2.2⟩
    simp[na,sd,JT] at kk
    simp
    exact kk
   ·obtain ⟨l1,l2⟩:=jE (S:=S) (L:=L) L.length
    by_cases c3:160<(xS S L L.length).length
    ·have c3':(160:Int)<(xS S L L.length).length:=by omega
     have he:wb S L=3:=by unfold wb; rw[if_neg fun h=>h c1,if_neg c2,if_neg fun h=>h hF,if_pos c3]
     rw[he] at bad
     simp[-vI,g9,Sx,sw,aj,sd,sv,l2,c3',yN,rg,he,tY]
     exact bad
    have c3':¬ (160:Int)<(xS S L L.length).length:=by omega
    have he:wb S L=0:=by unfold wb; rw[if_neg fun h=>h c1,if_neg c2,if_neg fun h=>h hF,if_neg c3]
    simp[-vI,g9,Sx,sw,aj,sd,sv,l2,c3',ZE,ZF,yN,rg,he]
    exact nk (zH QX (zH (uB wX) (zH AV.imp.refl vu)))
end
def kE (a b:Int):Int:=if a<b then -1 else if b<a then 1 else 0
def cmpL:List Int→List Int→Int
 | [],[]=>0
 | [],_::_=>-1
 | _::_,[]=>1
 | a::l,b::m=>if kE a b=0 then cmpL l m else kE a b
theorem Fp {a:Int}:zf Try.prog v6 [iv a] (bv false):=by
 refine zC gB (by simp) ?_
 simp[pQ,p8]
theorem DT {a b:Int}:zf Try.prog uH [iv a,iv b] (iv (kE a b)):=by
 refine zC ke (by simp) ?_
 simp[rN]
 refine ze (Fp (a:=a)) (by simp) (by simp) ?_
 simp
 refine ze (Fp (a:=b)) (by simp) (by simp) ?_
 unfold kE
 by_cases c1:a<b
 ·simp[c1,wY]
 ·by_cases c2:b<a
  ·simp[c1,c2,wY]
  ·simp[c1,c2,wY]
section
variable {a b:List Int} {k:Nat}
theorem jh (h:k<a.length):a.drop k=a[k]::a.drop (k+1):=List.drop_eq_getElem_cons h
theorem U9 (ha:k<a.length) (hb:k<b.length):cmpL (a.drop k) (b.drop k)=if kE a[k] b[k]=0 then cmpL (a.drop (k+1)) (b.drop (k+1)) else kE a[k] b[k]:=by
 rw[jh ha,jh hb,cmpL]
theorem So (ha:k<a.length) (hb:b.length≤k):cmpL (a.drop k) (b.drop k)=1:=by
 rw[jh ha,List.drop_of_length_le hb,cmpL]
theorem Sp (hb:a.length≤b.length):cmpL (a.drop a.length) (b.drop a.length)=if a.length<b.length then -1 else 0:=by
 rw[List.drop_of_length_le (Nat.le_refl _)]
 by_cases h:a.length<b.length
 ·rw[jh h,if_pos h,cmpL]
 ·rw[List.drop_of_length_le (by omega),if_neg h,cmpL]
def YI (a b:List Int) (k:Nat):St:={env:=[(0,clA a),(1,clA b),(9,clA a),(10,iv a.length),(11,iv k)],sto:=[]}
theorem Cq (ha:a.length≤1000000) (_hb:b.length≤1000000):zf Try.prog xH [clA a,clA b] (iv (cmpL a b)):=by
 refine zC se (by simp) ?_
 simp[wH]
 refine zz (YI a b) (fun k=>k≤b.length∧cmpL a b=cmpL (a.drop k) (b.drop k)) a.length (by simp[YI]) ⟨by omega,rfl⟩ (fun k hk hI=>?_) (fun hI=>?_)
 ·have e:(k:Int)<a.length:=by omega
  have w1:=zo (k:=k) (by omega)
  by_cases c1:k<b.length
  ·have e2:¬ (b.length:Int)≤k:=by omega
   have hs:=U9 hk c1
   simp[yz,YI,e,hk,e2,c1]
   refine ze (DT (a:=a[k]) (b:=b[k])) (by simp) (by simp) ?_
   by_cases c2:kE a[k] b[k]=0
   ·rw[if_pos c2] at hs
    have hx:cmpL a b=cmpL (a.drop (k+1)) (b.drop (k+1)):=by rw[hI.2,hs]
    simp[c2,w1,YI,hx]
    omega
   ·rw[if_neg c2] at hs
    rw[hI.2,hs]
    simp[c2,yp]
  ·have e2:(b.length:Int)≤k:=by omega
   rw[hI.2,So hk (by omega)]
   simp[yz,YI,e,hk,e2,yp]
 ·rw[hI.2,Sp hI.1]
  by_cases c:a.length<b.length
  ·simp[yz,YI,wc,c,yp]
  ·simp[yz,YI,wc,c,yp]
theorem Cf (ha:a.length≤1000000) (hb:b.length≤1000000):zf Try.prog yL [clA a,clA b] (iv (cmpL a b)):=by
 refine zC kR (by simp) ?_
 simp[qJ]
 refine ze (Cq ha hb) (by simp) (by simp) ?_
 simp[qQ]
end
section
variable {a b:List Int} {k:Nat}
def ak (a b:List Int) (k:Nat):St:={env:=[(0,clA a),(1,clA b),(5,iv k)],sto:=[]}
theorem Ja (h:min a.length b.length=k):cmpL (a.drop k) (b.drop k)=if a.length<b.length then -1 else if b.length<a.length then 1 else 0:=by
 by_cases c:a.length≤b.length
 ·have e:k=a.length:=by omega
  subst e
  rw[Sp c]
  by_cases c2:a.length<b.length
  ·rw[if_pos c2,if_pos c2]
  ·rw[if_neg c2,if_neg c2,if_neg (by omega)]
 ·have e:k=b.length:=by omega
  subst e
  rw[So (by omega) (Nat.le_refl _),if_neg (by omega),if_pos (by omega)]
theorem aa (ha:a.length≤1000000) (_hb:b.length≤1000000):zf Try.prog z4 [clA a,clA b] (iv (cmpL a b)):=by
 refine zC fA (by simp) ?_
 simp[mg]
 obtain ⟨N,hN⟩:∃ N,min a.length b.length=N:=⟨_,rfl⟩
 refine zz (ak a b) (fun k=>cmpL a b=cmpL (a.drop k) (b.drop k)) N (by simp[ak]) rfl (fun k hk hI=>?_) (fun hI=>?_)
 ·have h1:k<a.length:=by omega
  have h2:k<b.length:=by omega
  have e1:(k:Int)<a.length:=by omega
  have e2:(k:Int)<b.length:=by omega
  have w1:=zo (k:=k) (by omega)
  have hs:=U9 h1 h2
  unfold kE at hs
  by_cases c1:a[k]<b[k]
  ·rw[hI,hs]
   simp[xB,ak,e1,e2,h1,h2,c1,ws]
  ·by_cases c2:b[k]<a[k]
   ·rw[hI,hs]
    simp[xB,ak,e1,e2,h1,h2,c1,c2,ws]
   ·have hx:cmpL a b=cmpL (a.drop (k+1)) (b.drop (k+1)):=by rw[hI,hs]; simp[c1,c2]
    simp[xB,ak,e1,e2,h1,h2,c1,c2,w1,hx]
 ·rw[hI,Ja hN]
  by_cases c1:a.length<b.length
  ·have e1:¬ (N:Int)<a.length:=by omega
   simp[xB,ak,uR,e1,c1,ws]
  ·by_cases c2:b.length<a.length
   ·have e1:(N:Int)<a.length:=by omega
    have e2:¬ (N:Int)<b.length:=by omega
    simp[xB,ak,uR,e1,e2,c1,c2,ws]
   ·have e1:¬ (N:Int)<a.length:=by omega
    simp[xB,ak,uR,e1,c1,c2,ws]
end
theorem K9 {a b:Int}:(kE a b=0↔a=b)∧(kE a b<0↔a<b)∧(0<kE a b↔b<a):=by
 unfold kE
 split
 ·exact ⟨by omega,by omega,by omega⟩
 ·split
  ·exact ⟨by omega,by omega,by omega⟩
  ·exact ⟨by omega,by omega,by omega⟩
section
variable {P:Pb} {r n:Nat} {o:Of} {L:List Of} {ch:List Int}
noncomputable def YK (P:Pb) (ch:List Int) (k:Nat):St:={env:=[(2,.ptr 2 0),(6,apc 34 8 (ofR (P.pick (ch.take k)))),(7,iv (prv ch k)),(10,clA ch),(11,iv ch.length),(12,iv k)],sto:=[(2,.var (pbC P))]}
theorem Rg (hk:P.of.length≤1000000) (hl:ch.length<4611686018427387904):zf Try.prog v8 [.agg (pbC P),clA ch] (.tuple [if okP P.of.length ch then ofA (P.pick ch) else zX,bv (decide (okP P.of.length ch))]):=by
 refine uD gC (by simp) ?_
 simp[pS]
 have h0:apc 34 8 (ofR (P.pick (ch.take 0)))=.list 0 .full []:=by rw[List.take_zero]; exact QV rfl
 refine zz (YK P ch) (fun k=>∀ q,q<k→okI P.of.length ch q) ch.length (by simp[YK,prv,Pb.pick,ofR,apc]) (fun q hq=>by omega) (fun k hk' hI=>?_) (fun hI=>?_)
 ·have e:(k:Int)<ch.length:=by omega
  have w1:=zo (k:=k) (by omega)
  have hp:=Ri hI
  have hg:=getD_lt hk'
  by_cases d:okI P.of.length ch k
  ·have d':=d
   unfold okI at d'
   rw[hg] at d'
   obtain ⟨b,hb,hbn⟩:=Pj hI d
   rw[hg] at hb
   have hlen:=UD (n:=P.of.length) (ch:=ch.take (k+1)) (fun q hq=>by
    have hq:q<k+1:=by simp at hq; omega
    have e1:∀ j,j<k+1→(ch.take (k+1)).getD j 0=ch.getD j 0:=fun j hj=>by
     rw[List.getD_eq_getElem?_getD,List.getD_eq_getElem?_getD,List.getElem?_take,if_pos hj]
    have:=if hqk:q=k then hqk▸d else hI q (by omega)
    unfold okI at this ⊢
    rw[e1 q hq]
    cases q with
    | zero=>exact this
    | succ q=>simp only[prv] at this ⊢; rw[e1 q (by omega)]; exact this)
   have hkn:k+1≤P.of.length:=by simpa [List.length_take,Nat.min_eq_left (show k+1≤ch.length by omega)] using hlen
   rw[hb] at d'
   have b1:¬ (b:Int)≤prv ch k:=by omega
   have b2:(b:Int)<P.of.length:=by omega
   have b3:¬ (P.of.length:Int)≤b:=by omega
   have hat:P.of[b]=P.at ch[k]:=by rw[hb,CM hbn]
   have hpr:prv ch (k+1)=b:=by simp only[prv]; rw[hg,hb]
   simp[wB,YK,e,hk',hb,b1,b2,b3,hbn]
   refine ve (by decide) rfl ?_ ?_ (by simp) ?_
   ·simp only[sZ,dF,List.length_take]; omega
   ·simp only[sZ,dF,List.length_take]; omega
   ·have hro:ofR (P.pick (ch.take k))++[oC P.of[b]]=ofR (P.pick (ch.take (k+1))):=by rw[LC hk',ew,hat]; rfl
    rw[hro]
    simp[w1,hpr,YK]
    exact fun q hq=>by
     by_cases eq:q=k
     ·subst eq; exact d
     ·exact hI q (by omega)
  ·have hf:¬ okP P.of.length ch:=fun h=>d (h k hk')
   unfold okI at d
   rw[hg] at d
   by_cases b1:ch[k]≤prv ch k
   ·simp[wB,YK,e,hk',b1,hf,ul]
    exact AV.imp.refl
   ·have b2:(P.of.length:Int)≤ch[k]:=by omega
    simp[wB,YK,e,hk',b1,b2,hf,ul]
    exact AV.imp.refl
 ·have hf:okP P.of.length ch:=hI
  simp[wB,YK,hf,mU,ul]
  exact AV.imp_tuple2 (uB wX)
theorem dn (hn:P.cl.length≤1000) (hk:P.of.length≤1000000) (hl:ch.length<4611686018427387904):zf Try.prog z9 [.agg (pbC P),clA ch] (iv (P.feaE ch)):=by
 refine zC kh (by simp) ?_
 simp[rT]
 refine ze (jA hn hk) (by simp) (by simp) ?_
 unfold Pb.feaE
 by_cases c1:P.chk=0
 ·rw[if_neg (fun h:P.chk≠0=>h c1)]
  simp[c1]
  refine ze (Rg hk hl) (by simp) (by simp) ?_
  by_cases c2:okP P.of.length ch
  ·have hG:=j6 c1
   have hm:=Rf c2
   simp[c2]
   have hP:∀ o∈P.pick ch,P.offE o=0:=fun o ho=>hG.off o (hm o ho)
   refine ze (SE (P:=P) (L:=P.pick ch) hn (by rw[dF]; have:=UD c2; have:=hG.k; omega) (fun o ho=>(uZ (tW (hP o ho)).1).1) (fun o ho=>(uZ (tW (hP o ho)).1).2.2)) (by simp) (by simp) ?_
   by_cases c3:P.fits (P.pick ch)
   ·simp[c3,x9]
   ·simp[c3,x9]
  ·simp[c2,x9]
 ·rw[if_pos c1]
  simp[c1,x9]
end
section
variable {P:Pb} {ch:List Int} {L:List Of}
def NX (L:List Of) (k:Nat):St:={env:=[(7,iv (th (fun o=>o.v) L k)),(23,ofA L),(24,iv L.length),(25,iv k)],sto:=[]}
theorem Df (hn:P.cl.length≤1000) (hk:P.of.length≤1000000) (hl:ch.length<4611686018427387904):zf Try.prog vd [.agg (pbC P),clA ch] (iv (P.valE ch)):=by
 refine zC fy (by simp) ?_
 simp[n7]
 refine ze (Rg hk hl) (by simp) (by simp) ?_
 unfold Pb.valE
 by_cases c2:okP P.of.length ch
 ·simp[c2]
  refine ze (jA hn hk) (by simp) (by simp) ?_
  by_cases c1:P.chk=0
  ·have hG:=j6 c1
   have hm:=Rf c2
   have hP:∀ o∈P.pick ch,0≤o.v∧o.v≤1000000:=fun o ho=>by have:=(uZ (tW (hG.off o (hm o ho))).1).2.1; omega
   have hl2:(P.pick ch).length≤160:=by rw[dF]; have:=UD c2; have:=hG.k; omega
   simp[c1]
   generalize P.pick ch=L at *
   refine zz (NX L) (fun _=>True) L.length (by simp[NX,bT]) trivial (fun k hk' _=>?_) (fun _=>?_)
   ·have e:(k:Int)<L.length:=by omega
    have hg:L[k]?=some L[k]:=by simp[hk']
    have w1:=zo (k:=k) (by omega)
    obtain ⟨p1,p2⟩:=mw (f:=fun o:Of=>o.v) hP k (by omega)
    have p3:=hP _ (List.getElem_mem hk')
    have w3:IntKind.i64.wrap (th (fun o=>o.v) L k+L[k].v)=th (fun o=>o.v) L k+L[k].v:=by rw[wrap64]<;>omega
    have hs:=fg (f:=fun o:Of=>o.v) hg
    simp[rU,NX,e,hk',w1,w3,hs]
   ·have hall:th (fun o=>o.v) L L.length=(L.map fun o=>o.v).sum:=dG
    simp[rU,NX,lY,hall,uW]
  ·simp[c1,uW]
 ·simp[c2,uW]
end
@[simp] theorem C7 {u:Of}:zx (oC u).tail 0 (some 6)=some (.agg (bC u.w)):=by rw[uU,yQ]; rfl
def pK (P:Pb):Nat:=if P.chk=0 then P.rows else 0
def gp (P:Pb) (r:Nat):List Int:=P.of.map (P.coef r)
section
variable {P:Pb} {r n:Nat} {o:Of} {L:List Of}
theorem Ps (hn:P.cl.length≤1000) (hk:P.of.length≤1000000):zf Try.prog x4 [.agg (pbC P)] (iv (pK P)):=by
 refine zC eF (by simp) ?_
 simp[m5]
 refine ze (jA hn hk) (by simp) (by simp) ?_
 unfold pK
 by_cases c1:P.chk=0
 ·simp[c1]
  refine ze (Rt hn) (by simp) (by simp) ?_
  simp[qw]
 ·simp[c1,qw]
noncomputable def RI (P:Pb) (r:Int) (q k:Nat):St:={env:=[(1,iv r),(4,apc 32 1 (clR ((gp P q).take k))),(6,.ptr 6 0),(20,ofA P.of),(21,iv P.of.length),(22,iv k)],sto:=[(6,.var (pbC P))]}
@[simp] theorem YB:(gp P r).length=P.of.length:=by simp[gp]
theorem LQ {k:Nat} (h:k<P.of.length):clR ((gp P r).take k)++[[iv (P.coef r P.of[k])]]=clR ((gp P r).take (k+1)):=by
 rw[sC (l:=gp P r) (o:=P.coef r P.of[k]) (by simp[gp,h])]
 simp[clR]
theorem Gz {k:Nat} (h:P.of.length≤k):(gp P r).take k=gp P r:=List.take_of_length_le (by rw[YB]; exact h)
def NB (P:Pb) (r:Int):AV:=.tuple [if 0≤r∧r<pK P then clA (gp P r.toNat) else zX,iv (if 0≤r∧r<pK P then P.bnd r.toNat else 0)]
theorem Bu {r:Int} (hn:P.cl.length≤1000) (hk:P.of.length≤1000000):zf Try.prog vp [.agg (pbC P),iv r] (NB P r):=by
 refine uD cr (by simp) ?_
 unfold NB
 by_cases b1:r<0
 ·have hc:¬ (0≤r∧r<pK P):=by omega
  simp[pz,b1,hc,sR]
  exact AV.imp.refl
 ·simp[pz,b1]
  refine ze (Ps hn hk) (by simp) (by simp) ?_
  by_cases b2:(pK P:Int)≤r
  ·have hc:¬ (0≤r∧r<pK P):=by omega
   simp[b2,hc,sR]
   exact AV.imp.refl
  ·have hc:0≤r∧r<pK P:=by omega
   obtain ⟨q,rfl⟩:∃ q:Nat,r=q:=⟨r.toNat,by omega⟩
   have hG:P.Good:=by
    refine j6 ?_
    unfold pK at hc
    split at hc
    ·assumption
    ·omega
   have hq:q<P.rows:=by
    unfold pK at hc
    split at hc<;>omega
   simp[b2,hc]
   refine zz (RI P q q) (fun _=>True) P.of.length (by simp[RI]) trivial (fun k hk' _=>?_) (fun _=>?_)
   ·have e:(k:Int)<P.of.length:=by omega
    have w1:=zo (k:=k) (by omega)
    have hm:P.of[k]∈P.of:=List.getElem_mem hk'
    have hs:=uZ (tW (hG.off _ hm)).1
    simp[pR,RI,e,hk']
    refine ze (Xd (P:=P) (r:=q) hn hs.1 hq) (by simp) (by simp) ?_
    simp
    refine ve (by decide) rfl ?_ ?_ (by simp) ?_
    ·simp only[uz,YB,List.length_take]; omega
    ·simp only[uz,YB,List.length_take]; omega
    ·rw[LQ hk']
     simp[w1,RI]
   ·simp[pR,RI,jP,Gz]
    refine ze (Uc (P:=P) (r:=q) hn hq) (by simp) (by simp) ?_
    simp[sR]
    exact AV.imp_tuple2 (uB wX)
end
open Go.Dig
def RK (m:Am.Mode) (a:List Nat) (k:Nat):St:={env:=[(0,nl m a),(3,iv ((a.length-k:Nat):Int))],sto:=[]}
theorem wR {m:Am.Mode} {a:List Nat} (ha:ok a) (hn:a.length<1099511627776):zf Try.prog wE [nl m a] (nD (val a)):=by
 obtain ⟨h1,h2,h3,h4⟩:=M7 ha
 refine uD RW (by simp) ?_
 simp[Z1]
 generalize hT:(zr (val a)).length=T at h1 h2 h3 h4
 refine xt (RK m a) (a.length-T) ?_ (fun k hk=>?_) ?_
 ·simp[RK]
 ·have hp:0<a.length-k:=by omega
  have hp2:k<a.length:=by omega
  have w:IntKind.i64.wrap (((a.length-k:Nat):Int)-1)=((a.length-(k+1):Nat):Int):=by rw[wrap64]<;>omega
  have hlt:a.length-(k+1)<a.length:=by omega
  have hz:=h2 (a.length-(k+1)) hlt (by omega)
  simp[lG,RK,hp,w,hlt,hz]
 ·have e:a.length-(a.length-T)=T:=by omega
  rcases T with _ | T
  ·have h5:zr (val a)=[]:=by rw[← h4]; rfl
   simp[lG,RK,fO,dJ]
   rw[show nD (val a)=.list 1 .plain [] by simp only[nD,nl,zG,h5,List.map_nil]]
   exact xD
  ·have w:IntKind.i64.wrap (((T+1:Nat):Int)-1)=(T:Int):=by rw[wrap64]<;>omega
   have hz:=h3 (by omega) (by omega)
   simp only[Nat.add_sub_cancel] at hz
   have hlt:T<a.length:=by omega
   have ht:List.take (T+1) (zG a)=zG (zr (val a)):=by rw[← h4]; simp
   have en:((T:Int)+1).toNat=T+1:=by omega
   have e0:(0:Int)≤(T:Int)+1:=by omega
   have e1:(T:Int)+1≤a.length:=by omega
   simp at w
   simp[lG,RK,e,w,hlt,hz,e0,e1,en,fO,dJ]
   first | (rw[ht]; exact xD) | (simp only[← List.map_take]; rw[h4]; exact xD)
theorem Qb (n:Int):IntKind.u64.wrap n=n%18446744073709551616:=by simp[IntKind.wrap,IntKind.bits,IntKind.signed]
abbrev yk (n:Nat):AV:=.val (.int .u64 (n:Int))
theorem Zk (n:Nat):(n:Int).fdiv (2^min 32 IntKind.u64.bits)=((n/B:Nat):Int):=by
 have:min 32 IntKind.u64.bits=32:=rfl
 rw[this,Int.fdiv_eq_ediv_of_nonneg _ (by decide),xk]
 rfl
theorem x6 {a:List Nat} {k d:Nat}:(zG a).set k [uv d]=zG (a.set k d):=by simp[List.map_set]
theorem qd {b:List Nat} {k:Nat} (h:b.length≤k):val (b.take k)=val b:=by rw[List.take_of_length_le h]
theorem ZW {a:List Nat} (h:ok a) (k:Nat):val (a.take k)<B^k:=w9 (tX h k) (by simp; omega)
def low (a b:List Nat) (k:Nat):Nat:=val (a.take k)+val (b.take k)
def car (a b:List Nat) (k:Nat):Nat:=low a b k/B^k
theorem Y8 {a b:List Nat} (ha:ok a) (hb:ok b) (k:Nat):car a b k≤1:=by
 have h1:=ZW ha k
 have h2:=ZW hb k
 have:low a b k<2*B^k:=by unfold low; omega
 have:=Nat.div_lt_of_lt_mul (Nat.mul_comm 2 _▸this)
 unfold car
 omega
theorem Yi {a b:List Nat}:car a b 0=0:=by simp[car,low,val]
theorem Tp {a b:List Nat} {k t R:Nat} (h:low a b (k+1)=low a b k+B^k*t) (hs:val a+val b=low a b (k+1)+B^(k+1)*R) :
  (val a+val b)/B^k%B=(car a b k+t)%B∧car a b (k+1)=(car a b k+t)/B:=by
 constructor
 ·rw[hs,h,Tc]; rfl
 ·unfold car; rw[h,Tb]
theorem JP (a b:List Nat) (k:Nat) (ha:k≤a.length) (hb:k≤b.length∨b.length≤k):∃ R,val a+val b=low a b k+B^k*R:=by
 have e1:=vW a k
 rw[Nat.min_eq_left ha] at e1
 rcases hb with hb | hb
 ·have e2:=vW b k
  rw[Nat.min_eq_left hb] at e2
  exact ⟨val (a.drop k)+val (b.drop k),by unfold low; rw[Nat.mul_add]; omega⟩
 ·exact ⟨val (a.drop k),by unfold low; rw[qd hb]; omega⟩
theorem X8 {a b:List Nat} {k:Nat} (hk:k<a.length) (hb:k<b.length∨b.length≤k):∃ t,t=car a b k+(a[k]+(b[k]?.getD 0))∧(val a+val b)/B^k%B=t%B∧car a b (k+1)=t/B:=by
 refine ⟨_,rfl,?_⟩
 obtain ⟨R,hR⟩:=JP a b (k+1) (by omega) (by omega)
 rcases hb with hb | hb
 ·rw[List.getElem?_eq_getElem hb,Option.getD_some]
  exact Tp (by unfold low; rw[vx hk,vx hb,Nat.mul_add]; omega) hR
 ·rw[List.getElem?_eq_none hb,Option.getD_none]
  exact Tp (by unfold low; rw[vx hk,qd hb,qd (show b.length≤k+1 by omega)]; simp; omega) hR
def lM (m1 m2:Am.Mode) (a b:List Nat) (k:Nat):St :=
 {env:=[(0,nl m1 a),(1,nl m2 b),(5,.sl 19 1 0 (a.length+1)),(6,yk (car a b k)),(21,iv a.length),(22,iv k)],sto:=[(19,.arr 1 (zG (vK (a.length+1) k (val a+val b))))]}
theorem Sd {m1 m2:Am.Mode} {a b:List Nat} (ha:ok a) (hb:ok b) (hl:b.length≤a.length) (hn:a.length<1099511627775) :
  awp Try.prog (.loop nT) (lM m1 m2 a b 0) (wA 0 (rk Try.prog da (fZ Zh (nD (val a+val b))))):=by
 have hS:val a+val b<B^(a.length+1):=by
  have h1:=ki ha
  have h2:=w9 hb hl
  rw[Nat.pow_succ,xk] at *
  omega
 refine zz (lM m1 m2 a b) (fun _=>True) a.length (by simp[lM]) trivial (fun k hk _=>?_) (fun _=>?_)
 ·have e:(k:Int)<a.length:=by omega
  have hc:=Y8 ha hb k
  have hak:=vG ha hk
  have hfl:=bB (n:=a.length+1) (k:=k) (S:=val a+val b) (by omega)
  have hfk:k<(vK (a.length+1) k (val a+val b)).length:=by omega
  have hset:=bD (n:=a.length+1) (k:=k) (S:=val a+val b) (by omega)
  have e1:IntKind.u64.wrap ((a[k]:Nat):Int)=(a[k]:Nat):=w64 (by rw[xk] at hak; omega)
  obtain ⟨t,ht,g1,g2⟩:=X8 (a:=a) (b:=b) hk (by omega)
  rw[g1] at hset
  obtain ⟨d,hd⟩:∃ d,t%B=d:=⟨_,rfl⟩
  obtain ⟨q,hq⟩:∃ q,t/B=q:=⟨_,rfl⟩
  have f1:IntKind.u32.wrap (t:Int)=(d:Int):=by rw[w32,hd]
  have f2:(t:Int).fdiv (2^min 32 IntKind.u64.bits)=(q:Int):=by rw[Zk,hq]
  rw[hd] at hset
  have hset':(zG (vK (a.length+1) k (val a+val b))).set k [uv d]=zG (vK (a.length+1) (k+1) (val a+val b)):=by rw[x6,hset]
  rw[hq] at g2
  rw[xk] at hak
  have e4:IntKind.u64.wrap ((a[k]:Int)+(car a b k:Int))=((a[k]:Int)+(car a b k:Int)):=by rw[lw]<;>omega
  by_cases hkb:k<b.length
  ·have e2:(k:Int)<b.length:=by omega
   have hbk:=vG hb hkb
   rw[xk] at hbk
   rw[List.getElem?_eq_getElem hkb,Option.getD_some] at ht
   have e3:IntKind.u64.wrap ((b[k]:Nat):Int)=(b[k]:Nat):=w64 (by omega)
   have e5:IntKind.u64.wrap ((a[k]:Int)+(car a b k:Int)+(b[k]:Int))=(t:Int):=by rw[lw]<;>omega
   simp[nT,lM,e,e2,hk,hkb,e1,e3,e4,e5,wI,hfk,splice,f1,f2,hset',g2,zo (show k<4611686018427387904 by omega)]
   omega
  ·have e2:¬ (k:Int)<b.length:=by omega
   rw[List.getElem?_eq_none (by omega),Option.getD_none] at ht
   have e5:(a[k]:Int)+(car a b k:Int)=(t:Int):=by omega
   rw[e5] at e4
   simp[nT,lM,e,e2,hk,e1,e5,e4,wI,hfk,splice,f1,f2,hset',g2,zo (show k<4611686018427387904 by omega)]
   omega
 ·have hfl:=bB (n:=a.length+1) (k:=a.length) (S:=val a+val b) (by omega)
  have hfk:a.length<(vK (a.length+1) a.length (val a+val b)).length:=by omega
  have hset:=bD (n:=a.length+1) (k:=a.length) (S:=val a+val b) (by omega)
  have hc:=Y8 ha hb a.length
  have hcl:(val a+val b)/B^a.length%B=car a b a.length:=by
   have h1:car a b a.length=(val a+val b)/B^a.length:=by
    unfold car low; rw[qd (Nat.le_refl _),qd hl]
   rw[← h1,Nat.mod_eq_of_lt (by rw[xk]; omega)]
  rw[hcl] at hset
  have hset':(zG (vK (a.length+1) a.length (val a+val b))).set a.length [uv (car a b a.length)]=zG (zu (a.length+1) (val a+val b)):=by rw[x6,hset,Ti]
  have f1:IntKind.u32.wrap (car a b a.length:Int)=(car a b a.length:Int):=IntWalk.u32_in _ (by omega)
  have hle:a.length+1≤(zu (a.length+1) (val a+val b)).length:=by rw[zy]; exact Nat.le_refl _
  have htk:(zG (zu (a.length+1) (val a+val b))).take (a.length+1)=zG (zu (a.length+1) (val a+val b)):=List.take_of_length_le (by rw[List.length_map,zy]; exact Nat.le_refl _)
  have key:=wR (m:=.plain) (a:=zu (a.length+1) (val a+val b)) xE (by rw[zy]; omega)
  rw[y8 hS] at key
  simp[nT,lM,da,hfk,splice,f1,hset',qp,gc,htk,hle]
  refine ⟨by omega,?_⟩
  refine ze key (by simp) (by simp) ?_
  simp[Zh]
  exact AV.imp.refl
theorem cT {m1 m2:Am.Mode} {a b:List Nat} (ha:ok a) (hb:ok b) (hna:a.length<1099511627775) (hnb:b.length<1099511627775):zf Try.prog jv [nl m1 a,nl m2 b] (nD (val a+val b)):=by
 refine uD Px (by simp) ?_
 by_cases h:a.length<b.length
 ·have h':(a.length:Int)<b.length:=by omega
  have w:IntKind.i64.wrap ((b.length:Int)+1)=(b.length:Int)+1:=wrap64 (by omega) (by omega)
  have key:=Sd (m1:=m2) (m2:=m1) hb ha (by omega) (by omega)
  rw[Nat.add_comm (val b)] at key
  have e1:((b.length:Int)+1).toNat=b.length+1:=by omega
  simp[aT,h',w,eMk,e1]
  refine ⟨by omega,by omega,by omega,?_⟩
  have e2:lM m2 m1 b a 0={env:=[(0,nl m2 b),(1,nl m1 a),(5,.sl 19 1 0 (b.length+1)),(6,yk 0),(21,iv b.length),(22,iv 0)],sto:=[(19,.arr 1 (List.replicate (b.length+1) [uv 0]))]}:=by
   simp[lM,Yi,dq]
  rw[e2] at key
  exact key
 ·have h':¬ (a.length:Int)<b.length:=by omega
  have w:IntKind.i64.wrap ((a.length:Int)+1)=(a.length:Int)+1:=wrap64 (by omega) (by omega)
  have key:=Sd (m1:=m1) (m2:=m2) ha hb (by omega) (by omega)
  have e1:((a.length:Int)+1).toNat=a.length+1:=by omega
  simp[aT,h',w,eMk,e1]
  refine ⟨by omega,by omega,by omega,?_⟩
  have e2:lM m1 m2 a b 0={env:=[(0,nl m1 a),(1,nl m2 b),(5,.sl 19 1 0 (a.length+1)),(6,yk 0),(21,iv a.length),(22,iv 0)],sto:=[(19,.arr 1 (List.replicate (a.length+1) [uv 0]))]}:=by
   simp[lM,Yi,dq]
  rw[e2] at key
  exact key
def pZ (x y:Nat):Int:=if x<y then -1 else if y<x then 1 else 0
def Zm (x y:Nat) (k:Nat):St:={env:=[(0,nD x),(1,nD y),(22,iv (zr x).length),(23,iv k)],sto:=[]}
theorem MA {m1 m2:Am.Mode} {a b:List Nat} (ha:ok a) (hb:ok b) (hna:a.length<1099511627776) (hnb:b.length<1099511627776):zf Try.prog aM [nl m1 a,nl m2 b] (iv (pZ (val a) (val b))):=by
 refine zC Py (by simp) ?_
 simp[Ud]
 refine ze (wR (m:=stm m1) ha hna) (by simp[dU]) (by simp) ?_
 simp
 refine ze (wR (m:=stm m2) hb hnb) (by simp[dU]) (by simp) ?_
 have lx:=vZ ha
 have ly:=vZ hb
 generalize val a=x at *
 generalize val b=y at *
 by_cases hl:(zr x).length=(zr y).length
 ·have hl':(((zr x).length:Nat):Int)=((zr y).length:Int):=by omega
  simp[hl']
  refine zz (Zm x y) (fun k=>(zr x).drop ((zr x).length-k)=(zr y).drop ((zr x).length-k)) (zr x).length (by simp[Zm,hl]) (by simp[hl]) (fun k hk hi=>?_) (fun hi=>?_)
  ·have e:(k:Int)<(zr x).length:=by omega
   have w:IntKind.i64.wrap (((zr x).length:Int)-1-k)=(((zr x).length-1-k:Nat):Int):=by rw[wrap64]<;>omega
   have w0:IntKind.i64.wrap (((zr x).length:Int)-1)=((zr x).length:Int)-1:=by rw[wrap64]<;>omega
   obtain ⟨j,hj⟩:∃ j,(zr x).length-1-k=j:=⟨_,rfl⟩
   rw[hj] at w
   have hjx:j<(zr x).length:=by omega
   have hjy:j<(zr y).length:=by omega
   have ejx:(j:Int)<(zr x).length:=by omega
   have ejy:(j:Int)<(zr y).length:=by omega
   have hd:(zr x).drop (j+1)=(zr y).drop (j+1):=by
    have:j+1=(zr x).length-k:=by omega
    rw[this]; exact hi
   rcases Nat.lt_trichotomy (zr x)[j] (zr y)[j] with h | h | h
   ·have hlt:=Zz (y4 x) (y4 y) hl hjx hd h
    rw[yb,yb] at hlt
    have hc:pZ x y=-1:=by simp[pZ,hlt]
    simp[nU,Zm,e,w0,w,hjx,hjy,ejx,ejy,h,ln,hc]
   ·have hnext:(zr x).drop ((zr x).length-(k+1))=(zr y).drop ((zr x).length-(k+1)):=by
     have:(zr x).length-(k+1)=j:=by omega
     rw[this,List.drop_eq_getElem_cons hjx,List.drop_eq_getElem_cons hjy,h,hd]
    simp[nU,Zm,e,w0,w,hjx,hjy,ejx,ejy,h,zo (show k<4611686018427387904 by omega),hnext]
   ·have hlt:=Zz (y4 y) (y4 x) hl.symm hjy hd.symm h
    rw[yb,yb] at hlt
    have hn:¬ (zr x)[j]<(zr y)[j]:=by omega
    have hc:pZ x y=1:=by
     have:¬ x<y:=by omega
     simp[pZ,hlt,this]
    simp[nU,Zm,e,w0,w,hjx,hjy,ejx,ejy,h,hn,ln,hc]
  ·have hxy:x=y:=Jh (by simpa using hi)
   have hc:pZ x y=0:=by simp[pZ,hxy]
   simp[nU,Zm,YY,ln,hc]
 ·have hl':¬ (((zr x).length:Nat):Int)=((zr y).length:Int):=by omega
  by_cases hlt:(zr x).length<(zr y).length
  ·have hlt':(((zr x).length:Nat):Int)<((zr y).length:Int):=by omega
   have hc:pZ x y=-1:=by simp[pZ,bK hlt]
   simp[hl',hlt',ln,hc]
  ·have hlt':¬ (((zr x).length:Nat):Int)<((zr y).length:Int):=by omega
   have h2:=bK (show (zr y).length<(zr x).length by omega)
   have hc:pZ x y=1:=by
    have:¬ x<y:=by omega
    simp[pZ,h2,this]
   simp[hl',hlt',ln,hc]
theorem CC (u v:Int):IntKind.u64.wrap (IntKind.u64.wrap u-v)=IntKind.u64.wrap (u-v):=by
 rw[Qb,Qb,Qb]; omega
theorem Fw (u:Int):IntKind.u32.wrap (IntKind.u64.wrap u)=u%4294967296:=by
 rw[Qb,IntKind.wrap_u32]; omega
theorem Fv {u:Int} (h1:-8589934592≤u) (h2:u<8589934592):(IntKind.u64.wrap u).fdiv (2^min 63 IntKind.u64.bits)=if u<0 then 1 else 0:=by
 have:min 63 IntKind.u64.bits=63:=rfl
 rw[this,Int.fdiv_eq_ediv_of_nonneg _ (by decide),Qb]
 have:(2:Int)^63=9223372036854775808:=by decide
 rw[this]
 split<;>omega
end Go.Proofs.Ytbmhibiljjnfiaa

namespace Go.Dig
theorem PC {o:List Nat} {j d:Nat} (hj:j<o.length):val (o.set j d)+B^j*o[j]=val o+B^j*d:=by
 induction o generalizing j with
 | nil=>simp at hj
 | cons x o ih =>
  rcases j with _ | j
  ·simp[val]; omega
  ·simp only[List.length_cons,Nat.add_lt_add_iff_right] at hj
   have:=ih hj
   simp only[List.set_cons_succ,val,List.getElem_cons_succ,Nat.pow_succ]
   have e1:B^j*B*o[j]=B*(B^j*o[j]):=by rw[Nat.mul_comm (B^j) B,Nat.mul_assoc]
   have e2:B^j*B*d=B*(B^j*d):=by rw[Nat.mul_comm (B^j) B,Nat.mul_assoc]
   rw[e1,e2]
   have e3:B*(val (o.set j d)+B^j*o[j])=B*(val o+B^j*d):=by rw[this]
   rw[Nat.mul_add,Nat.mul_add] at e3
   omega
theorem lh {a:List Nat} (h:ok a) (i:Nat):a.getD i 0<B:=by
 rw[List.getD_eq_getElem?_getD]
 by_cases hi:i<a.length
 ·rw[List.getElem?_eq_getElem hi]; exact vG h hi
 ·rw[List.getElem?_eq_none (by omega)]; exact yd
theorem Le {x y z w:Nat} (hx:x<B) (hy:y<B) (hz:z<B) (hw:w<B):x*y+z+w<B*B:=by
 have h:x*y≤(B-1)*(B-1):=Nat.mul_le_mul (by omega) (by omega)
 have:(B-1)*(B-1)+(B-1)+(B-1)<B*B:=by decide
 omega
def wZ (n D i:Nat):List Nat:=List.replicate (n-i) 0++(zu n D).drop (n-i)
theorem ZQ {n D:Nat}:wZ n D 0=List.replicate n 0:=by
 simp[wZ,zy]
theorem XK {n D:Nat}:wZ n D n=zu n D:=by simp[wZ]
theorem XL {n D i:Nat} (_h:i≤n):(wZ n D i).length=n:=by simp[wZ,zy]; try omega
theorem XM {n D i:Nat} (h:i<n):(wZ n D i).set (n-1-i) (D/B^(n-1-i)%B)=wZ n D (i+1):=by
 obtain ⟨j,hj⟩:∃ j,n-1-i=j:=⟨_,rfl⟩
 have h1:n-i=j+1:=by omega
 have h2:n-(i+1)=j:=by omega
 unfold wZ
 rw[hj,h1,h2,List.replicate_succ']
 rw[List.append_assoc,List.set_append_right _ _ (by simp)]
 simp only[List.length_replicate,Nat.sub_self]
 have hlt:j<(zu n D).length:=by rw[zy]; omega
 rw[List.drop_eq_getElem_cons hlt,wW]
 rfl
theorem XN {A d:Nat} (hd:0<d):(A/B%d*B+A%B)/d=A/d%B∧(A/B%d*B+A%B)%d=A%d∧A/B%d*B+A%B<d*B:=by
 have hA:=Nat.div_add_mod A B
 have h1:=Nat.div_add_mod (A/B) d
 have hm:=Nat.mod_lt (A/B) hd
 have hb:=Nat.mod_lt A yd
 have hlt:A/B%d*B+A%B<d*B:=by
  have:(A/B%d+1)*B≤d*B:=Nat.mul_le_mul_right _ hm
  rw[Nat.add_mul] at this
  omega
 have key:A=d*(A/B/d*B)+(A/B%d*B+A%B):=by
  have e:B*(A/B)=B*(d*(A/B/d)+A/B%d):=by rw[h1]
  rw[Nat.mul_add] at e
  have e2:d*(A/B/d*B)=B*(d*(A/B/d)):=by rw[← Nat.mul_assoc,Nat.mul_comm]
  rw[e2,Nat.mul_comm (A/B%d)]
  omega
 generalize A/B%d*B+A%B=t at *
 generalize A/B/d=g at *
 have hq:t/d<B:=Nat.div_lt_of_lt_mul hlt
 refine ⟨?_,?_,hlt⟩
 ·rw[key,Nat.mul_add_div hd,Nat.add_comm (g*B) _,Nat.add_mul_mod_self_right,Nat.mod_eq_of_lt hq]
 ·rw[key,Nat.mul_add_mod]
end Go.Dig

namespace Go.Proofs.Ytbmhibiljjnfiaa
open Go Go.Am Go.Dig
theorem lc {x:Nat} (h:x<18446744073709551616):zf Try.prog v7 [yk x] (nD x):=by
 have f2:(x:Int).fdiv (2^min 32 IntKind.u64.bits)=((x/B:Nat):Int):=Zk x
 have f1:=w32 x
 have f3:=w32 (x/B)
 obtain ⟨d0,h0⟩:∃ d,x%B=d:=⟨_,rfl⟩
 obtain ⟨q,hq⟩:∃ q,x/B=q:=⟨_,rfl⟩
 obtain ⟨d1,h1⟩:∃ d,q%B=d:=⟨_,rfl⟩
 rw[hq] at f2 f3
 rw[h0] at f1
 rw[h1] at f3
 have hok:ok [d0,d1]:=by
  intro d hd
  simp at hd
  rcases hd with rfl | rfl
  ·rw[← h0]; exact Nat.mod_lt _ yd
  ·rw[← h1]; exact Nat.mod_lt _ yd
 have hv:val [d0,d1]=x:=by
  have e1:=Nat.mod_add_div x B
  have hq2:q<B:=by rw[← hq,xk]; omega
  rw[Nat.mod_eq_of_lt hq2] at h1
  simp only[val,Nat.mul_zero,Nat.add_zero]
  rw[← h1,← h0,← hq]
  exact e1
 have key:=wR (m:=.full) (a:=[d0,d1]) hok (by simp)
 rw[hv] at key
 refine zC aC (by simp) ?_
 simp[jN,wI,f1,f2,f3,uX]
 refine ze key (by simp) (by simp) ?_
 simp[gk]
theorem or_hi {r a:Nat} (hr:r<B) (ha:a<B):sk .or .u64 ((r*B:Nat):Int) (a:Int)=((r*B+a:Nat):Int):=by
 rw[xk] at *
 have hbits:IntKind.u64.bits=64:=rfl
 simp only[sk]
 rw[BitVec.toNat_or]
 have e1:(BitVec.ofInt IntKind.u64.bits ((r*4294967296:Nat):Int)).toNat=r*4294967296:=by rw[hbits,BitVec.toNat_ofInt]; omega
 have e2:(BitVec.ofInt IntKind.u64.bits (a:Int)).toNat=a:=by rw[hbits,BitVec.toNat_ofInt]; omega
 rw[e1,e2]
 have h3:=Nat.shiftLeft_add_eq_or_of_lt (i:=32) (b:=a) (by omega) r
 rw[Nat.shiftLeft_eq] at h3
 have:(2:Nat)^32=4294967296:=by decide
 rw[this] at h3
 rw[← h3]
 exact w64 (by omega)
theorem T5 {r:Nat} (hr:r<B):IntKind.u64.wrap ((r:Int)*2^min 32 IntKind.u64.bits)=((r*B:Nat):Int):=by
 have:min 32 IntKind.u64.bits=32:=rfl
 rw[this]
 have:(2:Int)^32=4294967296:=by decide
 rw[this]
 rw[xk] at *
 rw[lw]<;>omega
def NW (m:Am.Mode) (a:List Nat) (d i:Nat):St :=
 {env:=[(0,nl m a),(1,uv d),(6,.sl 13 1 0 a.length),(7,yk (val a/B^(a.length-i)%d)),(15,iv a.length),(16,iv i)],sto:=[(13,.arr 1 (zG (wZ a.length (val a/d) i)))]}
theorem QN {m:Am.Mode} {a:List Nat} {d:Nat} (ha:ok a) (hn:a.length<1099511627776) (h0:0<d) (hd:d<B) (f1:stm m=m) :
  zf Try.prog gL [nl m a,uv d] (.tuple [nD (val a/d),uv (val a%d)]):=by
 refine uD TF (by simp) ?_
 simp[ba,eMk]
 refine ⟨by omega,by omega,?_⟩
 have hz:val a/B^a.length%d=0:=by rw[Nat.div_eq_of_lt (ki ha)]; exact Nat.zero_mod _
 refine zz (NW m a d) (fun _=>True) a.length (by simp[NW,ZQ,hz]) trivial (fun i hi _=>?_) (fun _=>?_)
 ·have e:(i:Int)<a.length:=by omega
  obtain ⟨k,hk⟩:∃ k,a.length-1-i=k:=⟨_,rfl⟩
  have hk1:a.length-i=k+1:=by omega
  have hk2:a.length-(i+1)=k:=by omega
  have hka:k<a.length:=by omega
  have w0:IntKind.i64.wrap ((a.length:Int)-1)=(a.length:Int)-1:=by rw[wrap64]<;>omega
  have w1:IntKind.i64.wrap ((a.length:Int)-1-i)=(k:Int):=by rw[wrap64]<;>omega
  obtain ⟨s1,s2,s3⟩:=XN (A:=val a/B^k) h0
  rw[← jB ha hka,Nat.div_div_eq_div_mul,← Nat.pow_succ] at s1 s2 s3
  obtain ⟨r,hr⟩:∃ r,val a/B^(k+1)%d=r:=⟨_,rfl⟩
  have hrd:r<d:=by rw[← hr]; exact Nat.mod_lt _ h0
  have hrB:r<B:=by omega
  have hak:=vG ha hka
  have hor:=or_hi hrB hak
  have hsh:=T5 hrB
  rw[Nat.succ_eq_add_one,hr] at s1 s2 s3
  obtain ⟨t,ht⟩:∃ t,r*B+a[k]=t:=⟨_,rfl⟩
  obtain ⟨rb,hrb⟩:∃ rb,r*B=rb:=⟨_,rfl⟩
  rw[ht] at hor s1 s2 s3
  rw[hrb] at hor hsh
  have hset:=XM (n:=a.length) (D:=val a/d) hi
  rw[hk,Nat.div_div_eq_div_mul,Nat.mul_comm d,← Nat.div_div_eq_div_mul,← s1] at hset
  obtain ⟨q,hq⟩:∃ q,t/d=q:=⟨_,rfl⟩
  obtain ⟨r2,hr2⟩:∃ r2,t%d=r2:=⟨_,rfl⟩
  rw[hq] at hset s1
  rw[hr2] at s2
  have hqB:q<B:=by rw[s1]; exact Nat.mod_lt _ yd
  have hset':(zG (wZ a.length (val a/d) i)).set k [uv q]=zG (wZ a.length (val a/d) (i+1)):=by rw[x6,hset]
  have htB:t<18446744073709551616:=by
   have:d*B≤B*B:=Nat.mul_le_mul_right _ (by omega)
   have hBB:B*B=18446744073709551616:=by decide
   omega
  have hfl:=XL (D:=val a/d) (show i≤a.length by omega)
  have hkl:k<(wZ a.length (val a/d) i).length:=by omega
  rw[xk] at hak hqB hd
  have u1:IntKind.u64.wrap ((a[k]:Nat):Int)=(a[k]:Nat):=w64 (by omega)
  have u2:IntKind.u64.wrap (d:Int)=d:=w64 (by omega)
  have hd0:¬ (d:Int)=0:=by omega
  have hd0n:¬ d=0:=by omega
  have u3:IntKind.u64.wrap ((t:Int).tdiv d)=(q:Int):=by
   rw[show (t:Int).tdiv d=((t/d:Nat):Int) from rfl,hq]; exact w64 (by omega)
  have u3':IntKind.u64.wrap ((t:Int)/d)=(q:Int):=by
   rw[show (t:Int)/d=((t/d:Nat):Int) by simp,hq]; exact w64 (by omega)
  have u4:(t:Int).tmod d=(r2:Int):=by rw[show (t:Int).tmod d=((t%d:Nat):Int) from rfl,hr2]
  have u5:IntKind.u32.wrap (q:Int)=q:=IntWalk.u32_in _ (by omega)
  simp[jO,NW,e,w0,w1,hka,hkl,hk1,hk2,hr,tg,hsh,u1,hor,u2,Sv,Sw,hd0n,u3',u4,u5,splice,hset',s2,zo (show i<4611686018427387904 by omega)]
 ·have htk:(zG (zu a.length (val a/d))).take a.length=zG (zu a.length (val a/d)):=List.take_of_length_le (by rw[List.length_map,zy]; exact Nat.le_refl _)
  have hle2:a.length≤(zu a.length (val a/d)).length:=by rw[zy]; exact Nat.le_refl _
  have key:=wR (m:=.plain) (a:=zu a.length (val a/d)) xE (by rw[zy]; omega)
  have hlt:val a/d<B^a.length:=Nat.lt_of_le_of_lt (Nat.div_le_self _ _) (ki ha)
  rw[y8 hlt] at key
  have hr:val a%d<d:=Nat.mod_lt _ h0
  have u5:IntKind.u32.wrap ((val a%d:Nat):Int)=(val a%d:Nat):=IntWalk.u32_in _ (by rw[xk] at hd; omega)
  obtain ⟨r,hr2⟩:∃ r,val a%d=r:=⟨_,rfl⟩
  have hr3:val a/B^(a.length-a.length)%d=r:=by simp[hr2]
  rw[hr2] at u5 ⊢
  simp[jO,NW,XK,bb,qp,JD f1,gc,htk,hle2,hr2]
  refine ze key (by simp) (by simp) ?_
  simp[bX,u5]
  exact AV.imp.refl
end Go.Proofs.Ytbmhibiljjnfiaa

namespace Go.Dig
def my (w u2 v1 v2:Nat):Nat:=min (B-1) ((w*B+u2)/(v1*B+v2))
def R3 (g r u2 v2:Nat):Prop:=B≤g∨r*B+u2<g*v2
theorem ED {w u2 v1 v2:Nat} (h1:0<v1) (hu:u2<B):my w u2 v1 v2≤w/v1:=by
 unfold my
 refine Nat.le_trans (Nat.min_le_right _ _) ?_
 rw[Nat.le_div_iff_mul_le h1]
 have h:=Nat.div_mul_le_self (w*B+u2) (v1*B+v2)
 generalize (w*B+u2)/(v1*B+v2)=q at *
 rw[Nat.mul_add,← Nat.mul_assoc] at h
 apply Nat.le_of_not_lt
 intro hlt
 have:(w+1)*B≤q*v1*B:=Nat.mul_le_mul_right _ hlt
 rw[Nat.add_mul] at this
 omega
theorem dX {g r w u2 v1 v2:Nat} (h1:0<v1) (hr:w=g*v1+r):R3 g r u2 v2↔my w u2 v1 v2<g:=by
 have hV:0<v1*B+v2:=by have:=Nat.mul_pos h1 yd; omega
 have key:g≤(w*B+u2)/(v1*B+v2)↔g*v2≤r*B+u2:=by
  rw[Nat.le_div_iff_mul_le hV,hr,Nat.mul_add,Nat.add_mul,← Nat.mul_assoc]
  omega
 unfold R3 my
 have hB:=yd
 constructor
 ·rintro (h | h)
  ·exact Nat.lt_of_le_of_lt (Nat.min_le_left _ _) (by omega)
  ·exact Nat.lt_of_le_of_lt (Nat.min_le_right _ _) (by omega)
 ·intro h
  apply Classical.byContradiction
  intro hno
  have h2:g≤B-1:=by
   apply Nat.le_of_not_lt; intro h3; exact hno (.inl (by omega))
  have h3:g≤(w*B+u2)/(v1*B+v2):=key.2 (by
   apply Nat.le_of_not_lt; intro h4; exact hno (.inr h4))
  have:=Nat.le_min.2 ⟨h2,h3⟩
  omega
theorem KZ {g r w u2 v1 v2:Nat} (_h1:0<v1) (hr:w=g*v1+r) (hw:w≤v1*B+(B-1)) (hv2:v2<B) (hrB:B≤r):¬ R3 g r u2 v2:=by
 have hg:g≤B-1:=by
  apply Nat.le_of_not_lt
  intro h
  have:B*v1≤g*v1:=Nat.mul_le_mul_right _ (by omega)
  rw[Nat.mul_comm v1] at hw
  have:=yd
  omega
 rintro (h | h)
 ·have:=yd; omega
 ·have h2:g*v2≤(B-1)*(B-1):=Nat.mul_le_mul hg (by omega)
  have h3:B*B≤r*B:=Nat.mul_le_mul_right _ hrB
  have h4:(B-1)*(B-1)<B*B:=by decide
  omega
theorem Ns {w u2 v1 v2 U V P Q R:Nat} (h1:0<v1) (hu2:u2<B) (hv2:v2<B) (hU:U=(w*B+u2)*P+R) (hR:R<P) (hV:V=(v1*B+v2)*P+Q) (hQ:Q<P) (hUV:U<V*B) :
  U/V≤my w u2 v1 v2∧my w u2 v1 v2≤U/V+1:=by
 have hP:0<P:=by omega
 have hV2:0<v1*B+v2:=by have:=Nat.mul_pos h1 yd; omega
 have hVpos:0<V:=by have:=Nat.mul_pos hV2 hP; omega
 constructor
 ·unfold my
  refine Nat.le_min.2 ⟨?_,?_⟩
  ·have:U/V<B:=Nat.div_lt_of_lt_mul hUV
   omega
  ·rw[Nat.le_div_iff_mul_le hV2]
   have h:=Nat.div_mul_le_self U V
   generalize U/V=q at *
   have h2:q*((v1*B+v2)*P)≤q*V:=Nat.mul_le_mul_left _ (by omega)
   rw[← Nat.mul_assoc] at h2
   apply Nat.le_of_not_lt
   intro hlt
   have:(w*B+u2+1)*P≤q*(v1*B+v2)*P:=Nat.mul_le_mul_right _ hlt
   rw[Nat.add_mul] at this
   omega
 ·have hq1:my w u2 v1 v2≤B-1:=Nat.min_le_left _ _
  have hq2:my w u2 v1 v2*(v1*B+v2)≤w*B+u2:=by
   have:my w u2 v1 v2≤(w*B+u2)/(v1*B+v2):=Nat.min_le_right _ _
   exact Nat.le_trans (Nat.mul_le_mul_right _ this) (Nat.div_mul_le_self _ _)
  generalize my w u2 v1 v2=g at *
  rcases g with _ | g
  ·exact Nat.zero_le _
  ·have:g≤U/V:=by
    rw[Nat.le_div_iff_mul_le hVpos]
    -- (g+1) V2 P≤U,and V<(V2+1) P,g+1≤B-1≤v1 B
    have e1:(g+1)*(v1*B+v2)*P≤(w*B+u2)*P:=Nat.mul_le_mul_right _ hq2
    have e2:g*V≤g*((v1*B+v2)*P+P):=Nat.mul_le_mul_left _ (by omega)
    have e3:g*P≤(v1*B+v2)*P:=Nat.mul_le_mul_right _ (by
     have:1*B≤v1*B:=Nat.mul_le_mul_right _ h1
     omega)
    rw[Nat.add_mul,Nat.one_mul,Nat.add_mul] at e1
    rw[Nat.mul_add,← Nat.mul_assoc] at e2
    omega
   omega
theorem Ek {g:Nat} {v:List Nat} {k:Nat} (hk:k<v.length):(g*val v)/B^k%B=(g*v[k]+g*val (v.take k)/B^k)%B∧g*val (v.take (k+1))/B^(k+1)=(g*v[k]+g*val (v.take k)/B^k)/B:=by
 have e1:=vx hk
 have e2:=vW v (k+1)
 rw[Nat.min_eq_left (by omega)] at e2
 constructor
 ·rw[e2,e1,Nat.mul_add,Nat.mul_add,Nat.mul_left_comm g (B^k),Nat.mul_left_comm g (B^(k+1)),Tc,Nat.add_comm]
 ·rw[e1,Nat.mul_add,Nat.mul_left_comm g (B^k),Tb,Nat.add_comm]
theorem bN {g:Nat} {v:List Nat} (hv:ok v) (hg:g<B) (k:Nat):g*val (v.take k)/B^k<B:=by
 apply Nat.div_lt_of_lt_mul
 have h1:=w9 (tX hv k) (n:=k) (by simp; omega)
 have:g*val (v.take k)≤B*val (v.take k):=Nat.mul_le_mul_right _ (by omega)
 have h2:B*val (v.take k)<B*B^k:=Nat.mul_lt_mul_of_pos_left h1 yd
 rw[Nat.mul_comm (B^k)]
 omega
def yP (Z:Nat) (u:List Nat) (k:Nat):List Nat:=zu k Z++u.drop k
theorem bL {Z:Nat} {u:List Nat}:yP Z u 0=u:=by simp[yP,zu]
theorem gf {Z:Nat} {u:List Nat} {k:Nat} (h:k≤u.length):(yP Z u k).length=u.length:=by simp[yP,zy]; omega
theorem dy {Z:Nat} {u:List Nat} {k:Nat} (h:k<u.length):(yP Z u k)[k]'(by rw[gf (by omega)]; exact h)=u[k]:=by
 unfold yP
 rw[List.getElem_append_right (by rw[zy]; exact Nat.le_refl _)]
 simp[zy]
theorem dz {Z:Nat} {u:List Nat} {k:Nat} (h:k<u.length):(yP Z u k).set k (Z/B^k%B)=yP Z u (k+1):=by
 unfold yP
 rw[List.set_append_right _ _ (by rw[zy]; exact Nat.le_refl _),zy,Nat.sub_self,List.drop_eq_getElem_cons h,List.set_cons_zero,dj]
 simp
theorem S1 {Z:Nat} {u:List Nat} {n:Nat} (h:u.length=n):yP Z u n=zu n Z:=by
 unfold yP; rw[List.drop_of_length_le (by omega)]; simp
theorem Tf {n x:Nat}:zu n (x+B^n)=zu n x:=by
 refine Zu xE xE (by rw[zy,zy]) ?_
 rw[fH,fH,Nat.add_mod_right]
theorem MD {U n k:Nat} (hk:k<n):(U+B^n)/B^k%B=U/B^k%B:=by
 have h:=Tf (n:=n) (x:=U)
 have h1:k<(zu n (U+B^n)).length:=by rw[zy]; exact hk
 have h2:k<(zu n U).length:=by rw[zy]; exact hk
 rw[← wW h1,← wW h2]
 simp only[h]
def seg (W:List Nat) (off:Nat) (X:List Nat):List Nat:=W.take off++X++W.drop (off+X.length)
theorem jD {W X:List Nat} {off:Nat} (h:off+X.length≤W.length):(seg W off X).length=W.length:=by simp[seg]; omega
theorem Zi {W X:List Nat} {off i:Nat} (h:off+X.length≤W.length) (hi:i<X.length):(seg W off X)[off+i]'(by rw[jD h]; omega)=X[i]:=by
 unfold seg
 rw[List.getElem_append_left (by simp; omega),List.getElem_append_right (by simp; omega)]
 congr 1
 simp; omega
theorem Zj {W X:List Nat} {off i d:Nat} (h:off+X.length≤W.length) (hi:i<X.length):(seg W off X).set (off+i) d=seg W off (X.set i d):=by
 unfold seg
 rw[List.length_set,List.set_append_left _ _ (by simp; omega),List.set_append_right _ _ (by simp; omega)]
 have:off+i-(List.take off W).length=i:=by simp; omega
 rw[this]
theorem GI {W:List Nat} {off n:Nat} (h:off+n≤W.length):seg W off ((W.drop off).take n)=W:=by
 unfold seg
 have:((W.drop off).take n).length=n:=by simp; omega
 rw[this]
 rw[List.append_assoc,← List.drop_drop,List.take_append_drop,List.take_append_drop]
theorem XJ {N L i t:Nat} (hL:L<B^(i+1)) (hi:i+1<N) (hlt:L+B^i*t<B^N) (ht:(L/B^i+t)/B<B) :
  ((zu N L).set i ((L/B^i+t)%B)).set (i+1) ((L/B^i+t)/B)=zu N (L+B^i*t):=by
 have hLN:L<B^N:=Nat.lt_of_lt_of_le hL (Nat.pow_le_pow_right yd (by omega))
 have hlen:=zy (n:=N) (x:=L)
 have ho:ok (zu N L):=xE
 have hd1:(L/B^i+t)%B<B:=Nat.mod_lt _ yd
 refine Zu (Lh (Lh ho hd1) ht) xE (by simp[zy]) ?_
 rw[y8 hlt]
 have e1:=PC (o:=zu N L) (j:=i) (d:=(L/B^i+t)%B) (by omega)
 have e2:=PC (o:=(zu N L).set i ((L/B^i+t)%B)) (j:=i+1) (d:=(L/B^i+t)/B) (by simp; omega)
 rw[y8 hLN,wW] at e1
 rw[List.getElem_set_ne (by omega),wW,Nat.div_eq_of_lt hL] at e2
 have h0:0%B=0:=rfl
 rw[h0,Nat.mul_zero,Nat.add_zero] at e2
 have hc:L/B^i<B:=Nat.div_lt_of_lt_mul (by rw[← Nat.pow_succ]; exact hL)
 rw[Nat.mod_eq_of_lt hc] at e1
 have e3:=Nat.mod_add_div (L/B^i+t) B
 have e4:B^(i+1)*((L/B^i+t)/B)=B^i*(B*((L/B^i+t)/B)):=by rw[Nat.pow_succ,Nat.mul_assoc]
 have e5:B^i*((L/B^i+t)%B)+B^i*(B*((L/B^i+t)/B))=B^i*(L/B^i)+B^i*t:=by rw[← Nat.mul_add,e3,Nat.mul_add]
 rw[e2,e4]
 omega
theorem M9 {c a bits:Nat} (hb:bits<32) (hc:c<2^bits) (_ha:a<B):c ||| (a*2^bits%B)=c+a*2^bits%B∧c+a*2^bits%B=(c+a*2^bits)%B∧a*2^bits/B=(c+a*2^bits)/B∧c+a*2^bits%B<B:=by
 have hB:B=2^(32-bits)*2^bits:=by
  rw[← Nat.pow_add,Nat.sub_add_cancel (by omega)]; rfl
 have hm:a*2^bits%B=(a%2^(32-bits))*2^bits:=by
  rw[hB,Nat.mul_mod_mul_right]
 have hlt:a%2^(32-bits)<2^(32-bits):=Nat.mod_lt _ (Nat.pow_pos (by omega))
 have hd:=Nat.div_add_mod (a*2^bits) B
 have hsum:c+a*2^bits%B<B:=by
  rw[hm]
  have:(a%2^(32-bits)+1)*2^bits≤2^(32-bits)*2^bits:=Nat.mul_le_mul_right _ hlt
  rw[Nat.add_mul,← hB] at this
  omega
 refine ⟨?_,?_,?_,hsum⟩
 ·rw[hm]
  have h:=Nat.shiftLeft_add_eq_or_of_lt hc (a%2^(32-bits))
  rw[Nat.shiftLeft_eq] at h
  rw[Nat.or_comm,← h]; omega
 ·have:c+a*2^bits=c+a*2^bits%B+B*(a*2^bits/B):=by omega
  rw[this,Nat.add_mul_mod_self_left,Nat.mod_eq_of_lt hsum]
 ·have:c+a*2^bits=c+a*2^bits%B+B*(a*2^bits/B):=by omega
  rw[this,Nat.add_mul_div_left _ _ yd,Nat.div_eq_of_lt hsum,Nat.zero_add]
def shL (a:List Nat) (bits i:Nat):Nat:=val (a.take i)*2^bits
theorem Ry {a:List Nat} {bits:Nat}:shL a bits 0=0:=by simp[shL,val]
theorem Yy {bits:Nat} (hb:bits<32):2^bits<B:=by
 have:2^bits<2^32:=Nat.pow_lt_pow_right (by omega) hb
 exact this
theorem XI {a:List Nat} {bits i:Nat} (ha:ok a):shL a bits i<B^i*2^bits:=by
 unfold shL
 exact Nat.mul_lt_mul_of_pos_right (w9 (tX ha i) (by simp; omega)) (Nat.pow_pos (by omega))
theorem Rx {a:List Nat} {bits i:Nat} (hi:i<a.length):shL a bits (i+1)=shL a bits i+B^i*(a[i]*2^bits):=by
 unfold shL
 rw[vx hi,Nat.add_mul,Nat.mul_assoc]
theorem Pu {a:List Nat} {bits:Nat}:shL a bits a.length=val a*2^bits:=by
 unfold shL; rw[List.take_of_length_le (Nat.le_refl _)]
theorem Xe {n:Nat}:zu n 0=List.replicate n 0:=by
 refine Zu xE (D8 n) (by simp[zy]) ?_
 rw[fH,PB,Nat.zero_mod]
end Go.Dig

namespace Go.Proofs.Ytbmhibiljjnfiaa
open Go Go.Am Go.Dig
theorem Gc {c x:Nat} (hc:c<B) (hx:x<B) (h:c ||| x<B):sk .or .u32 (c:Int) (x:Int)=((c ||| x:Nat):Int):=by
 rw[xk] at *
 have hbits:IntKind.u32.bits=32:=rfl
 simp only[sk]
 rw[BitVec.toNat_or]
 have e1:(BitVec.ofInt IntKind.u32.bits (c:Int)).toNat=c:=by rw[hbits,BitVec.toNat_ofInt]; omega
 have e2:(BitVec.ofInt IntKind.u32.bits (x:Int)).toNat=x:=by rw[hbits,BitVec.toNat_ofInt]; omega
 rw[e1,e2]
 exact IntWalk.u32_in _ (by omega)
def az (a:List Nat) (m:Am.Mode) (σ:List (Nat × zd)) (out:List (List (Nat × AV))) (b bits i:Nat):St :=
 {env:=[(0,nl m a),(1,yk bits),(5,.sl (b+11) 1 0 (a.length+1)),(13,iv a.length),(14,iv i)],sto:=pt σ (b+11) (.arr 1 (zG (zu (a.length+1) (shL a bits i)))),out:=out,base:=b}
theorem GM {m:Am.Mode} {a:List Nat} {bits:Nat} {s:St} {K:AV→St→Prop} (b:Nat) (ha:ok a) (hn:a.length<1099511627775) (hb:bits<32) (hf:lk s.sto (b+11)=none)
  (h:K (.sl (b+11) 1 0 (a.length+1)) ⟨s.env,pt s.sto (b+11) (.arr 1 (zG (zu (a.length+1) (val a*2^bits)))),s.out,s.base⟩):va Try.prog sX [nl m a,yk bits] s K:=by
 obtain ⟨env,σ,out,base⟩:=s
 simp only at hf h
 refine Pw b ea (by simp) ?_
 have w:IntKind.i64.wrap ((a.length:Int)+1)=(a.length:Int)+1:=wrap64 (by omega) (by omega)
 have e1:((a.length:Int)+1).toNat=a.length+1:=by omega
 simp[lF,w,eMk,e1,hf]
 refine ⟨by omega,by omega,by omega,?_⟩
 refine zz (az a m σ (env::out) b bits) (fun _=>True) a.length (by simp[az,Ry,Xe]; exact .inl rfl) trivial (fun i hi _=>?_) (fun _=>?_)
 ·have e:(i:Int)<a.length:=by omega
  have hpow:=Yy hb
  have hak:=vG ha hi
  have hL:=XI (bits:=bits) (i:=i) ha
  have hLB:shL a bits i<B^(i+1):=by
   have:B^i*2^bits≤B^i*B:=Nat.mul_le_mul_left _ (by omega)
   rw[Nat.pow_succ]; omega
  have hc:shL a bits i/B^i<2^bits:=Nat.div_lt_of_lt_mul hL
  obtain ⟨o1,o2,o3,o4⟩:=M9 (c:=shL a bits i/B^i) (a:=a[i]) hb hc hak
  have hsucc:=Rx (bits:=bits) hi
  have hL2:=XI (bits:=bits) (i:=i+1) ha
  have hLN:shL a bits (i+1)<B^(a.length+1):=by
   have h1:B^(i+1)*2^bits≤B^(i+1)*B:=Nat.mul_le_mul_left _ (by omega)
   have h3:B^(i+1+1)=B^(i+1)*B:=Nat.pow_succ _ _
   have h2:B^(i+1+1)≤B^(a.length+1):=Nat.pow_le_pow_right yd (by omega)
   omega
  have htB:(shL a bits i/B^i+a[i]*2^bits)/B<B:=by
   rw[← o3]
   apply Nat.div_lt_of_lt_mul
   exact Nat.mul_lt_mul_of_lt_of_lt hak hpow
  have hstep:=XJ (N:=a.length+1) (i:=i) (t:=a[i]*2^bits) hLB (by omega) (by rw[← hsucc]; exact hLN) htB
  rw[← hsucc,← o2,← o3] at hstep
  have hlen:=zy (n:=a.length+1) (x:=shL a bits i)
  have hi1:i<(zu (a.length+1) (shL a bits i)).length:=by omega
  have hget:(zu (a.length+1) (shL a bits i))[i]=shL a bits i/B^i:=by
   rw[wW,Nat.mod_eq_of_lt (Nat.lt_trans hc hpow)]
  obtain ⟨c,hcE⟩:∃ c,shL a bits i/B^i=c:=⟨_,rfl⟩
  obtain ⟨t,htE⟩:∃ t,a[i]*2^bits=t:=⟨_,rfl⟩
  have htlt:t<B*B:=by rw[← htE]; exact Nat.mul_lt_mul_of_lt_of_lt hak hpow
  rw[hcE,htE] at o1 o4 hstep
  rw[hcE] at hget hc
  obtain ⟨x,hxE⟩:∃ x,t%B=x:=⟨_,rfl⟩
  obtain ⟨q,hqE⟩:∃ q,t/B=q:=⟨_,rfl⟩
  rw[hxE] at o1 o4 hstep
  rw[hqE] at hstep
  have hxB:x<B:=by rw[← hxE]; exact Nat.mod_lt _ yd
  have hqB:q<B:=by rw[← hqE]; exact Nat.div_lt_of_lt_mul htlt
  have hor:=Gc (c:=c) (x:=x) (by omega) hxB (by rw[o1]; exact o4)
  rw[o1] at hor
  obtain ⟨y,hyE⟩:∃ y,c+x=y:=⟨_,rfl⟩
  rw[hyE] at hor hstep
  have hBB:B*B=18446744073709551616:=by decide
  rw[hBB] at htlt
  have f1:IntKind.u32.wrap (t:Int)=(x:Int):=by rw[w32,hxE]
  have f2:(t:Int).fdiv (2^min 32 IntKind.u64.bits)=(q:Int):=by rw[Zk,hqE]
  have f3:IntKind.u32.wrap (q:Int)=q:=IntWalk.u32_in _ (by rw[xk] at hqB; omega)
  have u1:IntKind.u64.wrap ((a[i]:Nat):Int)=(a[i]:Nat):=w64 (by rw[xk] at hak; omega)
  have hmin:min bits IntKind.u64.bits=bits:=by
   have:IntKind.u64.bits=64:=rfl
   omega
  have u2:IntKind.u64.wrap (((a[i]:Nat):Int)*2^bits)=(t:Int):=by
   rw[show ((a[i]:Nat):Int)*2^bits=((a[i]*2^bits:Nat):Int) by simp,htE]; exact w64 htlt
  have hset:((zG (zu (a.length+1) (shL a bits i))).set i [uv y]).set (i+1) [uv q]=zG (zu (a.length+1) (shL a bits (i+1))):=by
   rw[x6,x6,hstep]
  have wi:IntKind.i64.wrap ((i:Int)+1)=(i:Int)+1:=wrap64 (by omega) (by omega)
  have ei1:(i:Int)<a.length+1:=by omega
  have e2:((i:Int)+1).toNat=i+1:=by omega
  have e3:(0:Int)≤(i:Int)+1:=by omega
  have hi2:i+1<(zu (a.length+1) (shL a bits i)).length:=by omega
  have hnb:¬ ((bits:Int)<0):=by omega
  simp[tN,az,e,hi,hi1,hi2,ei1,e2,e3,hget,hor,u1,tg,wI,hmin,u2,f1,f2,f3,wi,splice,hset]
 ·have:zu (a.length+1) (shL a bits a.length)=zu (a.length+1) (val a*2^bits):=by rw[Pu]
  simp[tN,az,m4,lK,this]
  exact h
def gK (w v1 k:Nat):Nat:=w/v1-k
def rK (w v1 k:Nat):Nat:=w%v1+k*v1
theorem P2 {w v1 k:Nat} (hk:k≤w/v1):w=gK w v1 k*v1+rK w v1 k:=by
 unfold gK rK
 have h:=Nat.div_add_mod w v1
 have:(w/v1-k)*v1+k*v1=v1*(w/v1):=by rw[← Nat.add_mul,Nat.sub_add_cancel hk,Nat.mul_comm]
 omega
structure eQ (W v:List Nat) (off e:Nat):Prop where
 okW:ok W
 okv:ok v
 hv:v.length=e+2
 hW:off+e+3≤W.length
 small:W.length<1099511627776
def rn (W:List Nat) (off e:Nat):Nat:=W.getD (off+(e+2)) 0*B+W.getD (off+(e+1)) 0
def al (m:Am.Mode) (W v:List Nat) (σ:List (Nat × zd)) (out:List (List (Nat × AV))) (b j off e k:Nat):St :=
 {env:=[(0,.sl j 1 off (e+3)),(1,nl m v),(5,iv ((e:Int)+2)),(7,yk (gK (rn W off e) (v.getD (e+1) 0) k)),(8,yk (rK (rn W off e) (v.getD (e+1) 0) k))],sto:=σ,out:=out,base:=b}
theorem Qk {m:Am.Mode} {W v:List Nat} {σ:List (Nat × zd)} {out:List (List (Nat × AV))} {b j off e:Nat} {K:Exit→St→Prop} (h:eQ W v off e) (hj:lk σ j=some (.arr 1 (zG W)))
  (h1:0<v.getD (e+1) 0) (hw:rn W off e≤v.getD (e+1) 0*B+(B-1)) (g:Nat) (hg:g=my (rn W off e) (W.getD (off+e) 0) (v.getD (e+1) 0) (v.getD e 0))
  (hK:∀ r q y,(q=69∨q=81)→awp Try.prog wT {env:=[(0,.sl j 1 off (e+3)),(1,nl m v),(5,iv ((e:Int)+2)),(7,yk g),(8,r),(q,y)],sto:=σ,out:=out,base:=b} K) :
  awp Try.prog (.loop wj) (al m W v σ out b j off e 0) (wA 0 (rk Try.prog wT K)):=by
 have hvl:=h.hv
 have hWl:=h.hW
 have hsm:=h.small
 have hv0:e<v.length:=by omega
 have hv1:e+1<v.length:=by omega
 have hW0:off+e<W.length:=by omega
 have q1:v.getD (e+1) 0=v[e+1]:=by simp[hv1]
 have q2:v.getD e 0=v[e]:=by simp[hv0]
 have q3:W.getD (off+e) 0=W[off+e]:=by simp[hW0]
 have hu2:W.getD (off+e) 0<B:=lh h.okW _
 have hv2B:v.getD e 0<B:=lh h.okv _
 have hv1B:v.getD (e+1) 0<B:=lh h.okv _
 have hwB:rn W off e<B*B:=by
  have a1:=lh h.okW (off+(e+2))
  have a2:=lh h.okW (off+(e+1))
  have:(W.getD (off+(e+2)) 0+1)*B≤B*B:=Nat.mul_le_mul_right _ a1
  unfold rn
  rw[Nat.add_mul] at this
  omega
 generalize hwe:rn W off e=w at *
 generalize hv1e:v.getD (e+1) 0=v1 at *
 generalize hu2e:W.getD (off+e) 0=u2 at *
 generalize hv2e:v.getD e 0=v2 at *
 have hle:=ED (w:=w) (v2:=v2) h1 hu2
 rw[← hg] at hle
 rw[show B*B=18446744073709551616 by decide] at hwB
 have hst:∀ k,al m W v σ out b j off e k={env:=[(0,.sl j 1 off (e+3)),(1,nl m v),(5,iv ((e:Int)+2)),(7,yk (gK w v1 k)),(8,yk (rK w v1 k))],sto:=σ,out:=out,base:=b}:=fun k=>by
  rw[al,hwe,hv1e]
 have i1:IntKind.i64.wrap ((e:Int))=e:=wrap64 (by omega) (by omega)
 have i2:IntKind.i64.wrap ((e:Int)+1)=(e:Int)+1:=wrap64 (by omega) (by omega)
 have i5:IntKind.i64.wrap ((e:Int)+2-1)=(e:Int)+1:=by rw[wrap64]<;>omega
 have i6:IntKind.i64.wrap ((e:Int)+2-2)=(e:Int):=by rw[wrap64]<;>omega
 have i3:((e:Int)+1).toNat=e+1:=by omega
 have i4:(0:Int)≤(e:Int)+1:=by omega
 have c1:IntKind.u64.wrap (v1:Int)=v1:=w64 (by rw[xk] at hv1B; omega)
 have c2:IntKind.u64.wrap (v2:Int)=v2:=w64 (by rw[xk] at hv2B; omega)
 have c3:IntKind.u64.wrap (u2:Int)=u2:=w64 (by rw[xk] at hu2; omega)
 have p1:v[e+1]=v1:=by rw[← q1]
 have p2:v[e]=v2:=by rw[← q2]
 have p3:W[off+e]=u2:=by rw[← q3]
 have x1:(e:Int)<v.length:=by omega
 have x2:(e:Int)+1<v.length:=by omega
 have x3:(e:Int)<(e:Int)+3:=by omega
 refine zz (al m W v σ out b j off e) (fun k=>rK w v1 k<B) (w/v1-g) (by rw[hst]; simp) ?_ (fun k hk hr=>?_) (fun hr=>?_)
 ·show rK w v1 0<B
  unfold rK
  rw[Nat.zero_mul,Nat.add_zero]
  exact Nat.lt_trans (Nat.mod_lt w h1) hv1B
 ·have hkw:k≤w/v1:=Nat.le_trans (Nat.le_of_lt hk) (Nat.sub_le _ _)
  have hkw2:k+1≤w/v1:=Nat.le_trans hk (Nat.sub_le _ _)
  have heq:=P2 (w:=w) (v1:=v1) (k:=k) hkw
  have hbig:=(dX (u2:=u2) (v2:=v2) h1 heq).2 (by rw[← hg]; unfold gK; omega)
  have hgk:gK w v1 (k+1)+1=gK w v1 k:=by unfold gK; omega
  have hrk:rK w v1 (k+1)=rK w v1 k+v1:=by unfold rK; rw[Nat.add_mul]; omega
  have heq2:=P2 (w:=w) (v1:=v1) (k:=k+1) (by omega)
  have hbrk:=fun hB=>KZ (u2:=u2) (v2:=v2) h1 heq2 hw hv2B hB
  have hgle:gK w v1 k≤w:=by
   have:w/v1≤w:=Nat.div_le_self _ _
   unfold gK; omega
  have hend:B≤rK w v1 (k+1)→gK w v1 (k+1)=g:=fun hB=>by
   have:=hbrk hB
   rw[dX h1 heq2,← hg] at this
   unfold gK at *
   omega
  rw[hst]
  have hgsub:IntKind.u64.wrap ((gK w v1 k:Int)-1)=(gK w v1 (k+1):Int):=by rw[lw]<;>omega
  have hradd:IntKind.u64.wrap ((rK w v1 k:Int)+(v1:Int))=(rK w v1 (k+1):Int):=by
   rw[xk] at hr hv1B
   rw[lw]<;>omega
  have rest:∀ K2,(∀ q y,(q=69∨q=81)→(¬ B≤rK w v1 (k+1)→K2 Exit.normal {env:=[(0,.sl j 1 off (e+3)),(1,nl m v),(5,iv ((e:Int)+2)),(7,yk (gK w v1 (k+1))),(8,yk (rK w v1 (k+1))),(q,y)],sto:=σ,out:=out,base:=b}) ∧
    (B≤rK w v1 (k+1)→K2 (Exit.exit 0) {env:=[(0,.sl j 1 off (e+3)),(1,nl m v),(5,iv ((e:Int)+2)),(7,yk (gK w v1 (k+1))),(8,yk (rK w v1 (k+1))),(q,y)],sto:=σ,out:=out,base:=b})) →
    awp Try.prog wj {env:=[(0,.sl j 1 off (e+3)),(1,nl m v),(5,iv ((e:Int)+2)),(7,yk (gK w v1 k)),(8,yk (rK w v1 k))],sto:=σ,out:=out,base:=b} K2:=by
   intro K2 hK2
   by_cases hB:B≤gK w v1 k
   ·have hB':(4294967296:Int)≤gK w v1 k:=by rw[xk] at hB; omega
    by_cases hBr:B≤rK w v1 (k+1)
    ·have hBr':(4294967296:Int)≤rK w v1 (k+1):=by rw[xk] at hBr; omega
     simp[wj,hB',hBr',hgsub,i5,i3,i4,x2,hv1,p1,c1,hradd]
     exact (hK2 _ _ (by simp)).2 hBr
    ·have hBr':¬ (4294967296:Int)≤rK w v1 (k+1):=by rw[xk] at hBr; omega
     simp[wj,hB',hBr',hgsub,i5,i3,i4,x2,hv1,p1,c1,hradd]
     exact (hK2 _ _ (by simp)).1 hBr
   ·have hB':¬ (4294967296:Int)≤gK w v1 k:=by rw[xk] at hB; omega
    have hlt:rK w v1 k*B+u2<gK w v1 k*v2:=hbig.resolve_left hB
    have hor:=or_hi hr hu2
    have hsh:=T5 hr
    have hpl:gK w v1 k*v2<18446744073709551616:=by
     have:gK w v1 k*v2≤(B-1)*(B-1):=Nat.mul_le_mul (by omega) (by omega)
     have:(B-1)*(B-1)<18446744073709551616:=by decide
     omega
    obtain ⟨p,hp⟩:∃ p,gK w v1 k*v2=p:=⟨_,rfl⟩
    obtain ⟨rb,hrb⟩:∃ rb,rK w v1 k*B=rb:=⟨_,rfl⟩
    rw[hp] at hlt hpl
    rw[hrb] at hlt hor hsh
    have hmul:IntKind.u64.wrap ((gK w v1 k:Int)*(v2:Int))=(p:Int):=by
     rw[show (gK w v1 k:Int)*(v2:Int)=((gK w v1 k*v2:Nat):Int) by simp,hp]; exact w64 hpl
    have hlt':(rb:Int)+(u2:Int)<(p:Int):=by omega
    simp only[Int.natCast_add] at hor
    by_cases hBr:B≤rK w v1 (k+1)
    ·have hBr':(4294967296:Int)≤rK w v1 (k+1):=by rw[xk] at hBr; omega
     simp[wj,hB',hBr',hgsub,i1,i5,i3,i4,x1,x2,x3,hv0,hv1,hW0,p1,p2,p3,c1,c2,c3,hj,hmul,tg,hsh,hor,hlt',hradd]
     exact (hK2 _ _ (by simp)).2 hBr
    ·have hBr':¬ (4294967296:Int)≤rK w v1 (k+1):=by rw[xk] at hBr; omega
     simp[wj,hB',hBr',hgsub,i1,i5,i3,i4,x1,x2,x3,hv0,hv1,hW0,p1,p2,p3,c1,c2,c3,hj,hmul,tg,hsh,hor,hlt',hradd]
     exact (hK2 _ _ (by simp)).1 hBr
  refine rest _ fun q y hq=>⟨fun hB=>?_,fun hB=>?_⟩
  ·rw[aB,hst]
   refine ⟨by rcases hq with rfl | rfl<;>simp,by omega⟩
  ·have:=hend hB
   rw[this]
   exact hK _ _ _ hq
 ·have hgk:gK w v1 (w/v1-g)=g:=by unfold gK; omega
  have heq:=P2 (w:=w) (v1:=v1) (k:=w/v1-g) (by omega)
  have hnb:=fun hb=>(dX (u2:=u2) (v2:=v2) h1 heq).1 hb
  rw[hgk,← hg] at hnb
  have hB:¬ B≤g:=fun hb=>Nat.lt_irrefl _ (hnb (.inl hb))
  have hlt:¬ rK w v1 (w/v1-g)*B+u2<g*v2:=fun hb=>Nat.lt_irrefl _ (hnb (.inr hb))
  have hB':¬ (4294967296:Int)≤g:=by rw[xk] at hB; omega
  have hor:=or_hi hr hu2
  have hsh:=T5 hr
  have hst2:al m W v σ out b j off e (w/v1-g)={env:=[(0,.sl j 1 off (e+3)),(1,nl m v),(5,iv ((e:Int)+2)),(7,yk g),(8,yk (rK w v1 (w/v1-g)))],sto:=σ,out:=out,base:=b}:=by
   rw[hst,hgk]
  rw[hst2]
  clear hst2 heq
  generalize rK w v1 (w/v1-g)=r at *
  obtain ⟨p,hp⟩:∃ p,g*v2=p:=⟨_,rfl⟩
  obtain ⟨rb,hrb⟩:∃ rb,r*B=rb:=⟨_,rfl⟩
  have hpl:g*v2<18446744073709551616:=by
   have:g*v2≤(B-1)*(B-1):=Nat.mul_le_mul (by omega) (by omega)
   have:(B-1)*(B-1)<18446744073709551616:=by decide
   omega
  rw[hp] at hlt hpl
  rw[hrb] at hlt hor hsh
  have hmul:IntKind.u64.wrap ((g:Int)*(v2:Int))=(p:Int):=by
   rw[show (g:Int)*(v2:Int)=((g*v2:Nat):Int) by simp,hp]; exact w64 hpl
  have hlt':¬ (rb:Int)+(u2:Int)<(p:Int):=by omega
  simp only[Int.natCast_add] at hor
  simp[wj,hB',i1,x1,x3,hv0,hW0,p2,p3,c2,c3,hj,hmul,tg,hsh,hor,hlt']
  exact hK _ _ _ (by simp)
theorem Fy {p:Nat} (hp:p<18446744073709551616):sk .and .u64 (p:Int) 4294967295=((p%B:Nat):Int):=by
 have hbits:IntKind.u64.bits=64:=rfl
 simp only[sk]
 rw[BitVec.toNat_and]
 have e1:(BitVec.ofInt IntKind.u64.bits (p:Int)).toNat=p:=by rw[hbits,BitVec.toNat_ofInt]; omega
 have e2:(BitVec.ofInt IntKind.u64.bits 4294967295).toNat=4294967295:=rfl
 rw[e1,e2]
 have h:=Nat.and_two_pow_sub_one_eq_mod p 32
 have:(2:Nat)^32-1=4294967295:=by decide
 rw[this] at h
 rw[h,show (2:Nat)^32=B from rfl]
 exact w64 (Nat.lt_trans (Nat.mod_lt _ yd) (by decide))
def cK (g:Nat) (v:List Nat) (k:Nat):Nat:=g*val (v.take k)/B^k
def am (m:Am.Mode) (W v u:List Nat) (σ:List (Nat × zd)) (out:List (List (Nat × AV))) (b j off e g x T k:Nat):St :=
 {env:=[(0,.sl j 1 off (e+3)),(1,nl m v),(5,iv ((e:Int)+2)),(7,yk g),(9,yk (cK g v k)),(10,yk (bor x T k)),(82,iv ((e:Int)+2)),(83,iv k)],sto:=pt σ j (.arr 1 (zG (seg W off (yP (x-T) u k)))),out:=out,base:=b}
section
variable {m:Am.Mode} {W v:List Nat} {σ:List (Nat × zd)} {out:List (List (Nat × AV))} {b j off e g x:Nat} {K:Exit→St→Prop} (h:eQ W v off e) (hj:lk σ j=some (.arr 1 (zG W)))
  (hg:g<B) (hx:∀ k,k<e+3→x/B^k%B=W.getD (off+k) 0) (hT:g*val v≤x)
include h hj hg hx hT
omit hj in
theorem Te {s:St} (hs:fV s (am m W v ((W.drop off).take (e+3)) σ out b j off e g x (g*val v) 0))
  (hK:awp Try.prog tM {env:=[(0,.sl j 1 off (e+3)),(1,nl m v),(5,iv ((e:Int)+2)),(7,yk g),(9,yk (cK g v (e+2))),(10,yk (bor x (g*val v) (e+2))),(82,iv ((e:Int)+2)),(83,iv ((e:Int)+2)),(84,bv false)],sto:=pt σ j (.arr 1 (zG (seg W off (yP (x-g*val v) ((W.drop off).take (e+3)) (e+2))))),out:=out,base:=b} K) :
  awp Try.prog (.loop nV) s (wA 2 (rk Try.prog tM K)):=by
 have hvl:=h.hv
 have hWl:=h.hW
 have hsm:=h.small
 generalize hue:(W.drop off).take (e+3)=u at *
 have hul:u.length=e+3:=by rw[← hue]; simp; omega
 refine zz (am m W v u σ out b j off e g x (g*val v)) (fun _=>True) (e+2) hs trivial (fun k hk _=>?_) (fun _=>?_)
 ·have hkv:k<v.length:=by omega
  have hku:k<u.length:=by omega
  have hvB:=vG h.okv hkv
  have hWk:off+k<W.length:=by omega
  have huk:u[k]=W[off+k]:=by subst hue; simp
  have hq:W.getD (off+k) 0=W[off+k]:=by simp[hWk]
  have hukB:u[k]<B:=by rw[huk]; exact vG h.okW hWk
  have hcB:cK g v k<B:=bN h.okv hg k
  obtain ⟨m1,m2⟩:=Ek (g:=g) hkv
  have hsd:=TD (k:=k) hT
  have hbs:=Sh (x:=x) (y:=g*val v) (k:=k)
  have hb1:=Mm (x:=x) (y:=g*val v) (k:=k)
  rw[hx k (by omega),hq,← huk,m1] at hsd hbs
  have hck:cK g v (k+1)=(g*v[k]+cK g v k)/B:=m2
  change (((x-g*val v)/B^k%B:Nat):Int)=((u[k]:Nat)-((g*v[k]+cK g v k)%B:Nat)-(bor x (g*val v) k:Nat):Int)%4294967296 at hsd
  change bor x (g*val v) (k+1)=if u[k]<(g*v[k]+cK g v k)%B+bor x (g*val v) k then 1 else 0 at hbs
  have hpB:g*v[k]+cK g v k<18446744073709551616:=by
   have:=Le hg hvB hcB yd
   have hBB:B*B=18446744073709551616:=by decide
   omega
  have hmx:=dz (Z:=x-g*val v) hku
  have hml:=gf (Z:=x-g*val v) (u:=u) (k:=k) (by omega)
  have hmg:=dy (Z:=x-g*val v) hku
  have hsl:=jD (W:=W) (X:=yP (x-g*val v) u k) (off:=off) (by rw[hml]; omega)
  have hsg:=Zi (W:=W) (X:=yP (x-g*val v) u k) (off:=off) (i:=k) (by rw[hml]; omega) (by omega)
  have hss:=Zj (W:=W) (X:=yP (x-g*val v) u k) (off:=off) (i:=k) (d:=(x-g*val v)/B^k%B) (by rw[hml]; omega) (by omega)
  rw[hmx] at hss
  rw[hmg] at hsg
  obtain ⟨d,hd⟩:∃ d,(x-g*val v)/B^k%B=d:=⟨_,rfl⟩
  rw[hd] at hss hsd
  obtain ⟨p,hp⟩:∃ p,g*v[k]+cK g v k=p:=⟨_,rfl⟩
  obtain ⟨gv,hgv⟩:∃ gv,g*v[k]=gv:=⟨_,rfl⟩
  rw[hp] at hsd hbs hck hpB
  rw[hgv] at hp
  obtain ⟨pl,hpl⟩:∃ pl,p%B=pl:=⟨_,rfl⟩
  rw[hpl] at hsd hbs
  have hplB:pl<B:=by rw[← hpl]; exact Nat.mod_lt _ yd
  obtain ⟨c2,hc2⟩:∃ c2,p/B=c2:=⟨_,rfl⟩
  rw[hc2] at hck
  rw[am]
  generalize bor x (g*val v) k=b0 at *
  generalize hb2:bor x (g*val v) (k+1)=b2 at *
  have hA:off+k<(seg W off (yP (x-g*val v) u k)).length:=by omega
  have hset:(zG (seg W off (yP (x-g*val v) u k))).set (off+k) [uv d]=zG (seg W off (yP (x-g*val v) u (k+1))):=by rw[x6,hss]
  have hst1:am m W v u σ out b j off e g x (g*val v) (k+1)={env:=[(0,.sl j 1 off (e+3)),(1,nl m v),(5,iv ((e:Int)+2)),(7,yk g),(9,yk c2),(10,yk b2),(82,iv ((e:Int)+2)),(83,iv ((k:Int)+1))],sto:=pt σ j (.arr 1 (zG (seg W off (yP (x-g*val v) u (k+1))))),out:=out,base:=b}:=by
   rw[am,hck,hb2]; rfl
  clear hd
  generalize huk2:u[k]=uk at *
  have ek:(k:Int)<(e:Int)+2:=by omega
  have ekv:(k:Int)<v.length:=by omega
  have ek3:(k:Int)<(e:Int)+3:=by omega
  have u1:IntKind.u64.wrap ((v[k]:Nat):Int)=(v[k]:Nat):=w64 (Nat.lt_trans hvB (by decide))
  have u2:IntKind.u64.wrap ((g:Int)*(v[k]:Int))=(gv:Int):=by
   rw[show (g:Int)*(v[k]:Int)=((g*v[k]:Nat):Int) by simp,hgv]; exact w64 (by omega)
  have u3:IntKind.u64.wrap ((gv:Int)+(cK g v k:Int))=(p:Int):=by rw[lw]<;>omega
  have u4:(p:Int).fdiv (2^min 32 IntKind.u64.bits)=(c2:Int):=by rw[Zk,hc2]
  have u5:=Fy hpB
  rw[hpl] at u5
  rw[xk] at hukB hplB
  have u6:IntKind.u64.wrap (uk:Int)=uk:=w64 (by omega)
  have u7:=CC ((uk:Int)-(pl:Int)) (b0:Int)
  have u8:=Fw ((uk:Int)-(pl:Int)-(b0:Int))
  rw[← hsd] at u8
  have u9:=Fv (u:=(uk:Int)-(pl:Int)-(b0:Int)) (by omega) (by omega)
  have u10:(if (uk:Int)-(pl:Int)-(b0:Int)<0 then (1:Int) else 0)=(b2:Int):=by
   rw[hbs]; split<;>split<;>omega
  rw[u10] at u9
  have w1:IntKind.i64.wrap ((k:Int)+1)=(k:Int)+1:=wrap64 (by omega) (by omega)
  simp[nV,ek,ekv,ek3,hkv,u1,u2,u3,u4,u5,u6,u7,u8,u9,hA,hsg,splice,hset,w1,wI,hst1]
 ·simp[nV,am]
  exact hK
end
def YJ (m:Am.Mode) (W v z:List Nat) (σ:List (Nat × zd)) (out:List (List (Nat × AV))) (b j off e g k:Nat):St :=
 {env:=[(0,.sl j 1 off (e+3)),(1,nl m v),(5,iv ((e:Int)+2)),(7,yk g),(9,yk (car z v k)),(134,iv ((e:Int)+2)),(135,iv k)],sto:=pt σ j (.arr 1 (zG (seg W off (yP (val z+val v) z k)))),out:=out,base:=b}
section
variable {m:Am.Mode} {W v z:List Nat} {σ:List (Nat × zd)} {out:List (List (Nat × AV))} {b j off e g:Nat} {K:Exit→St→Prop} (h:eQ W v off e) (hz:ok z) (hzl:z.length=e+3)
include h hz hzl
theorem PS {s:St} (hs:fV s (YJ m W v z σ out b j off e g 0))
  (hK:awp Try.prog rO {env:=[(0,.sl j 1 off (e+3)),(1,nl m v),(5,iv ((e:Int)+2)),(7,yk g),(9,yk (car z v (e+2))),(134,iv ((e:Int)+2)),(135,iv ((e:Int)+2)),(136,bv false)],sto:=pt σ j (.arr 1 (zG (seg W off (yP (val z+val v) z (e+2))))),out:=out,base:=b} K) :
  awp Try.prog (.loop nW) s (wA 4 (rk Try.prog rO K)):=by
 have hvl:=h.hv
 have hWl:=h.hW
 have hsm:=h.small
 refine zz (YJ m W v z σ out b j off e g) (fun _=>True) (e+2) hs trivial (fun k hk _=>?_) (fun _=>?_)
 ·have hkv:k<v.length:=by omega
  have hkz:k<z.length:=by omega
  have hvB:=vG h.okv hkv
  have hzB:=vG hz hkz
  have hc:=Y8 hz h.okv k
  obtain ⟨t,ht,g1,g2⟩:=X8 (a:=z) (b:=v) hkz (by omega)
  rw[List.getElem?_eq_getElem hkv,Option.getD_some] at ht
  have hmx:=dz (Z:=val z+val v) hkz
  have hml:=gf (Z:=val z+val v) (u:=z) (k:=k) (by omega)
  have hmg:=dy (Z:=val z+val v) hkz
  have hsl:=jD (W:=W) (X:=yP (val z+val v) z k) (off:=off) (by rw[hml]; omega)
  have hsg:=Zi (W:=W) (X:=yP (val z+val v) z k) (off:=off) (i:=k) (by rw[hml]; omega) (by omega)
  have hss:=Zj (W:=W) (X:=yP (val z+val v) z k) (off:=off) (i:=k) (d:=(val z+val v)/B^k%B) (by rw[hml]; omega) (by omega)
  rw[hmx,g1] at hss
  rw[hmg] at hsg
  obtain ⟨d,hd⟩:∃ d,t%B=d:=⟨_,rfl⟩
  obtain ⟨q,hq⟩:∃ q,t/B=q:=⟨_,rfl⟩
  rw[hd] at hss
  rw[hq] at g2
  have hA:off+k<(seg W off (yP (val z+val v) z k)).length:=by omega
  have hset:(zG (seg W off (yP (val z+val v) z k))).set (off+k) [uv d]=zG (seg W off (yP (val z+val v) z (k+1))):=by rw[x6,hss]
  have hst1:YJ m W v z σ out b j off e g (k+1)={env:=[(0,.sl j 1 off (e+3)),(1,nl m v),(5,iv ((e:Int)+2)),(7,yk g),(9,yk q),(134,iv ((e:Int)+2)),(135,iv ((k:Int)+1))],sto:=pt σ j (.arr 1 (zG (seg W off (yP (val z+val v) z (k+1))))),out:=out,base:=b}:=by
   rw[YJ,g2]; rfl
  rw[YJ]
  generalize car z v k=c at *
  generalize hzk:z[k]=zk at *
  generalize hvk:v[k]=vk at *
  rw[xk] at hvB hzB
  have ek:(k:Int)<(e:Int)+2:=by omega
  have ekv:(k:Int)<v.length:=by omega
  have ek3:(k:Int)<(e:Int)+3:=by omega
  have f1:IntKind.u32.wrap (t:Int)=(d:Int):=by rw[w32,hd]
  have f2:(t:Int).fdiv (2^min 32 IntKind.u64.bits)=(q:Int):=by rw[Zk,hq]
  have u1:IntKind.u64.wrap (vk:Int)=vk:=w64 (by omega)
  have u2:IntKind.u64.wrap (zk:Int)=zk:=w64 (by omega)
  have u3:IntKind.u64.wrap ((zk:Int)+(vk:Int))=(zk:Int)+vk:=by rw[lw]<;>omega
  have u4:IntKind.u64.wrap ((zk:Int)+(vk:Int)+(c:Int))=(t:Int):=by rw[lw]<;>omega
  have w1:IntKind.i64.wrap ((k:Int)+1)=(k:Int)+1:=wrap64 (by omega) (by omega)
  simp[nW,ek,ekv,ek3,hkv,hvk,u1,u2,u3,u4,f1,f2,hA,hsg,splice,hset,w1,wI,hst1]
 ·simp[nW,YJ]
  exact hK
theorem KW (hg:0<g) (hgB:g<B):awp Try.prog rO {env:=[(0,.sl j 1 off (e+3)),(1,nl m v),(5,iv ((e:Int)+2)),(7,yk g),(9,yk (car z v (e+2))),(134,iv ((e:Int)+2)),(135,iv ((e:Int)+2)),(136,bv false)],sto:=pt σ j (.arr 1 (zG (seg W off (yP (val z+val v) z (e+2))))),out:=out,base:=b}
  (fun ex s=>ex=.ret∧s={env:=[(4,uv (g-1))],sto:=pt σ j (.arr 1 (zG (seg W off (zu (e+3) (val z+val v))))),out:=out,base:=b}):=by
 have hvl:=h.hv
 have hWl:=h.hW
 have hsm:=h.small
 have hkz:e+2<z.length:=by omega
 have hzB:=vG hz hkz
 have hc:=Y8 hz h.okv (e+2)
 obtain ⟨t,ht,g1,g2⟩:=X8 (a:=z) (b:=v) hkz (by omega)
 rw[List.getElem?_eq_none (by omega),Option.getD_none] at ht
 have hmx:=dz (Z:=val z+val v) hkz
 have hml:=gf (Z:=val z+val v) (u:=z) (k:=e+2) (by omega)
 have hmg:=dy (Z:=val z+val v) hkz
 have hsl:=jD (W:=W) (X:=yP (val z+val v) z (e+2)) (off:=off) (by rw[hml]; omega)
 have hsg:=Zi (W:=W) (X:=yP (val z+val v) z (e+2)) (off:=off) (i:=e+2) (by rw[hml]; omega) (by omega)
 have hss:=Zj (W:=W) (X:=yP (val z+val v) z (e+2)) (off:=off) (i:=e+2) (d:=(val z+val v)/B^(e+2)%B) (by rw[hml]; omega) (by omega)
 rw[hmx,g1,show e+2+1=e+3 from rfl,S1 hzl] at hss
 rw[hmg] at hsg
 obtain ⟨d,hd⟩:∃ d,t%B=d:=⟨_,rfl⟩
 rw[hd] at hss
 have hA:off+(e+2)<(seg W off (yP (val z+val v) z (e+2))).length:=by omega
 have hset:(zG (seg W off (yP (val z+val v) z (e+2)))).set (off+(e+2)) [uv d]=zG (seg W off (zu (e+3) (val z+val v))):=by rw[x6,hss]
 generalize car z v (e+2)=c at *
 generalize hzk:z[e+2]=zk at *
 have e1:((e:Int)+2).toNat=e+2:=by omega
 have e2:(0:Int)≤(e:Int)+2:=by omega
 have e3:(e:Int)+2<(e:Int)+3:=by omega
 have u1:IntKind.u32.wrap (c:Int)=c:=IntWalk.u32_in _ (by omega)
 have u2:IntKind.u32.wrap ((zk:Int)+(c:Int))=(d:Int):=by
  have:(zk:Int)+(c:Int)=(t:Int):=by omega
  rw[this,w32,hd]
 rw[xk] at hgB
 have u3:IntKind.u64.wrap ((g:Int)-1)=((g-1:Nat):Int):=by rw[lw]<;>omega
 have u4:IntKind.u32.wrap ((g-1:Nat):Int)=((g-1:Nat):Int):=IntWalk.u32_in _ (by omega)
 simp[rO,e1,e2,e3,hA,hsg,u1,u2,u3,u4,splice,hset]
end
theorem Xv {α:Type} {l:List (Nat × α)} {n:Nat} {x:α} (h:lk l n=some x):lk (pt l n x)=lk l:=by
 funext i
 rw[vO]
 split
 ·subst i; exact h.symm
 ·rfl
section
variable {m:Am.Mode} {W v:List Nat} {σ:List (Nat × zd)} {out:List (List (Nat × AV))} {b j off e g x:Nat} {K:Exit→St→Prop} (h:eQ W v off e)
  (hg:g<B) (hx:∀ k,k<e+3→x/B^k%B=W.getD (off+k) 0) (hT:g*val v≤x) (hZ:x-g*val v<B^(e+3))
include h hg hx hT hZ
theorem PT (hK0:bor x (g*val v) (e+3)=0→K .ret {env:=[(4,uv g)],sto:=pt σ j (.arr 1 (zG (seg W off (zu (e+3) (x-g*val v))))),out:=out,base:=b})
  (hK1:bor x (g*val v) (e+3)=1→0<g∧K .ret {env:=[(4,uv (g-1))],sto:=pt σ j (.arr 1 (zG (seg W off (zu (e+3) (x-g*val v+val v))))),out:=out,base:=b}) :
  awp Try.prog tM {env:=[(0,.sl j 1 off (e+3)),(1,nl m v),(5,iv ((e:Int)+2)),(7,yk g),(9,yk (cK g v (e+2))),(10,yk (bor x (g*val v) (e+2))),(82,iv ((e:Int)+2)),(83,iv ((e:Int)+2)),(84,bv false)],sto:=pt σ j (.arr 1 (zG (seg W off (yP (x-g*val v) ((W.drop off).take (e+3)) (e+2))))),out:=out,base:=b} K:=by
 have hvl:=h.hv
 have hWl:=h.hW
 have hsm:=h.small
 generalize hue:(W.drop off).take (e+3)=u at *
 have hul:u.length=e+3:=by rw[← hue]; simp; omega
 have hku:e+2<u.length:=by omega
 have hWk:off+(e+2)<W.length:=by omega
 have huk:u[e+2]=W[off+(e+2)]:=by subst hue; simp
 have hq:W.getD (off+(e+2)) 0=W[off+(e+2)]:=by simp[hWk]
 have hukB:u[e+2]<B:=by rw[huk]; exact vG h.okW hWk
 have hcB:cK g v (e+2)<B:=bN h.okv hg (e+2)
 have hcT:g*val v/B^(e+2)%B=cK g v (e+2):=by
  have:cK g v (e+2)=g*val v/B^(e+2):=by unfold cK; rw[List.take_of_length_le (by omega)]
  rw[← this,Nat.mod_eq_of_lt hcB]
 have hsd:=TD (k:=e+2) hT
 have hbs:=Sh (x:=x) (y:=g*val v) (k:=e+2)
 have hb1:=Mm (x:=x) (y:=g*val v) (k:=e+2)
 rw[hx (e+2) (by omega),hq,← huk,hcT] at hsd hbs
 have hmx:=dz (Z:=x-g*val v) hku
 rw[show e+2+1=e+3 from rfl,S1 hul] at hmx
 have hml:=gf (Z:=x-g*val v) (u:=u) (k:=e+2) (by omega)
 have hmg:=dy (Z:=x-g*val v) hku
 have hsl:=jD (W:=W) (X:=yP (x-g*val v) u (e+2)) (off:=off) (by rw[hml]; omega)
 have hsg:=Zi (W:=W) (X:=yP (x-g*val v) u (e+2)) (off:=off) (i:=e+2) (by rw[hml]; omega) (by omega)
 have hss:=Zj (W:=W) (X:=yP (x-g*val v) u (e+2)) (off:=off) (i:=e+2) (d:=(x-g*val v)/B^(e+2)%B) (by rw[hml]; omega) (by omega)
 rw[hmx] at hss
 rw[hmg] at hsg
 obtain ⟨d,hd⟩:∃ d,(x-g*val v)/B^(e+2)%B=d:=⟨_,rfl⟩
 rw[hd] at hss hsd
 rw[show e+2+1=e+3 from rfl] at hbs
 have hA:off+(e+2)<(seg W off (yP (x-g*val v) u (e+2))).length:=by omega
 have hset:(zG (seg W off (yP (x-g*val v) u (e+2)))).set (off+(e+2)) [uv d]=zG (seg W off (zu (e+3) (x-g*val v))):=by rw[x6,hss]
 have hg0:bor x (g*val v) (e+3)=1→0<g:=fun h1=>by
  rcases Nat.eq_zero_or_pos g with h0 | h0
  ·exfalso
   rw[h0,Nat.zero_mul] at h1
   simp[bor] at h1
  ·exact h0
 generalize cK g v (e+2)=c at *
 generalize bor x (g*val v) (e+2)=b0 at *
 generalize hb2:bor x (g*val v) (e+3)=b2 at *
 generalize huk2:u[e+2]=uk at *
 clear hd
 have e1:((e:Int)+2).toNat=e+2:=by omega
 have e2:(0:Int)≤(e:Int)+2:=by omega
 have e3:(e:Int)+2<(e:Int)+3:=by omega
 rw[xk] at hukB hcB
 have u6:IntKind.u64.wrap (uk:Int)=uk:=w64 (by omega)
 have u7:=CC ((uk:Int)-(c:Int)) (b0:Int)
 have u8:=Fw ((uk:Int)-(c:Int)-(b0:Int))
 have hsd':((d:Nat):Int)=((uk:Int)-(c:Int)-(b0:Int))%4294967296:=hsd
 rw[← hsd'] at u8
 have u9:=Fv (u:=(uk:Int)-(c:Int)-(b0:Int)) (by omega) (by omega)
 have u10:(if (uk:Int)-(c:Int)-(b0:Int)<0 then (1:Int) else 0)=(b2:Int):=by
  rw[hbs]; split<;>split<;>omega
 rw[u10] at u9
 have hgB:=hg
 rw[xk] at hgB
 have u11:IntKind.u32.wrap (g:Int)=(g:Int):=IntWalk.u32_in _ (by omega)
 have hb2v:b2=0∨b2=1:=by rw[hbs]; split<;>simp
 rcases hb2v with h0 | h0
 ·subst h0
  simp[tM,e1,e2,e3,hA,hsg,u6,u7,u8,u9,u11,wI,splice,hset]
  exact hK0 rfl
 ·subst h0
  obtain ⟨hgp,hfin⟩:=hK1 rfl
  simp[tM,e1,e2,e3,hA,hsg,u6,u7,u8,u9,wI,splice,hset]
  refine PS (m:=m) (σ:=σ) (out:=out) (b:=b) (j:=j) (g:=g) h (xE (n:=e+3) (x:=x-g*val v)) zy ?_ ?_
  ·simp[YJ,bL,Yi]
  ·refine ya (fun ex s hs=>?_) (KW h (xE (n:=e+3) (x:=x-g*val v)) zy hgp hg)
   rw[y8 hZ] at hs
   obtain ⟨rfl,rfl⟩:=hs
   exact hfin
theorem Td (hj:lk σ j=some (.arr 1 (zG W))) {r y:AV} {q:Nat} (hq:q=69∨q=81) (hK0:bor x (g*val v) (e+3)=0→K .ret {env:=[(4,uv g)],sto:=pt σ j (.arr 1 (zG (seg W off (zu (e+3) (x-g*val v))))),out:=out,base:=b})
  (hK1:bor x (g*val v) (e+3)=1→0<g∧K .ret {env:=[(4,uv (g-1))],sto:=pt σ j (.arr 1 (zG (seg W off (zu (e+3) (x-g*val v+val v))))),out:=out,base:=b}) :
  awp Try.prog wT {env:=[(0,.sl j 1 off (e+3)),(1,nl m v),(5,iv ((e:Int)+2)),(7,yk g),(8,r),(q,y)],sto:=σ,out:=out,base:=b} K:=by
 have hl:=PT (m:=m) (σ:=σ) (out:=out) (b:=b) (j:=j) h hg hx hT hZ hK0 hK1
 have hc0:cK g v 0=0:=by simp[cK,val]
 have hs:=GI (W:=W) (off:=off) (n:=e+3) (by have:=h.hW; omega)
 rcases hq with rfl | rfl
 ·simp[wT]
  refine Te h hg hx hT ?_ hl
  simp[am,bL,hs,hc0,Si]
  exact .inr (.inl (Xv hj))
 ·simp[wT]
  refine Te h hg hx hT ?_ hl
  simp[am,bL,hs,hc0,Si]
  exact .inr (.inl (Xv hj))
end
theorem KF {v:List Nat} {e:Nat} (h:v.length=e+2):val v=(v.getD (e+1) 0*B+v.getD e 0)*B^e+val (v.take e):=by
 have h1:=vW v e
 have h2:v.drop e=[v[e],v[e+1]]:=by
  rw[List.drop_eq_getElem_cons (by omega),List.drop_eq_getElem_cons (by omega),List.drop_of_length_le (by omega)]
 rw[Nat.min_eq_left (by omega),h2] at h1
 have q1:v.getD (e+1) 0=v[e+1]:=by simp[h]
 have q2:v.getD e 0=v[e]:=by simp[h]
 rw[h1,q1,q2]
 simp only[val,Nat.mul_zero,Nat.add_zero]
 grind
theorem KG {u:List Nat} {e:Nat} (h:u.length=e+3):val u=((u.getD (e+2) 0*B+u.getD (e+1) 0)*B+u.getD e 0)*B^e+val (u.take e):=by
 have h1:=vW u e
 have h2:u.drop e=[u[e],u[e+1],u[e+2]]:=by
  rw[List.drop_eq_getElem_cons (by omega),List.drop_eq_getElem_cons (by omega),List.drop_eq_getElem_cons (by omega),List.drop_of_length_le (by omega)]
 rw[Nat.min_eq_left (by omega),h2] at h1
 have q0:u.getD (e+2) 0=u[e+2]:=by simp[h]
 have q1:u.getD (e+1) 0=u[e+1]:=by simp[h]
 have q2:u.getD e 0=u[e]:=by simp[h]
 rw[h1,q0,q1,q2]
 simp only[val,Nat.mul_zero,Nat.add_zero]
 grind
theorem Cu {t v1 v2 u2 P Q R U V:Nat} (_hP:0<P) (hU:U=(t*B+u2)*P+R) (hV:V=(v1*B+v2)*P+Q) (hQ:Q<P) (hv2:v2<B) (hlt:U<V*B):t≤v1*B+(B-1):=by
 have a1:t*B*P≤U:=by
  rw[hU]
  have:t*B*P≤(t*B+u2)*P:=Nat.mul_le_mul_right _ (Nat.le_add_right _ _)
  exact Nat.le_trans this (Nat.le_add_right _ _)
 have a2:V≤(v1*B+B)*P:=by
  rw[hV]
  have h1:(v1*B+v2+1)*P≤(v1*B+B)*P:=Nat.mul_le_mul_right _ (by omega)
  rw[Nat.add_mul,Nat.one_mul] at h1
  exact Nat.le_trans (Nat.add_le_add_left (Nat.le_of_lt hQ) _) h1
 have a3:V*B≤(v1*B+B)*P*B:=Nat.mul_le_mul_right _ a2
 have a4:t*(P*B)<(v1*B+B)*(P*B):=by
  rw[← Nat.mul_assoc,← Nat.mul_assoc]
  rw[Nat.mul_assoc t,Nat.mul_comm B P,← Nat.mul_assoc] at a1
  exact Nat.lt_of_le_of_lt a1 (Nat.lt_of_lt_of_le hlt a3)
 have a5:=Nat.lt_of_mul_lt_mul_right a4
 have:=yd
 generalize v1*B=q at *
 omega
theorem Eb {w v1:Nat}:gK w v1 0=w/v1:=Nat.sub_zero _
theorem EE {w v1:Nat}:rK w v1 0=w%v1:=by unfold rK; rw[Nat.zero_mul,Nat.add_zero]
theorem N6 {a c:Nat} (ha:a<B) (hc:c<B):a*B+c<18446744073709551616:=by
 have:(a+1)*B≤B*B:=Nat.mul_le_mul_right _ ha
 have hBB:B*B=18446744073709551616:=by decide
 rw[Nat.add_mul,hBB,Nat.one_mul] at this
 exact Nat.lt_of_lt_of_le (Nat.add_lt_add_left hc _) this
theorem Jg {z n:Nat}:zu n (z+B^n)=zu n z:=Tf
theorem FX {m:Am.Mode} {W v:List Nat} {σ:List (Nat × zd)} {out:List (List (Nat × AV))} {b j off e g U Q R:Nat} {K:Exit→St→Prop} (h:eQ W v off e) (hg:g<B) (hj:lk σ j=some (.arr 1 (zG W)))
  {r y:AV} {q:Nat} (hq:q=69∨q=81) (hx:∀ k,k<e+3→U/B^k%B=W.getD (off+k) 0) (hUN:U<B^(e+3)) (hTN:g*val v<B^(e+3)) (hmod:val v*Q+R=U) (hR:R<val v) (hc:Q≤g∧g≤Q+1)
  (hK:∀ ex s,ex=.ret→s={env:=[(4,uv Q)],sto:=pt σ j (.arr 1 (zG (seg W off (zu (e+3) R)))),out:=out,base:=b}→K ex s) :
  awp Try.prog wT {env:=[(0,.sl j 1 off (e+3)),(1,nl m v),(5,iv ((e:Int)+2)),(7,yk g),(8,r),(q,y)],sto:=σ,out:=out,base:=b} K:=by
 rcases Nat.lt_or_ge U (g*val v) with hlt | hle
 ·have hgQ:g=Q+1:=by
   rcases Nat.lt_or_ge Q g with h1 | h1
   ·omega
   ·exfalso
    have:g*val v≤Q*val v:=Nat.mul_le_mul_right _ h1
    rw[Nat.mul_comm] at hmod
    omega
  subst hgQ
  have hz:U+B^(e+3)-(Q+1)*val v+val v=R+B^(e+3):=by
   rw[Nat.add_mul,Nat.one_mul] at *
   rw[Nat.mul_comm] at hmod
   omega
  refine Td (x:=U+B^(e+3)) h hg (fun k hk=>?_) (by omega) (by omega) hj hq (fun h0=>?_) (fun _=>⟨by omega,?_⟩)
  ·rw[MD hk]; exact hx k hk
  ·exfalso
   simp only[bor,Nat.add_mod_right,Nat.mod_eq_of_lt hUN,Nat.mod_eq_of_lt hTN,if_pos hlt] at h0
   exact absurd h0 (by decide)
  ·refine hK _ _ rfl ?_
   rw[hz,Jg,Nat.add_sub_cancel]
 ·have hgQ:g=Q:=by
   rcases Nat.lt_or_ge Q g with h1 | h1
   ·exfalso
    have:(Q+1)*val v≤g*val v:=Nat.mul_le_mul_right _ h1
    rw[Nat.add_mul,Nat.one_mul] at this
    rw[Nat.mul_comm] at hmod
    omega
   ·omega
  subst hgQ
  have hz:U-g*val v=R:=by
   rw[Nat.mul_comm] at hmod
   omega
  refine Td (x:=U) h hg hx hle (by omega) hj hq (fun _=>?_) (fun h1=>?_)
  ·exact hK _ _ rfl (by rw[hz])
  ·exfalso
   simp only[bor,Nat.mod_eq_of_lt hUN,Nat.mod_eq_of_lt hTN,if_neg (Nat.not_lt.mpr hle)] at h1
   exact absurd h1 (by decide)
theorem DB {m:Am.Mode} {W v:List Nat} {s:St} {K:AV→St→Prop} (b:Nat) {j off e U:Nat} (h:eQ W v off e) (hj:lk s.sto j=some (.arr 1 (zG W)))
  (h1:0<v.getD (e+1) 0) (hU:U=val ((W.drop off).take (e+3))) (hlt:U<val v*B)
  (hK:K (uv (U/val v)) ⟨s.env,pt s.sto j (.arr 1 (zG (seg W off (zu (e+3) (U%val v))))),s.out,s.base⟩):va Try.prog gJ [.sl j 1 off (e+3),nl m v] s K:=by
 obtain ⟨env,σ,out,base⟩:=s
 simp only at hj hK
 have hvl:=h.hv
 have hWl:=h.hW
 have hsm:=h.small
 have hul:((W.drop off).take (e+3)).length=e+3:=by simp; omega
 have hug:∀ k,k<e+3→((W.drop off).take (e+3)).getD k 0=W.getD (off+k) 0:=fun k hk=>by
  simp[List.getD,hk]
 have hvV:=KF hvl
 have huU:=KG hul
 rw[← hU,hug _ (by omega),hug _ (by omega),hug _ (by omega)] at huU
 have okv2:ok ((W.drop off).take (e+3)):=tX (UF h.okW off) _
 have hv2:v.getD e 0<B:=lh h.okv _
 have hu2:W.getD (off+e) 0<B:=lh h.okW _
 have hQ:val (v.take e)<B^e:=w9 (tX h.okv e) (by simp; omega)
 have hR:val (((W.drop off).take (e+3)).take e)<B^e:=w9 (tX okv2 e) (by simp; omega)
 have hclose:=Ns (w:=rn W off e) h1 hu2 hv2 huU hR hvV hQ hlt
 have hw:rn W off e≤v.getD (e+1) 0*B+(B-1):=by
  exact Cu (Nat.pow_pos yd) huU hvV hQ hv2 hlt
 have hv1:e+1<v.length:=by omega
 have hWa:off+(e+2)<W.length:=by omega
 have hWb:off+(e+1)<W.length:=by omega
 refine Pw b TE (by simp) ?_
 have p1:v.getD (e+1) 0=v[e+1]:=by simp[hv1]
 have p2:W.getD (off+(e+2)) 0=W[off+(e+2)]:=by simp[hWa]
 have p3:W.getD (off+(e+1)) 0=W[off+(e+1)]:=by simp[hWb]
 have b1:v[e+1]<B:=vG h.okv hv1
 have b2:W[off+(e+2)]<B:=vG h.okW hWa
 have b3:W[off+(e+1)]<B:=vG h.okW hWb
 have hsh:=T5 b2
 have hwe:rn W off e=W[off+(e+2)]*B+W[off+(e+1)]:=by rw[rn,p2,p3]
 have hor:sk .or .u64 ((W[off+(e+2)]*B:Nat):Int) (W[off+(e+1)]:Int)=((rn W off e:Nat):Int):=by rw[hwe]; exact or_hi b2 b3
 have hwB:rn W off e<18446744073709551616:=by rw[hwe]; exact N6 b2 b3
 have fin:∀ K2:Exit→St→Prop,(∀ ex s,ex=.ret→s={env:=[(4,uv (U/val v))],sto:=pt σ j (.arr 1 (zG (seg W off (zu (e+3) (U%val v))))),out:=env::out,base:=b}→K2 ex s) →
   awp Try.prog (.loop wj) (al m W v σ (env::out) b j off e 0) (wA 0 (rk Try.prog wT K2)):=by
  intro K2 hK2
  have hw3:∀ k,k<e+3→U/B^k%B=W.getD (off+k) 0:=fun k hk=>by
   have hd:=bp okv2
   rw[hul,← hU] at hd
   have h2:k<(zu (e+3) U).length:=by rw[zy]; exact hk
   rw[← wW h2,← hug k hk,← hd]
   simp[List.getD,h2]
  have hUN:U<B^(e+3):=by rw[hU]; exact w9 okv2 (Nat.le_of_eq hul)
  have hVpos:0<val v:=by
   have hpp:=Nat.pow_pos (n:=e) yd
   rw[hvV]
   exact Nat.lt_of_lt_of_le (Nat.mul_pos (Nat.lt_of_lt_of_le (Nat.mul_pos h1 yd) (Nat.le_add_right _ _)) hpp) (Nat.le_add_right _ _)
  have hgB:my (rn W off e) (W.getD (off+e) 0) (v.getD (e+1) 0) (v.getD e 0)<B:=Nat.lt_of_le_of_lt (Nat.min_le_left _ _) (by decide)
  refine Qk h hj h1 hw _ rfl fun r q y hq=>?_
  generalize my (rn W off e) (W.getD (off+e) 0) (v.getD (e+1) 0) (v.getD e 0)=g at *
  have hmod:val v*(U/val v)+U%val v=U:=Nat.div_add_mod U (val v)
  have hml:=Nat.mod_lt U hVpos
  have hVN:val v<B^(e+2):=w9 h.okv (Nat.le_of_eq hvl)
  have hTN:g*val v<B^(e+3):=by
   rw[show e+3=(e+2)+1 from rfl,Nat.pow_succ,Nat.mul_comm]
   exact Nat.mul_lt_mul_of_lt_of_lt hVN hgB
  exact FX h hgB hj hq hw3 hUN hTN hmod hml hclose hK2
 have st0:al m W v σ (env::out) b j off e 0={env:=[(0,.sl j 1 off (e+3)),(1,nl m v),(5,iv ((e:Int)+2)),(7,yk (rn W off e/v.getD (e+1) 0)),(8,yk (rn W off e%v.getD (e+1) 0))],sto:=σ,out:=env::out,base:=b}:=by
  rw[al,Eb,EE]
 rw[st0] at fin
 clear hwe
 clear st0 hclose hw huU hvV
 obtain ⟨rb,hrb⟩:∃ rb,W[off+(e+2)]*B=rb:=⟨_,rfl⟩
 rw[hrb] at hor hsh
 generalize rn W off e=w at *
 rw[p1] at fin h1
 generalize g1:v[e+1]=v1 at *
 generalize g2:W[off+(e+2)]=w3 at *
 generalize g3:W[off+(e+1)]=w2 at *
 have t1:IntKind.u64.wrap ((w:Int).tdiv v1)=((w/v1:Nat):Int):=by
  rw[← Int.ofNat_tdiv]
  exact w64 (Nat.lt_of_le_of_lt (Nat.div_le_self _ _) hwB)
 have t2:((w:Int).tmod v1)=((w%v1:Nat):Int):=by rw[← Int.ofNat_tmod]
 have t3:IntKind.u64.wrap ((w:Int)/v1)=((w/v1:Nat):Int):=by
  rw[← Int.natCast_ediv]
  exact w64 (Nat.lt_of_le_of_lt (Nat.div_le_self _ _) hwB)
 generalize w/v1=q at *
 generalize w%v1=r at *
 have hv10:¬ v1=0:=by omega
 have c0:(e:Int)+2<(e:Int)+3:=by omega
 have c1:((e:Int)+2).toNat=e+2:=by omega
 have c2:((e:Int)+1).toNat=e+1:=by omega
 have c3:(0:Int)≤(e:Int)+2:=by omega
 have c4:(0:Int)≤(e:Int)+1:=by omega
 have c5:(e:Int)+1<(e:Int)+3:=by omega
 have i5:IntKind.i64.wrap ((e:Int)+2-1)=(e:Int)+1:=by rw[wrap64]<;>omega
 have hlen:(v.length:Int)=(e:Int)+2:=by omega
 rw[xk] at b1 b2 b3
 have u1:IntKind.u64.wrap (v1:Int)=v1:=w64 (by omega)
 have u2:IntKind.u64.wrap (w3:Int)=w3:=w64 (by omega)
 have u3:IntKind.u64.wrap (w2:Int)=w2:=w64 (by omega)
 simp[c9,hj,g1,g2,g3,c0,c1,c2,c3,c4,c5,i5,hlen,u1,u2,u3,hWa,hWb,hv1,hv10,tg,hsh,hor,Sv,Sw,t2,t3]
 refine fin _ fun ex s he hs=>?_
 subst he hs
 simp[bW]
 exact hK
end Go.Proofs.Ytbmhibiljjnfiaa

namespace Go.Dig
def lz (t:Nat):Nat:=31-Nat.log2 t
theorem T0 {t:Nat}:lz t<32:=by unfold lz; omega
theorem DY {t:Nat} (ht:t<B):Nat.log2 t<32:=by
 rcases Nat.eq_zero_or_pos t with h | h
 ·subst h; decide
 ·exact (Nat.log2_lt (by omega)).2 ht
theorem JQ {t k:Nat} (_ht:t<B) (hk:k<lz t):t*2^k<2147483648:=by
 have h1:t<2^(Nat.log2 t+1):=Nat.lt_log2_self
 have h2:t*2^k<2^(Nat.log2 t+1)*2^k:=Nat.mul_lt_mul_of_pos_right h1 (Nat.pow_pos (by omega))
 rw[← Nat.pow_add] at h2
 have h3:2^(Nat.log2 t+1+k)≤2^31:=Nat.pow_le_pow_right (by omega) (by unfold lz at hk; omega)
 have h4:(2:Nat)^31=2147483648:=by decide
 omega
theorem SZ {t:Nat} (h0:0<t) (ht:t<B):2147483648≤t*2^lz t∧t*2^lz t<B:=by
 have hl:=DY ht
 constructor
 ·have h1:2^Nat.log2 t≤t:=Nat.log2_self_le (by omega)
  have h2:2^Nat.log2 t*2^lz t≤t*2^lz t:=Nat.mul_le_mul_right _ h1
  rw[← Nat.pow_add,show Nat.log2 t+lz t=31 by unfold lz; omega] at h2
  have h4:(2:Nat)^31=2147483648:=by decide
  omega
 ·have h1:t<2^(Nat.log2 t+1):=Nat.lt_log2_self
  have h2:t*2^lz t<2^(Nat.log2 t+1)*2^lz t:=Nat.mul_lt_mul_of_pos_right h1 (Nat.pow_pos (by omega))
  rw[← Nat.pow_add,show Nat.log2 t+1+lz t=32 by unfold lz; omega] at h2
  exact h2
theorem Ql {x n:Nat} (h1:B^n≤x) (h2:x<B^(n+1)):(zr x).length=n+1:=by
 have a:=xb.2 h2
 have b:=fS.2 h1
 omega
theorem fE {D n:Nat} (h:(zr D).length=n+1):B^n≤D∧D<B^(n+1)∧0<D/B^n∧D/B^n<B:=by
 have a:B^n≤D:=fS.1 (by omega)
 have b:D<B^(n+1):=xb.1 (by omega)
 refine ⟨a,b,Nat.div_pos a (tZ n),Nat.div_lt_of_lt_mul ?_⟩
 rw[← Nat.pow_succ]; exact b
theorem LX {D n N:Nat} (h:(zr D).length=n+1) (hN:N=lz (D/B^n)):B^n≤D*2^N∧D*2^N<B^(n+1)∧(zr (D*2^N)).length=n+1:=by
 obtain ⟨a,b,c,d⟩:=fE h
 have hl:=(SZ c d).2
 rw[← hN] at hl
 have hN32:N<32:=by rw[hN]; exact T0
 have hB:B=2^(32-N)*2^N:=by
  rw[← Nat.pow_add,Nat.sub_add_cancel (by omega)]; rfl
 have h1:D/B^n+1≤2^(32-N):=by
  have h0:=hl
  generalize D/B^n=t at *
  rw[hB] at h0
  exact Nat.lt_of_mul_lt_mul_right h0
 have h2:D<(D/B^n+1)*B^n:=by
  have:=Nat.lt_mul_div_succ D (tZ n)
  rw[Nat.mul_comm] at this
  exact this
 have h3:D<2^(32-N)*B^n:=Nat.lt_of_lt_of_le h2 (Nat.mul_le_mul_right _ h1)
 have h4:D*2^N<2^(32-N)*B^n*2^N:=Nat.mul_lt_mul_of_pos_right h3 (Nat.pow_pos (by omega))
 have h5:2^(32-N)*B^n*2^N=B^(n+1):=by
  rw[Nat.mul_right_comm,← hB,Nat.pow_succ,Nat.mul_comm]
 have h6:B^n≤D*2^N:=Nat.le_trans a (Nat.le_mul_of_pos_right _ (Nat.pow_pos (by omega)))
 rw[h5] at h4
 exact ⟨h6,h4,Ql h6 h4⟩
def rst (A V j:Nat):Nat:=A/B^j%V*B^j+A%B^j
theorem XF {A V j n:Nat} (hV:V<B^n) (h0:0<V):rst A V j<B^(j+n):=by
 have h1:A/B^j%V+1≤B^n:=Nat.le_trans (Nat.mod_lt _ h0) (Nat.le_of_lt hV)
 have h2:(A/B^j%V+1)*B^j≤B^n*B^j:=Nat.mul_le_mul_right _ h1
 have h3:A%B^j<B^j:=Nat.mod_lt _ (tZ j)
 have h4:B^(j+n)=B^n*B^j:=by rw[Nat.pow_add,Nat.mul_comm]
 unfold rst
 rw[h4]
 rw[Nat.add_mul,Nat.one_mul] at h2
 omega
theorem GE {A V:Nat}:rst A V 0=A%V:=by simp[rst,Nat.mod_one]
theorem EO {A V j:Nat} (h:A/B^j<V):rst A V j=A:=by
 unfold rst
 rw[Nat.mod_eq_of_lt h,Nat.mul_comm]
 exact Nat.div_add_mod A (B^j)
theorem EM {A V j:Nat}:rst A V j%B^j=A%B^j:=by
 unfold rst
 rw[Nat.add_comm,Nat.add_mul_mod_self_right,Nat.mod_mod]
theorem EN {A V j:Nat}:rst A V (j+1)/B^j=A/B^j/B%V*B+A/B^j%B:=by
 unfold rst
 rw[show A/B^(j+1)=A/B^j/B by rw[Nat.pow_succ,Nat.div_div_eq_div_mul]]
 have h1:A%B^(j+1)=A%B^j+B^j*(A/B^j%B):=by rw[Nat.pow_succ,Nat.mod_mul]
 rw[h1,Nat.pow_succ]
 have h2:A/B^j/B%V*(B^j*B)+(A%B^j+B^j*(A/B^j%B))=A%B^j+(A/B^j/B%V*B+A/B^j%B)*B^j:=by grind
 rw[h2,Nat.add_mul_div_right _ _ (tZ j),Nat.div_eq_of_lt (Nat.mod_lt _ (tZ j)),Nat.zero_add]
theorem GD {A V j L n:Nat} (hV:V<B^n) (h0:0<V) (hL:j+n+1≤L):seg (zu L (rst A V (j+1))) j (zu (n+1) (A/B^j%V))=zu L (rst A V j):=by
 have hlen:j+(zu (n+1) (A/B^j%V)).length≤(zu L (rst A V (j+1))).length:=by rw[zy,zy]; omega
 have hlt1:=XF (A:=A) (j:=j+1) hV h0
 have hlt0:=XF (A:=A) (j:=j) hV h0
 have hle:B^(j+1+n)≤B^L:=Nat.pow_le_pow_right yd (by omega)
 have hle0:B^(j+n)≤B^L:=Nat.pow_le_pow_right yd (by omega)
 have hL1:rst A V (j+1)<B^L:=Nat.lt_of_lt_of_le hlt1 hle
 have o1:ok (zu L (rst A V (j+1))):=xE
 refine Zu ?_ xE (by rw[jD hlen,zy,zy]) ?_
 ·unfold seg
  exact Ts.2 ⟨Ts.2 ⟨tX o1 _,xE⟩,UF o1 _⟩
 ·unfold seg
  rw[val_append,val_append,R9 o1 (by rw[zy]; omega),YN o1 (by rw[zy,zy]; omega),y8 hL1,y8 (Nat.lt_of_lt_of_le hlt0 hle0)]
  have hz:rst A V (j+1)/B^(j+(zu (n+1) (A/B^j%V)).length)=0:=by
   rw[zy]
   exact Nat.div_eq_of_lt (by rw[show j+(n+1)=j+1+n by omega]; exact hlt1)
  have hl:(List.take j (zu L (rst A V (j+1)))).length=j:=by simp[zy]; omega
  have hx:A/B^j%V<B^(n+1):=Nat.lt_trans (Nat.lt_trans (Nat.mod_lt _ h0) hV) (Nat.pow_lt_pow_right (by decide) (by omega))
  rw[hz,hl,y8 hx,Nat.mul_zero,Nat.add_zero]
  have h1:rst A V (j+1)%B^j=A%B^j:=by
   have h2:rst A V (j+1)%B^(j+1)%B^j=A%B^(j+1)%B^j:=by rw[EM]
   rw[Nat.mod_mod_of_dvd _ (Nat.pow_dvd_pow B (by omega)),Nat.mod_mod_of_dvd _ (Nat.pow_dvd_pow B (by omega))] at h2
   exact h2
  rw[h1]
  unfold rst
  rw[Nat.mul_comm,Nat.add_comm]
theorem LS {A V j:Nat} (h0:0<V):(rst A V (j+1)/B^j)/V=A/V/B^j%B∧(rst A V (j+1)/B^j)%V=A/B^j%V∧rst A V (j+1)/B^j<V*B:=by
 obtain ⟨s1,s2,s3⟩:=XN (A:=A/B^j) h0
 rw[EN]
 refine ⟨?_,s2,s3⟩
 rw[s1,Nat.div_div_eq_div_mul,Nat.div_div_eq_div_mul,Nat.mul_comm]
theorem LY {X N i:Nat} (hN:N<32):(X/2^N)/B^i%B=(X/B^i%B)/2^N+(X/B^(i+1)%B)*2^(32-N)%B ∧
  (X/B^i%B)/2^N ||| (X/B^(i+1)%B)*2^(32-N)%B=(X/B^i%B)/2^N+(X/B^(i+1)%B)*2^(32-N)%B:=by
 have hB:B=2^(32-N)*2^N:=by
  rw[← Nat.pow_add,Nat.sub_add_cancel (by omega)]; rfl
 have hP:0<2^N:=Nat.pow_pos (by omega)
 have hM:0<2^(32-N):=Nat.pow_pos (by omega)
 rw[show X/2^N/B^i=X/B^i/2^N by rw[Nat.div_div_eq_div_mul,Nat.div_div_eq_div_mul,Nat.mul_comm],show X/B^(i+1)=X/B^i/B by rw[Nat.pow_succ,Nat.div_div_eq_div_mul]]
 generalize X/B^i=Y
 have hx:Y%B/2^N<2^(32-N):=by
  apply Nat.div_lt_of_lt_mul
  rw[Nat.mul_comm,← hB]; exact Nat.mod_lt _ yd
 have hc:∀ q,q*2^(32-N)%B=(q%2^N)*2^(32-N):=fun q=>by
  have h:=Nat.mul_mod_mul_right (2^(32-N)) q (2^N)
  rw[Nat.mul_comm (2^N) (2^(32-N)),← hB] at h
  exact h
 have hY:Y/2^N=Y/B*2^(32-N)+Y%B/2^N:=by
  have h1:Y=Y%B+2^N*(Y/B*2^(32-N)):=by
   have h2:=Nat.mod_add_div Y B
   have h3:2^N*(Y/B*2^(32-N))=B*(Y/B):=by
    have:2^N*(Y/B*2^(32-N))=2^(32-N)*2^N*(Y/B):=by
     generalize Y/B=z
     generalize (2:Nat)^N=p
     generalize (2:Nat)^(32-N)=m
     grind
    rw[this,← hB]
   rw[h3]; exact h2.symm
  have h4:Y/2^N=(Y%B+2^N*(Y/B*2^(32-N)))/2^N:=by rw[← h1]
  rw[h4,Nat.add_mul_div_left _ _ hP,Nat.add_comm]
 have hd:2^N ∣ B:=⟨2^(32-N),by rw[hB,Nat.mul_comm]⟩
 rw[hY,hc (Y/B%B),Nat.mod_mod_of_dvd _ hd]
 generalize hq:Y/B%2^N=a
 have ha:a<2^N:=by rw[← hq]; exact Nat.mod_lt _ hP
 generalize Y%B/2^N=c at *
 have hlt:a*2^(32-N)+c<B:=by
  have h1:(a+1)*2^(32-N)≤2^N*2^(32-N):=Nat.mul_le_mul_right _ ha
  rw[Nat.mul_comm (2^N),← hB,Nat.add_mul,Nat.one_mul] at h1
  omega
 constructor
 ·have h2:=hc (Y/B)
  rw[hq] at h2
  rw[Nat.add_mod,h2,Nat.mod_eq_of_lt (a:=c) (by omega),Nat.mod_eq_of_lt hlt,Nat.add_comm]
 ·have h:=Nat.two_pow_add_eq_or_of_lt hx a
  rw[Nat.or_comm,Nat.mul_comm a,← h,Nat.add_comm]
structure TW (A D n m N X V:Nat):Prop where
 N32:N<32
 X_eq:X=A*2^N
 V_eq:V=D*2^N
 Xlt:X<B^(n+2+m+1)
 Vlen:(zr V).length=n+2
 Vpos:0<V
 Vlt:V<B^(n+2)
 top:X/B^(m+1)<V
 q:X/V=A/D
 r:X%V=(A%D)*2^N
 vtop:0<(zr V).getD (n+1) 0
theorem CU {A D n m:Nat} (hA:(zr A).length=n+2+m) (hD:(zr D).length=n+2):TW A D n m (lz (D/B^(n+1))) (A*2^lz (D/B^(n+1))) (D*2^lz (D/B^(n+1))):=by
 have hN32:lz (D/B^(n+1))<32:=T0
 obtain ⟨h1,h2,h3⟩:=LX (n:=n+1) hD rfl
 obtain ⟨h4,h5,h6,h7⟩:=fE (n:=n+1) hD
 have hP:0<2^lz (D/B^(n+1)):=Nat.pow_pos (by omega)
 have hAlt:A<B^(n+2+m):=xb.1 (Nat.le_of_eq hA)
 generalize lz (D/B^(n+1))=N at *
 obtain ⟨k1,k2,k3,k4⟩:=fE (n:=n+1) h3
 refine ⟨hN32,rfl,rfl,?_,h3,Nat.lt_of_lt_of_le (tZ _) h1,h2,?_,Nat.mul_div_mul_right _ _ hP,Nat.mul_mod_mul_right _ _ _,?_⟩
 ·have:2^N≤B:=Nat.le_of_lt (Yy hN32)
  rw[Nat.pow_succ]
  exact Nat.lt_of_lt_of_le (Nat.mul_lt_mul_of_pos_right hAlt hP) (Nat.mul_le_mul_left _ this)
 ·apply Nat.div_lt_of_lt_mul
  have a1:A*2^N<B^(n+2+m)*2^N:=Nat.mul_lt_mul_of_pos_right hAlt hP
  have a2:B^(n+1)*2^N≤D*2^N:=Nat.mul_le_mul_right _ h4
  have a3:B^(m+1)*(B^(n+1)*2^N)≤B^(m+1)*(D*2^N):=Nat.mul_le_mul_left _ a2
  have a4:B^(n+2+m)=B^(m+1)*B^(n+1):=by rw[← Nat.pow_add]; congr 1; omega
  rw[a4,Nat.mul_assoc] at a1
  exact Nat.lt_of_lt_of_le a1 a3
 ·have hl:n+1<(zr (D*2^N)).length:=by rw[h3]; omega
  have:(zr (D*2^N)).getD (n+1) 0=D*2^N/B^(n+1):=by
   rw[List.getD_eq_getElem?_getD,List.getElem?_eq_getElem hl,Option.getD_some,dv,Nat.mod_eq_of_lt k4]
  rw[this]
  exact k3
theorem EP {A V j n L:Nat} (hV:V<B^n) (h0:0<V) (hL:j+n+1≤L):rst A V (j+1)/B^j=val (((zu L (rst A V (j+1))).drop j).take (n+1)):=by
 have o1:ok (zu L (rst A V (j+1))):=xE
 have hlt1:=XF (A:=A) (j:=j+1) hV h0
 have hL1:rst A V (j+1)<B^L:=Nat.lt_of_lt_of_le hlt1 (Nat.pow_le_pow_right yd (by omega))
 have hlen:n+1≤((zu L (rst A V (j+1))).drop j).length:=by rw[List.length_drop,zy]; omega
 rw[R9 (UF o1 _) hlen,YN o1 (by rw[zy]; omega),y8 hL1,Nat.mod_eq_of_lt]
 apply Nat.div_lt_of_lt_mul
 rw[← Nat.pow_add,show j+(n+1)=j+1+n by omega]
 exact hlt1
end Go.Dig

namespace Go.Proofs.Ytbmhibiljjnfiaa
open Go Go.Am Go.Dig
def Zn (A D k:Nat):St:={env:=[(0,nD A),(1,nD D),(9,yk k)],sto:=[]}
abbrev Yk (A D:Nat):AV:=AV.tuple [nD (A/D),nD (A%D),iv 0]
theorem JI {x1 x2 x3 y1 y2 y3:AV} (h1:AV.imp x1 y1) (h2:AV.imp x2 y2) (h3:AV.imp x3 y3):AV.imp (.tuple [x1,x2,x3]) (.tuple [y1,y2,y3]):=fun I w v hv=>by
 cases hv with
 | tuple cells vs hs hc =>
  refine .tuple _ _ (by simpa using hs) fun i c hi=>?_
  match i,hi with
  | 0,hi=>simp at hi; subst hi; exact h1 _ _ _ (hc 0 x1 rfl)
  | 1,hi=>simp at hi; subst hi; exact h2 _ _ _ (hc 1 x2 rfl)
  | 2,hi=>simp at hi; subst hi; exact h3 _ _ _ (hc 2 x3 rfl)
  | i+3,hi=>simp at hi
theorem Yr {f:FuncId} {x y y' r:AV} (h:zf Try.prog f [x,y'] r) (hy:AV.imp y y'):zf Try.prog f [x,y] r:=fun I vs w h1 h2 h3 =>
 h I vs w h1 h2 fun i a hi=>by
  match i,hi with
  | 0,hi=>exact h3 0 a hi
  | 1,hi=>simp at hi; subst hi; exact hy _ _ _ (h3 1 y rfl)
  | i+2,hi=>simp at hi
theorem NM {sz:Nat}:AV.imp (.list sz .full []) (nD 0):=by
 rw[nD,wy]
 exact AV.imp_nil rfl
theorem MF {m1 m2:Am.Mode} {a c:List Nat} (ha:ok a) (hc:ok c) (hna:a.length<549755813888) (hnc:c.length<549755813888) (f1:stm m1=m1) (f2:stm m2=m2) (hD:val c≠0)
  (hmain:∀ n m,(zr (val c)).length=n+2→(zr (val a)).length=n+2+m→val c≤val a →
   awp Try.prog (.loop sJ) (Zn (val a) (val c) 0) (wA 0 (rk Try.prog uy (fZ uV (Yk (val a) (val c)))))) :
  zf Try.prog sj [nl m1 a,nl m2 c] (Yk (val a) (val c)):=by
 have k1:=wR (m:=m1) ha (by omega)
 have k2:=wR (m:=m2) hc (by omega)
 have hla:=vZ ha
 have hlc:=vZ hc
 generalize val a=A at *
 generalize val c=D at *
 have kc:=MA (m1:=.plain) (m2:=.plain) (y4 A) (y4 D) (by omega) (by omega)
 rw[yb,yb] at kc
 have hl0:¬ (zr D).length=0:=by rw[List.length_eq_zero_iff,sY]; exact hD
 have hl0':¬ zr D=[]:=by rw[sY]; exact hD
 refine uD X1 (by simp) ?_
 simp[db]
 refine ze k1 (by simp[f1]) (by simp) ?_
 simp
 refine ze k2 (by simp[f2]) (by simp) ?_
 simp[hl0]
 refine ze kc (by simp) (by simp) ?_
 by_cases hlt:A<D
 ·have hc1:pZ A D=-1:=by simp[pZ,hlt]
  simp[hc1]
  have ka:=cT (m1:=.plain) (m2:=.plain) (a:=zr A) (b:=[]) (y4 A) S7 (by omega) (by simp)
  rw[yb] at ka
  refine ze (Yr ka (AV.imp_nil (sz:=0) rfl)) (by simp) (by simp) ?_
  simp[uV,val]
  rw[Yk,Nat.div_eq_of_lt hlt,Nat.mod_eq_of_lt hlt]
  exact JI NM AV.imp.refl AV.imp.refl
 ·have hc1:¬ pZ A D<0:=by simp only[pZ,if_neg hlt]; split<;>omega
  by_cases h1:(zr D).length=1
  ·have h1z:((zr D).length:Int)=1:=by omega
   have h10:0<(zr D).length:=by omega
   have hDB:D<B:=by
    have:=xb.1 (Nat.le_of_eq h1)
    simpa using this
   have hg:(zr D)[0]=D:=by rw[dv]; simp[Nat.mod_eq_of_lt hDB]
   have ks:=QN (m:=.plain) (a:=zr A) (d:=D) (y4 A) (by omega) (by omega) hDB rfl
   rw[yb] at ks
   have hm:A%D<D:=Nat.mod_lt _ (by omega)
   generalize hq:A%D=r at *
   rw[xk] at hDB
   have kf:=lc (x:=r) (by omega)
   have u1:IntKind.u64.wrap (r:Int)=r:=w64 (by omega)
   simp[hc1,h1z,h10,hg]
   refine ze ks (by simp) (by simp) ?_
   simp[u1]
   refine ze kf (by simp) (by simp) ?_
   simp[uV]
   rw[Yk,hq]
   exact AV.imp.refl
  ·have h1z:¬ ((zr D).length:Int)=1:=by omega
   simp[hc1,h1z]
   obtain ⟨n,hn⟩:∃ n,(zr D).length=n+2:=⟨(zr D).length-2,by omega⟩
   have hle:(zr D).length≤(zr A).length:=by
    rcases Nat.lt_or_ge (zr A).length (zr D).length with h2 | h2
    ·exact absurd (bK h2) hlt
    ·exact h2
   obtain ⟨m,hm⟩:∃ m,(zr A).length=n+2+m:=⟨(zr A).length-(n+2),by omega⟩
   exact hmain n m hn hm (by omega)
theorem TO {m:Am.Mode} {a:List Nat} {bits:Nat} (ha:ok a) (hn:a.length<1099511627775) (hb:bits<32):zf Try.prog sX [nl m a,yk bits] (nl .plain (zu (a.length+1) (val a*2^bits))):=by
 refine uD ea (by simp) ?_
 have w:IntKind.i64.wrap ((a.length:Int)+1)=(a.length:Int)+1:=wrap64 (by omega) (by omega)
 have e1:((a.length:Int)+1).toNat=a.length+1:=by omega
 simp[lF,w,eMk,e1]
 refine ⟨by omega,by omega,by omega,?_⟩
 refine zz (az a m [] [] 0 bits) (fun _=>True) a.length (by simp[az,Ry,Xe]) trivial (fun i hi _=>?_) (fun _=>?_)
 ·have e:(i:Int)<a.length:=by omega
  have hpow:=Yy hb
  have hak:=vG ha hi
  have hL:=XI (bits:=bits) (i:=i) ha
  have hLB:shL a bits i<B^(i+1):=by
   have:B^i*2^bits≤B^i*B:=Nat.mul_le_mul_left _ (by omega)
   rw[Nat.pow_succ]; omega
  have hc:shL a bits i/B^i<2^bits:=Nat.div_lt_of_lt_mul hL
  obtain ⟨o1,o2,o3,o4⟩:=M9 (c:=shL a bits i/B^i) (a:=a[i]) hb hc hak
  have hsucc:=Rx (bits:=bits) hi
  have hL2:=XI (bits:=bits) (i:=i+1) ha
  have hLN:shL a bits (i+1)<B^(a.length+1):=by
   have h1:B^(i+1)*2^bits≤B^(i+1)*B:=Nat.mul_le_mul_left _ (by omega)
   have h3:B^(i+1+1)=B^(i+1)*B:=Nat.pow_succ _ _
   have h2:B^(i+1+1)≤B^(a.length+1):=Nat.pow_le_pow_right yd (by omega)
   omega
  have htB:(shL a bits i/B^i+a[i]*2^bits)/B<B:=by
   rw[← o3]
   apply Nat.div_lt_of_lt_mul
   exact Nat.mul_lt_mul_of_lt_of_lt hak hpow
  have hstep:=XJ (N:=a.length+1) (i:=i) (t:=a[i]*2^bits) hLB (by omega) (by rw[← hsucc]; exact hLN) htB
  rw[← hsucc,← o2,← o3] at hstep
  have hlen:=zy (n:=a.length+1) (x:=shL a bits i)
  have hi1:i<(zu (a.length+1) (shL a bits i)).length:=by omega
  have hget:(zu (a.length+1) (shL a bits i))[i]=shL a bits i/B^i:=by
   rw[wW,Nat.mod_eq_of_lt (Nat.lt_trans hc hpow)]
  obtain ⟨c,hcE⟩:∃ c,shL a bits i/B^i=c:=⟨_,rfl⟩
  obtain ⟨t,htE⟩:∃ t,a[i]*2^bits=t:=⟨_,rfl⟩
  have htlt:t<B*B:=by rw[← htE]; exact Nat.mul_lt_mul_of_lt_of_lt hak hpow
  rw[hcE,htE] at o1 o4 hstep
  rw[hcE] at hget hc
  obtain ⟨x,hxE⟩:∃ x,t%B=x:=⟨_,rfl⟩
  obtain ⟨q,hqE⟩:∃ q,t/B=q:=⟨_,rfl⟩
  rw[hxE] at o1 o4 hstep
  rw[hqE] at hstep
  have hxB:x<B:=by rw[← hxE]; exact Nat.mod_lt _ yd
  have hqB:q<B:=by rw[← hqE]; exact Nat.div_lt_of_lt_mul htlt
  have hor:=Gc (c:=c) (x:=x) (by omega) hxB (by rw[o1]; exact o4)
  rw[o1] at hor
  obtain ⟨y,hyE⟩:∃ y,c+x=y:=⟨_,rfl⟩
  rw[hyE] at hor hstep
  have hBB:B*B=18446744073709551616:=by decide
  rw[hBB] at htlt
  have f1:IntKind.u32.wrap (t:Int)=(x:Int):=by rw[w32,hxE]
  have f2:(t:Int).fdiv (2^min 32 IntKind.u64.bits)=(q:Int):=by rw[Zk,hqE]
  have f3:IntKind.u32.wrap (q:Int)=q:=IntWalk.u32_in _ (by rw[xk] at hqB; omega)
  have u1:IntKind.u64.wrap ((a[i]:Nat):Int)=(a[i]:Nat):=w64 (by rw[xk] at hak; omega)
  have hmin:min bits IntKind.u64.bits=bits:=by
   have:IntKind.u64.bits=64:=rfl
   omega
  have u2:IntKind.u64.wrap (((a[i]:Nat):Int)*2^bits)=(t:Int):=by
   rw[show ((a[i]:Nat):Int)*2^bits=((a[i]*2^bits:Nat):Int) by simp,htE]; exact w64 htlt
  have hset:((zG (zu (a.length+1) (shL a bits i))).set i [uv y]).set (i+1) [uv q]=zG (zu (a.length+1) (shL a bits (i+1))):=by
   rw[x6,x6,hstep]
  have wi:IntKind.i64.wrap ((i:Int)+1)=(i:Int)+1:=wrap64 (by omega) (by omega)
  have ei1:(i:Int)<a.length+1:=by omega
  have e2:((i:Int)+1).toNat=i+1:=by omega
  have e3:(0:Int)≤(i:Int)+1:=by omega
  have hi2:i+1<(zu (a.length+1) (shL a bits i)).length:=by omega
  have hnb:¬ ((bits:Int)<0):=by omega
  simp[tN,az,e,hi,hi1,hi2,ei1,e2,e3,hget,hor,u1,tg,wI,hmin,u2,f1,f2,f3,wi,splice,hset]
 ·have:zu (a.length+1) (shL a bits a.length)=zu (a.length+1) (val a*2^bits):=by rw[Pu]
  have hlt:(zu (a.length+1) (val a*2^bits)).length=a.length+1:=zy
  have ht:List.take (a.length+1) (zG (zu (a.length+1) (val a*2^bits)))=zG (zu (a.length+1) (val a*2^bits)):=List.take_of_length_le (by rw[List.length_map,hlt]; exact Nat.le_refl _)
  simp[tN,az,m4,lK,this,hlt,ht]
  exact AV.imp.refl
theorem Eg {t:Nat} (h0:0<t) (ht:t<B):∃ p,t*2^lz t=p∧2147483648≤p∧p<4294967296:=⟨_,rfl,(SZ h0 ht).1,(SZ h0 ht).2⟩
theorem Ji {A D n _m:Nat} {K:Exit→St→Prop} (hD:(zr D).length=n+2) (hn:n<549755813888)
  (hK:∀ q y,(q=53)→awp Try.prog uy {env:=[(0,nD A),(1,nD D),(9,yk (lz (D/B^(n+1)))),(q,y)],sto:=[]} K) :
  awp Try.prog (.loop sJ) (Zn A D 0) (wA 0 (rk Try.prog uy K)):=by
 obtain ⟨_,_,ht0,htB⟩:True∧True∧0<D/B^(n+1)∧D/B^(n+1)<B:=⟨trivial,trivial,(fE (n:=n+1) hD).2.2⟩
 have hg:(zr D)[n+1]'(by omega)=D/B^(n+1):=by rw[dv,Nat.mod_eq_of_lt htB]
 have hlen:((zr D).length:Int)=(n:Int)+2:=by omega
 have w0:IntKind.i64.wrap ((n:Int)+2-1)=(n:Int)+1:=by rw[wrap64]<;>omega
 have e1:((n:Int)+1).toNat=n+1:=by omega
 have e2:(0:Int)≤(n:Int)+1:=by omega
 have e3:n+1<(zr D).length:=by omega
 generalize D/B^(n+1)=t at *
 refine zz (Zn A D) (fun _=>True) (lz t) (by simp[Zn]) trivial (fun k hk _=>?_) (fun _=>?_)
 ·have hs:=JQ htB hk
  have h32:=T0 (t:=t)
  obtain ⟨p,hp⟩:∃ p,t*2^k=p:=⟨_,rfl⟩
  rw[hp] at hs
  have hmin:min k IntKind.u32.bits=k:=by
   have:IntKind.u32.bits=32:=rfl
   omega
  have u1:IntKind.u32.wrap ((t:Int)*2^k)=(p:Int):=by
   rw[show (t:Int)*2^k=((t*2^k:Nat):Int) by simp,hp]; exact IntWalk.u32_in _ (by omega)
  have u2:IntKind.u64.wrap ((k:Int)+1)=(k:Int)+1:=lw (by omega) (by omega)
  have c1:(p:Int)<2147483648:=by omega
  have c2:¬ ((k:Int)<0):=by omega
  simp[sJ,Zn,hlen,w0,e1,e2,e3,hg,tg,hmin,u1,u2,c1,c2]
 ·have h32:=T0 (t:=t)
  obtain ⟨p,hp,h1,h2⟩:=Eg ht0 htB
  have hk0:=hK _ (bv false) rfl
  clear hK
  generalize lz t=k at *
  have hmin:min k IntKind.u32.bits=k:=by
   have:IntKind.u32.bits=32:=rfl
   omega
  have u1:IntKind.u32.wrap ((t:Int)*2^k)=(p:Int):=by
   rw[show (t:Int)*2^k=((t*2^k:Nat):Int) by simp,hp]; exact IntWalk.u32_in _ (by omega)
  have c1:¬ (p:Int)<2147483648:=by omega
  have c3:¬ p<2147483648:=by omega
  have c2:¬ ((k:Int)<0):=by omega
  simp[sJ,Zn,hlen,w0,e1,e2,e3,hg]
  rw[tg c2,Int.toNat_natCast,hmin,u1]
  generalize (p:Int)=z at *
  simp[c1]
  exact hk0
def qz (A D n m N X V k:Nat):St :=
 {env:=[(4,.sl 72 1 0 (m+1)),(9,yk N),(10,.sl 1011 1 0 (n+2+m+1)),(11,nD V),(12,iv ((n:Int)+2)),(13,iv m),(74,iv ((m:Int)+1)),(75,iv k)],
  sto:=[(72,.arr 1 (zG (wZ (m+1) (A/D) k))),(1011,.arr 1 (zG (zu (n+2+m+1) (rst X V (m+1-k)))))]}
theorem F1 {A D n m N X V:Nat} {K:Exit→St→Prop} (hA:(zr A).length=n+2+m) (hD:(zr D).length=n+2) (hn:n+m<274877906944) {y:AV} (h:TW A D n m N X V)
  (hK:∀ s,fV s (qz A D n m N X V 0)→awp Try.prog (.loop sK) s (wA 2 (rk Try.prog ux K))) :
  awp Try.prog uy {env:=[(0,nD A),(1,nD D),(9,yk N),(53,y)],sto:=[]} K:=by
 have hN32:=h.N32
 have kt:=wR (m:=.plain) (a:=zu (n+2+1) V) xE (by rw[zy]; omega)
 have hVlt:V<B^(n+2+1):=Nat.lt_trans h.Vlt (Nat.pow_lt_pow_right (by decide) (by omega))
 rw[y8 hVlt] at kt
 have hVl:=h.Vlen
 have w1:IntKind.i64.wrap ((n:Int)+2+m-(n+2))=(m:Int):=by rw[wrap64]<;>omega
 have w2:IntKind.i64.wrap ((m:Int)+1)=(m:Int)+1:=by rw[wrap64]<;>omega
 have e1:((m:Int)+1).toNat=m+1:=by omega
 have e2:(zu (n+2+1) V).length=n+2+1:=zy
 have e3:(zG (zu (n+2+1) V)).length=n+2+1:=by rw[List.length_map,e2]
 simp[uy]
 refine ⟨rfl,?_⟩
 refine GM 1000 (y4 A) (by omega) hN32 (by simp) ?_
 simp
 have ks:=TO (m:=.plain) (bits:=N) (y4 D) (by omega) hN32
 rw[yb,← h.V_eq,hD] at ks
 refine ze ks (by simp) (by simp) ?_
 simp
 refine ze kt (by simp) (by simp) ?_
 simp[hVl,hA,hD,w1,w2,eMk,e1]
 refine ⟨by omega,by omega,by omega,?_⟩
 rw[yb,← h.X_eq]
 have hz:rst X V (m+1)=X:=EO h.top
 refine hK _ ?_
 simp[qz,hz,ZQ,ne]
theorem Jj {A D n m N X V:Nat} {K:Exit→St→Prop} (hn:n+m<274877906944) (h:TW A D n m N X V)
  (hK:∀ q y,q=76→awp Try.prog ux {(qz A D n m N X V (m+1)) with env:=(qz A D n m N X V (m+1)).env++[(q,y)]} K) :
  ∀ s,fV s (qz A D n m N X V 0)→awp Try.prog (.loop sK) s (wA 2 (rk Try.prog ux K)):=by
 intro s hs
 refine zz (qz A D n m N X V) (fun _=>True) (m+1) hs trivial (fun k hk _=>?_) (fun _=>?_)
 ·obtain ⟨j,hj⟩:∃ j,m-k=j:=⟨_,rfl⟩
  have hj1:m+1-k=j+1:=by omega
  have hj2:m+1-(k+1)=j:=by omega
  have hj3:m+1-1-k=j:=by omega
  have hlt:=XF (A:=X) (j:=j+1) h.Vlt h.Vpos
  obtain ⟨d1,d2,d3⟩:=LS (A:=X) (j:=j) h.Vpos
  have hstep:=GD (A:=X) (V:=V) (j:=j) (L:=n+2+m+1) h.Vlt h.Vpos (by omega)
  have hval:=EP (A:=X) (V:=V) (j:=j) (n:=n+2) (L:=n+2+m+1) h.Vlt h.Vpos (by omega)
  have hset:=XM (n:=m+1) (D:=A/D) (i:=k) hk
  rw[hj3] at hset
  rw[h.q] at d1
  have hql:=XL (D:=A/D) (show k≤m+1 by omega)
  have hVl:=h.Vlen
  have e:(k:Int)<(m:Int)+1:=by omega
  have w1:IntKind.i64.wrap ((m:Int)-k)=(j:Int):=by rw[wrap64]<;>omega
  have w2:IntKind.i64.wrap ((j:Int)+(n+2))=(j:Int)+(n+2):=by rw[wrap64]<;>omega
  have w3:IntKind.i64.wrap ((j:Int)+(n+2)+1)=(j:Int)+(n+2)+1:=by rw[wrap64]<;>omega
  have w4:IntKind.i64.wrap ((k:Int)+1)=(k:Int)+1:=by rw[wrap64]<;>omega
  have w5:((j:Int)+(n+2)+1).toNat-j=n+3:=by omega
  have ok:eQ (zu (n+2+m+1) (rst X V (j+1))) (zr V) j n:=⟨xE,y4 _,hVl,by rw[zy]; omega,by rw[zy]; omega⟩
  simp[sK,qz,e,w1,w2,w3,hj1,w5]
  refine ⟨by omega,by omega,rfl,?_⟩
  refine DB 3000 ok (by simp) h.vtop hval (by rw[yb]; exact d3) ?_
  have w6:j<(wZ (m+1) (A/D) k).length:=by omega
  have w7:(j:Int)<(m:Int)+1:=by omega
  simp only[yb,d1,d2,hstep]
  generalize hd:A/D/B^j%B=d at *
  have hset':(zG (wZ (m+1) (A/D) k)).set j [uv d]=zG (wZ (m+1) (A/D) (k+1)):=by rw[x6,hset]
  simp[w6,w7,splice,hset',w4,hj2,qz]
 ·simp[sK,qz]
  have:=hK _ (bv false) rfl
  simp[qz] at this
  exact this
def Zo (Q R n m N Y k:Nat):St :=
 {env:=[(4,.sl 72 1 0 (m+1)),(5,.sl 99 1 0 (n+2)),(9,yk N),(10,.sl 1011 1 0 (n+2+m+1)),(100,iv ((n:Int)+2)),(101,iv k)],
  sto:=[(72,.arr 1 (zG (zu (m+1) Q))),(1011,.arr 1 (zG (zu (n+2+m+1) Y))),(99,.arr 1 (zG (vK (n+2) k R)))]}
theorem ME {R N i:Nat} (hN:N<32):∃ a c d,R*2^N/B^i%B/2^N=a∧(R*2^N/B^(i+1)%B)*2^(32-N)%B=c∧R/B^i%B=d∧a ||| c=d∧a<B∧c<B∧d<B∧(N=0→a=d):=by
 obtain ⟨h1,h2⟩:=LY (X:=R*2^N) (i:=i) hN
 have hP:0<2^N:=Nat.pow_pos (by omega)
 rw[Nat.mul_div_cancel _ hP] at h1
 refine ⟨_,_,_,rfl,rfl,rfl,by rw[h2,← h1],Nat.lt_of_le_of_lt (Nat.div_le_self _ _) (Nat.mod_lt _ yd),Nat.mod_lt _ yd,Nat.mod_lt _ yd,fun h0=>?_⟩
 subst h0
 rw[Nat.pow_zero,Nat.mul_one,Nat.div_one]
theorem Bk {a c d:Nat} (ha:a<B) (hc:c<B) (h:a ||| c=d) (hd:d<B):sk .or .u32 (a:Int) (c:Int)=(d:Int):=by
 have:=Gc (c:=a) (x:=c) ha hc (by rw[h]; exact hd)
 rw[h] at this
 exact this
theorem F0 {A D n m N X V:Nat} (hn:n+m<274877906944) (hD:(zr D).length=n+2) (h:TW A D n m N X V) :
  ∀ q y,q=76→awp Try.prog ux {(qz A D n m N X V (m+1)) with env:=(qz A D n m N X V (m+1)).env++[(q,y)]} (fZ uV (Yk A D)):=by
 intro q y hq
 subst hq
 have hN:=h.N32
 have hY:rst X V 0=A%D*2^N:=by rw[GE,h.r]
 have hDlt:D<B^(n+2):=xb.1 (Nat.le_of_eq hD)
 have hD0:0<D:=by
  rcases Nat.eq_zero_or_pos D with h0 | h0
  ·subst h0; simp[wy] at hD
  ·exact h0
 have hRlt:A%D<B^(n+2):=Nat.lt_trans (Nat.mod_lt _ hD0) hDlt
 have hQlt:A/D<B^(m+1):=by
  rw[← h.q]
  apply Nat.div_lt_of_lt_mul
  have h1:=Nat.lt_mul_div_succ X (tZ (m+1))
  have h2:B^(m+1)*(X/B^(m+1)+1)≤B^(m+1)*V:=Nat.mul_le_mul_left _ h.top
  rw[Nat.mul_comm V]
  exact Nat.lt_of_lt_of_le h1 h2
 have w1:((n:Int)+2).toNat=n+2:=by omega
 have kq:=wR (m:=.plain) (a:=zu (m+1) (A/D)) xE (by rw[zy]; omega)
 have kr:=wR (m:=.plain) (a:=zu (n+2) (A%D)) xE (by rw[zy]; omega)
 rw[y8 hQlt] at kq
 rw[y8 hRlt] at kr
 have lp:∀ s,fV s (Zo (A/D) (A%D) n m N (A%D*2^N) 0)→awp Try.prog (.loop sL) s (wA 4 (rk Try.prog kw (fZ uV (Yk A D)))):=by
  intro s hs
  refine zz (Zo (A/D) (A%D) n m N (A%D*2^N)) (fun _=>True) (n+2) hs trivial (fun i hi _=>?_) (fun _=>?_)
  ·obtain ⟨a,c,d,h1,h2,h3,h4,h5,h6,h7,h8⟩:=ME (R:=A%D) (i:=i) hN
   have hL:=zy (n:=n+2+m+1) (x:=A%D*2^N)
   have i1:i<(zu (n+2+m+1) (A%D*2^N)).length:=by omega
   have i2:i+1<(zu (n+2+m+1) (A%D*2^N)).length:=by omega
   have g1:=wW i1
   have g2:=wW i2
   have hset:=bD (S:=A%D) hi
   rw[h3] at hset
   have hfl:=bB (n:=n+2) (k:=i) (S:=A%D) (by omega)
   have i3:i<(vK (n+2) i (A%D)).length:=by omega
   have hor:=Bk h5 h6 h4 h7
   have hmin:min N IntKind.u32.bits=N:=by
    have:IntKind.u32.bits=32:=rfl
    omega
   have hmin2:min (32-N) IntKind.u32.bits=32-N:=by
    have:IntKind.u32.bits=32:=rfl
    omega
   have i4:i+1<n+2+m+1:=by omega
   have s1:∀ y0 a:Nat,y0/2^N=a→(y0:Int).fdiv (2^N)=(a:Int):=fun y0 a h=>by
    rw[show (2:Int)^N=((2^N:Nat):Int) by simp,← Int.ofNat_fdiv,h]
   have s2:∀ y1 c:Nat,y1*2^(32-N)%B=c→IntKind.u32.wrap ((y1:Int)*2^(32-N))=(c:Int):=fun y1 c h=>by
    rw[show (y1:Int)*2^(32-N)=((y1*2^(32-N):Nat):Int) by simp,w32,h]
   have s1':=s1 _ _ h1
   have s2':=s2 _ _ h2
   clear s1 s2 h1 h2
   rw[← g1] at s1'
   rw[← g2] at s2'
   clear g1 g2
   generalize A%D*2^N=Y at *
   generalize A%D=R at *
   generalize hy0:(zu (n+2+m+1) Y)[i]=y0 at *
   generalize hy1:(zu (n+2+m+1) Y)[i+1]=y1 at *
   have hset':(zG (vK (n+2) i R)).set i [uv d]=zG (vK (n+2) (i+1) R):=by rw[x6,hset]
   have e:(i:Int)<(n:Int)+2:=by omega
   have e2:(i:Int)<(n:Int)+2+m+1:=by omega
   have e3:(i:Int)+1<(n:Int)+2+m+1:=by omega
   have e4:((i:Int)+1).toNat=i+1:=by omega
   have e5:(0:Int)≤(i:Int)+1:=by omega
   have w2:IntKind.i64.wrap ((i:Int)+1)=(i:Int)+1:=by rw[wrap64]<;>omega
   have w3:IntKind.u64.wrap ((32:Int)-N)=32-N:=lw (by omega) (by omega)
   have w4:((32:Int)-N).toNat=32-N:=by omega
   have w5:¬ ((32:Int)-N<0):=by omega
   rcases Nat.eq_zero_or_pos N with hN0 | hN0
   ·have ha:=h8 hN0
    have hN1:¬ 0<N:=by omega
    subst ha
    simp[sL,Zo,e,e2,hy0,i1,i3,wI,hmin,s1',hN1,splice,hset',w2]
   ·simp[sL,Zo,e,e2,e3,e4,e5,hy0,hy1,i1,i2,i3,wI,tg,hmin,hmin2,s1',s2',hN0,splice,hset',w2,w3,w4,w5,hor]
  ·have l1:∀ k z,k≤(zu k z).length:=fun k z=>Nat.le_of_eq zy.symm
   have l2:∀ k z,List.take k (zG (zu k z))=zG (zu k z):=fun k z=>List.take_of_length_le (by rw[List.length_map,zy]; exact Nat.le_refl _)
   simp[sL,Zo,Ti,kw,qp,gc,l1,l2]
   refine ze kq (by simp) (by simp) ?_
   simp
   refine ze kr (by simp) (by simp) ?_
   simp[uV]
   exact AV.imp.refl
 simp[ux,qz,XK,hY,eMk,w1]
 refine ⟨by omega,by omega,by omega,?_⟩
 refine lp _ ?_
 simp[Zo,dq,ne]
theorem j8 {m1 m2:Am.Mode} {a c:List Nat} (ha:ok a) (hc:ok c) (hna:a.length<137438953472) (hnc:c.length<137438953472) (f1:stm m1=m1) (f2:stm m2=m2) (hD:val c≠0) :
  zf Try.prog sj [nl m1 a,nl m2 c] (Yk (val a) (val c)):=by
 refine MF ha hc (by omega) (by omega) f1 f2 hD fun n m h1 h2 hle=>?_
 have hla:=vZ ha
 have hn:n+m<274877906944:=by omega
 have h:=CU h2 h1
 exact Ji (_m:=m) h1 (by omega) fun q y hq=>by
  subst hq
  exact F1 h2 h1 hn h (Jj hn h (F0 hn h1 h))
def eu:Nat→Nat→Nat→Nat × Nat
 | a,b,0=>(a,b)
 | a,b,k+1=>eu b (a%b) k
theorem Q8:∀ (k a b:Nat),eu a b (k+1)=((eu a b k).2,(eu a b k).1%(eu a b k).2)
 | 0,_,_=>rfl
 | k+1,a,b=>by rw[eu,Q8 k b (a%b)]; rfl
theorem DF:∀ (b a:Nat),∃ N,(∀ k,k<N→(eu a b k).2≠0)∧eu a b N=(Nat.gcd a b,0):=by
 intro b
 induction b using Nat.strongRecOn with
 | ind b ih =>
  intro a
  rcases Nat.eq_zero_or_pos b with h | h
  ·subst h
   exact ⟨0,fun k hk=>absurd hk (Nat.not_lt_zero _),by rw[eu,Nat.gcd_zero_right]⟩
  ·obtain ⟨N,h1,h2⟩:=ih (a%b) (Nat.mod_lt _ h) b
   refine ⟨N+1,fun k hk=>?_,?_⟩
   ·match k with
    | 0=>exact Nat.ne_of_gt h
    | k+1=>exact h1 k (by omega)
   ·rw[eu,h2,Nat.gcd_comm b,← Nat.gcd_rec,Nat.gcd_comm]
theorem Fk {M:Nat}:∀ (k a b:Nat),a<M→b<M→(eu a b k).1<M∧(eu a b k).2<M
 | 0,_,_,h1,h2=>⟨h1,h2⟩
 | k+1,a,b,h1,h2=>Fk k b (a%b) h2 (Nat.lt_of_le_of_lt (Nat.mod_le _ _) h1)
def stG (p:Nat × Nat):St:={env:=[(0,nD p.1),(1,nD p.2)],sto:=[]}
theorem MX {m1 m2:Am.Mode} {a c:List Nat} (ha:ok a) (hc:ok c) (hna:a.length<137438953472) (hnc:c.length<137438953472) (f1:stm m1=m1) (f2:stm m2=m2) :
  zf Try.prog aN [nl m1 a,nl m2 c] (nD (Nat.gcd (val a) (val c))):=by
 have k1:=cT (m1:=m1) (m2:=.plain) (b:=[]) ha S7 (by omega) (by simp)
 have k2:=cT (m1:=m2) (m2:=.plain) (b:=[]) hc S7 (by omega) (by simp)
 obtain ⟨N,h1,h2⟩:=DF (val c) (val a)
 obtain ⟨L,hL⟩:∃ L,L=137438953471:=⟨_,rfl⟩
 have hL1:val a<B^L:=w9 ha (by omega)
 have hL2:val c<B^L:=w9 hc (by omega)
 have hb:=fun k=>Fk k (val a) (val c) hL1 hL2
 generalize hM:B^L=M at *
 have hlen:∀ x,x<M→(zr x).length<137438953472:=fun x hx=>by
  rw[← hM] at hx
  exact Nat.lt_of_le_of_lt (xb.2 hx) (by omega)
 clear hM
 have v0:val []=0:=rfl
 rw[v0,Nat.add_zero] at k1 k2
 generalize val a=A at *
 generalize val c=D at *
 refine zC Pz (by simp) ?_
 simp[Ue]
 refine ze (Yr k1 (AV.imp_nil (sz:=0) rfl)) (by simp[f1]) (by simp) ?_
 simp
 refine ze (Yr k2 (AV.imp_nil (sz:=0) rfl)) (by simp[f2]) (by simp) ?_
 simp
 refine zz (fun k=>stG (eu A D k)) (fun _=>True) N (by simp[stG,eu]) trivial (fun k hk _=>?_) (fun _=>?_)
 ·have hne:=h1 k hk
  obtain ⟨b1,b2⟩:=hb k
  have b1':=hlen _ b1
  have b2':=hlen _ b2
  have hs:=Q8 k A D
  obtain ⟨x,hx⟩:∃ x,(eu A D k).1=x:=⟨_,rfl⟩
  obtain ⟨y,hy⟩:∃ y,(eu A D k).2=y:=⟨_,rfl⟩
  rw[hx,hy] at hs
  rw[hx] at b1'
  rw[hy] at b2' hne
  have kd:=j8 (m1:=.plain) (m2:=.plain) (y4 x) (y4 y) b1' b2' rfl rfl (by rw[yb]; exact hne)
  rw[yb,yb] at kd
  have hl0:0<(zr y).length:=by
   rcases Nat.eq_zero_or_pos (zr y).length with h | h
   ·rw[List.length_eq_zero_iff,sY] at h; exact absurd h hne
   ·exact h
  simp[dc,stG,hl0,hx,hy]
  refine ze kd (by simp) (by simp) ?_
  simp[hs]
 ·simp only[h2]
  simp[dc,YZ,UJ,stG,wy]
def jo (neg:Bool) (N D:Nat):AV:=.agg [bv (neg&&decide (N≠0)),nD (N/Nat.gcd N D),nD (D/Nat.gcd N D)]
theorem JE {N D:Nat} (hD:D≠0):Nat.gcd N D≠0∧(N/Nat.gcd N D=0↔N=0)∧Nat.gcd N D≤D:=by
 have hg:0<Nat.gcd N D:=Nat.gcd_pos_of_pos_right _ (by omega)
 refine ⟨by omega,?_,Nat.gcd_le_right _ (by omega)⟩
 constructor
 ·intro h
  have:=Nat.div_mul_cancel (Nat.gcd_dvd_left N D)
  rw[h,Nat.zero_mul] at this
  exact this.symm
 ·intro h
  rw[h,Nat.zero_div]
theorem Nf {neg:Bool} {N D:Nat} (hN:(zr N).length<68719476736) (hD:(zr D).length<68719476736) (h0:D≠0) :
  zf Try.prog eR [bv neg,nD N,nD D] (.tuple [jo neg N D,iv 0]):=by
 obtain ⟨g0,g1,g2⟩:=JE (N:=N) h0
 have kg:=MX (m1:=.plain) (m2:=.plain) (y4 N) (y4 D) (by omega) (by omega) rfl rfl
 rw[yb,yb] at kg
 have hgl:(zr (Nat.gcd N D)).length<68719476736:=by
  have h1:D<B^(zr D).length:=xb.1 (Nat.le_refl _)
  exact Nat.lt_of_le_of_lt (xb.2 (Nat.lt_of_le_of_lt g2 h1)) hD
 have hl0:¬ (zr D).length=0:=by rw[List.length_eq_zero_iff,sY]; exact h0
 have hl1:¬ zr D=[]:=by rw[sY]; exact h0
 unfold jo
 have hz:(zr (N/Nat.gcd N D)).length=0↔N=0:=by rw[List.length_eq_zero_iff,sY]; exact g1
 generalize Nat.gcd N D=g at *
 have kn:=j8 (m1:=.plain) (m2:=.plain) (y4 N) (y4 g) (by omega) (by omega) rfl rfl (by rw[yb]; exact g0)
 have kd:=j8 (m1:=.plain) (m2:=.plain) (y4 D) (y4 g) (by omega) (by omega) rfl rfl (by rw[yb]; exact g0)
 simp only[yb] at kn kd
 refine zC RR (by simp) ?_
 simp[ZZ,hl0]
 refine ze kg (by simp) (by simp) ?_
 simp
 refine ze kn (by simp) (by simp) ?_
 simp
 refine ze kd (by simp) (by simp) ?_
 cases neg
 ·simp[gh]
 ·by_cases hN0:N=0
  ·have:=hz.2 hN0
   simp[gh,hN0,wy]
  ·have:0<(zr (N/g)).length:=by omega
   simp[gh,this,hN0]
theorem Nd {neg:Bool} {N D:Nat} (hN:(zr N).length<68719476736) (hD:(zr D).length<68719476736) (h0:D≠0) :
  zf Try.prog eS [bv neg,nD N,nD D] (jo neg N D):=by
 have k:=Nf (neg:=neg) hN hD h0
 unfold jo at *
 generalize N/Nat.gcd N D=n at *
 generalize D/Nat.gcd N D=d at *
 refine zC RS (by simp) ?_
 simp[Z0]
 refine ze k (by simp) (by simp) ?_
 simp[Yz]
theorem JU {P:Program} {k:IntKind} {a:Int}:zn P (Op.unary .neg (Value.int k a))=some (Value.int k (k.wrap (-a))):=by
 simp[zn,Op.unary,Op.intArith,pure]
theorem Ep {k:IntKind} {a:Int}:ofV (Value.int k a)=.val (.int k a):=rfl
theorem Xf {x:Nat} (h:x<18446744073709551616):(zr x).length≤2:=xb.2 (by
 have:B^2=18446744073709551616:=by decide
 omega)
theorem TP {n:Int} (h1:-9223372036854775808≤n) (h2:n<9223372036854775808):zf Try.prog eT [iv n] (nD n.natAbs):=by
 obtain ⟨x,hx⟩:∃ x,n.natAbs=x:=⟨_,rfl⟩
 have hxl:x<18446744073709551616:=by omega
 have k:=lc (x:=x) hxl
 rw[hx]
 refine zC RT (by simp) ?_
 by_cases h:n<0
 ·have w1:IntKind.i64.wrap (n+1)=n+1:=by rw[wrap64]<;>omega
  have w2:IntKind.i64.wrap (-(n+1))=(x:Int)-1:=by rw[wrap64]<;>omega
  have w2':IntKind.i64.wrap (-1+-n)=(x:Int)-1:=by rw[wrap64]<;>omega
  have w3:IntKind.u64.wrap ((x:Int)-1)=(x:Int)-1:=by rw[lw]<;>omega
  have w4:IntKind.u64.wrap (x:Int)=x:=w64 hxl
  simp[e9,h,w1,JU,w2,w3,w4]
  refine ze k (by simp) (by simp) ?_
  simp[dI]
 ·have w4:IntKind.u64.wrap n=(x:Int):=by rw[lw]<;>omega
  simp[e9,h,w4]
  refine ze k (by simp) (by simp) ?_
  simp[dI]
theorem TJ {n:Int} (h1:-9223372036854775808≤n) (h2:n<9223372036854775808):zf Try.prog vS [iv n] (jo (decide (n<0)) n.natAbs 1):=by
 have k1:=TP h1 h2
 have k2:=lc (x:=1) (by omega)
 have l1:=Xf (x:=n.natAbs) (by omega)
 have l2:=Xf (x:=1) (by omega)
 have k3:=Nd (neg:=decide (n<0)) (N:=n.natAbs) (D:=1) (by omega) (by omega) (by omega)
 unfold jo at *
 generalize n.natAbs/Nat.gcd n.natAbs 1=p at *
 generalize 1/Nat.gcd n.natAbs 1=q at *
 refine zC ZS (by simp) ?_
 simp[fM]
 refine ze k1 (by simp) (by simp) ?_
 simp
 refine ze k2 (by simp) (by simp) ?_
 simp
 refine ze k3 (by simp) (by simp) ?_
 simp[fY]
abbrev frA (s:Bool) (N D:Nat):AV:=.agg [bv s,nD N,nD D]
abbrev SG (q:Rat):AV:=frA (decide (q.num<0)) q.num.natAbs q.den
def sg (s:Bool) (N:Nat):Int:=if s then -(N:Int) else N
theorem MQ {s:Bool} {N D:Nat} (h:D≠0):jo s N D=SG (mkRat (sg s N) D):=by
 have hab:(sg s N).natAbs=N:=by unfold sg; split<;>omega
 have hm:mkRat (sg s N) D=Rat.normalize (sg s N) D h:=by simp[mkRat,h]
 rw[hm,Rat.normalize_eq]
 unfold jo SG
 simp only[hab]
 have hg:0<Nat.gcd N D:=Nat.gcd_pos_of_pos_right _ (by omega)
 obtain ⟨c,hc⟩:=Nat.gcd_dvd_left N D
 generalize Nat.gcd N D=g at *
 subst hc
 have e1:(sg s (g*c))/(g:Int)=sg s c:=by
  unfold sg
  split
  ·rw[show -((g*c:Nat):Int)=(g:Int)*(-(c:Int)) by rw[Int.natCast_mul,Int.mul_neg]]
   exact Int.mul_ediv_cancel_left _ (by omega)
  ·rw[Int.natCast_mul]
   exact Int.mul_ediv_cancel_left _ (by omega)
 have e2:g*c/g=c:=Nat.mul_div_cancel_left _ hg
 rw[e1,e2]
 have e3:(sg s c).natAbs=c:=by unfold sg; split<;>omega
 have e4:(s&&decide (g*c≠0))=decide (sg s c<0):=by
  have hg0:¬ g=0:=by omega
  unfold sg
  rcases Nat.eq_zero_or_pos c with h0 | h0
  ·subst h0; cases s<;>simp
  ·have hc0:¬ c=0:=by omega
   have hcl:0<c:=h0
   have hng:¬ (c:Int)<0:=by omega
   have hneg:-(c:Int)<0:=by omega
   have hgc:¬ g*c=0:=Nat.mul_ne_zero hg0 hc0
   cases s<;>simp[hng,hgc,hcl]
 rw[e3,e4]
theorem Cr (n:Int):sg (decide (n<0)) n.natAbs=n:=by
 unfold sg
 by_cases h:n<0
 ·simp[h]; omega
 ·simp[h]; omega
theorem Ef (n:Int):jo (decide (n<0)) n.natAbs 1=SG (n:Rat):=by
 rw[MQ (by decide),Cr]
 congr 1
 rw[← Rat.mkRat_self (n:Rat)]; rfl
theorem SI {n:Int} (h1:-9223372036854775808≤n) (h2:n<9223372036854775808):zf Try.prog vS [iv n] (SG n):=by
 rw[← Ef]; exact TJ h1 h2
theorem aY (x:AV):∃ y:AV,y=x:=⟨_,rfl⟩
noncomputable def f0 (q:Rat):AV:=Classical.choose (aY (bv (decide (q.num<0))))
noncomputable def f1 (q:Rat):AV:=Classical.choose (aY (nD q.num.natAbs))
noncomputable def f2 (q:Rat):AV:=Classical.choose (aY (nD q.den))
theorem fa (q:Rat):f0 q=bv (decide (q.num<0)):=Classical.choose_spec (aY _)
theorem fb (q:Rat):f1 q=nD q.num.natAbs:=Classical.choose_spec (aY _)
theorem fc (q:Rat):f2 q=nD q.den:=Classical.choose_spec (aY _)
noncomputable def fr (q:Rat):List AV:=[f0 q,f1 q,f2 q]
@[simp] theorem a7 (q:Rat):[f0 q,f1 q,f2 q]=fr q:=rfl
theorem mo (q:Rat):fr q=[bv (decide (q.num<0)),nD q.num.natAbs,nD q.den]:=by unfold fr; rw[fa,fb,fc]
noncomputable abbrev fq (q:Rat):AV:=.agg (fr q)
theorem F6 (q:Rat):SG q=fq q:=by unfold fq; rw[mo]
@[simp] theorem aai (q:Rat):rf (f0 q)=true:=by rw[fa]; rfl
@[simp] theorem Ab (q:Rat):strip (f0 q)=f0 q:=by rw[fa]; rfl
@[simp] theorem aah (q:Rat) (l:Nat):dg l (f0 q)=f0 q:=by rw[fa]; simp
@[simp] theorem AS (q:Rat) (l:Nat) (e:zd):frz l e (f0 q)=f0 q:=by rw[fa]; rfl
@[simp] theorem AT (q:Rat) (M:Nat):Am.low M (f0 q)=true:=by rw[fa]; rfl
@[simp] theorem AC (q:Rat) (k:Nat):zT k (f0 q)=false:=by rw[fa]; rfl
@[simp] theorem AU (q:Rat) (k:Nat):aI k (f0 q)=false:=by rw[fa]; rfl
@[simp] theorem aak (q:Rat):rf (f1 q)=true:=by rw[fb]; rfl
@[simp] theorem Ac (q:Rat):strip (f1 q)=f1 q:=by rw[fb]; rfl
@[simp] theorem aaj (q:Rat) (l:Nat):dg l (f1 q)=f1 q:=by rw[fb]; simp
@[simp] theorem AW (q:Rat) (l:Nat) (e:zd):frz l e (f1 q)=f1 q:=by rw[fb]; rfl
@[simp] theorem AX (q:Rat) (M:Nat):Am.low M (f1 q)=true:=by rw[fb]; rfl
@[simp] theorem AD (q:Rat) (k:Nat):zT k (f1 q)=false:=by rw[fb]; rfl
@[simp] theorem AY (q:Rat) (k:Nat):aI k (f1 q)=false:=by rw[fb]; rfl
@[simp] theorem aam (q:Rat):rf (f2 q)=true:=by rw[fc]; rfl
@[simp] theorem Ad (q:Rat):strip (f2 q)=f2 q:=by rw[fc]; rfl
@[simp] theorem aal (q:Rat) (l:Nat):dg l (f2 q)=f2 q:=by rw[fc]; simp
@[simp] theorem AZ (q:Rat) (l:Nat) (e:zd):frz l e (f2 q)=f2 q:=by rw[fc]; rfl
@[simp] theorem A0 (q:Rat) (M:Nat):Am.low M (f2 q)=true:=by rw[fc]; rfl
@[simp] theorem AE (q:Rat) (k:Nat):zT k (f2 q)=false:=by rw[fc]; rfl
@[simp] theorem A1 (q:Rat) (k:Nat):aI k (f2 q)=false:=by rw[fc]; rfl
@[simp] theorem DL {q:Rat}:(fr q).length=3:=by simp[mo]
@[simp] theorem Fl {q:Rat}:(fr q).all rf=true:=by rw[mo]; simp
@[simp] theorem SF {q:Rat}:(fr q).map strip=fr q:=by rw[mo]; simp
@[simp] theorem aan {q:Rat} {l:Nat}:(fr q).map (dg l)=fr q:=by rw[mo]; simp
@[simp] theorem A2 {q:Rat} {l:Nat} {e:zd}:(fr q).map (frz l e)=fr q:=by rw[mo]; rfl
@[simp] theorem A3 {q:Rat} {M:Nat}:(fr q).all (Am.low M)=true:=by rw[mo]; rfl
@[simp] theorem A4 {q:Rat} {k:Nat}:vA k (fr q)=false:=by rw[mo]; simp
@[simp] theorem A5 {q:Rat} {k:Nat}:(fr q).any (aI k)=false:=by rw[mo]; rfl
@[simp] theorem BL {q:Rat}:zx (fr q) 0 (some 3)=some (fq q):=by
 rw[zj DL Fl,SF]
@[simp] theorem BX {q:Rat} {a b c:AV}:splice [a,b,c] 0 (fr q)=fr q:=by rw[mo]; simp[splice]
@[simp] theorem By {p q:Rat}:splice (fr p) 0 (fr q)=fr q:=by simp[splice]
@[simp] theorem Bz {q:Rat} {a b c d e x y z g h:AV}:splice [a,b,c,d,e,x,y,z,g,h] 5 (fr q)=[a,b,c,d,e,f0 q,f1 q,f2 q,g,h]:=by unfold fr; simp[splice,-a7]
@[simp] theorem AF {q:Rat}:(fr q).drop 3=[]:=by rw[mo]; rfl
theorem bH {n:Int} (h1:-9223372036854775808≤n) (h2:n<9223372036854775808):zf Try.prog vS [iv n] (fq n):=by rw[← F6]; exact SI h1 h2
end Go.Proofs.Ytbmhibiljjnfiaa

namespace Go.Pb
def mv (fx:List Int) (v:Int) (k:Nat):List Nat:=(List.range k).filter fun i=>decide (fx.getD i 9=v)
def yM (fx:List Int):List Nat:=mv fx 0 fx.length
def Pb.inK (P:Pb) (fx:List Int) (k:Nat):List Of:=(mv fx 1 k).map fun i:Nat=>P.at i
def Pb.inL (P:Pb) (fx:List Int):List Of:=P.inK fx fx.length
def okX (fx:List Int) (i:Nat):Prop:=fx.getD i 9=-1∨fx.getD i 9=0∨fx.getD i 9=1
instance (fx:List Int) (i:Nat):Decidable (okX fx i):=inferInstanceAs (Decidable (_∨_∨_))
def okF (fx:List Int):Prop:=∀ i,i<fx.length→okX fx i
instance (fx:List Int):Decidable (okF fx):=Nat.decidableBallLT fx.length fun i _=>okX fx i
def Pb.relE (P:Pb) (fx:List Int):Int :=
 if P.chk≠0 then P.chk else if fx.length≠P.of.length then 3 else if ¬ okF fx then 4 else if P.fits (P.inL fx) then 0 else 14
def Pb.relB (P:Pb) (fx:List Int) (r:Nat):Int:=P.bnd r-((P.inL fx).map (P.coef r)).sum
def Pb.relC (P:Pb) (fx:List Int) (r:Nat):List Int:=(yM fx).map fun i:Nat=>P.coef r (P.at i)
def Pb.relG (P:Pb) (fx:List Int):List Int:=(yM fx).map fun i:Nat=>(P.at i).v
section
variable {P:Pb} {fx:List Int} {v:Int} {k i:Nat}
theorem Lf:mv fx v 0=[]:=rfl
theorem Tr:mv fx v (k+1)=if fx.getD k 9=v then mv fx v k++[k] else mv fx v k:=by
 unfold mv
 rw[List.range_succ,List.filter_append]
 by_cases h:fx.getD k 9=v
 ·rw[if_pos h,List.filter_cons_of_pos (by simpa using h)]; rfl
 ·rw[if_neg h,List.filter_cons_of_neg (by simpa using h),List.filter_nil,List.append_nil]
theorem S6 (h:i∈mv fx v k):i<k∧fx.getD i 9=v:=by
 unfold mv at h
 obtain ⟨h1,h2⟩:=List.mem_filter.1 h
 exact ⟨by simpa using h1,by simpa using h2⟩
theorem Yv:(mv fx v k).length≤k:=by
 unfold mv
 have:=List.length_filter_le (fun i=>decide (fx.getD i 9=v)) (List.range k)
 rwa [List.length_range] at this
theorem Pc:(P.inK fx k).length≤k:=by unfold Pb.inK; rw[List.length_map]; exact Yv
theorem YQ (h:i<P.of.length):P.at (i:Int)=P.of[i]:=by
 unfold Pb.at; rw[Int.toNat_natCast,List.getD_eq_getElem?_getD,List.getElem?_eq_getElem h]; rfl
theorem at_mem (h:i<P.of.length):P.at (i:Int)∈P.of:=by rw[YQ h]; exact List.getElem_mem h
theorem Ee (h:k≤P.of.length):∀ o∈P.inK fx k,o∈P.of:=fun o ho=>by
 obtain ⟨i,hi,rfl⟩:=List.mem_map.1 ho
 have:=(S6 hi).1
 exact at_mem (by omega)
end
end Go.Pb
