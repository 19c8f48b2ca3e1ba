/- What the proof rests on, part 10: PE QG LA LB QT LD QFr LE. -/
import Derived.Test.YtbmhibiljjnfiaaP9
set_option maxRecDepth 100000
set_option maxHeartbeats 4000000
namespace Go.Pb
def numK (fx:List Int) (v:Int) (k:Nat):List Nat:=(List.range k).filter fun i=>decide (fx.getD i 9=v)
def freeL (fx:List Int):List Nat:=numK fx 0 fx.length
def Pb.inK (P:Pb) (fx:List Int) (k:Nat):List Of:=(numK fx 1 k).map fun i:Nat=>P.at i
def Pb.inL (P:Pb) (fx:List Int):List Of:=P.inK fx fx.length
def okX (fx:List Int) (i:Nat):Prop:=fx.getD i 9=-1∨fx.getD i 9=0∨fx.getD i 9=1
instance (fx:List Int) (i:Nat):Decidable (okX fx i):=inferInstanceAs (Decidable (_∨_∨_))
def okF (fx:List Int):Prop:=∀ i,i<fx.length→okX fx i
instance (fx:List Int):Decidable (okF fx):=Nat.decidableBallLT fx.length fun i _=>okX fx i
def Pb.relE (P:Pb) (fx:List Int):Int :=
 if P.chk≠0 then P.chk else if fx.length≠P.of.length then 3 else if ¬ okF fx then 4 else if P.fits (P.inL fx) then 0 else 14
def Pb.relB (P:Pb) (fx:List Int) (r:Nat):Int:=P.bnd r-((P.inL fx).map (P.coef r)).sum
def Pb.relC (P:Pb) (fx:List Int) (r:Nat):List Int:=(freeL fx).map fun i:Nat=>P.coef r (P.at i)
def Pb.relG (P:Pb) (fx:List Int):List Int:=(freeL fx).map fun i:Nat=>(P.at i).v
section
variable {P:Pb} {fx:List Int} {v:Int} {k i:Nat}
theorem numK_zero:numK fx v 0=[]:=rfl
theorem numK_succ:numK fx v (k+1)=if fx.getD k 9=v then numK fx v k++[k] else numK fx v k:=by
 unfold numK
 rw[List.range_succ,List.filter_append]
 by_cases h:fx.getD k 9=v
 ·rw[if_pos h,List.filter_cons_of_pos (by simpa using h)]; rfl
 ·rw[if_neg h,List.filter_cons_of_neg (by simpa using h),List.filter_nil,List.append_nil]
theorem numK_mem (h:i∈numK fx v k):i<k∧fx.getD i 9=v:=by
 unfold numK at h
 obtain ⟨h1,h2⟩:=List.mem_filter.1 h
 exact ⟨by simpa using h1,by simpa using h2⟩
theorem numK_len:(numK fx v k).length≤k:=by
 unfold numK
 have:=List.length_filter_le (fun i=>decide (fx.getD i 9=v)) (List.range k)
 rwa [List.length_range] at this
theorem inK_len:(P.inK fx k).length≤k:=by unfold Pb.inK; rw[List.length_map]; exact numK_len
theorem at_nat (h:i<P.of.length):P.at (i:Int)=P.of[i]:=by
 unfold Pb.at; rw[Int.toNat_natCast,List.getD_eq_getElem?_getD,List.getElem?_eq_getElem h]; rfl
theorem at_mem (h:i<P.of.length):P.at (i:Int)∈P.of:=by rw[at_nat h]; exact List.getElem_mem h
theorem inK_mem (h:k≤P.of.length):∀ o∈P.inK fx k,o∈P.of:=fun o ho=>by
 obtain ⟨i,hi,rfl⟩:=List.mem_map.1 ho
 have:=(numK_mem hi).1
 exact at_mem (by omega)
end
end Go.Pb

namespace Go.Proofs.Ytbmhibiljjnfiaa
open Go Go.Am Go.Pb
noncomputable def qR (l:List Int):List (List AV):=l.map fun n:Int=>fr (n:Rat)
noncomputable def relRow (P:Pb) (fx:List Int) (r:Nat):List AV:=plc 3 (qR (P.relC fx r))::fr (P.relB fx r:Int)
noncomputable def relK (P:Pb) (fx:List Int) (k:Nat):List (List AV):=(List.range k).map (relRow P fx)
noncomputable def relA (P:Pb) (fx:List Int):AV:=.agg [.list 3 .plain (qR (P.relG fx)),.list 4 .plain ((List.range P.rows).map fun r=>(.list 3 .plain (qR (P.relC fx r)):AV)::fr (P.relB fx r:Int))]
section
variable {P:Pb} {r n k:Nat} {o:Of} {L:List Of} {fx:List Int}
@[simp] theorem qR_len {l:List Int}:(qR l).length=l.length:=by simp[qR]
@[simp] theorem qR_nil:qR []=[]:=rfl
theorem qR_take {l:List Int} {k:Nat} (h:k<l.length):qR (l.take k)++[fr ((l[k]:Int):Rat)]=qR (l.take (k+1)):=by
 unfold qR
 rw[take_succ' (o:=l[k]) (by simp[h]),List.map_append]
 rfl
@[simp] theorem relK_len:(relK P fx k).length=k:=by simp[relK]
@[simp] theorem relK_zero:relK P fx 0=[]:=rfl
theorem relK_succ:relK P fx k++[relRow P fx k]=relK P fx (k+1):=by unfold relK; rw[List.range_succ,List.map_append]; rfl
@[simp] theorem goLoad_oC7d:goLoad ((oC o).drop 7) 0 none=some (iv o.v):=by rw[oC_eq]; rfl
@[simp] theorem splice_q1 {q:Rat} {a b c d:AV}:splice [a,b,c,d] 1 (fr q)=a::fr q:=by unfold fr; simp[splice,-fr_fold]
@[simp] theorem splice_q0 {q:Rat} {x a b c d:AV}:splice [a,b,c,d] 0 (x::fr q)=x::fr q:=by unfold fr; simp[splice,-fr_fold]
@[simp] theorem splice_qc {q:Rat} {x y:AV}:splice (x::fr q) 0 [y]=y::fr q:=by unfold fr; simp[splice,-fr_fold]
@[simp] theorem goLoad_q4 {q:Rat} {x:AV} (h:rf x=true):goLoad (x::fr q) 0 (some 4)=some (.agg (strip x::fr q)):=by
 rw[goLoad_all (by simp) (by rw[List.all_cons,h,fr_rf]; rfl),List.map_cons,fr_strip]
@[simp] theorem goLoad_c0 {x:AV} {l:List AV}:goLoad (x::l) 0 none=some x:=rfl
@[simp] theorem goLoad_c1 {x y:AV} {l:List AV}:goLoad (x::y::l) 1 none=some y:=rfl
@[simp] theorem ints_len {l:List Nat}:(ints l).length=l.length:=by simp[ints]
@[simp] theorem ints_nil:ints []=[]:=rfl
theorem ints_app {l m:List Nat}:clR (ints (l++m))=clR (ints l)++clR (ints m):=by simp[ints,clR]
noncomputable def stX0 (P:Pb) (fx:List Int) (k:Nat):St:={env:=[(2,.ptr 2 0),(4,.ptr 4 0),(8,apc 52 1 (clR (ints (numK fx 0 k)))),(9,apc 62 8 (ofR (P.inK fx k))),(36,clA fx),(37,iv fx.length),(38,iv k)],sto:=[(2,.var (pbC P)),(4,.var [nilL,nilL])]}
noncomputable abbrev xF (fx:List Int):AV:=apc 52 1 (clR (ints (freeL fx)))
noncomputable abbrev xI (P:Pb) (fx:List Int):AV:=apc 62 8 (ofR (P.inL fx))
noncomputable def stX1 (P:Pb) (fx:List Int) (k:Nat):St:={env:=[(2,.ptr 2 0),(4,.ptr 4 0),(8,xF fx),(9,xI P fx),(12,.ptr 12 0),(13,.ptr 13 0),(71,xF fx),(72,iv (freeL fx).length),(73,iv k)],sto:=[(2,.var (pbC P)),(4,.var [nilL,nilL]),(12,.var (pbC P)),(13,.var [apc 87 3 (qR ((P.relG fx).take k)),nilL])]}
noncomputable def stX7 (P:Pb) (fx:List Int) (k:Nat):St:={env:=[(2,.ptr 2 0),(4,.ptr 4 0),(8,xF fx),(9,xI P fx),(12,.ptr 12 0),(13,.ptr 13 0),(91,iv P.rows),(92,iv k)],sto:=[(2,.var (pbC P)),(4,.var [nilL,nilL]),(12,.var (pbC P)),(13,.var [apc 87 3 (qR (P.relG fx)),apc 139 4 (relK P fx k)])]}
noncomputable def stX2 (P:Pb) (fx:List Int) (r k:Nat):St:={env:=[(2,.ptr 2 0),(4,.ptr 4 0),(8,xF fx),(9,xI P fx),(12,.ptr 12 0),(13,.ptr 13 0),(91,iv P.rows),(92,iv r),(16,iv r),(17,iv (P.bnd r-preS (P.coef r) (P.inL fx) k)),(98,xI P fx),(99,iv (P.inL fx).length),(100,iv k)],sto:=[(2,.var (pbC P)),(4,.var [nilL,nilL]),(12,.var (pbC P)),(13,.var [apc 87 3 (qR (P.relG fx)),apc 139 4 (relK P fx r)])]}
noncomputable def stX3 (P:Pb) (fx:List Int) (r k:Nat):St:={env:=[(2,.ptr 2 0),(4,.ptr 4 0),(8,xF fx),(9,xI P fx),(12,.ptr 12 0),(13,.ptr 13 0),(91,iv P.rows),(92,iv r),(16,iv r),(20,.ptr 20 0),(114,xF fx),(115,iv (freeL fx).length),(116,iv k)],sto:=[(2,.var (pbC P)),(4,.var [nilL,nilL]),(12,.var (pbC P)),(13,.var [apc 87 3 (qR (P.relG fx)),apc 139 4 (relK P fx r)]),(20,.var (apc 132 3 (qR ((P.relC fx r).take k))::fr (P.relB fx r:Int)))]}
@[simp] theorem ints_getE {l:List Nat} {k:Nat} {h:k<(ints l).length}:(ints l)[k]=((l[k]'(by simpa using h):Nat):Int):=by simp[ints]
theorem ints_get {l:List Nat} {k:Nat} (h:k<(clR (ints l)).length):(clR (ints l))[k]=[iv ((l[k]'(by simpa using h):Nat):Int)]:=by simp[clR,ints]
theorem relG_get {k:Nat} (h:k<(P.relG fx).length):(P.relG fx)[k]=(P.at ((freeL fx)[k]'(by simpa [Pb.relG] using h):Nat)).v:=by simp[Pb.relG]
theorem relC_get {k:Nat} (h:k<(P.relC fx r).length):(P.relC fx r)[k]=P.coef r (P.at ((freeL fx)[k]'(by simpa [Pb.relC] using h):Nat)):=by simp[Pb.relC]
@[simp] theorem relG_len:(P.relG fx).length=(freeL fx).length:=by simp[Pb.relG]
@[simp] theorem relC_len:(P.relC fx r).length=(freeL fx).length:=by simp[Pb.relC]
theorem relA_imp:AV.imp (.agg [plc 3 (qR (P.relG fx)),plc 4 (relK P fx P.rows)]) (relA P fx):=by
 refine imp_agg (imps_cons (plc_imp impr_refl) (imps_cons (plc_imp ?_) imps_nil))
 refine ⟨by simp,fun i x y hx hy=>?_⟩
 have hi:i<P.rows:=by have:=(List.getElem?_eq_some_iff.1 hx).1; simpa using this
 simp[relK,hi] at hx hy
 subst hx hy
 exact imps_cons (plc_imp impr_refl) imps_refl
theorem relax_s (hn:P.cl.length≤1000) (hk:P.of.length≤1000000) (hl:fx.length<4611686018427387904) :
  SoundCall Try.prog F_problem_Relax [.agg (pbC P),clA fx] (if P.relE fx=0 then .tuple [relA P fx,clA (ints (freeL fx)),iv 0] else .tuple [.agg [nilL,nilL],nilL,iv (P.relE fx)]):=by
 refine soundW' t_problem_Relax (by simp) ?_
 simp[c_problem_Relax,pbX_splice]
 refine eCall_i (check_s hn hk) (by simp) (by simp) ?_
 by_cases c1:P.chk=0
 ·have hG:=chk_good c1
  by_cases c2:fx.length=P.of.length
  ·have c2':(fx.length:Int)=P.of.length:=by omega
   simp[c1,c2']
   refine awp_forW (stX0 P fx) (fun k=>∀ q,q<k→okX fx q) fx.length (by simp[stX0,numK_zero,Pb.inK,c2']) (fun q hq=>by omega) (fun k hk' hI=>?_) (fun hI=>?_)
   ·have e:(k:Int)<P.of.length:=by omega
    have hko:k<P.of.length:=by omega
    have w1:=wrap_succ (k:=k) (by omega)
    have hg:fx.getD k 9=fx[k]:=by rw[List.getD_eq_getElem?_getD,List.getElem?_eq_getElem hk']; rfl
    have hs0:=numK_succ (fx:=fx) (v:=0) (k:=k)
    have hs1:=numK_succ (fx:=fx) (v:=1) (k:=k)
    have hl0:=numK_len (fx:=fx) (v:=0) (k:=k)
    have hl1:=inK_len (P:=P) (fx:=fx) (k:=k)
    rw[hg] at hs0 hs1
    have hx:okX fx k→∀ q,q<k+1→okX fx q:=fun d q hq=>by
     by_cases eq:q=k
     ·subst eq; exact d
     ·exact hI q (by omega)
    by_cases d1:fx[k]=-1
    ·have d:=hx (.inl (by rw[hg,d1]))
     rw[d1] at hs0 hs1
     rw[if_neg (by decide)] at hs0 hs1
     simp[c_problem_Relax_l0,stX0,e,c2',hk',d1,w1,hs0,hs1,Pb.inK]
     exact d
    ·by_cases d2:fx[k]=0
     ·have d:=hx (.inr (.inl (by rw[hg,d2])))
      rw[d2] at hs0 hs1
      rw[if_pos rfl] at hs0
      rw[if_neg (by decide)] at hs1
      simp[c_problem_Relax_l0,stX0,e,c2',hk',d2]
      refine apc_add (by decide) rfl ?_ ?_ (by simp) ?_
      ·simp only[clR_len,ints_len]; omega
      ·simp only[clR_len,ints_len]; omega
      ·have hro:clR (ints (numK fx 0 k))++[[iv k]]=clR (ints (numK fx 0 (k+1))):=by rw[hs0,ints_app]; rfl
       rw[hro]
       simp[w1,stX0,c2',apc_dg,Pb.inK,hs1]
       exact d
     ·by_cases d3:fx[k]=1
      ·have d:=hx (.inr (.inr (by rw[hg,d3])))
       rw[d3] at hs0 hs1
       rw[if_neg (by decide)] at hs0
       rw[if_pos rfl] at hs1
       simp[c_problem_Relax_l0,stX0,e,c2',hk',d3,hko]
       refine apc_add (by decide) rfl ?_ ?_ (by simp) ?_
       ·simp only[ofR_len]; omega
       ·simp only[ofR_len]; omega
       ·have hro:ofR (P.inK fx k)++[oC P.of[k]]=ofR (P.inK fx (k+1)):=by unfold Pb.inK; rw[hs1,List.map_append,ofR_app,← at_nat hko]; rfl
        rw[hro]
        simp[w1,stX0,c2',apc_dg,hs0]
        exact d
      ·have hf:P.relE fx=4:=by
        unfold Pb.relE
        rw[if_neg (by simp[c1]),if_neg (by simp[c2]),if_pos (fun h=>by
         rcases h k hk' with h | h | h
         ·exact d1 (by rw[← hg,h])
         ·exact d2 (by rw[← hg,h])
         ·exact d3 (by rw[← hg,h]))]
       simp[c_problem_Relax_l0,stX0,e,c2',hk',d1,d2,d3,hf,r_problem_Relax]
       exact AV.imp.refl
   ·have key:∀ K:Exit→St→Prop,K (.exit 0) {env:=[(2,.ptr 2 0),(4,.ptr 4 0),(8,xF fx),(9,xI P fx),(36,clA fx),(37,iv fx.length),(38,iv fx.length),(39,bv false)],sto:=[(2,.var (pbC P)),(4,.var [nilL,nilL])]}→awp Try.prog c_problem_Relax_l0 (stX0 P fx fx.length) (lastC K):=by
     intro K h
     simp[c_problem_Relax_l0,stX0]
     exact h
    refine key _ ?_
    have hF:okF fx:=hI
    have hm:=inK_mem (P:=P) (fx:=fx) (k:=fx.length) (by omega)
    have hil:=inK_len (P:=P) (fx:=fx) (k:=fx.length)
    have hk160:=hG.k
    have hP:∀ o∈P.inL fx,P.offE o=0:=fun o ho=>hG.off o (hm o ho)
    have hil:(P.inL fx).length≤160:=by unfold Pb.inL; omega
    have hfl:(freeL fx).length≤160:=by have:=numK_len (fx:=fx) (v:=0) (k:=fx.length); unfold freeL; omega
    have hfm:∀ i∈freeL fx,i<P.of.length:=fun i hi=>by have:=(numK_mem hi).1; omega
    simp[c_problem_Relax_k10,pbX_splice]
    refine eCall_i (imp_q2 (fits_s (P:=P) (L:=P.inL fx) hn (by omega) (fun o ho=>(sim_ok (off_sim (hP o ho)).1).1) (fun o ho=>(sim_ok (off_sim (hP o ho)).1).2.2)) (plc_imp impr_refl)) (by simp) (by simp) ?_
    by_cases c3:P.fits (P.inL fx)
    ·have hE:P.relE fx=0:=by
      unfold Pb.relE
      rw[if_neg (by simp[c1]),if_neg (by simp[c2]),if_neg (fun h=>h hF),if_pos c3]
     rw[if_pos hE]
     simp[-eLen1,c3]
     have hR:P.rows≤1012:=by unfold Pb.rows; omega
     have hv:∀ i∈freeL fx,-9223372036854775808≤(P.at (i:Nat)).v∧(P.at (i:Nat)).v<9223372036854775808:=fun i hi=>by
      have:=(sim_ok (off_sim (hG.off _ (at_mem (hfm i hi)))).1).2.1
      omega
     refine awp_forW (stX1 P fx) (fun _=>True) (freeL fx).length (by simp[stX1]) trivial (fun k hk' _=>?_) (fun _=>?_)
     ·have e:(k:Int)<(freeL fx).length:=by omega
      have w1:=wrap_succ (k:=k) (by omega)
      obtain ⟨i,hi⟩:∃ i,(freeL fx)[k]=i:=⟨_,rfl⟩
      have him:i∈freeL fx:=hi▸List.getElem_mem hk'
      have hio:=hfm i him
      have hof:i<(ofR P.of).length:=by simpa using hio
      have hka:k<(clR (ints (freeL fx))).length:=by simpa using hk'
      have hat:P.at (i:Int)=P.of[i]:=at_nat hio
      obtain ⟨hv1,hv2⟩:=hv i him
      rw[hat] at hv1 hv2
      have hgk:(P.relG fx)[k]'(by simpa using hk')=P.of[i].v:=by rw[relG_get,hi,hat]
      simp[-eIaddrS,c_problem_Relax_l1,stX1,e,eIaddrS_apc hka,eIaddrS_pl hof,ints_get,hi]
      refine eCall_i (fromInt_q hv1 hv2) (by simp) (by simp) ?_
      simp
      refine apc_add (by decide) rfl ?_ ?_ (by simp) ?_
      ·simp only[qR_len,List.length_take,relG_len]; omega
      ·simp only[qR_len,List.length_take,relG_len]; omega
      ·have hro:qR ((P.relG fx).take k)++[fr ((P.of[i].v:Int):Rat)]=qR ((P.relG fx).take (k+1)):=by rw[← qR_take (by simpa using hk'),hgk]
       rw[hro]
       simp[-cellsOf,w1,stX1,apc_dg]
     ·have key:∀ K:Exit→St→Prop,K (.exit 3) {env:=[(2,.ptr 2 0),(4,.ptr 4 0),(8,xF fx),(9,xI P fx),(12,.ptr 12 0),(13,.ptr 13 0),(71,xF fx),(72,iv (freeL fx).length),(73,iv (freeL fx).length),(74,bv false)],sto:=[(2,.var (pbC P)),(4,.var [nilL,nilL]),(12,.var (pbC P)),(13,.var [apc 87 3 (qR (P.relG fx)),nilL])]}→awp Try.prog c_problem_Relax_l1 (stX1 P fx (freeL fx).length) (lastC K):=by
       intro K h
       have ht:(P.relG fx).take (freeL fx).length=P.relG fx:=List.take_of_length_le (by simp)
       simp[c_problem_Relax_l1,stX1,ht]
       exact h
      refine key _ ?_
      simp[c_problem_Relax_k9]
      refine eCall_i (rows_s hn) (by simp) (by simp) ?_
      simp
      refine awp_forW (stX7 P fx) (fun _=>True) P.rows (by simp[stX7]) trivial (fun r hr _=>?_) (fun _=>?_)
      ·have e:(r:Int)<P.rows:=by omega
       have w1:=wrap_succ (k:=r) (by omega)
       have hco:∀ o∈P.inL fx,0≤P.coef r o∧P.coef r o≤4:=fun o ho=>coef_ok (sim_ok (off_sim (hP o ho)).1).2.2 hr
       have hbn:-1000≤P.bnd r∧P.bnd r≤1000:=by
        unfold Pb.bnd
        unfold Pb.rows at hr
        split
        ·omega
        ·split
         ·have:=hG.sup (r-P.cl.length) (by omega); omega
         ·have:=hG.set (r-P.cl.length-6) (by omega)
          unfold Pb.okC at this
          have:=hG.sup (r-P.cl.length-6) (by omega)
          omega
       simp[c_problem_Relax_l7,stX7,e]
       refine eCall_i (bound_s (P:=P) hn hr) (by simp) (by simp) ?_
       simp[-eLen1]
       refine awp_forW (stX2 P fx r) (fun _=>True) (P.inL fx).length (by simp[stX2,preS_zero]) trivial (fun k hk' _=>?_) (fun _=>?_)
       ·have e:(k:Int)<(P.inL fx).length:=by omega
        have w2:=wrap_succ (k:=k) (by omega)
        have hka:k<(ofR (P.inL fx)).length:=by simpa using hk'
        have hg:(P.inL fx)[k]?=some (P.inL fx)[k]:=by simp[hk']
        have hmk:=List.getElem_mem hk'
        obtain ⟨p1,p2⟩:=preS_bound hco k (by omega)
        obtain ⟨p3,p4⟩:=hco _ hmk
        have hs:=preS_succ (f:=P.coef r) hg
        have hof:=(sim_ok (off_sim (hP _ hmk)).1)
        obtain ⟨x,hx⟩:∃ x,P.bnd r-preS (P.coef r) (P.inL fx) k=x:=⟨_,rfl⟩
        have w3:IntKind.i64.wrap (x-P.coef r (P.inL fx)[k])=P.bnd r-preS (P.coef r) (P.inL fx) (k+1):=by rw[hs,wrap64]<;>omega
        simp[-eIaddrS,c_problem_Relax_l2,stX2,e,eIaddrS_apc hka,oC_splice]
        refine eCall_i (coef_s (P:=P) (r:=r) hn hof.1 hr) (by simp) (by simp) ?_
        simp[hx,w2,w3,stX2]
       ·have hall:P.bnd r-preS (P.coef r) (P.inL fx) (P.inL fx).length=P.relB fx r:=by unfold Pb.relB; rw[preS_all]
        have key:∀ K:Exit→St→Prop,K (.exit 7) {env:=[(2,.ptr 2 0),(4,.ptr 4 0),(8,xF fx),(9,xI P fx),(12,.ptr 12 0),(13,.ptr 13 0),(91,iv P.rows),(92,iv r),(16,iv r),(17,iv (P.relB fx r)),(98,xI P fx),(99,iv (P.inL fx).length),(100,iv (P.inL fx).length),(101,bv false)],sto:=[(2,.var (pbC P)),(4,.var [nilL,nilL]),(12,.var (pbC P)),(13,.var [apc 87 3 (qR (P.relG fx)),apc 139 4 (relK P fx r)])]}→awp Try.prog c_problem_Relax_l2 (stX2 P fx r (P.inL fx).length) (lastC K):=by
         intro K h
         simp[c_problem_Relax_l2,stX2,hall]
         exact h
        refine key _ ?_
        obtain ⟨q1,q2⟩:=sum_bound hco
        have hB:-9223372036854775808≤P.relB fx r∧P.relB fx r<9223372036854775808:=by unfold Pb.relB; omega
        simp[c_problem_Relax_k5]
        refine eCall_i (fromInt_q hB.1 hB.2) (by simp) (by simp) ?_
        simp[-eLen1]
        refine awp_forW (stX3 P fx r) (fun _=>True) (freeL fx).length (by simp[stX3]) trivial (fun k hk' _=>?_) (fun _=>?_)
        ·have e:(k:Int)<(freeL fx).length:=by omega
         have w2:=wrap_succ (k:=k) (by omega)
         obtain ⟨i,hi⟩:∃ i,(freeL fx)[k]=i:=⟨_,rfl⟩
         have him:i∈freeL fx:=hi▸List.getElem_mem hk'
         have hio:=hfm i him
         have hof':i<(ofR P.of).length:=by simpa using hio
         have hka:k<(clR (ints (freeL fx))).length:=by simpa using hk'
         have hat:P.at (i:Int)=P.of[i]:=at_nat hio
         have hof:=sim_ok (off_sim (hG.off _ (List.getElem_mem hio))).1
         have hc4:=coef_ok (P:=P) hof.2.2 hr
         have hgk:(P.relC fx r)[k]'(by simpa using hk')=P.coef r P.of[i]:=by rw[relC_get,hi,hat]
         simp[-eIaddrS,c_problem_Relax_l3,stX3,e,eIaddrS_apc hka,eIaddrS_pl hof',ints_get,hi]
         refine eCall_i (coef_s (P:=P) (r:=r) hn hof.1 hr) (by simp) (by simp) ?_
         simp
         refine eCall_i (fromInt_q (n:=P.coef r P.of[i]) (by omega) (by omega)) (by simp) (by simp) ?_
         simp
         refine apc_add (by decide) rfl ?_ ?_ (by simp) ?_
         ·simp only[qR_len,List.length_take,relC_len]; omega
         ·simp only[qR_len,List.length_take,relC_len]; omega
         ·have hro:qR ((P.relC fx r).take k)++[fr ((P.coef r P.of[i]:Int):Rat)]=qR ((P.relC fx r).take (k+1)):=by rw[← qR_take (by simpa using hk'),hgk]
          rw[hro]
          simp[-cellsOf,w2,stX3,apc_dg]
        ·have key:∀ K:Exit→St→Prop,K (.exit 9) {env:=[(2,.ptr 2 0),(4,.ptr 4 0),(8,xF fx),(9,xI P fx),(12,.ptr 12 0),(13,.ptr 13 0),(91,iv P.rows),(92,iv r),(16,iv r),(20,.ptr 20 0),(114,xF fx),(115,iv (freeL fx).length),(116,iv (freeL fx).length),(117,bv false)],sto:=[(2,.var (pbC P)),(4,.var [nilL,nilL]),(12,.var (pbC P)),(13,.var [apc 87 3 (qR (P.relG fx)),apc 139 4 (relK P fx r)]),(20,.var (apc 132 3 (qR (P.relC fx r))::fr (P.relB fx r:Int)))]}→awp Try.prog c_problem_Relax_l3 (stX3 P fx r (freeL fx).length) (lastC K):=by
          intro K h
          have ht:(P.relC fx r).take (freeL fx).length=P.relC fx r:=List.take_of_length_le (by simp)
          simp[c_problem_Relax_l3,stX3,ht]
          exact h
         refine key _ ?_
         simp[c_problem_Relax_k4]
         refine apc_add (by decide) rfl ?_ ?_ (by simp) ?_
         ·simp only[relK_len]; omega
         ·simp only[relK_len]; omega
         ·have hro:relK P fx r++[plc 3 (qR (P.relC fx r))::fr (P.relB fx r:Int)]=relK P fx (r+1):=relK_succ
          rw[hro]
          simp[-cellsOf,w1,c_problem_Relax_k6,stX7,apc_dg]
      ·have key:∀ K:Exit→St→Prop,K (.exit 5) {env:=[(2,.ptr 2 0),(4,.ptr 4 0),(8,xF fx),(9,xI P fx),(12,.ptr 12 0),(13,.ptr 13 0),(91,iv P.rows),(92,iv P.rows),(93,bv false)],sto:=[(2,.var (pbC P)),(4,.var [nilL,nilL]),(12,.var (pbC P)),(13,.var [apc 87 3 (qR (P.relG fx)),apc 139 4 (relK P fx P.rows)])]}→awp Try.prog c_problem_Relax_l7 (stX7 P fx P.rows) (lastC K):=by
        intro K h
        simp[c_problem_Relax_l7,stX7]
        exact h
       refine key _ ?_
       simp[c_problem_Relax_k8,r_problem_Relax]
       exact imp_tup (imps_cons relA_imp (imps_cons (plc_imp impr_refl) (imps_cons AV.imp.refl imps_nil)))
    ·have hE:P.relE fx=14:=by
      unfold Pb.relE
      rw[if_neg (by simp[c1]),if_neg (by simp[c2]),if_neg (fun h=>h hF),if_neg c3]
     simp[c3,hE,r_problem_Relax]
     exact AV.imp.refl
  ·have c2':¬ (fx.length:Int)=P.of.length:=by omega
   have hE:P.relE fx=3:=by unfold Pb.relE; rw[if_neg (by simp[c1]),if_pos c2]
   simp[c1,c2',hE,r_problem_Relax]
   exact AV.imp.refl
 ·have hE:P.relE fx=P.chk:=by unfold Pb.relE; rw[if_pos c1]
  simp[c1,hE,r_problem_Relax]
  exact AV.imp.refl
end
end Go.Proofs.Ytbmhibiljjnfiaa

namespace Go.Proofs.Ytbmhibiljjnfiaa
open Go Go.Am Go.Pb
def saleA:AV:=.agg [.list 5 .full [[.val (.string ⟨#[97]⟩),iv 2,iv 3,iv 1,iv 0]],.list 4 .full [[.val (.string ⟨#[120]⟩),iv 0,iv 0,iv 0]],nilL,nilL]
theorem sale_s:SoundCall Try.prog F_law20_sale [] saleA:=.of_run tab_ok 1000 100 (by kernel_rfl)
theorem build_s:SoundCall Try.prog F_problem_Build [saleA,.list 8 .full [[iv 0,iv 1,iv 0,iv 0,iv 0,iv 0,iv 0,iv 5],[iv 0,iv 2,iv 0,iv 0,iv 0,iv 0,iv 0,iv 6]]] (.tuple [.agg [iv 2,iv 0,iv 0,iv 0,iv 0,iv 0,iv 2,iv 0,iv 0,iv 0,iv 0,iv 0,iv 0,iv 0,iv 0,iv 0,iv 0,iv 0,.list 1 .plain [[iv 0]],.list 8 .plain [[iv 0,iv 1,iv 0,iv 0,iv 0,iv 0,iv 0,iv 2]]],.list 1 .plain [[iv 0]],iv 0]):=.of_run tab_ok 1000 100 (by kernel_rfl)
def w0:List Int→Nat→Int:=fun l k=>l.getD k 0
def P3:Pb:=⟨w0 [1,1],w0 [1,1],w0 [],[0,0,0],[⟨0,w0 [1,1],10⟩,⟨1,w0 [1],6⟩,⟨2,w0 [0,1],6⟩]⟩
theorem three_0:SoundCall Try.prog F_law20_three [] (.agg [iv 1,iv 1,iv 0,iv 0,iv 0,iv 0,iv 1,iv 1,iv 0,iv 0,iv 0,iv 0,iv 0,iv 0,iv 0,iv 0,iv 0,iv 0,.list 1 .full [[iv 0],[iv 0],[iv 0]],.list 8 .full [[iv 0,iv 1,iv 1,iv 0,iv 0,iv 0,iv 0,iv 10],[iv 1,iv 1,iv 0,iv 0,iv 0,iv 0,iv 0,iv 6],[iv 2,iv 0,iv 1,iv 0,iv 0,iv 0,iv 0,iv 6]]]):=.of_run tab_ok 1000 100 (by kernel_rfl)
theorem three_s:SoundCall Try.prog F_law20_three [] (.agg (pbC P3)):=by
 refine sound_imp three_0 ?_
 have e:ofR P3.of=[[iv 0,iv 1,iv 1,iv 0,iv 0,iv 0,iv 0,iv 10],[iv 1,iv 1,iv 0,iv 0,iv 0,iv 0,iv 0,iv 6],[iv 2,iv 0,iv 1,iv 0,iv 0,iv 0,iv 0,iv 6]]:=by
  unfold ofR P3
  simp only[List.map_cons,List.map_nil,oC_eq]
  rfl
 simp only[pbX_eq]
 refine imp_agg ?_
 have h2:AV.imp (.list 8 .full [[iv 0,iv 1,iv 1,iv 0,iv 0,iv 0,iv 0,iv 10],[iv 1,iv 1,iv 0,iv 0,iv 0,iv 0,iv 0,iv 6],[iv 2,iv 0,iv 1,iv 0,iv 0,iv 0,iv 0,iv 6]]) (ofA P3.of):=by
  unfold ofA
  rw[e]
  exact imp_full
 have h1:AV.imp (.list 1 .full [[iv 0],[iv 0],[iv 0]]) (clA P3.cl):=imp_full
 repeat' first | exact imps_cons h1 (imps_cons h2 imps_nil) | refine imps_cons AV.imp.refl ?_
theorem P3_chk:P3.chk=0:=by decide +kernel
theorem P3_n:P3.cl.length≤1000:=by decide
theorem P3_k:P3.of.length≤1000000:=by decide
theorem ex_chk:SoundCall Try.prog F_problem_Check [.agg (pbC P3)] (iv 0):=by have h:=check_s P3_n P3_k; rwa [P3_chk] at h
theorem ex_f1:SoundCall Try.prog F_problem_Feasible [.agg (pbC P3),.list 1 .full [[iv 0]]] (iv 0):=by
 have h:=feasible_s (ch:=[0]) P3_n P3_k (by decide)
 rw[show P3.feaE [0]=0 by decide +kernel] at h
 exact imp_q2 h imp_full
theorem ex_f2:SoundCall Try.prog F_problem_Feasible [.agg (pbC P3),.list 1 .full [[iv 1],[iv 2]]] (iv 0):=by
 have h:=feasible_s (ch:=[1,2]) P3_n P3_k (by decide)
 rw[show P3.feaE [1,2]=0 by decide +kernel] at h
 exact imp_q2 h imp_full
theorem ex_f3:SoundCall Try.prog F_problem_Feasible [.agg (pbC P3),.list 1 .full [[iv 0],[iv 1]]] (iv 14):=by
 have h:=feasible_s (ch:=[0,1]) P3_n P3_k (by decide)
 rw[show P3.feaE [0,1]=14 by decide +kernel] at h
 exact imp_q2 h imp_full
theorem ex_v:SoundCall Try.prog F_problem_Value [.agg (pbC P3),.list 1 .full [[iv 1],[iv 2]]] (iv 12):=by
 have h:=value_s (ch:=[1,2]) P3_n P3_k (by decide)
 rw[show P3.valE [1,2]=12 by decide +kernel] at h
 exact imp_q2 h imp_full
theorem ex_rows:SoundCall Try.prog F_problem_Rows [.agg (pbC P3)] (iv 15):=by
 have h:=rows2_s P3_n P3_k
 rwa [show rowsE P3=15 by decide +kernel] at h
theorem ex_row:SoundCall Try.prog F_problem_Row [.agg (pbC P3),iv 3] (.tuple [clA [1,1,0],iv 1]):=by
 have h:=row_s (r:=3) P3_n P3_k
 have e:rowR P3 3=.tuple [clA [1,1,0],iv 1]:=by
  have hr:rowsE P3=15:=by decide +kernel
  unfold rowR
  rw[hr,if_pos (by decide),if_pos (by decide),show rowL P3 (Int.toNat 3)=[1,1,0] by decide +kernel,show P3.bnd (Int.toNat 3)=1 by decide +kernel]
 rwa [e] at h
theorem ex_relax:SoundCall Try.prog F_problem_Relax [.agg (pbC P3),.list 1 .full [[iv 0],[iv 1],[iv 0]]] (.tuple [relA P3 [0,1,0],clA [0,2],iv 0]):=by
 have h:=relax_s (fx:=[0,1,0]) P3_n P3_k (by decide)
 rw[if_pos (by decide +kernel),show ints (freeL [0,1,0])=[0,2] by decide +kernel] at h
 exact imp_q2 h imp_full
theorem ex_wo:SoundCall Try.prog F_problem_Without [.agg (pbC P3),iv 2] (.agg (pbC (woE P3 2))):=without_s (by decide) (by decide) P3_n P3_k
theorem ex_wol:(woE P3 2).of.length=2:=by decide +kernel
theorem ex_c1:SoundCall Try.prog F_ref20_Compare [clA [1,1,0],.list 1 .full [[iv 1],[iv 1],[iv 0]]] (iv 0):=imp_q2 (rcmp_s (a:=[1,1,0]) (b:=[1,1,0]) (by decide) (by decide)) imp_full
theorem ex_c2:SoundCall Try.prog F_ref20_Compare [clA [0],.list 1 .full [[iv 0]]] (iv 0):=imp_q2 (rcmp_s (a:=[0]) (b:=[0]) (by decide) (by decide)) imp_full
theorem ex_c3:SoundCall Try.prog F_ref20_Compare [clA [0,2],.list 1 .full [[iv 0],[iv 2]]] (iv 0):=imp_q2 (rcmp_s (a:=[0,2]) (b:=[0,2]) (by decide) (by decide)) imp_full
theorem ex_c4:SoundCall Try.prog F_problem_Compare [.list 1 .full [[iv 0],[iv 3]],.list 1 .full [[iv 1]]] (iv (-1)) :=
 imp_args (pcmp_s (a:=[0,3]) (b:=[1]) (by decide) (by decide)) (imps2 imp_full imp_full)
end Go.Proofs.Ytbmhibiljjnfiaa

namespace Go.Proofs.Ytbmhibiljjnfiaa
open Go Go.Am Go.Pb
theorem awake_s:SoundCall Try.prog F_law20_awake [] (bv true):=by
 refine sound' t_law20_awake (by simp) ?_
 simp[c_law20_awake]
 refine eCall_i (xs:=[]) (args:=[]) three_s rfl (.inl rfl) ?_
 simp[pbX_splice]
 refine eCall_i (xs:=[]) (args:=[]) sale_s rfl (.inl rfl) ?_
 have hb:=build_s
 unfold saleA at hb
 simp[saleA,splice]
 refine eCall_i hb (by simp) (by simp) ?_
 simp
 refine eCall_i ex_row (by simp) (by simp) ?_
 simp
 refine eCall_i ex_relax (by simp) (by simp) ?_
 simp[relA]
 refine eCall_i ex_chk (by simp) (by simp) ?_
 simp
 refine eCall_i ex_f1 (by simp) (by simp) ?_
 simp
 refine eCall_i ex_f2 (by simp) (by simp) ?_
 simp
 refine eCall_i ex_f3 (by simp) (by simp) ?_
 simp
 refine eCall_i ex_v (by simp) (by simp) ?_
 simp
 refine eCall_i ex_rows (by simp) (by simp) ?_
 simp
 refine eCall_i ex_c1 (by simp) (by simp) ?_
 simp
 refine eCall_i (show SoundCall Try.prog F_ref20_Compare [.list 1 .plain [[iv 0]],.list 1 .full [[iv 0]]] (iv 0) from ex_c2) (by simp) (by simp) ?_
 simp
 refine eCall_i ex_c3 (by simp) (by simp) ?_
 have hr:P3.rows=15:=by decide
 simp[hr]
 refine eCall_i ex_c4 (by simp) (by simp) ?_
 simp
 refine eCall_i ex_wo (by simp) (by simp) ?_
 simp[ex_wol,partA,r_law20_awake]
end Go.Proofs.Ytbmhibiljjnfiaa

namespace Go.Proofs.Ytbmhibiljjnfiaa
open Go Go.Am Go.Pb
abbrev tyB:Ty:=.arr 6 (.int .i64)
abbrev tyOf':Ty:=.st [.int .i64,tyB,.int .i64]
abbrev tyPb:Ty:=.st [tyB,tyB,tyB,.slice (.int .i64),.slice tyOf']
theorem bun_of {cs:List AV} (h:TyC tyB cs):∃ w:Nat→Int,cs=bC w:=by
 obtain ⟨rows,rfl,hl,h⟩:=h
 obtain ⟨L,rfl,_⟩:=rows_map (fun n:Int=>[iv n]) (fun _=>True) (fun r hr=>by
  obtain ⟨n,rfl,_⟩:=hr
  exact ⟨n,rfl,trivial⟩) h
 refine ⟨fun k=>L.getD k 0,?_⟩
 match L,hl with
 | [a,b,c,d,e,f],_=>rw[bC_eq]; rfl
theorem offer_of {cs:List AV} (h:TyC tyOf' cs):∃ o:Of,cs=oC o:=by
 obtain ⟨a1,b1,rfl,⟨n,rfl,_⟩,a2,b2,rfl,h2,a3,b3,rfl,⟨v,rfl,_⟩,rfl⟩:=h
 obtain ⟨w,rfl⟩:=bun_of h2
 exact ⟨⟨n,w,v⟩,by rw[oC_eq,bC_eq]; rfl⟩
theorem intl_of {cs:List AV} (h:TyC (.slice (.int .i64)) cs):∃ l:List Int,cs=[clA l]∧l.length≤reachBytes:=by
 obtain ⟨rows,rfl,hl,h⟩:=h
 obtain ⟨L,rfl,h2⟩:=rows_map (fun d:Int=>[iv d]) (fun _=>True) (fun r hr=>by
  obtain ⟨n,rfl,_⟩:=hr
  exact ⟨n,rfl,trivial⟩) h
 exact ⟨L,rfl,by simpa using hl⟩
theorem offl_of {cs:List AV} (h:TyC (.slice tyOf') cs):∃ L:List Of,cs=[ofA L]∧L.length≤reachBytes:=by
 obtain ⟨rows,rfl,hl,h⟩:=h
 obtain ⟨L,rfl,h2⟩:=rows_map oC (fun _=>True) (fun r hr=>by
  obtain ⟨o,rfl⟩:=offer_of hr
  exact ⟨o,rfl,trivial⟩) h
 exact ⟨L,rfl,by simpa using hl⟩
theorem prob_of {x:AV} (h:AVTy tyPb x):∃ P:Pb,x=.agg (pbC P)∧P.cl.length≤reachBytes∧P.of.length≤reachBytes:=by
 obtain ⟨cs,rfl,a1,b1,rfl,h1,a2,b2,rfl,h2,a3,b3,rfl,h3,a4,b4,rfl,h4,a5,b5,rfl,h5,rfl⟩:=h
 obtain ⟨s,rfl⟩:=bun_of h1
 obtain ⟨p,rfl⟩:=bun_of h2
 obtain ⟨c,rfl⟩:=bun_of h3
 obtain ⟨l,rfl,hl⟩:=intl_of h4
 obtain ⟨L,rfl,hL⟩:=offl_of h5
 refine ⟨⟨s,p,c,l,L⟩,?_,hl,hL⟩
 congr 1
 unfold pbC pbX
 simp
theorem int_of {x:AV} {k:IntKind} (h:AVTy (.int k) x):∃ n:Int,x=.val (.int k n)∧(Lit.int k n).wf=true:=by
 obtain ⟨n,h1,h2⟩:=h
 simp only[List.cons.injEq,and_true] at h1
 exact ⟨n,h1,h2⟩
theorem i64_rng {n:Int} (h:(Lit.int .i64 n).wf=true):-9223372036854775808≤n∧n<9223372036854775808:=by
 have h1:IntKind.i64.min≤n∧n≤9223372036854775807:=by simpa [Lit.wf] using h
 have h2:IntKind.i64.min=-9223372036854775808:=by decide
 omega
end Go.Proofs.Ytbmhibiljjnfiaa

namespace Go.Proofs.Ytbmhibiljjnfiaa
open Go Go.Am Go.Pb
section
variable {P:Pb}
theorem great_s:SoundCall Try.prog F_law20_great [.agg (pbC P)] (bv (decide (20<P.cl.length∨200<P.of.length))):=by
 refine sound' t_law20_great (by simp) ?_
 by_cases h1:20<P.cl.length
 ·have h1':(20:Int)<P.cl.length:=by omega
  simp[c_law20_great,h1,h1',r_law20_great]
 ·have h1':¬ (20:Int)<P.cl.length:=by omega
  by_cases h2:200<P.of.length
  ·have h2':(200:Int)<P.of.length:=by omega
   simp[c_law20_great,h1,h1',h2,h2',r_law20_great]
  ·have h2':¬ (200:Int)<P.of.length:=by omega
   simp[c_law20_great,h1,h1',h2,h2',r_law20_great]
theorem cmpL_self:∀ a:List Int,cmpL a a=0
 | []=>rfl
 | a::l=>by rw[cmpL,(cmpI_pos (a:=a) (b:=a)).1.2 rfl,if_pos rfl]; exact cmpL_self l
end
end Go.Proofs.Ytbmhibiljjnfiaa

namespace Go.Proofs.Ytbmhibiljjnfiaa
open Go Go.Am Go.Pb
section
variable {P:Pb} {r n:Nat} {o:Of} {L:List Of}
noncomputable def stRo (P:Pb) (m:Int) (k:Nat):St:={env:=[(1,iv m),(2,.ptr 2 0),(4,.ptr 4 0),(5,.ptr 5 0),(6,iv k)],sto:=[(2,.var (pbC P)),(4,.var (pbX pbZ nilL nilL)),(5,.var (pbX P (clA P.cl) (apc 39 8 (ofR (keepL m (P.of.take k))))))]}
theorem rwithout_s {m:Int} (h1:-9223372036854775808≤m) (h2:m<9223372036854775808) (hn:P.cl.length≤1000) (hk:P.of.length≤1000000):SoundCall Try.prog F_ref20_Without [.agg (pbC P),iv m] (.agg (pbC (woE P m))):=by
 refine soundW' t_ref20_Without (by simp) ?_
 simp[c_ref20_Without,pbZ_eq]
 refine eCall_i (rcheck_s hn hk) (by simp) (by simp) ?_
 unfold woE
 by_cases c1:P.chk=0
 ·have hG:=chk_good c1
  rw[if_pos c1]
  simp[c1]
  refine awp_forW (stRo P m) (fun _=>True) P.of.length (by simp[stRo,keepL]) trivial (fun k hk' _=>?_) (fun _=>?_)
  ·have e:(k:Int)<P.of.length:=by omega
   have w1:=wrap_succ (k:=k) (by omega)
   have hm:P.of[k]∈P.of:=List.getElem_mem hk'
   obtain ⟨hb,_,_⟩:=sim_ok (off_sim (hG.off _ hm)).1
   have hgk:P.of[k]?=some P.of[k]:=by simp[hk']
   have ht:=keepL_take (m:=m) hgk
   obtain ⟨o,ho⟩:∃ o,P.of[k]=o:=⟨_,rfl⟩
   rw[ho] at hb ht
   have hn8:=hG.n
   have hlen:=keepL_len (m:=m) (L:=P.of.take k)
   rw[List.length_take] at hlen
   obtain ⟨b,hbb,hb8⟩:∃ b:Nat,o.b=b∧b<8:=⟨o.b.toNat,by omega,by omega⟩
   have wb:IntKind.u64.wrap (b:Int)=b:=w64 (by omega)
   have b1:¬ (b:Int)<0:=by omega
   have b2:min b 64=b:=by omega
   have h64:IntKind.i64.bits=64:=rfl
   have hbit:=mb_one m b h1 h2 (by omega)
   rw[hbb,Int.toNat_natCast] at ht
   cases hv:mb m b
   ·rw[hv] at hbit ht
    simp at hbit
    simp at ht
    simp[c_ref20_Without_l0,stRo,e,hk',ho,hbb,wb,eBin_shr b1,h64,b2,hbit]
    refine apc_add (by decide) rfl ?_ ?_ (by simp) ?_
    ·simp only[ofR_len]; omega
    ·simp only[ofR_len]; omega
    ·have hro:ofR (keepL m (P.of.take k))++[oC o]=ofR (keepL m (P.of.take (k+1))):=by rw[ht,ofR_app]; rfl
     rw[hro]
     simp[-cellsOf,w1,stRo]
   ·rw[hv] at hbit ht
    simp at hbit
    simp at ht
    simp[c_ref20_Without_l0,stRo,e,hk',ho,hbb,wb,eBin_shr b1,h64,b2,hbit,w1,ht]
  ·have key:∀ K:Exit→St→Prop,K (.exit 0) {env:=[(1,iv m),(2,.ptr 2 0),(4,.ptr 4 0),(5,.ptr 5 0),(6,iv P.of.length),(17,bv false)],sto:=[(2,.var (pbC P)),(4,.var (pbX pbZ nilL nilL)),(5,.var (pbX P (clA P.cl) (apc 39 8 (ofR (keepL m P.of)))))]}→awp Try.prog c_ref20_Without_l0 (stRo P m P.of.length) (lastC K):=by
    intro K h
    simp[c_ref20_Without_l0,stRo]
    exact h
   refine key _ ?_
   simp[c_ref20_Without_k1,r_ref20_Without]
   exact wo_out rfl
 ·rw[if_neg c1]
  simp[c1,pbZ_eq,r_ref20_Without]
  exact pbZ_impX
end
end Go.Proofs.Ytbmhibiljjnfiaa

namespace Go.Proofs.Ytbmhibiljjnfiaa
open Go Go.Am Go.Pb
section
variable {P:Pb}
@[simp] theorem isInts_oC {o:Of}:isInts 8 (oC o)=true:=by
 rw[oC_eq]; rfl
def stSa (P:Pb) (k:Nat):St:={env:=[(2,.ptr 2 0),(3,.ptr 3 0),(5,iv k)],sto:=[(2,.var (pbC P)),(3,.var (pbC P))]}
theorem same_s (hn:P.cl.length≤1000) (hk:P.of.length≤1000000):SoundCall Try.prog F_ref20_Same [.agg (pbC P),.agg (pbC P)] (bv true):=by
 have hkd:kds Try.prog Op.maxDepth T_api_Bundle=some (List.replicate 6 (.i .i64)):=by kernel_rfl
 have hg:Try.prog.eqGuardType Try.prog.depth T_api_Bundle=false:=by kernel_rfl
 have hA:agT Try.prog T_api_Bundle=true:=by kernel_rfl
 have hkd2:kds Try.prog Op.maxDepth T_api_Offer=some (List.replicate 8 (.i .i64)):=by kernel_rfl
 have hg2:Try.prog.eqGuardType Try.prog.depth T_api_Offer=false:=by kernel_rfl
 have hA2:agT Try.prog T_api_Offer=true:=by kernel_rfl
 refine sound' t_ref20_Same (by simp) ?_
 simp[c_ref20_Same,pbX_splice]
 rw[eBin_neq_ints hkd hg hA isInts_bC isInts_bC]
 simp
 rw[eBin_neq_ints hkd hg hA isInts_bC isInts_bC]
 simp
 rw[eBin_neq_ints hkd hg hA isInts_bC isInts_bC]
 simp
 refine eCall_i (rcmp_s (a:=P.cl) (b:=P.cl) (by omega) (by omega)) (by simp) (by simp) ?_
 simp[cmpL_self]
 refine awp_forW (stSa P) (fun _=>True) P.of.length (by simp[stSa]) trivial (fun k hk' _=>?_) (fun _=>?_)
 ·have e:(k:Int)<P.of.length:=by omega
  have w1:=wrap_succ (k:=k) (by omega)
  simp[c_ref20_Same_l0,stSa,e,hk']
  rw[eBin_neq_ints hkd2 hg2 hA2 isInts_oC isInts_oC]
  simp[w1,stSa]
 ·have key:∀ K:Exit→St→Prop,K (.exit 0) {env:=[(2,.ptr 2 0),(3,.ptr 3 0),(5,iv P.of.length),(46,bv false)],sto:=[(2,.var (pbC P)),(3,.var (pbC P))]}→awp Try.prog c_ref20_Same_l0 (stSa P P.of.length) (lastC K):=by
   intro K h
   simp[c_ref20_Same_l0,stSa]
   exact h
  refine key _ ?_
  simp[c_ref20_Same_k1,r_ref20_Same]
end
theorem chkL_good {P:Pb} (hE:∀ o∈P.of,P.offE o=0) (hN:∀ (i l:Nat) o o',l<i→P.of[i]?=some o→P.of[l]?=some o'→¬ sameO o' o):∀ k,P.chkL k=0
 | 0=>rfl
 | k+1=>by
  rw[Pb.chkL,if_pos (chkL_good hE hN k)]
  cases h:P.of[k]? with
  | none=>rfl
  | some o =>
   simp only[Pb.offI]
   have h0:=hE o (List.mem_of_getElem? h)
   rw[if_neg (fun e=>e h0),if_neg]
   rintro ⟨u,hu,hs⟩
   obtain ⟨q,hq⟩:=List.mem_iff_getElem?.1 hu
   rw[List.getElem?_take] at hq
   split at hq
   ·rename_i hqk; exact hN k q o u hqk h hq hs
   ·cases hq
theorem good_chk {P:Pb} (h:P.Good):P.chk=0:=by
 have hf:P.frameE=0:=by
  unfold Pb.frameE
  rw[if_neg (fun e=>e h.sup),if_neg (fun e=>e h.set),if_neg (by have:=h.n; have:=h.k; omega),if_pos h.cl]
 unfold Pb.chk
 rw[if_pos hf]
 exact chkL_good h.off h.new _
theorem pair_of {P:Pb} (h:P.Good):P.of.Pairwise fun o' o=>¬ sameO o' o:=by
 rw[List.pairwise_iff_getElem]
 intro i j hi hj hij
 exact h.new j i _ _ hij (by simp[hj]) (by simp[hi])
theorem good_wo {P:Pb} {m:Int} (h:P.Good):(woP P m).Good where
 sup:=h.sup
 set:=h.set
 n:=h.n
 k:=Nat.le_trans keepL_len h.k
 cl:=h.cl
 off:=fun o ho=>h.off o (List.mem_filter.1 ho).1
 new:=by
  have hp:=(pair_of h).filter (fun o=>!mb m o.b.toNat)
  rw[List.pairwise_iff_getElem] at hp
  intro i l o o' hl hi hlo
  obtain ⟨h1,h2⟩:=List.getElem?_eq_some_iff.1 hi
  obtain ⟨h3,h4⟩:=List.getElem?_eq_some_iff.1 hlo
  have:=hp l i h3 h1 hl
  rw[← h2,← h4]
  exact this
theorem woE_or (P:Pb) (a b:Int):woE (woE P a) b=woE P (bitI .or .i64 a b):=by
 by_cases h:P.chk=0
 ·have hG:=chk_good h
  have h2:=good_chk (good_wo (m:=a) hG)
  unfold woE
  rw[if_pos h,if_pos h2,if_pos h]
  unfold woP keepL
  simp only[List.filter_filter]
  congr 1
  apply List.filter_congr
  intro o _
  rw[mb_or]
  cases mb a o.b.toNat<;>cases mb b o.b.toNat<;>rfl
 ·have hz:pbZ.chk=0:=by decide +kernel
  unfold woE
  rw[if_neg h,if_pos hz,if_neg h]
  rfl
theorem woE_len {P:Pb} {m:Int}:(woE P m).cl.length≤P.cl.length∧(woE P m).of.length≤P.of.length:=by
 unfold woE
 split
 ·exact ⟨Nat.le_refl _,keepL_len⟩
 ·exact ⟨Nat.zero_le _,Nat.zero_le _⟩
theorem or_rng (a b:Int):-9223372036854775808≤bitI .or .i64 a b∧bitI .or .i64 a b<9223372036854775808:=by
 simp only[bitI]
 generalize ((BitVec.ofInt IntKind.i64.bits a ||| BitVec.ofInt IntKind.i64.bits b).toNat:Int)=n
 unfold IntKind.wrap
 have h1:IntKind.i64.bits=64:=rfl
 have h2:IntKind.i64.signed=true:=rfl
 rw[h1,h2]
 simp only[Bool.true_and]
 have:=Int.emod_nonneg n (b:=2^64) (by decide)
 have:=Int.emod_lt_of_pos n (b:=2^64) (by decide)
 split<;>simp_all<;>omega
theorem lwithout_s {P:Pb} {a b:Int} (ha:-9223372036854775808≤a∧a<9223372036854775808) (hb:-9223372036854775808≤b∧b<9223372036854775808):SoundCall Try.prog F_law20_ProblemWithout [.agg (pbC P),iv a,iv b] (bv true):=by
 refine sound' t_law20_ProblemWithout (by simp) ?_
 simp[c_law20_ProblemWithout]
 refine eCall_i (great_s (P:=P)) (by simp) (by simp) ?_
 by_cases g:20<P.cl.length∨200<P.of.length
 ·simp only[decide_eq_true g]
  simp
  refine eCall_i (xs:=[]) (args:=[]) awake_s rfl (.inl rfl) ?_
  simp[r_law20_ProblemWithout]
 ·have hn:P.cl.length≤1000:=by omega
  have hk:P.of.length≤1000000:=by omega
  obtain ⟨l1,l2⟩:=woE_len (P:=P) (m:=a)
  obtain ⟨o1,o2⟩:=or_rng a b
  obtain ⟨l3,l4⟩:=woE_len (P:=P) (m:=bitI .or .i64 a b)
  simp only[decide_eq_false g]
  simp
  refine eCall_i (without_s ha.1 ha.2 hn hk) (by simp) (by simp) ?_
  simp[pbX_splice]
  refine eCall_i (rwithout_s ha.1 ha.2 hn hk) (by simp) (by simp) ?_
  simp
  refine eCall_i (same_s (P:=woE P a) (by omega) (by omega)) (by simp) (by simp) ?_
  simp
  refine eCall_i (without_s (P:=woE P a) hb.1 hb.2 (by omega) (by omega)) (by simp) (by simp) ?_
  rw[woE_or]
  simp
  refine eCall_i (without_s o1 o2 hn hk) (by simp) (by simp) ?_
  simp
  refine eCall_i (same_s (P:=woE P (bitI .or .i64 a b)) (by omega) (by omega)) (by simp) (by simp) ?_
  simp
  refine eCall_i (xs:=[]) (args:=[]) awake_s rfl (.inl rfl) ?_
  simp[r_law20_ProblemWithout]
theorem problemWithout_contract (xs:List AV) (h:TyAll [tyPb,.int .i64,.int .i64] xs):SoundCall Try.prog F_law20_ProblemWithout xs (bv true):=by
 obtain ⟨x,y,z,rfl,h1,h2,h3⟩:=TyAll_three h
 obtain ⟨P,rfl,_⟩:=prob_of h1
 obtain ⟨a,rfl,ha⟩:=int_of h2
 obtain ⟨b,rfl,hb⟩:=int_of h3
 exact lwithout_s (i64_rng ha) (i64_rng hb)
end Go.Proofs.Ytbmhibiljjnfiaa
