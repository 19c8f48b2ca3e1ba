/- What the proof rests on, part 10: PE QG LA LB QT LD LE QI QH LG. -/
import Derived.Test.YtbmhibiljjnfiaaP9
set_option maxRecDepth 100000
set_option maxHeartbeats 4000000
namespace Go.Pb
def numK (fx:List Int) (v:Int) (k:Nat):List Nat:=(List.range k).filter fun i=>decide (fx.getD i 9=v)
def freeL (fx:List Int):List Nat:=numK fx 0 fx.length
def Pb.inK (P:Pb) (fx:List Int) (k:Nat):List Of:=(numK fx 1 k).map fun i:Nat=>P.at i
def Pb.inL (P:Pb) (fx:List Int):List Of:=P.inK fx fx.length
def okX (fx:List Int) (i:Nat):Prop:=fx.getD i 9=-1∨fx.getD i 9=0∨fx.getD i 9=1
instance (fx:List Int) (i:Nat):Decidable (okX fx i):=inferInstanceAs (Decidable (_∨_∨_))
def okF (fx:List Int):Prop:=∀ i,i<fx.length→okX fx i
instance (fx:List Int):Decidable (okF fx):=Nat.decidableBallLT fx.length fun i _=>okX fx i
def Pb.relE (P:Pb) (fx:List Int):Int :=
 if P.chk≠0 then P.chk else if fx.length≠P.of.length then 3 else if ¬ okF fx then 4 else if P.fits (P.inL fx) then 0 else 14
def Pb.relB (P:Pb) (fx:List Int) (r:Nat):Int:=P.bnd r-((P.inL fx).map (P.coef r)).sum
def Pb.relC (P:Pb) (fx:List Int) (r:Nat):List Int:=(freeL fx).map fun i:Nat=>P.coef r (P.at i)
def Pb.relG (P:Pb) (fx:List Int):List Int:=(freeL fx).map fun i:Nat=>(P.at i).v
section
variable {P:Pb} {fx:List Int} {v:Int} {k i:Nat}
theorem numK_zero:numK fx v 0=[]:=rfl
theorem numK_succ:numK fx v (k+1)=if fx.getD k 9=v then numK fx v k++[k] else numK fx v k:=by
 unfold numK
 rw[List.range_succ,List.filter_append]
 by_cases h:fx.getD k 9=v
 ·rw[if_pos h,List.filter_cons_of_pos (by simpa using h)]; rfl
 ·rw[if_neg h,List.filter_cons_of_neg (by simpa using h),List.filter_nil,List.append_nil]
theorem numK_mem (h:i∈numK fx v k):i<k∧fx.getD i 9=v:=by
 unfold numK at h
 obtain ⟨h1,h2⟩:=List.mem_filter.1 h
 exact ⟨by simpa using h1,by simpa using h2⟩
theorem numK_len:(numK fx v k).length≤k:=by
 unfold numK
 have:=List.length_filter_le (fun i=>decide (fx.getD i 9=v)) (List.range k)
 rwa [List.length_range] at this
theorem inK_len:(P.inK fx k).length≤k:=by unfold Pb.inK; rw[List.length_map]; exact numK_len
theorem at_nat (h:i<P.of.length):P.at (i:Int)=P.of[i]:=by
 unfold Pb.at; rw[Int.toNat_natCast,List.getD_eq_getElem?_getD,List.getElem?_eq_getElem h]; rfl
theorem at_mem (h:i<P.of.length):P.at (i:Int)∈P.of:=by rw[at_nat h]; exact List.getElem_mem h
theorem inK_mem (h:k≤P.of.length):∀ o∈P.inK fx k,o∈P.of:=fun o ho=>by
 obtain ⟨i,hi,rfl⟩:=List.mem_map.1 ho
 have:=(numK_mem hi).1
 exact at_mem (by omega)
end
end Go.Pb

namespace Go.Proofs.Ytbmhibiljjnfiaa
open Go Go.Am Go.Pb
noncomputable def qR (l:List Int):List (List AV):=l.map fun n:Int=>fr (n:Rat)
noncomputable def relRow (P:Pb) (fx:List Int) (r:Nat):List AV:=plc 3 (qR (P.relC fx r))::fr (P.relB fx r:Int)
noncomputable def relK (P:Pb) (fx:List Int) (k:Nat):List (List AV):=(List.range k).map (relRow P fx)
noncomputable def relA (P:Pb) (fx:List Int):AV:=.agg [.list 3 .plain (qR (P.relG fx)),.list 4 .plain ((List.range P.rows).map fun r=>(.list 3 .plain (qR (P.relC fx r)):AV)::fr (P.relB fx r:Int))]
section
variable {P:Pb} {r n k:Nat} {o:Of} {L:List Of} {fx:List Int}
@[simp] theorem qR_len {l:List Int}:(qR l).length=l.length:=by simp[qR]
@[simp] theorem qR_nil:qR []=[]:=rfl
theorem qR_take {l:List Int} {k:Nat} (h:k<l.length):qR (l.take k)++[fr ((l[k]:Int):Rat)]=qR (l.take (k+1)):=by
 unfold qR
 rw[take_succ' (o:=l[k]) (by simp[h]),List.map_append]
 rfl
@[simp] theorem relK_len:(relK P fx k).length=k:=by simp[relK]
@[simp] theorem relK_zero:relK P fx 0=[]:=rfl
theorem relK_succ:relK P fx k++[relRow P fx k]=relK P fx (k+1):=by unfold relK; rw[List.range_succ,List.map_append]; rfl
@[simp] theorem goLoad_oC7d:goLoad ((oC o).drop 7) 0 none=some (iv o.v):=by rw[oC_eq]; rfl
@[simp] theorem splice_q1 {q:Rat} {a b c d:AV}:splice [a,b,c,d] 1 (fr q)=a::fr q:=by unfold fr; simp[splice,-fr_fold]
@[simp] theorem splice_q0 {q:Rat} {x a b c d:AV}:splice [a,b,c,d] 0 (x::fr q)=x::fr q:=by unfold fr; simp[splice,-fr_fold]
@[simp] theorem splice_qc {q:Rat} {x y:AV}:splice (x::fr q) 0 [y]=y::fr q:=by unfold fr; simp[splice,-fr_fold]
@[simp] theorem goLoad_q4 {q:Rat} {x:AV} (h:rf x=true):goLoad (x::fr q) 0 (some 4)=some (.agg (strip x::fr q)):=by
 rw[goLoad_all (by simp) (by rw[List.all_cons,h,fr_rf]; rfl),List.map_cons,fr_strip]
@[simp] theorem goLoad_c0 {x:AV} {l:List AV}:goLoad (x::l) 0 none=some x:=rfl
@[simp] theorem goLoad_c1 {x y:AV} {l:List AV}:goLoad (x::y::l) 1 none=some y:=rfl
@[simp] theorem ints_len {l:List Nat}:(ints l).length=l.length:=by simp[ints]
@[simp] theorem ints_nil:ints []=[]:=rfl
theorem ints_app {l m:List Nat}:clR (ints (l++m))=clR (ints l)++clR (ints m):=by simp[ints,clR]
noncomputable def stX0 (P:Pb) (fx:List Int) (k:Nat):St:={env:=[(2,.ptr 2 0),(4,.ptr 4 0),(8,apc 52 1 (clR (ints (numK fx 0 k)))),(9,apc 62 8 (ofR (P.inK fx k))),(36,clA fx),(37,iv fx.length),(38,iv k)],sto:=[(2,.var (pbC P)),(4,.var [nilL,nilL])]}
noncomputable abbrev xF (fx:List Int):AV:=apc 52 1 (clR (ints (freeL fx)))
noncomputable abbrev xI (P:Pb) (fx:List Int):AV:=apc 62 8 (ofR (P.inL fx))
noncomputable def stX1 (P:Pb) (fx:List Int) (k:Nat):St:={env:=[(2,.ptr 2 0),(4,.ptr 4 0),(8,xF fx),(9,xI P fx),(12,.ptr 12 0),(13,.ptr 13 0),(71,xF fx),(72,iv (freeL fx).length),(73,iv k)],sto:=[(2,.var (pbC P)),(4,.var [nilL,nilL]),(12,.var (pbC P)),(13,.var [apc 87 3 (qR ((P.relG fx).take k)),nilL])]}
noncomputable def stX7 (P:Pb) (fx:List Int) (k:Nat):St:={env:=[(2,.ptr 2 0),(4,.ptr 4 0),(8,xF fx),(9,xI P fx),(12,.ptr 12 0),(13,.ptr 13 0),(91,iv P.rows),(92,iv k)],sto:=[(2,.var (pbC P)),(4,.var [nilL,nilL]),(12,.var (pbC P)),(13,.var [apc 87 3 (qR (P.relG fx)),apc 139 4 (relK P fx k)])]}
noncomputable def stX2 (P:Pb) (fx:List Int) (r k:Nat):St:={env:=[(2,.ptr 2 0),(4,.ptr 4 0),(8,xF fx),(9,xI P fx),(12,.ptr 12 0),(13,.ptr 13 0),(91,iv P.rows),(92,iv r),(16,iv r),(17,iv (P.bnd r-preS (P.coef r) (P.inL fx) k)),(98,xI P fx),(99,iv (P.inL fx).length),(100,iv k)],sto:=[(2,.var (pbC P)),(4,.var [nilL,nilL]),(12,.var (pbC P)),(13,.var [apc 87 3 (qR (P.relG fx)),apc 139 4 (relK P fx r)])]}
noncomputable def stX3 (P:Pb) (fx:List Int) (r k:Nat):St:={env:=[(2,.ptr 2 0),(4,.ptr 4 0),(8,xF fx),(9,xI P fx),(12,.ptr 12 0),(13,.ptr 13 0),(91,iv P.rows),(92,iv r),(16,iv r),(20,.ptr 20 0),(114,xF fx),(115,iv (freeL fx).length),(116,iv k)],sto:=[(2,.var (pbC P)),(4,.var [nilL,nilL]),(12,.var (pbC P)),(13,.var [apc 87 3 (qR (P.relG fx)),apc 139 4 (relK P fx r)]),(20,.var (apc 132 3 (qR ((P.relC fx r).take k))::fr (P.relB fx r:Int)))]}
@[simp] theorem ints_getE {l:List Nat} {k:Nat} {h:k<(ints l).length}:(ints l)[k]=((l[k]'(by simpa using h):Nat):Int):=by simp[ints]
theorem ints_get {l:List Nat} {k:Nat} (h:k<(clR (ints l)).length):(clR (ints l))[k]=[iv ((l[k]'(by simpa using h):Nat):Int)]:=by simp[clR,ints]
theorem relG_get {k:Nat} (h:k<(P.relG fx).length):(P.relG fx)[k]=(P.at ((freeL fx)[k]'(by simpa [Pb.relG] using h):Nat)).v:=by simp[Pb.relG]
theorem relC_get {k:Nat} (h:k<(P.relC fx r).length):(P.relC fx r)[k]=P.coef r (P.at ((freeL fx)[k]'(by simpa [Pb.relC] using h):Nat)):=by simp[Pb.relC]
@[simp] theorem relG_len:(P.relG fx).length=(freeL fx).length:=by simp[Pb.relG]
@[simp] theorem relC_len:(P.relC fx r).length=(freeL fx).length:=by simp[Pb.relC]
theorem relA_imp:AV.imp (.agg [plc 3 (qR (P.relG fx)),plc 4 (relK P fx P.rows)]) (relA P fx):=by
 refine imp_agg (imps_cons (plc_imp impr_refl) (imps_cons (plc_imp ?_) imps_nil))
 refine ⟨by simp,fun i x y hx hy=>?_⟩
 have hi:i<P.rows:=by have:=(List.getElem?_eq_some_iff.1 hx).1; simpa using this
 simp[relK,hi] at hx hy
 subst hx hy
 exact imps_cons (plc_imp impr_refl) imps_refl
theorem relax_s (hn:P.cl.length≤1000) (hk:P.of.length≤1000000) (hl:fx.length<4611686018427387904) :
  SoundCall Try.prog F_problem_Relax [.agg (pbC P),clA fx] (if P.relE fx=0 then .tuple [relA P fx,clA (ints (freeL fx)),iv 0] else .tuple [.agg [nilL,nilL],nilL,iv (P.relE fx)]):=by
 refine soundW' t_problem_Relax (by simp) ?_
 simp[c_problem_Relax,pbX_splice]
 refine eCall_i (check_s hn hk) (by simp) (by simp) ?_
 by_cases c1:P.chk=0
 ·have hG:=chk_good c1
  by_cases c2:fx.length=P.of.length
  ·have c2':(fx.length:Int)=P.of.length:=by omega
   simp[c1,c2']
   refine awp_forW (stX0 P fx) (fun k=>∀ q,q<k→okX fx q) fx.length (by simp[stX0,numK_zero,Pb.inK,c2']) (fun q hq=>by omega) (fun k hk' hI=>?_) (fun hI=>?_)
   ·have e:(k:Int)<P.of.length:=by omega
    have hko:k<P.of.length:=by omega
    have w1:=wrap_succ (k:=k) (by omega)
    have hg:fx.getD k 9=fx[k]:=by rw[List.getD_eq_getElem?_getD,List.getElem?_eq_getElem hk']; rfl
    have hs0:=numK_succ (fx:=fx) (v:=0) (k:=k)
    have hs1:=numK_succ (fx:=fx) (v:=1) (k:=k)
    have hl0:=numK_len (fx:=fx) (v:=0) (k:=k)
    have hl1:=inK_len (P:=P) (fx:=fx) (k:=k)
    rw[hg] at hs0 hs1
    have hx:okX fx k→∀ q,q<k+1→okX fx q:=fun d q hq=>by
     by_cases eq:q=k
     ·subst eq; exact d
     ·exact hI q (by omega)
    by_cases d1:fx[k]=-1
    ·have d:=hx (.inl (by rw[hg,d1]))
     rw[d1] at hs0 hs1
     rw[if_neg (by decide)] at hs0 hs1
     simp[c_problem_Relax_l0,stX0,e,c2',hk',d1,w1,hs0,hs1,Pb.inK]
     exact d
    ·by_cases d2:fx[k]=0
     ·have d:=hx (.inr (.inl (by rw[hg,d2])))
      rw[d2] at hs0 hs1
      rw[if_pos rfl] at hs0
      rw[if_neg (by decide)] at hs1
      simp[c_problem_Relax_l0,stX0,e,c2',hk',d2]
      refine apc_add (by decide) rfl ?_ ?_ (by simp) ?_
      ·simp only[clR_len,ints_len]; omega
      ·simp only[clR_len,ints_len]; omega
      ·have hro:clR (ints (numK fx 0 k))++[[iv k]]=clR (ints (numK fx 0 (k+1))):=by rw[hs0,ints_app]; rfl
       rw[hro]
       simp[w1,stX0,c2',apc_dg,Pb.inK,hs1]
       exact d
     ·by_cases d3:fx[k]=1
      ·have d:=hx (.inr (.inr (by rw[hg,d3])))
       rw[d3] at hs0 hs1
       rw[if_neg (by decide)] at hs0
       rw[if_pos rfl] at hs1
       simp[c_problem_Relax_l0,stX0,e,c2',hk',d3,hko]
       refine apc_add (by decide) rfl ?_ ?_ (by simp) ?_
       ·simp only[ofR_len]; omega
       ·simp only[ofR_len]; omega
       ·have hro:ofR (P.inK fx k)++[oC P.of[k]]=ofR (P.inK fx (k+1)):=by unfold Pb.inK; rw[hs1,List.map_append,ofR_app,← at_nat hko]; rfl
        rw[hro]
        simp[w1,stX0,c2',apc_dg,hs0]
        exact d
      ·have hf:P.relE fx=4:=by
        unfold Pb.relE
        rw[if_neg (by simp[c1]),if_neg (by simp[c2]),if_pos (fun h=>by
         rcases h k hk' with h | h | h
         ·exact d1 (by rw[← hg,h])
         ·exact d2 (by rw[← hg,h])
         ·exact d3 (by rw[← hg,h]))]
       simp[c_problem_Relax_l0,stX0,e,c2',hk',d1,d2,d3,hf,r_problem_Relax]
       exact AV.imp.refl
   ·have key:∀ K:Exit→St→Prop,K (.exit 0) {env:=[(2,.ptr 2 0),(4,.ptr 4 0),(8,xF fx),(9,xI P fx),(36,clA fx),(37,iv fx.length),(38,iv fx.length),(39,bv false)],sto:=[(2,.var (pbC P)),(4,.var [nilL,nilL])]}→awp Try.prog c_problem_Relax_l0 (stX0 P fx fx.length) (lastC K):=by
     intro K h
     simp[c_problem_Relax_l0,stX0]
     exact h
    refine key _ ?_
    have hF:okF fx:=hI
    have hm:=inK_mem (P:=P) (fx:=fx) (k:=fx.length) (by omega)
    have hil:=inK_len (P:=P) (fx:=fx) (k:=fx.length)
    have hk160:=hG.k
    have hP:∀ o∈P.inL fx,P.offE o=0:=fun o ho=>hG.off o (hm o ho)
    have hil:(P.inL fx).length≤160:=by unfold Pb.inL; omega
    have hfl:(freeL fx).length≤160:=by have:=numK_len (fx:=fx) (v:=0) (k:=fx.length); unfold freeL; omega
    have hfm:∀ i∈freeL fx,i<P.of.length:=fun i hi=>by have:=(numK_mem hi).1; omega
    simp[c_problem_Relax_k10,pbX_splice]
    refine eCall_i (imp_q2 (fits_s (P:=P) (L:=P.inL fx) hn (by omega) (fun o ho=>(sim_ok (off_sim (hP o ho)).1).1) (fun o ho=>(sim_ok (off_sim (hP o ho)).1).2.2)) (plc_imp impr_refl)) (by simp) (by simp) ?_
    by_cases c3:P.fits (P.inL fx)
    ·have hE:P.relE fx=0:=by
      unfold Pb.relE
      rw[if_neg (by simp[c1]),if_neg (by simp[c2]),if_neg (fun h=>h hF),if_pos c3]
     rw[if_pos hE]
     simp[-eLen1,c3]
     have hR:P.rows≤1012:=by unfold Pb.rows; omega
     have hv:∀ i∈freeL fx,-9223372036854775808≤(P.at (i:Nat)).v∧(P.at (i:Nat)).v<9223372036854775808:=fun i hi=>by
      have:=(sim_ok (off_sim (hG.off _ (at_mem (hfm i hi)))).1).2.1
      omega
     refine awp_forW (stX1 P fx) (fun _=>True) (freeL fx).length (by simp[stX1]) trivial (fun k hk' _=>?_) (fun _=>?_)
     ·have e:(k:Int)<(freeL fx).length:=by omega
      have w1:=wrap_succ (k:=k) (by omega)
      obtain ⟨i,hi⟩:∃ i,(freeL fx)[k]=i:=⟨_,rfl⟩
      have him:i∈freeL fx:=hi▸List.getElem_mem hk'
      have hio:=hfm i him
      have hof:i<(ofR P.of).length:=by simpa using hio
      have hka:k<(clR (ints (freeL fx))).length:=by simpa using hk'
      have hat:P.at (i:Int)=P.of[i]:=at_nat hio
      obtain ⟨hv1,hv2⟩:=hv i him
      rw[hat] at hv1 hv2
      have hgk:(P.relG fx)[k]'(by simpa using hk')=P.of[i].v:=by rw[relG_get,hi,hat]
      simp[-eIaddrS,c_problem_Relax_l1,stX1,e,eIaddrS_apc hka,eIaddrS_pl hof,ints_get,hi]
      refine eCall_i (fromInt_q hv1 hv2) (by simp) (by simp) ?_
      simp
      refine apc_add (by decide) rfl ?_ ?_ (by simp) ?_
      ·simp only[qR_len,List.length_take,relG_len]; omega
      ·simp only[qR_len,List.length_take,relG_len]; omega
      ·have hro:qR ((P.relG fx).take k)++[fr ((P.of[i].v:Int):Rat)]=qR ((P.relG fx).take (k+1)):=by rw[← qR_take (by simpa using hk'),hgk]
       rw[hro]
       simp[-cellsOf,w1,stX1,apc_dg]
     ·have key:∀ K:Exit→St→Prop,K (.exit 3) {env:=[(2,.ptr 2 0),(4,.ptr 4 0),(8,xF fx),(9,xI P fx),(12,.ptr 12 0),(13,.ptr 13 0),(71,xF fx),(72,iv (freeL fx).length),(73,iv (freeL fx).length),(74,bv false)],sto:=[(2,.var (pbC P)),(4,.var [nilL,nilL]),(12,.var (pbC P)),(13,.var [apc 87 3 (qR (P.relG fx)),nilL])]}→awp Try.prog c_problem_Relax_l1 (stX1 P fx (freeL fx).length) (lastC K):=by
       intro K h
       have ht:(P.relG fx).take (freeL fx).length=P.relG fx:=List.take_of_length_le (by simp)
       simp[c_problem_Relax_l1,stX1,ht]
       exact h
      refine key _ ?_
      simp[c_problem_Relax_k9]
      refine eCall_i (rows_s hn) (by simp) (by simp) ?_
      simp
      refine awp_forW (stX7 P fx) (fun _=>True) P.rows (by simp[stX7]) trivial (fun r hr _=>?_) (fun _=>?_)
      ·have e:(r:Int)<P.rows:=by omega
       have w1:=wrap_succ (k:=r) (by omega)
       have hco:∀ o∈P.inL fx,0≤P.coef r o∧P.coef r o≤4:=fun o ho=>coef_ok (sim_ok (off_sim (hP o ho)).1).2.2 hr
       have hbn:-1000≤P.bnd r∧P.bnd r≤1000:=by
        unfold Pb.bnd
        unfold Pb.rows at hr
        split
        ·omega
        ·split
         ·have:=hG.sup (r-P.cl.length) (by omega); omega
         ·have:=hG.set (r-P.cl.length-6) (by omega)
          unfold Pb.okC at this
          have:=hG.sup (r-P.cl.length-6) (by omega)
          omega
       simp[c_problem_Relax_l7,stX7,e]
       refine eCall_i (bound_s (P:=P) hn hr) (by simp) (by simp) ?_
       simp[-eLen1]
       refine awp_forW (stX2 P fx r) (fun _=>True) (P.inL fx).length (by simp[stX2,preS_zero]) trivial (fun k hk' _=>?_) (fun _=>?_)
       ·have e:(k:Int)<(P.inL fx).length:=by omega
        have w2:=wrap_succ (k:=k) (by omega)
        have hka:k<(ofR (P.inL fx)).length:=by simpa using hk'
        have hg:(P.inL fx)[k]?=some (P.inL fx)[k]:=by simp[hk']
        have hmk:=List.getElem_mem hk'
        obtain ⟨p1,p2⟩:=preS_bound hco k (by omega)
        obtain ⟨p3,p4⟩:=hco _ hmk
        have hs:=preS_succ (f:=P.coef r) hg
        have hof:=(sim_ok (off_sim (hP _ hmk)).1)
        obtain ⟨x,hx⟩:∃ x,P.bnd r-preS (P.coef r) (P.inL fx) k=x:=⟨_,rfl⟩
        have w3:IntKind.i64.wrap (x-P.coef r (P.inL fx)[k])=P.bnd r-preS (P.coef r) (P.inL fx) (k+1):=by rw[hs,wrap64]<;>omega
        simp[-eIaddrS,c_problem_Relax_l2,stX2,e,eIaddrS_apc hka,oC_splice]
        refine eCall_i (coef_s (P:=P) (r:=r) hn hof.1 hr) (by simp) (by simp) ?_
        simp[hx,w2,w3,stX2]
       ·have hall:P.bnd r-preS (P.coef r) (P.inL fx) (P.inL fx).length=P.relB fx r:=by unfold Pb.relB; rw[preS_all]
        have key:∀ K:Exit→St→Prop,K (.exit 7) {env:=[(2,.ptr 2 0),(4,.ptr 4 0),(8,xF fx),(9,xI P fx),(12,.ptr 12 0),(13,.ptr 13 0),(91,iv P.rows),(92,iv r),(16,iv r),(17,iv (P.relB fx r)),(98,xI P fx),(99,iv (P.inL fx).length),(100,iv (P.inL fx).length),(101,bv false)],sto:=[(2,.var (pbC P)),(4,.var [nilL,nilL]),(12,.var (pbC P)),(13,.var [apc 87 3 (qR (P.relG fx)),apc 139 4 (relK P fx r)])]}→awp Try.prog c_problem_Relax_l2 (stX2 P fx r (P.inL fx).length) (lastC K):=by
         intro K h
         simp[c_problem_Relax_l2,stX2,hall]
         exact h
        refine key _ ?_
        obtain ⟨q1,q2⟩:=sum_bound hco
        have hB:-9223372036854775808≤P.relB fx r∧P.relB fx r<9223372036854775808:=by unfold Pb.relB; omega
        simp[c_problem_Relax_k5]
        refine eCall_i (fromInt_q hB.1 hB.2) (by simp) (by simp) ?_
        simp[-eLen1]
        refine awp_forW (stX3 P fx r) (fun _=>True) (freeL fx).length (by simp[stX3]) trivial (fun k hk' _=>?_) (fun _=>?_)
        ·have e:(k:Int)<(freeL fx).length:=by omega
         have w2:=wrap_succ (k:=k) (by omega)
         obtain ⟨i,hi⟩:∃ i,(freeL fx)[k]=i:=⟨_,rfl⟩
         have him:i∈freeL fx:=hi▸List.getElem_mem hk'
         have hio:=hfm i him
         have hof':i<(ofR P.of).length:=by simpa using hio
         have hka:k<(clR (ints (freeL fx))).length:=by simpa using hk'
         have hat:P.at (i:Int)=P.of[i]:=at_nat hio
         have hof:=sim_ok (off_sim (hG.off _ (List.getElem_mem hio))).1
         have hc4:=coef_ok (P:=P) hof.2.2 hr
         have hgk:(P.relC fx r)[k]'(by simpa using hk')=P.coef r P.of[i]:=by rw[relC_get,hi,hat]
         simp[-eIaddrS,c_problem_Relax_l3,stX3,e,eIaddrS_apc hka,eIaddrS_pl hof',ints_get,hi]
         refine eCall_i (coef_s (P:=P) (r:=r) hn hof.1 hr) (by simp) (by simp) ?_
         simp
         refine eCall_i (fromInt_q (n:=P.coef r P.of[i]) (by omega) (by omega)) (by simp) (by simp) ?_
         simp
         refine apc_add (by decide) rfl ?_ ?_ (by simp) ?_
         ·simp only[qR_len,List.length_take,relC_len]; omega
         ·simp only[qR_len,List.length_take,relC_len]; omega
         ·have hro:qR ((P.relC fx r).take k)++[fr ((P.coef r P.of[i]:Int):Rat)]=qR ((P.relC fx r).take (k+1)):=by rw[← qR_take (by simpa using hk'),hgk]
          rw[hro]
          simp[-cellsOf,w2,stX3,apc_dg]
        ·have key:∀ K:Exit→St→Prop,K (.exit 9) {env:=[(2,.ptr 2 0),(4,.ptr 4 0),(8,xF fx),(9,xI P fx),(12,.ptr 12 0),(13,.ptr 13 0),(91,iv P.rows),(92,iv r),(16,iv r),(20,.ptr 20 0),(114,xF fx),(115,iv (freeL fx).length),(116,iv (freeL fx).length),(117,bv false)],sto:=[(2,.var (pbC P)),(4,.var [nilL,nilL]),(12,.var (pbC P)),(13,.var [apc 87 3 (qR (P.relG fx)),apc 139 4 (relK P fx r)]),(20,.var (apc 132 3 (qR (P.relC fx r))::fr (P.relB fx r:Int)))]}→awp Try.prog c_problem_Relax_l3 (stX3 P fx r (freeL fx).length) (lastC K):=by
          intro K h
          have ht:(P.relC fx r).take (freeL fx).length=P.relC fx r:=List.take_of_length_le (by simp)
          simp[c_problem_Relax_l3,stX3,ht]
          exact h
         refine key _ ?_
         simp[c_problem_Relax_k4]
         refine apc_add (by decide) rfl ?_ ?_ (by simp) ?_
         ·simp only[relK_len]; omega
         ·simp only[relK_len]; omega
         ·have hro:relK P fx r++[plc 3 (qR (P.relC fx r))::fr (P.relB fx r:Int)]=relK P fx (r+1):=relK_succ
          rw[hro]
          simp[-cellsOf,w1,c_problem_Relax_k6,stX7,apc_dg]
      ·have key:∀ K:Exit→St→Prop,K (.exit 5) {env:=[(2,.ptr 2 0),(4,.ptr 4 0),(8,xF fx),(9,xI P fx),(12,.ptr 12 0),(13,.ptr 13 0),(91,iv P.rows),(92,iv P.rows),(93,bv false)],sto:=[(2,.var (pbC P)),(4,.var [nilL,nilL]),(12,.var (pbC P)),(13,.var [apc 87 3 (qR (P.relG fx)),apc 139 4 (relK P fx P.rows)])]}→awp Try.prog c_problem_Relax_l7 (stX7 P fx P.rows) (lastC K):=by
        intro K h
        simp[c_problem_Relax_l7,stX7]
        exact h
       refine key _ ?_
       simp[c_problem_Relax_k8,r_problem_Relax]
       exact imp_tup (imps_cons relA_imp (imps_cons (plc_imp impr_refl) (imps_cons AV.imp.refl imps_nil)))
    ·have hE:P.relE fx=14:=by
      unfold Pb.relE
      rw[if_neg (by simp[c1]),if_neg (by simp[c2]),if_neg (fun h=>h hF),if_neg c3]
     simp[c3,hE,r_problem_Relax]
     exact AV.imp.refl
  ·have c2':¬ (fx.length:Int)=P.of.length:=by omega
   have hE:P.relE fx=3:=by unfold Pb.relE; rw[if_neg (by simp[c1]),if_pos c2]
   simp[c1,c2',hE,r_problem_Relax]
   exact AV.imp.refl
 ·have hE:P.relE fx=P.chk:=by unfold Pb.relE; rw[if_pos c1]
  simp[c1,hE,r_problem_Relax]
  exact AV.imp.refl
end
end Go.Proofs.Ytbmhibiljjnfiaa

namespace Go.Proofs.Ytbmhibiljjnfiaa
open Go Go.Am Go.Pb
def saleA:AV:=.agg [.list 5 .full [[.val (.string ⟨#[97]⟩),iv 2,iv 3,iv 1,iv 0]],.list 4 .full [[.val (.string ⟨#[120]⟩),iv 0,iv 0,iv 0]],nilL,nilL]
theorem sale_s:SoundCall Try.prog F_law20_sale [] saleA:=.of_run tab_ok 1000 100 (by kernel_rfl)
theorem build_s:SoundCall Try.prog F_problem_Build [saleA,.list 8 .full [[iv 0,iv 1,iv 0,iv 0,iv 0,iv 0,iv 0,iv 5],[iv 0,iv 2,iv 0,iv 0,iv 0,iv 0,iv 0,iv 6]]] (.tuple [.agg [iv 2,iv 0,iv 0,iv 0,iv 0,iv 0,iv 2,iv 0,iv 0,iv 0,iv 0,iv 0,iv 0,iv 0,iv 0,iv 0,iv 0,iv 0,.list 1 .plain [[iv 0]],.list 8 .plain [[iv 0,iv 1,iv 0,iv 0,iv 0,iv 0,iv 0,iv 2]]],.list 1 .plain [[iv 0]],iv 0]):=.of_run tab_ok 1000 100 (by kernel_rfl)
def w0:List Int→Nat→Int:=fun l k=>l.getD k 0
def P3:Pb:=⟨w0 [1,1],w0 [1,1],w0 [],[0,0,0],[⟨0,w0 [1,1],10⟩,⟨1,w0 [1],6⟩,⟨2,w0 [0,1],6⟩]⟩
theorem three_0:SoundCall Try.prog F_law20_three [] (.agg [iv 1,iv 1,iv 0,iv 0,iv 0,iv 0,iv 1,iv 1,iv 0,iv 0,iv 0,iv 0,iv 0,iv 0,iv 0,iv 0,iv 0,iv 0,.list 1 .full [[iv 0],[iv 0],[iv 0]],.list 8 .full [[iv 0,iv 1,iv 1,iv 0,iv 0,iv 0,iv 0,iv 10],[iv 1,iv 1,iv 0,iv 0,iv 0,iv 0,iv 0,iv 6],[iv 2,iv 0,iv 1,iv 0,iv 0,iv 0,iv 0,iv 6]]]):=.of_run tab_ok 1000 100 (by kernel_rfl)
theorem three_s:SoundCall Try.prog F_law20_three [] (.agg (pbC P3)):=by
 refine sound_imp three_0 ?_
 have e:ofR P3.of=[[iv 0,iv 1,iv 1,iv 0,iv 0,iv 0,iv 0,iv 10],[iv 1,iv 1,iv 0,iv 0,iv 0,iv 0,iv 0,iv 6],[iv 2,iv 0,iv 1,iv 0,iv 0,iv 0,iv 0,iv 6]]:=by
  unfold ofR P3
  simp only[List.map_cons,List.map_nil,oC_eq]
  rfl
 simp only[pbX_eq]
 refine imp_agg ?_
 have h2:AV.imp (.list 8 .full [[iv 0,iv 1,iv 1,iv 0,iv 0,iv 0,iv 0,iv 10],[iv 1,iv 1,iv 0,iv 0,iv 0,iv 0,iv 0,iv 6],[iv 2,iv 0,iv 1,iv 0,iv 0,iv 0,iv 0,iv 6]]) (ofA P3.of):=by
  unfold ofA
  rw[e]
  exact imp_full
 have h1:AV.imp (.list 1 .full [[iv 0],[iv 0],[iv 0]]) (clA P3.cl):=imp_full
 repeat' first | exact imps_cons h1 (imps_cons h2 imps_nil) | refine imps_cons AV.imp.refl ?_
theorem P3_chk:P3.chk=0:=by decide +kernel
theorem P3_n:P3.cl.length≤1000:=by decide
theorem P3_k:P3.of.length≤1000000:=by decide
theorem ex_chk:SoundCall Try.prog F_problem_Check [.agg (pbC P3)] (iv 0):=by have h:=check_s P3_n P3_k; rwa [P3_chk] at h
theorem ex_f1:SoundCall Try.prog F_problem_Feasible [.agg (pbC P3),.list 1 .full [[iv 0]]] (iv 0):=by
 have h:=feasible_s (ch:=[0]) P3_n P3_k (by decide)
 rw[show P3.feaE [0]=0 by decide +kernel] at h
 exact imp_q2 h imp_full
theorem ex_f2:SoundCall Try.prog F_problem_Feasible [.agg (pbC P3),.list 1 .full [[iv 1],[iv 2]]] (iv 0):=by
 have h:=feasible_s (ch:=[1,2]) P3_n P3_k (by decide)
 rw[show P3.feaE [1,2]=0 by decide +kernel] at h
 exact imp_q2 h imp_full
theorem ex_f3:SoundCall Try.prog F_problem_Feasible [.agg (pbC P3),.list 1 .full [[iv 0],[iv 1]]] (iv 14):=by
 have h:=feasible_s (ch:=[0,1]) P3_n P3_k (by decide)
 rw[show P3.feaE [0,1]=14 by decide +kernel] at h
 exact imp_q2 h imp_full
theorem ex_v:SoundCall Try.prog F_problem_Value [.agg (pbC P3),.list 1 .full [[iv 1],[iv 2]]] (iv 12):=by
 have h:=value_s (ch:=[1,2]) P3_n P3_k (by decide)
 rw[show P3.valE [1,2]=12 by decide +kernel] at h
 exact imp_q2 h imp_full
theorem ex_rows:SoundCall Try.prog F_problem_Rows [.agg (pbC P3)] (iv 15):=by
 have h:=rows2_s P3_n P3_k
 rwa [show rowsE P3=15 by decide +kernel] at h
theorem ex_row:SoundCall Try.prog F_problem_Row [.agg (pbC P3),iv 3] (.tuple [clA [1,1,0],iv 1]):=by
 have h:=row_s (r:=3) P3_n P3_k
 have e:rowR P3 3=.tuple [clA [1,1,0],iv 1]:=by
  have hr:rowsE P3=15:=by decide +kernel
  unfold rowR
  rw[hr,if_pos (by decide),if_pos (by decide),show rowL P3 (Int.toNat 3)=[1,1,0] by decide +kernel,show P3.bnd (Int.toNat 3)=1 by decide +kernel]
 rwa [e] at h
theorem ex_relax:SoundCall Try.prog F_problem_Relax [.agg (pbC P3),.list 1 .full [[iv 0],[iv 1],[iv 0]]] (.tuple [relA P3 [0,1,0],clA [0,2],iv 0]):=by
 have h:=relax_s (fx:=[0,1,0]) P3_n P3_k (by decide)
 rw[if_pos (by decide +kernel),show ints (freeL [0,1,0])=[0,2] by decide +kernel] at h
 exact imp_q2 h imp_full
theorem ex_wo:SoundCall Try.prog F_problem_Without [.agg (pbC P3),iv 2] (.agg (pbC (woE P3 2))):=without_s (by decide) (by decide) P3_n P3_k
theorem ex_wol:(woE P3 2).of.length=2:=by decide +kernel
theorem ex_c1:SoundCall Try.prog F_ref20_Compare [clA [1,1,0],.list 1 .full [[iv 1],[iv 1],[iv 0]]] (iv 0):=imp_q2 (rcmp_s (a:=[1,1,0]) (b:=[1,1,0]) (by decide) (by decide)) imp_full
theorem ex_c2:SoundCall Try.prog F_ref20_Compare [clA [0],.list 1 .full [[iv 0]]] (iv 0):=imp_q2 (rcmp_s (a:=[0]) (b:=[0]) (by decide) (by decide)) imp_full
theorem ex_c3:SoundCall Try.prog F_ref20_Compare [clA [0,2],.list 1 .full [[iv 0],[iv 2]]] (iv 0):=imp_q2 (rcmp_s (a:=[0,2]) (b:=[0,2]) (by decide) (by decide)) imp_full
theorem ex_c4:SoundCall Try.prog F_problem_Compare [.list 1 .full [[iv 0],[iv 3]],.list 1 .full [[iv 1]]] (iv (-1)) :=
 imp_args (pcmp_s (a:=[0,3]) (b:=[1]) (by decide) (by decide)) (imps2 imp_full imp_full)
end Go.Proofs.Ytbmhibiljjnfiaa

namespace Go.Proofs.Ytbmhibiljjnfiaa
open Go Go.Am Go.Pb
theorem awake_s:SoundCall Try.prog F_law20_awake [] (bv true):=by
 refine sound' t_law20_awake (by simp) ?_
 simp[c_law20_awake]
 refine eCall_i (xs:=[]) (args:=[]) three_s rfl (.inl rfl) ?_
 simp[pbX_splice]
 refine eCall_i (xs:=[]) (args:=[]) sale_s rfl (.inl rfl) ?_
 have hb:=build_s
 unfold saleA at hb
 simp[saleA,splice]
 refine eCall_i hb (by simp) (by simp) ?_
 simp
 refine eCall_i ex_row (by simp) (by simp) ?_
 simp
 refine eCall_i ex_relax (by simp) (by simp) ?_
 simp[relA]
 refine eCall_i ex_chk (by simp) (by simp) ?_
 simp
 refine eCall_i ex_f1 (by simp) (by simp) ?_
 simp
 refine eCall_i ex_f2 (by simp) (by simp) ?_
 simp
 refine eCall_i ex_f3 (by simp) (by simp) ?_
 simp
 refine eCall_i ex_v (by simp) (by simp) ?_
 simp
 refine eCall_i ex_rows (by simp) (by simp) ?_
 simp
 refine eCall_i ex_c1 (by simp) (by simp) ?_
 simp
 refine eCall_i (show SoundCall Try.prog F_ref20_Compare [.list 1 .plain [[iv 0]],.list 1 .full [[iv 0]]] (iv 0) from ex_c2) (by simp) (by simp) ?_
 simp
 refine eCall_i ex_c3 (by simp) (by simp) ?_
 have hr:P3.rows=15:=by decide
 simp[hr]
 refine eCall_i ex_c4 (by simp) (by simp) ?_
 simp
 refine eCall_i ex_wo (by simp) (by simp) ?_
 simp[ex_wol,partA,r_law20_awake]
end Go.Proofs.Ytbmhibiljjnfiaa

namespace Go.Proofs.Ytbmhibiljjnfiaa
open Go Go.Am Go.Pb
abbrev tyB:Ty:=.arr 6 (.int .i64)
abbrev tyOf':Ty:=.st [.int .i64,tyB,.int .i64]
abbrev tyPb:Ty:=.st [tyB,tyB,tyB,.slice (.int .i64),.slice tyOf']
theorem bun_of {cs:List AV} (h:TyC tyB cs):∃ w:Nat→Int,cs=bC w:=by
 obtain ⟨rows,rfl,hl,h⟩:=h
 obtain ⟨L,rfl,_⟩:=rows_map (fun n:Int=>[iv n]) (fun _=>True) (fun r hr=>by
  obtain ⟨n,rfl,_⟩:=hr
  exact ⟨n,rfl,trivial⟩) h
 refine ⟨fun k=>L.getD k 0,?_⟩
 match L,hl with
 | [a,b,c,d,e,f],_=>rw[bC_eq]; rfl
theorem offer_of {cs:List AV} (h:TyC tyOf' cs):∃ o:Of,cs=oC o:=by
 obtain ⟨a1,b1,rfl,⟨n,rfl,_⟩,a2,b2,rfl,h2,a3,b3,rfl,⟨v,rfl,_⟩,rfl⟩:=h
 obtain ⟨w,rfl⟩:=bun_of h2
 exact ⟨⟨n,w,v⟩,by rw[oC_eq,bC_eq]; rfl⟩
theorem intl_of {cs:List AV} (h:TyC (.slice (.int .i64)) cs):∃ l:List Int,cs=[clA l]∧l.length≤reachBytes:=by
 obtain ⟨rows,rfl,hl,h⟩:=h
 obtain ⟨L,rfl,h2⟩:=rows_map (fun d:Int=>[iv d]) (fun _=>True) (fun r hr=>by
  obtain ⟨n,rfl,_⟩:=hr
  exact ⟨n,rfl,trivial⟩) h
 exact ⟨L,rfl,by simpa using hl⟩
theorem offl_of {cs:List AV} (h:TyC (.slice tyOf') cs):∃ L:List Of,cs=[ofA L]∧L.length≤reachBytes:=by
 obtain ⟨rows,rfl,hl,h⟩:=h
 obtain ⟨L,rfl,h2⟩:=rows_map oC (fun _=>True) (fun r hr=>by
  obtain ⟨o,rfl⟩:=offer_of hr
  exact ⟨o,rfl,trivial⟩) h
 exact ⟨L,rfl,by simpa using hl⟩
theorem prob_of {x:AV} (h:AVTy tyPb x):∃ P:Pb,x=.agg (pbC P)∧P.cl.length≤reachBytes∧P.of.length≤reachBytes:=by
 obtain ⟨cs,rfl,a1,b1,rfl,h1,a2,b2,rfl,h2,a3,b3,rfl,h3,a4,b4,rfl,h4,a5,b5,rfl,h5,rfl⟩:=h
 obtain ⟨s,rfl⟩:=bun_of h1
 obtain ⟨p,rfl⟩:=bun_of h2
 obtain ⟨c,rfl⟩:=bun_of h3
 obtain ⟨l,rfl,hl⟩:=intl_of h4
 obtain ⟨L,rfl,hL⟩:=offl_of h5
 refine ⟨⟨s,p,c,l,L⟩,?_,hl,hL⟩
 congr 1
 unfold pbC pbX
 simp
end Go.Proofs.Ytbmhibiljjnfiaa

namespace Go.Proofs.Ytbmhibiljjnfiaa
open Go Go.Am Go.Pb
section
variable {P:Pb}
theorem great_s:SoundCall Try.prog F_law20_great [.agg (pbC P)] (bv (decide (20<P.cl.length∨200<P.of.length))):=by
 refine sound' t_law20_great (by simp) ?_
 by_cases h1:20<P.cl.length
 ·have h1':(20:Int)<P.cl.length:=by omega
  simp[c_law20_great,h1,h1',r_law20_great]
 ·have h1':¬ (20:Int)<P.cl.length:=by omega
  by_cases h2:200<P.of.length
  ·have h2':(200:Int)<P.of.length:=by omega
   simp[c_law20_great,h1,h1',h2,h2',r_law20_great]
  ·have h2':¬ (200:Int)<P.of.length:=by omega
   simp[c_law20_great,h1,h1',h2,h2',r_law20_great]
theorem cmpL_self:∀ a:List Int,cmpL a a=0
 | []=>rfl
 | a::l=>by rw[cmpL,(cmpI_pos (a:=a) (b:=a)).1.2 rfl,if_pos rfl]; exact cmpL_self l
end
end Go.Proofs.Ytbmhibiljjnfiaa

namespace Go.Proofs.Ytbmhibiljjnfiaa
open Go Go.Am Go.Pb
section
variable {P:Pb}
@[simp] theorem isInts_oC {o:Of}:isInts 8 (oC o)=true:=by
 rw[oC_eq]; rfl
end
end Go.Proofs.Ytbmhibiljjnfiaa

namespace Go.Proofs.Ytbmhibiljjnfiaa
open Go Go.Am Go.Pb Go.Dig
theorem digs_word {n:Nat} (h0:0<n) (h:n<4294967296):digs n=[n]:=by
 have hB:B=4294967296:=rfl
 rw[digs_pos (by omega),Nat.mod_eq_of_lt (by rw[hB]; exact h),Nat.div_eq_of_lt (by rw[hB]; exact h),digs_zero]
theorem is_s {n:Int} (h1:-4294967296<n) (h2:n<4294967296):SoundCall Try.prog F_law20_is [.agg (fr (n:Rat)),iv n] (bv true):=by
 have hub:Try.prog.underlying T_bool=some .bool:=by kernel_rfl
 have e1:(n:Rat).num=n:=rfl
 have e2:(n:Rat).den=1:=rfl
 have d1:digs 1=[1]:=digs_word (by decide) (by decide)
 rw[fr_eq,e1,e2]
 refine sound' t_law20_is (by simp) ?_
 by_cases c0:n=0
 ·subst c0
  have d0:digs 0=[]:=digs_zero
  simp[c_law20_is,splice,d0,d1,r_law20_is]
 ·obtain ⟨d,hd⟩:∃ d:Nat,n.natAbs=d:=⟨_,rfl⟩
  have hneg:semPure Try.prog (Op.unary UnOp.neg (Value.int IntKind.i64 n))=some (.int .i64 (IntKind.i64.wrap (0-n))):=rfl
  have hdd:digs d=[d]:=digs_word (by omega) (by omega)
  rw[hd]
  by_cases c1:n<0
  ·have w1:IntKind.i64.wrap (-n)=(d:Int):=by rw[wrap64]<;>omega
   have w2:IntKind.i64.wrap (d:Int)=(d:Int):=by rw[wrap64]<;>omega
   simp[c_law20_is,splice,c0,c1,hdd,d1,eBin_eql_bool hub,hneg,w1,w2,r_law20_is]
  ·have w2:IntKind.i64.wrap (d:Int)=(d:Int):=by rw[wrap64]<;>omega
   have w3:n=(d:Int):=by omega
   subst w3
   have c2:¬ d=0:=by omega
   have c3:¬ (d:Int)<0:=by omega
   simp[c_law20_is,splice,c2,c3,hdd,d1,eBin_eql_bool hub,w2,r_law20_is]
end Go.Proofs.Ytbmhibiljjnfiaa

namespace Go.Proofs.Ytbmhibiljjnfiaa
open Go Go.Am Go.Pb
def ygl (P:Pb) (fx:List Int) (k:Nat):List Int:=(numK fx 0 k).map fun i:Nat=>(P.at (i:Int)).v
def ycl (P:Pb) (fx:List Int) (r k:Nat):List Int:=(numK fx 0 k).map fun i:Nat=>P.coef r (P.at (i:Int))
def ybl (P:Pb) (fx:List Int) (k:Nat):List Int:=(List.range k).map fun r=>P.relB fx r
noncomputable def yrl (P:Pb) (fx:List Int) (k:Nat):List (List AV):=(List.range k).map fun r=>[plc 1 (clR (P.relC fx r))]
noncomputable def stY0 (P:Pb) (fx:List Int) (k:Nat):St:={env:=[(1,clA fx),(2,.ptr 2 0),(4,.ptr 4 0),(7,.ptr 7 0),(8,apc 69 8 (ofR (P.inK fx k))),(9,iv k)],sto:=[(2,.var (pbC P)),(4,.var [nilL,nilL,nilL,nilL]),(7,.var [apc 58 1 (clR (ygl P fx k)),nilL,nilL,apc 47 1 (clR (ints (numK fx 0 k)))])]}
noncomputable abbrev y7 (P:Pb) (fx:List Int) (r:Nat):Entry:=.var [apc 58 1 (clR (P.relG fx)),apc 122 1 (yrl P fx r),apc 128 1 (clR (ybl P fx r)),apc 47 1 (clR (ints (freeL fx)))]
noncomputable def stY4 (P:Pb) (fx:List Int) (r:Nat):St:={env:=[(1,clA fx),(2,.ptr 2 0),(4,.ptr 4 0),(7,.ptr 7 0),(10,iv r)],sto:=[(2,.var (pbC P)),(4,.var [nilL,nilL,nilL,nilL]),(7,y7 P fx r)]}
noncomputable def stY1 (P:Pb) (fx:List Int) (r k:Nat):St:={env:=[(1,clA fx),(2,.ptr 2 0),(4,.ptr 4 0),(7,.ptr 7 0),(10,iv r),(11,clA (rowL P r)),(12,iv (P.bnd r-((P.inK fx k).map (P.coef r)).sum)),(13,apc 106 1 (clR (ycl P fx r k))),(14,iv k)],sto:=[(2,.var (pbC P)),(4,.var [nilL,nilL,nilL,nilL]),(7,y7 P fx r)]}
def rrA (P:Pb) (fx:List Int):AV:=.agg [clA (P.relG fx),.list 1 .plain ((List.range P.rows).map fun r=>[clA (P.relC fx r)]),clA (ybl P fx P.rows),clA (ints (freeL fx))]
section
variable {P:Pb} {r n k:Nat} {o:Of} {L:List Of} {fx:List Int}
theorem cells_aggR {cs:List AV}:cellsOf (.agg cs)=some cs:=rfl
theorem cells_valR {n:Int}:cellsOf (iv n)=some [iv n]:=by simp
theorem ygl_all:ygl P fx fx.length=P.relG fx:=rfl
theorem ycl_all:ycl P fx r fx.length=P.relC fx r:=rfl
theorem clR_snoc {l:List Int} {x:Int}:clR l++[[iv x]]=clR (l++[x]):=by simp[clR]
theorem ybl_succ:clR (ybl P fx k)++[[iv (P.relB fx k)]]=clR (ybl P fx (k+1)):=by
 rw[clR_snoc]; unfold ybl; rw[List.range_succ,List.map_append]; rfl
theorem yrl_succ:yrl P fx k++[[plc 1 (clR (P.relC fx k))]]=yrl P fx (k+1):=by
 unfold yrl; rw[List.range_succ,List.map_append]; rfl
@[simp] theorem ygl_len:(ygl P fx k).length=(numK fx 0 k).length:=by simp[ygl]
@[simp] theorem ycl_len:(ycl P fx r k).length=(numK fx 0 k).length:=by simp[ycl]
@[simp] theorem ybl_len:(ybl P fx k).length=k:=by simp[ybl]
@[simp] theorem yrl_len:(yrl P fx k).length=k:=by simp[yrl]
@[simp] theorem ybl_zero:ybl P fx 0=[]:=rfl
@[simp] theorem yrl_zero:yrl P fx 0=[]:=rfl
@[simp] theorem ygl_zero:ygl P fx 0=[]:=rfl
@[simp] theorem ycl_zero:ycl P fx r 0=[]:=rfl
theorem apc_addL {tok sz by_:Nat} {s:St} {KS:St→Prop} {rows:List (List AV)} {x:List AV} (h0:0<sz) (h1:s.base+tok=tok) (h2:(rows.length+1)*by_≤140737488355328) (h3:rows.length+1≤9223372036854775807) (h4:lk s.sto tok=none)
  (hr:x.all rf=true) (hK:KS ((s.dg tok).put (some tok) (apc tok sz (rows++[x.map strip])))):eAppend sz by_ s (some tok) KS [apc tok sz rows,.lit sz [x]]:=by
 have h:=apc_add (m:=.plain) (x:=x.map strip) h0 h1 h2 h3 h4 hK
 have e:rowsRf [x]=true:=by simp only[rowsRf,List.all_cons,hr,List.all_nil,Bool.and_self]
 have e2:rowsSt [x]=[x.map strip]:=rfl
 unfold apc at h ⊢
 split
 ·rename_i hc
  rw[if_pos hc] at h
  obtain ⟨_,h⟩:=h
  exact ⟨rfl,e,h⟩
 ·rename_i hc
  rw[if_neg hc] at h
  obtain ⟨_,h⟩:=h
  exact ⟨rfl,e,h⟩
theorem rrA_imp:AV.imp (.agg [plc 1 (clR (P.relG fx)),plc 1 (yrl P fx P.rows),plc 1 (clR (ybl P fx P.rows)),plc 1 (clR (ints (freeL fx)))]) (rrA P fx):=by
 refine imp_agg (imps_cons (plc_imp impr_refl) (imps_cons (plc_imp ?_) (imps_cons (plc_imp impr_refl) (imps_cons (plc_imp impr_refl) imps_nil))))
 refine ⟨by simp,fun i x y hx hy=>?_⟩
 have hi:i<P.rows:=by have:=(List.getElem?_eq_some_iff.1 hx).1; simpa using this
 simp[yrl,hi] at hx hy
 subst hx hy
 exact imps_cons (plc_imp impr_refl) imps_nil
theorem rrelax_s (hn:P.cl.length≤1000) (hk:P.of.length≤1000000) (hl:fx.length<4611686018427387904) :
  SoundCall Try.prog F_ref20_Relax [.agg (pbC P),clA fx] (.tuple [if P.relE fx=0 then rrA P fx else .agg [nilL,nilL,nilL,nilL],iv (P.relE fx)]):=by
 refine soundW' t_ref20_Relax (by simp) ?_
 simp[c_ref20_Relax,pbX_splice]
 refine eCall_i (rcheck_s hn hk) (by simp) (by simp) ?_
 by_cases c1:P.chk=0
 ·have hG:=chk_good c1
  by_cases c2:fx.length=P.of.length
  ·have c2':(fx.length:Int)=P.of.length:=by omega
   simp[c1,c2']
   refine awp_forW (stY0 P fx) (fun k=>∀ q,q<k→okX fx q) fx.length (by simp[stY0,numK_zero,Pb.inK]) (fun q hq=>by omega) (fun k hk' hI=>?_) (fun hI=>?_)
   ·have e:(k:Int)<P.of.length:=by omega
    have hko:k<P.of.length:=by omega
    have w1:=wrap_succ (k:=k) (by omega)
    have hg:fx.getD k 9=fx[k]:=by rw[List.getD_eq_getElem?_getD,List.getElem?_eq_getElem hk']; rfl
    have hs0:=numK_succ (fx:=fx) (v:=0) (k:=k)
    have hs1:=numK_succ (fx:=fx) (v:=1) (k:=k)
    have hl0:=numK_len (fx:=fx) (v:=0) (k:=k)
    have hl1:=inK_len (P:=P) (fx:=fx) (k:=k)
    rw[hg] at hs0 hs1
    have hx:okX fx k→∀ q,q<k+1→okX fx q:=fun d q hq=>by
     by_cases eq:q=k
     ·subst eq; exact d
     ·exact hI q (by omega)
    by_cases d1:fx[k]=-1
    ·have d:=hx (.inl (by rw[hg,d1]))
     rw[d1] at hs0 hs1
     rw[if_neg (by decide)] at hs0 hs1
     simp[c_ref20_Relax_l0,stY0,e,c2',hk',d1,w1,hs0,hs1,Pb.inK,ygl]
     exact d
    ·by_cases d2:fx[k]=0
     ·have d:=hx (.inr (.inl (by rw[hg,d2])))
      rw[d2] at hs0 hs1
      rw[if_pos rfl] at hs0
      rw[if_neg (by decide)] at hs1
      simp[c_ref20_Relax_l0,stY0,e,c2',hk',d2,hko]
      refine apc_add (by decide) rfl ?_ ?_ (by simp) ?_
      ·simp only[clR_len,ints_len]; omega
      ·simp only[clR_len,ints_len]; omega
      ·have hro:clR (ints (numK fx 0 k))++[[iv k]]=clR (ints (numK fx 0 (k+1))):=by rw[hs0,ints_app]; rfl
       rw[hro]
       simp[-cellsOf,cells_valR,apc_dg,hko]
       refine apc_add (by decide) rfl ?_ ?_ (by simp) ?_
       ·simp only[clR_len,ygl_len]; omega
       ·simp only[clR_len,ygl_len]; omega
       ·have hro2:clR (ygl P fx k)++[[iv (P.of[k]).v]]=clR (ygl P fx (k+1)):=by
         rw[clR_snoc]; unfold ygl; rw[hs0,List.map_append,← at_nat hko]; rfl
        rw[hro2]
        simp[-cellsOf,w1,stY0,c2',apc_dg,Pb.inK,hs1]
        exact d
     ·by_cases d3:fx[k]=1
      ·have d:=hx (.inr (.inr (by rw[hg,d3])))
       rw[d3] at hs0 hs1
       rw[if_neg (by decide)] at hs0
       rw[if_pos rfl] at hs1
       simp[c_ref20_Relax_l0,stY0,e,c2',hk',d3,hko]
       refine apc_add (by decide) rfl ?_ ?_ (by simp) ?_
       ·simp only[ofR_len]; omega
       ·simp only[ofR_len]; omega
       ·have hro:ofR (P.inK fx k)++[oC P.of[k]]=ofR (P.inK fx (k+1)):=by unfold Pb.inK; rw[hs1,List.map_append,ofR_app,← at_nat hko]; rfl
        rw[hro]
        simp[-cellsOf,w1,stY0,c2',apc_dg,hs0,ygl]
        exact d
      ·have hf:P.relE fx=4:=by
        unfold Pb.relE
        rw[if_neg (by simp[c1]),if_neg (by simp[c2]),if_pos (fun h=>by
         rcases h k hk' with h | h | h
         ·exact d1 (by rw[← hg,h])
         ·exact d2 (by rw[← hg,h])
         ·exact d3 (by rw[← hg,h]))]
       simp[c_ref20_Relax_l0,stY0,e,c2',hk',d1,d2,d3,hf,r_ref20_Relax]
       exact AV.imp.refl
   ·have key:∀ K:Exit→St→Prop,K (.exit 0) {env:=[(1,clA fx),(2,.ptr 2 0),(4,.ptr 4 0),(7,.ptr 7 0),(8,apc 69 8 (ofR (P.inL fx))),(9,iv fx.length),(31,bv false)],sto:=[(2,.var (pbC P)),(4,.var [nilL,nilL,nilL,nilL]),(7,.var [apc 58 1 (clR (P.relG fx)),nilL,nilL,apc 47 1 (clR (ints (freeL fx)))])]}→awp Try.prog c_ref20_Relax_l0 (stY0 P fx fx.length) (lastC K):=by
     intro K h
     simp[c_ref20_Relax_l0,stY0,ygl_all]
     exact h
    refine key _ ?_
    have hF:okF fx:=hI
    have hm:=inK_mem (P:=P) (fx:=fx) (k:=fx.length) (by omega)
    have hil:=inK_len (P:=P) (fx:=fx) (k:=fx.length)
    have hk160:=hG.k
    have hP:∀ o∈P.inL fx,P.offE o=0:=fun o ho=>hG.off o (hm o ho)
    have hil:(P.inL fx).length≤160:=by unfold Pb.inL; omega
    simp[c_ref20_Relax_k6]
    refine eCall_i (imp_q2 (rfits_s (P:=P) (L:=P.inL fx) hn (by omega) (fun o ho=>(sim_ok (off_sim (hP o ho)).1).1) (fun o ho=>(sim_ok (off_sim (hP o ho)).1).2.2)) (plc_imp impr_refl)) (by simp) (by simp) ?_
    by_cases c3:P.fits (P.inL fx)
    ·have hE:P.relE fx=0:=by
      unfold Pb.relE
      rw[if_neg (by simp[c1]),if_neg (by simp[c2]),if_neg (fun h=>h hF),if_pos c3]
     have hR:P.rows≤1012:=by unfold Pb.rows; omega
     have hRi:((P.rows:Nat):Int)=(P.cl.length:Int)+12:=by unfold Pb.rows; omega
     have w0:IntKind.i64.wrap ((P.cl.length:Int)+12)=(P.cl.length:Int)+12:=by rw[wrap64]<;>omega
     rw[if_pos hE,hE]
     simp[-cellsOf,c3]
     refine awp_forW (stY4 P fx) (fun _=>True) P.rows (by simp[stY4]) trivial (fun r hr _=>?_) (fun _=>?_)
     ·have e:(r:Int)<(P.cl.length:Int)+12:=by omega
      have w1:=wrap_succ (k:=r) (by omega)
      have hrow:=rrow_s (P:=P) (r:=(r:Int)) hn hk
      have e0:(0:Int)≤r∧(r:Int)<(rowsE P:Nat):=by unfold rowsE; rw[if_pos c1]; omega
      unfold rowR at hrow
      rw[if_pos e0,if_pos e0,Int.toNat_natCast] at hrow
      simp[-cellsOf,c_ref20_Relax_l4,stY4,e,w0]
      refine eCall_i hrow (by simp) (by simp) ?_
      simp[-cellsOf]
      have hil0:∀ k,(numK fx 0 k).length≤k:=fun k=>numK_len
      refine awp_forW (stY1 P fx r) (fun _=>True) fx.length (by simp[stY1,Pb.inK,numK_zero]) trivial (fun k hk' _=>?_) (fun _=>?_)
      ·have e2:(k:Int)<P.of.length:=by omega
       have hko:k<P.of.length:=by omega
       have w2:=wrap_succ (k:=k) (by omega)
       have hg:fx.getD k 9=fx[k]:=by rw[List.getD_eq_getElem?_getD,List.getElem?_eq_getElem hk']; rfl
       have hs0:=numK_succ (fx:=fx) (v:=0) (k:=k)
       have hs1:=numK_succ (fx:=fx) (v:=1) (k:=k)
       have hl0:=hil0 k
       rw[hg] at hs0 hs1
       have hat:P.at (k:Int)=P.of[k]:=at_nat hko
       have hkc:k<(clR (rowL P r)).length:=by simpa using hko
       have hcl:(rowL P r)[k]'(by simpa using hko)=P.coef r P.of[k]:=by simp[rowL]
       have hl1:=inK_len (P:=P) (fx:=fx) (k:=k)
       have hm1:=inK_mem (P:=P) (fx:=fx) (k:=k) (by omega)
       have hco:∀ o∈P.inK fx k,0≤P.coef r o∧P.coef r o≤4:=fun o ho=>coef_ok (sim_ok (off_sim (hG.off o (hm1 o ho))).1).2.2 hr
       obtain ⟨q1,q2⟩:=sum_bound hco
       have q3:=coef_ok (P:=P) (sim_ok (off_sim (hG.off _ (List.getElem_mem hko))).1).2.2 hr
       have hbn:-1000≤P.bnd r∧P.bnd r≤1000:=by
        unfold Pb.bnd
        unfold Pb.rows at hr
        split
        ·omega
        ·split
         ·have:=hG.sup (r-P.cl.length) (by omega); omega
         ·have:=hG.set (r-P.cl.length-6) (by omega)
          unfold Pb.okC at this
          have:=hG.sup (r-P.cl.length-6) (by omega)
          omega
       obtain ⟨y,hy⟩:∃ y,P.bnd r-((P.inK fx k).map (P.coef r)).sum=y:=⟨_,rfl⟩
       have w3:IntKind.i64.wrap (y-P.coef r P.of[k])=y-P.coef r P.of[k]:=by rw[wrap64]<;>omega
       have hiK:P.inK fx (k+1)=if fx[k]=1 then P.inK fx k++[P.of[k]] else P.inK fx k:=by
        unfold Pb.inK
        rw[hs1]
        split
        ·rw[List.map_append,← hat]; rfl
        ·rfl
       have hcK:ycl P fx r (k+1)=if fx[k]=0 then ycl P fx r k++[P.coef r P.of[k]] else ycl P fx r k:=by
        unfold ycl
        rw[hs0]
        split
        ·rw[List.map_append,← hat]; rfl
        ·rfl
       by_cases d2:fx[k]=0
       ·have d3:¬ fx[k]=1:=by omega
        rw[if_neg d3] at hiK
        rw[if_pos d2] at hcK
        simp[c_ref20_Relax_l1,stY1,e2,hko,hk',c2',d2,hcl,hy]
        refine apc_add (by decide) rfl ?_ ?_ (by simp) ?_
        ·simp only[clR_len,ycl_len]; omega
        ·simp only[clR_len,ycl_len]; omega
        ·rw[clR_snoc,← hcK]
         simp[-cellsOf,w2,stY1,apc_dg,d2,hko,hk',c2',hiK,hy]
       ·rw[if_neg d2] at hcK
        by_cases d3:fx[k]=1
        ·rw[if_pos d3] at hiK
         have hsum:P.bnd r-((P.inK fx (k+1)).map (P.coef r)).sum=y-P.coef r P.of[k]:=by
          rw[hiK,List.map_append,List.sum_append,← hy]
          simp only[List.map_cons,List.map_nil,List.sum_cons,List.sum_nil]
          omega
         simp[c_ref20_Relax_l1,stY1,e2,hko,hk',c2',d3,hcl,hy,w3,w2,hsum,hcK]
        ·rw[if_neg d3] at hiK
         simp[c_ref20_Relax_l1,stY1,e2,hko,hk',c2',d2,d3,hy,w2,hiK,hcK]
      ·have key:∀ K:Exit→St→Prop,K (.exit 5) {env:=[(1,clA fx),(2,.ptr 2 0),(4,.ptr 4 0),(7,.ptr 7 0),(10,iv r),(11,clA (rowL P r)),(12,iv (P.relB fx r)),(13,apc 106 1 (clR (P.relC fx r))),(14,iv fx.length),(92,bv false)],sto:=[(2,.var (pbC P)),(4,.var [nilL,nilL,nilL,nilL]),(7,y7 P fx r)]}→awp Try.prog c_ref20_Relax_l1 (stY1 P fx r fx.length) (lastC K):=by
        intro K h
        have hb:P.bnd r-((P.inK fx fx.length).map (P.coef r)).sum=P.relB fx r:=rfl
        simp[c_ref20_Relax_l1,stY1,c2',ycl_all,hb]
        simp[c2'] at h
        exact h
       refine key _ ?_
       simp[-cellsOf,c_ref20_Relax_k2,rowsAU,cells_apc]
       refine apc_addL (by decide) rfl ?_ ?_ (by simp) (by simp) ?_
       ·simp only[yrl_len]; omega
       ·simp only[yrl_len]; omega
       ·simp only[List.map_cons,List.map_nil,apc_strip]
        have hro:yrl P fx r++[[plc 1 (clR (P.relC fx r))]]=yrl P fx (r+1):=yrl_succ
        rw[hro]
        simp[-cellsOf,cells_valR,apc_dg]
        refine apc_add (by decide) rfl ?_ ?_ (by simp) ?_
        ·simp only[clR_len,ybl_len]; omega
        ·simp only[clR_len,ybl_len]; omega
        ·have hro2:=ybl_succ (P:=P) (fx:=fx) (k:=r)
         rw[hro2]
         simp[-cellsOf,c_ref20_Relax_k3,w1,stY4,apc_dg]
     ·have key:∀ K:Exit→St→Prop,K (.exit 3) {env:=[(1,clA fx),(2,.ptr 2 0),(4,.ptr 4 0),(7,.ptr 7 0),(10,iv P.rows),(80,bv false)],sto:=[(2,.var (pbC P)),(4,.var [nilL,nilL,nilL,nilL]),(7,y7 P fx P.rows)]}→awp Try.prog c_ref20_Relax_l4 (stY4 P fx P.rows) (lastC K):=by
       intro K h
       simp[c_ref20_Relax_l4,stY4,w0,hRi]
       simp[hRi] at h
       exact h
      refine key _ ?_
      simp[-cellsOf,cells_aggR,splice,c_ref20_Relax_k5,r_ref20_Relax]
      exact imp_tup (imps_cons rrA_imp imps_refl)
    ·have hE:P.relE fx=14:=by
      unfold Pb.relE
      rw[if_neg (by simp[c1]),if_neg (by simp[c2]),if_neg (fun h=>h hF),if_neg c3]
     simp[c3,hE,r_ref20_Relax]
     exact AV.imp.refl
  ·have c2':¬ (fx.length:Int)=P.of.length:=by omega
   have hE:P.relE fx=3:=by unfold Pb.relE; rw[if_neg (by simp[c1]),if_pos c2]
   simp[c1,c2',hE,r_ref20_Relax]
   exact AV.imp.refl
 ·have hE:P.relE fx=P.chk:=by unfold Pb.relE; rw[if_pos c1]
  simp[c1,hE,r_ref20_Relax]
  exact AV.imp.refl
end
end Go.Proofs.Ytbmhibiljjnfiaa

namespace Go.Proofs.Ytbmhibiljjnfiaa
open Go Go.Am Go.Pb
noncomputable abbrev z5 (P:Pb) (fx:List Int):Entry:=.var [.list 3 .plain (qR (P.relG fx)),.list 4 .plain ((List.range P.rows).map fun r=>(.list 3 .plain (qR (P.relC fx r)):AV)::fr (P.relB fx r:Int))]
abbrev z8 (P:Pb) (fx:List Int):Entry:=.var [clA (P.relG fx),.list 1 .plain ((List.range P.rows).map fun r=>[clA (P.relC fx r)]),clA (ybl P fx P.rows),clA (ints (freeL fx))]
noncomputable def stZ0 (P:Pb) (fx:List Int) (k:Nat):St:={env:=[(5,.ptr 5 0),(8,.ptr 8 0),(10,iv k)],sto:=[(5,z5 P fx),(8,z8 P fx)]}
noncomputable def stZ3 (P:Pb) (fx:List Int) (r:Nat):St:={env:=[(5,.ptr 5 0),(8,.ptr 8 0),(11,iv r)],sto:=[(5,z5 P fx),(8,z8 P fx)]}
noncomputable def stZ1 (P:Pb) (fx:List Int) (r k:Nat):St:={env:=[(5,.ptr 5 0),(8,.ptr 8 0),(11,iv r),(12,iv k)],sto:=[(5,z5 P fx),(8,z8 P fx)]}
def stZa (k:Nat):St:={env:=[(5,.ptr 5 0),(8,.ptr 8 0),(10,iv k)],sto:=[(5,.var [nilL,nilL]),(8,.var [nilL,nilL,nilL,nilL])]}
def stZb (k:Nat):St:={env:=[(5,.ptr 5 0),(8,.ptr 8 0),(11,iv k)],sto:=[(5,.var [nilL,nilL]),(8,.var [nilL,nilL,nilL,nilL])]}
section
variable {P:Pb} {fx:List Int}
theorem rel_rng (h:P.relE fx=0):(∀ x∈P.relG fx,-4294967296<x∧x<4294967296)∧∀ r,r<P.rows→(-4294967296<P.relB fx r∧P.relB fx r<4294967296)∧∀ x∈P.relC fx r,-4294967296<x∧x<4294967296:=by
 unfold Pb.relE at h
 split at h
 ·rename_i h1; exact absurd h h1
 ·rename_i h1
  have hG:=chk_good (Decidable.not_not.1 h1)
  split at h
  ·cases h
  ·rename_i h2
   have h2:fx.length=P.of.length:=Decidable.not_not.1 h2
   have hfm:∀ i∈freeL fx,i<P.of.length:=fun i hi=>by have:=(numK_mem hi).1; omega
   have hm:=inK_mem (P:=P) (fx:=fx) (k:=fx.length) (by omega)
   have hil:=inK_len (P:=P) (fx:=fx) (k:=fx.length)
   have hk160:=hG.k
   refine ⟨fun x hx=>?_,fun r hr=>⟨?_,fun x hx=>?_⟩⟩
   ·obtain ⟨i,hi,rfl⟩:=List.mem_map.1 hx
    have:=(sim_ok (off_sim (hG.off _ (at_mem (hfm i hi)))).1).2.1
    omega
   ·have hco:∀ o∈P.inL fx,0≤P.coef r o∧P.coef r o≤4:=fun o ho=>coef_ok (sim_ok (off_sim (hG.off o (hm o ho))).1).2.2 hr
    obtain ⟨q1,q2⟩:=sum_bound hco
    have hbn:-1000≤P.bnd r∧P.bnd r≤1000:=by
     unfold Pb.bnd
     unfold Pb.rows at hr
     split
     ·omega
     ·split
      ·have:=hG.sup (r-P.cl.length) (by omega); omega
      ·have:=hG.set (r-P.cl.length-6) (by omega)
       unfold Pb.okC at this
       have:=hG.sup (r-P.cl.length-6) (by omega)
       omega
    have:(P.inL fx).length≤160:=by unfold Pb.inL; omega
    unfold Pb.relB
    omega
   ·obtain ⟨i,hi,rfl⟩:=List.mem_map.1 hx
    have:=coef_ok (P:=P) (sim_ok (off_sim (hG.off _ (at_mem (hfm i hi)))).1).2.2 hr
    omega
theorem relaxed_s (hl:fx.length≤4000000000000000000):SoundCall Try.prog F_law20_ProblemRelaxed [.agg (pbC P),clA fx] (bv true):=by
 refine sound' t_law20_ProblemRelaxed (by simp) ?_
 simp[c_law20_ProblemRelaxed]
 refine eCall_i (great_s (P:=P)) (by simp) (by simp) ?_
 by_cases g:20<P.cl.length∨200<P.of.length
 ·simp only[decide_eq_true g]
  simp
  refine eCall_i (xs:=[]) (args:=[]) awake_s rfl (.inl rfl) ?_
  simp[r_law20_ProblemRelaxed]
 ·have hn:P.cl.length≤1000:=by omega
  have hk:P.of.length≤1000000:=by omega
  simp only[decide_eq_false g]
  by_cases g2:(60:Int)<P.of.length
  ·simp[g2]
   refine eCall_i (xs:=[]) (args:=[]) awake_s rfl (.inl rfl) ?_
   simp[r_law20_ProblemRelaxed]
  ·by_cases g3:(200:Int)<fx.length
   ·simp[g2,g3]
    refine eCall_i (xs:=[]) (args:=[]) awake_s rfl (.inl rfl) ?_
    simp[r_law20_ProblemRelaxed]
   ·have hx:=relax_s (P:=P) (fx:=fx) hn hk (by omega)
    have hy:=rrelax_s (P:=P) (fx:=fx) hn hk (by omega)
    simp[g2,g3]
    by_cases c:P.relE fx=0
    ·rw[if_pos c] at hx
     rw[if_pos c,c] at hy
     obtain ⟨rg,rr⟩:=rel_rng c
     have hfl:(freeL fx).length≤1000000:=by have:=numK_len (fx:=fx) (v:=0) (k:=fx.length); unfold freeL; omega
     refine eCall_i hx (by simp) (by simp) ?_
     simp[relA,splice]
     refine eCall_i hy (by simp) (by simp) ?_
     simp[rrA,splice]
     refine eCall_i (rcmp_s (a:=ints (freeL fx)) (b:=ints (freeL fx)) (by simp; omega) (by simp; omega)) (by simp) (by simp) ?_
     simp[cmpL_self]
     refine awp_forW (stZ0 P fx) (fun _=>True) (freeL fx).length (by simp[stZ0]) trivial (fun k hk' _=>?_) (fun _=>?_)
     ·have e:(k:Int)<(freeL fx).length:=by omega
      have w1:=wrap_succ (k:=k) (by omega)
      have hkg:k<(P.relG fx).length:=by simpa using hk'
      have his:=is_s (rg _ (List.getElem_mem hkg)).1 (rg _ (List.getElem_mem hkg)).2
      simp[c_law20_ProblemRelaxed_l0,stZ0,e,hk',qR]
      refine eCall_i his (by simp) (by simp) ?_
      simp[w1,qR,stZ0]
     ·have key:∀ K:Exit→St→Prop,K (.exit 0) {env:=[(5,.ptr 5 0),(8,.ptr 8 0),(10,iv (freeL fx).length),(72,bv false)],sto:=[(5,z5 P fx),(8,z8 P fx)]}→awp Try.prog c_law20_ProblemRelaxed_l0 (stZ0 P fx (freeL fx).length) (lastC K):=by
       intro K h
       simp[c_law20_ProblemRelaxed_l0,stZ0]
       exact h
      refine key _ ?_
      have hR:P.rows≤1012:=by unfold Pb.rows; omega
      simp[c_law20_ProblemRelaxed_k5]
      refine awp_forW (stZ3 P fx) (fun _=>True) P.rows (by simp[stZ3]) trivial (fun r hr _=>?_) (fun _=>?_)
      ·have e:(r:Int)<P.rows:=by omega
       have w1:=wrap_succ (k:=r) (by omega)
       obtain ⟨rb,rc⟩:=rr r hr
       have his:=is_s rb.1 rb.2
       simp[c_law20_ProblemRelaxed_l3,stZ3,e,hr,qR,ybl]
       refine eCall_i his (by simp) (by simp) ?_
       simp
       refine awp_forW (stZ1 P fx r) (fun _=>True) (freeL fx).length (by simp[stZ1,qR,ybl]) trivial (fun k hk' _=>?_) (fun _=>?_)
       ·have e2:(k:Int)<(freeL fx).length:=by omega
        have w2:=wrap_succ (k:=k) (by omega)
        have hkg:k<(P.relC fx r).length:=by simpa using hk'
        have his:=is_s (rc _ (List.getElem_mem hkg)).1 (rc _ (List.getElem_mem hkg)).2
        simp[c_law20_ProblemRelaxed_l1,stZ1,e,hr,e2,hk',qR]
        refine eCall_i his (by simp) (by simp) ?_
        simp[w2,qR,stZ1]
       ·have key:∀ K:Exit→St→Prop,K (.exit 4) {env:=[(5,.ptr 5 0),(8,.ptr 8 0),(11,iv r),(12,iv (freeL fx).length),(130,bv false)],sto:=[(5,z5 P fx),(8,z8 P fx)]}→awp Try.prog c_law20_ProblemRelaxed_l1 (stZ1 P fx r (freeL fx).length) (lastC K):=by
         intro K h
         simp[c_law20_ProblemRelaxed_l1,stZ1,e,hr]
         exact h
        refine key _ ?_
        simp[c_law20_ProblemRelaxed_k2,w1,stZ3]
      ·have key:∀ K:Exit→St→Prop,K (.exit 2) {env:=[(5,.ptr 5 0),(8,.ptr 8 0),(11,iv P.rows),(91,bv false)],sto:=[(5,z5 P fx),(8,z8 P fx)]}→awp Try.prog c_law20_ProblemRelaxed_l3 (stZ3 P fx P.rows) (lastC K):=by
        intro K h
        simp[c_law20_ProblemRelaxed_l3,stZ3]
        exact h
       refine key _ ?_
       simp[c_law20_ProblemRelaxed_k4]
       refine eCall_i (xs:=[]) (args:=[]) awake_s rfl (.inl rfl) ?_
       simp[r_law20_ProblemRelaxed]
    ·rw[if_neg c] at hx hy
     have hcn:SoundCall Try.prog F_ref20_Compare [nilL,nilL] (iv 0):=imp_args (rcmp_s (a:=[]) (b:=[]) (by decide) (by decide)) (imps2 (AV.imp_nil rfl) (AV.imp_nil rfl))
     refine eCall_i hx (by simp) (by simp) ?_
     simp[splice]
     refine eCall_i hy (by simp) (by simp) ?_
     simp[splice]
     refine eCall_i hcn (by simp) (by simp) ?_
     simp
     refine awp_forW stZa (fun _=>True) 0 (by simp[stZa]) trivial (fun k hk' _=>absurd hk' (Nat.not_lt_zero k)) (fun _=>?_)
     have key:∀ K:Exit→St→Prop,K (.exit 0) {stZa 0 with env:=[(5,.ptr 5 0),(8,.ptr 8 0),(10,iv 0),(72,bv false)]}→awp Try.prog c_law20_ProblemRelaxed_l0 (stZa 0) (lastC K):=by
      intro K h
      simp[stZa] at h
      simp[c_law20_ProblemRelaxed_l0,stZa]
      exact h
     refine key _ ?_
     simp[c_law20_ProblemRelaxed_k5,stZa]
     refine awp_forW stZb (fun _=>True) 0 (by simp[stZb]) trivial (fun k hk' _=>absurd hk' (Nat.not_lt_zero k)) (fun _=>?_)
     have key:∀ K:Exit→St→Prop,K (.exit 2) {stZb 0 with env:=[(5,.ptr 5 0),(8,.ptr 8 0),(11,iv 0),(91,bv false)]}→awp Try.prog c_law20_ProblemRelaxed_l3 (stZb 0) (lastC K):=by
      intro K h
      simp[stZb] at h
      simp[c_law20_ProblemRelaxed_l3,stZb]
      exact h
     refine key _ ?_
     simp[c_law20_ProblemRelaxed_k4,stZb]
     refine eCall_i (xs:=[]) (args:=[]) awake_s rfl (.inl rfl) ?_
     simp[r_law20_ProblemRelaxed]
end
theorem problemRelaxed_contract (xs:List AV) (h:TyAll [tyPb,.slice (.int .i64)] xs):SoundCall Try.prog F_law20_ProblemRelaxed xs (bv true):=by
 obtain ⟨x,y,rfl,h1,h2⟩:=TyAll_two h
 obtain ⟨P,rfl,_⟩:=prob_of h1
 obtain ⟨fx,hcs,hl⟩:=intl_of h2
 simp only[List.cons.injEq,and_true] at hcs
 subst hcs
 exact relaxed_s (by unfold reachBytes at hl; omega)
end Go.Proofs.Ytbmhibiljjnfiaa
