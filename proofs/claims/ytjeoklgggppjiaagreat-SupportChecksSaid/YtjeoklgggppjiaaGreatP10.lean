/- What the proof rests on, part 10: X7 X8 X8b LP5 X9 X10 X11 X12 PB Q0 Q1 Q2 Q3 Q4 Q5 Q6 Q7 PD QD PE QG QA QB QC PF QE RFx YS Y1 BBs. -/
import Derived.Test.YtjeoklgggppjiaaGreatP9
set_option maxRecDepth 100000
set_option maxHeartbeats 4000000
namespace Go.Proofs.YtjeoklgggppjiaaGreat
open Go Go.Am Go.Dig Go.LP
section
variable {k n:Nat} {c:List AV} {r:List (List AV)}
theorem xz:dgE k (.var c)=.var (c.map (dg k)):=rfl
theorem xk:dgE k (.uarr n r)=.uarr n (zR k r):=rfl
theorem Aw {k:Nat} {f:List (Nat × AV)} (h:yH 1000 f) (hk:1000≤k):q9 k f=true:=jZ hk h
theorem afK {k:Nat} {f:List (List (Nat × AV))} (h:yk 1000 f) (hk:1000≤k):mH k f=true:=Sd hk h
theorem li {k:Nat} {f:List (Nat × AV)} (h:yH 1000 f) (hk:1000≤k):(f.map fun p=>(p.1,dg k p.2))=f:=RD hk h
theorem jx {k:Nat} {f:List (List (Nat × AV))} (h:yk 1000 f) (hk:1000≤k):(f.map fun f=>f.map fun p=>(p.1,dg k p.2))=f:=Ju hk h
end
@[simp] theorem acL {sz by_ d l sz1 off len sz':Nat} {rows1 rows:List (List AV)} {s:St} {K:St→Prop} (h:lk s.sto l=some (.uarr sz rows1)) :
  xl sz by_ s (some d) K [.us l sz1 off len,.lit sz' rows]=(sz'=sz∧0<sz∧(len+rows.length)*by_≤140737488355328∧len+rows.length≤9223372036854775807∧sz1=sz∧off=0∧len=rows1.length ∧
   K ({(s.dg l) with sto:=pt (s.dg l).sto l (.uarr sz (zR l (rows1++rows)))}.put (some d) (.us l sz 0 (len+rows.length)))):=by
 simp[xl,xj,h]
@[simp] theorem agY {x:AV} {q:Rat}:zD (x::fr q) 1 (some 3)=some (fq q):=by
 simp only[zD,fr,List.length_cons,List.length_nil,List.drop_succ_cons,List.drop_zero,List.take]
 simp
abbrev zH:AV:=.list 0 .full []
noncomputable def oR (a:Nat→Nat→Rat) (md:Nat→Am.Mode) (cl:Nat→Nat) (n:Nat):List (List AV):=mR (fun i=>[.list 3 (md i) (fR (a i) (cl i))]) n
def om (i:Nat):Am.Mode:=.own (1000000+i)
noncomputable def pR (A:Nat→Nat→Rat) (bb:Nat→Rat) (n m:Nat):List (List AV):=mR (fun i=>[fL (A i) n,f0 (bb i),f1 (bb i),f2 (bb i)]) m
noncomputable abbrev pA (A:Nat→Nat→Rat) (bb gg:Nat→Rat) (n m:Nat):AV:=.agg [fL gg n,.list 4 .plain (pR A bb n m)]
section
variable {a:Nat→Nat→Rat} {bb:Nat→Rat} {md:Nat→Am.Mode} {cl:Nat→Nat} {n m i k:Nat} {e:ze}
@[simp] theorem aj0:(oR a md cl n).length=n:=sZ
@[simp] theorem aj4:(pR a bb n m).length=m:=sZ
@[simp] theorem ai9 {hi:i<(oR a md cl n).length}:(oR a md cl n)[i]=[.list 3 (md i) (fR (a i) (cl i))]:=nW
@[simp] theorem ajb {hi:i<(pR a bb n m).length}:(pR a bb n m)[i]=[fL (a i) n,f0 (bb i),f1 (bb i),f2 (bb i)]:=nW
@[simp] theorem aj1:yK k (oR a md cl n)=false:=ct fun _=>by simp
@[simp] theorem akS:yn (pR a bb n m)=true:=cr fun _=>by simp
@[simp] theorem akU:zN (pR a bb n m)=pR a bb n m:=tP fun _=>by simp
end
theorem t6 {g h:Nat→List AV} {n:Nat} {f:List AV→List AV} (e:∀ i,i<n→f (g i)=h i):(mR g n).map f=mR h n:=by
 unfold mR
 rw[List.map_map]
 exact List.map_congr_left fun i hi=>e i (by simpa using hi)
@[simp] theorem G2 {f:Nat→Nat} {n a b:Nat}:((nR f n).map fun r=>r.map (rn a b))=nR f n:=tP fun _=>rfl
@[simp] theorem akT {a:Nat→Nat→Rat} {bb:Nat→Rat} {n m k l:Nat}:((pR a bb n m).map fun r=>r.map (rn k l))=pR a bb n m:=tP fun _=>by
 simp[rn,rn1]
theorem ag9 {A:Nat→Nat→Rat} {cl:Nat→Nat} {n k l:Nat} (hk:k<1000000) (hl:n≤l):((oR A om cl n).map fun r=>r.map (rn k (1000000+l)))=oR A om cl n:=t6 fun i hi=>by
 have:sw k (1000000+l) (1000000+i)=1000000+i:=by unfold sw; rw[if_neg (by omega),if_neg (by omega)]
 simp[rn,rn1,om,this]
theorem ag8 {A:Nat→Nat→Rat} {cl:Nat→Nat} {n k:Nat} (hk:k<1000000):zR k (oR A om cl n)=oR A om cl n:=t6 fun i hi=>by
 have:¬ 1000000+i=k:=by omega
 simp[om,dg,this]
theorem am {k:Nat} {a b:List (List AV)}:zR k (a++b)=zR k a++zR k b:=List.map_append
theorem XG {k:Nat} {a b:List (List AV)}:yK k (a++b)=(yK k a||yK k b):=by
 induction a with
 | nil=>rfl
 | cons r a ih=>simp only[List.cons_append,yK,ih,Bool.or_assoc]
section
variable {a b:Nat}
theorem Xl {c:List AV}:rnE a b (.var c)=.var (c.map (rn a b)):=rfl
theorem ak {n:Nat} {r:List (List AV)}:rnE a b (.uarr n r)=.uarr n (r.map fun r=>r.map (rn a b)):=rfl
theorem MF {k o:Nat}:rn a b (.ptr k o)=.ptr (sw a b k) o:=rfl
theorem PO {k s o l:Nat}:rn a b (.us k s o l)=.us (sw a b k) s o l:=rfl
theorem Sv {v:Value}:rn a b (.val v)=.val v:=rfl
theorem al {s:Nat} {r:List (List AV)}:rn a b (.list s .plain r)=.list s .plain r:=rfl
theorem J2 {s:Nat} {r:List (List AV)}:rn a b (.list s .full r)=.list s .full r:=rfl
theorem Su {s l:Nat} {r:List (List AV)}:rn a b (.list s (.own l) r)=.list s (.own (sw a b l)) r:=rfl
end
theorem aaI {ρ:List (Nat × ze)} {k l:Nat} (h:rest ρ) (hk:far k=true) (hl:far l=true):(ρ.map fun p=>(sw k l p.1,rnE k l p.2))=ρ:=yP fun p hp=>by
 have hk:(1000≤k∧k<3000)∨4000≤k:=of_decide_eq_true hk
 have hl:(1000≤l∧l<3000)∨4000≤l:=of_decide_eq_true hl
 obtain ⟨h1,h2⟩:=h p hp
 have:sw k l p.1=p.1:=by unfold sw; rw[if_neg (by omega),if_neg (by omega)]
 rw[this,ac3 (by omega) (by omega) h2]
noncomputable def vO (k:Nat):AV:=if k=0 then zH else .list 3 (.own 2039) (fR (fun _=>0) k)
theorem Y0 {l k:Nat} (h:¬ l=2039):dg l (vO k)=vO k:=by
 unfold vO
 split
 ·simp
 ·simp only[dg]; rw[if_neg (fun e=>h e.symm)]
theorem acB {l j k:Nat} (h:¬ l=2039) (hj:¬ j=2039):rn l j (vO k)=vO k:=by
 unfold vO
 split
 ·rfl
 ·simp only[rn,rn1,sw]; rw[if_neg (fun e=>h e.symm),if_neg (fun e=>hj e.symm)]
@[simp] theorem ahI {l k:Nat}:zU l (vO k)=false:=by unfold vO; split<;>rfl
theorem DH {f:Nat→Nat} {k:Nat}:nR f k++[[iv (f k)]]=nR f (k+1):=lB.symm
theorem afG {a:Nat→Nat→Rat} {md:Nat→Am.Mode} {cl:Nat→Nat} {k:Nat}:oR a md cl k++[[.list 3 (md k) (fR (a k) (cl k))]]=oR a md cl (k+1):=lB.symm
noncomputable def R3 (A:Nat→Nat→Rat) (bb gg:Nat→Rat) (n m:Nat) (ρ:List (Nat × ze)) (out:List (List (Nat × AV))) (k:Nat):St :=
 {env:=[(1,.ptr 1001 0),(3,.ptr 1015 0),(18,iv n),(19,iv k)],
  sto:=ρ++[(1001,.var [fL gg n,.list 4 .plain (pR A bb n m)]),(1015,.var [iv n,iv m,zH,zH,vO k,f0 0,f1 0,f2 0,zH,.us 2029 1 0 k]),(2029,.uarr 1 (nR id k))],out:=out,base:=1000}
noncomputable def FO (A:Nat→Nat→Rat) (bb _gg:Nat→Rat) (n m:Nat) (ρ:List (Nat × ze)) (out:List (List (Nat × AV))) (k:Nat):St :=
 {env:=[(3,.ptr 1015 0),(44,.list 4 .plain (pR A bb n m)),(45,iv m),(46,iv k)],
  sto:=ρ++[(1015,.var [iv n,iv m,.us 1961 1 0 k,.us 1972 3 0 k,vO n,f0 0,f1 0,f2 0,.us 1987 1 0 k,.us 2029 1 0 n]),(2029,.uarr 1 (nR id n)),
   (1961,.uarr 1 (oR A om (fun _=>n) k)),(1972,.uarr 3 (fR bb k)),(1987,.uarr 1 (nR (fun i=>n+i) k))],out:=out,base:=1000}
theorem L3 {n m:Nat} {A:Nat→Nat→Rat} {bb gg:Nat→Rat} {ρ:List (Nat × ze)} {s:St} {K:AV→St→Prop} (hs:s.sto=ρ) (hρ:rest ρ) (hE:yH 1000 s.env) (hO:yk 1000 s.out) (hm:m<1000000) (hn:n<1000000)
  (h:K (.ptr 1015 0) ⟨s.env,ρ++[(1015,.var [iv n,iv m,.us 1961 1 0 m,.us 1972 3 0 m,vO n,f0 0,f1 0,f2 0,.us 1987 1 0 m,.us 2029 1 0 n]),(2029,.uarr 1 (nR id n)),
   (1961,.uarr 1 (oR A om (fun _=>n) m)),(1972,.uarr 3 (fR bb m)),(1987,.uarr 1 (nR (fun i=>n+i) m))],s.out,s.base⟩) :
  z5 Tryz.prog tw [pA A bb gg n m] s K:=by
 obtain ⟨env,σ,out,base⟩:=s
 simp only at hs hE hO h
 subst hs
 have g0:zd Tryz.prog zM [iv 0] (fq 0):=xi (n:=0) (by decide) (by decide)
 have hpt:∀ k e,far k=true→pt σ k e=σ++[(k,e)]:=fun k e hk=>by
  have:=rpt (l:=[]) (e:=e) hρ hk
  simpa using this
 have hlk:∀ k,far k=true→lk σ k=none:=fun k hk=>RT hρ hk
 refine va 1000 Qg (by simp) ?_
 simp[d9,hpt,hlk,rlk hρ,far]
 refine za g0 (by simp) (by simp) ?_
 simp[rlk hρ,rpt hρ,far]
 have hE2:yH 2000 env:=QJ (by omega) hE
 have hO2:yk 2000 out:=Dw (by omega) hO
 have hne:∀ k,k≠0→vO k=.list 3 (.own 2039) (fR (fun _=>0) k):=fun k hk=>by unfold vO; rw[if_neg hk]
 have hz:vO 0=zH:=rfl
 refine te (R3 A bb gg n m σ (env::out)) (fun _=>True) n ?_ trivial (fun k hk _=>?_) (fun _=>?_)
 ·refine St.imp.trans (St.imp_tok 2029 1 (by simp[rlk hρ,far])) ?_
  simp[St.dg,mM hρ,li hE,jx hO,rpt hρ,far,-dgE,xz]
  refine St.imp.trans (St.imp_cell_nil (k:=1015) (j:=9) (l:=2029) (sz:=1) (by simp[rlk hρ,far]; rfl) (by simp; rfl) (by simp[rlk hρ,far])) ?_
  simp[rpt hρ,far,R3,hz]
  exact St.imp.refl
 ·have e:(k:Int)<n:=by omega
  have w:=zm (k:=k) (by omega)
  have hap:nR id k++[[iv k]]=nR id (k+1):=DH (f:=id)
  have hfp:fR (fun _=>0) k++[fr 0]=fR (fun _=>0) (k+1):=vF.symm
  have hne1:=hne (k+1) (by omega)
  have hcd:∀ l,¬ l=2039→dg l (vO k)=vO k:=fun l h=>Y0 h
  simp[pE,R3,e,rlk hρ,rpt hρ,far,mM hρ,li hE,jx hO,-dgE,xz,xk,hap,hcd]
  refine ⟨by omega,by omega,?_⟩
  refine za g0 (by simp) (by simp) ?_
  by_cases k0:k=0
  ·subst k0
   have w1:IntKind.i64.wrap 1=1:=by decide
   have h1:fR (fun _=>(0:Rat)) 1=[fr 0]:=rfl
   simp[hz,rlk hρ,rpt hρ,far,mM hρ,li hE,jx hO,-dgE,xz,xk,w1,R3,hne 1 (by omega),h1]
   refine St.imp.trans (St.imp_rn 1039 2039) ?_
   have hr0:=aaI (k:=1039) (l:=2039) hρ rfl rfl
   have he:=cq (k:=1039) (by omega) (j:=2039) (by omega) hE
   have ho:=Xa (k:=1039) (by omega) (j:=2039) (by omega) hO
   simp only[St.rn,List.map_append,hr0]
   simp only[List.map_cons,List.map_nil,Xl,ak,MF,PO,Sv,al,Su,J2,G2,GE,GF,GG,sw,Nat.reduceEqDiff,if_true,if_false,he,ho]
   exact St.imp.refl
  ·simp[hne k k0,rlk hρ,rpt hρ,far,mM hρ,li hE,jx hO,-dgE,xz,xk,hfp,w,R3,hne1]
   exact ⟨by omega,by omega,St.imp.refl⟩
 ·have hcd:∀ l,¬ l=2039→dg l (vO n)=vO n:=fun l h=>Y0 h
  simp[pE,R3,jI,rlk hρ,wI hρ,far,-dgE,xd hρ,Aw hE,afK hO]
  refine te (FO A bb gg n m σ (env::out)) (fun _=>True) m ?_ trivial (fun k hk _=>?_) (fun _=>?_)
  ·refine St.imp.trans (St.imp_tok 1961 1 (by simp[rlk hρ,far])) ?_
   simp[St.dg,rpt hρ,far,mM hρ,li hE,jx hO,-dgE,xz,xk,hcd]
   refine St.imp.trans (St.imp_cell_nil (k:=1015) (j:=2) (l:=1961) (sz:=1) (by simp[rlk hρ,far]; rfl) (by simp; rfl) (by simp[rlk hρ,far])) ?_
   simp[rpt hρ,far]
   refine St.imp.trans (St.imp_tok 1972 3 (by simp[rlk hρ,far])) ?_
   simp[St.dg,rpt hρ,far,mM hρ,li hE,jx hO,-dgE,xz,xk,hcd]
   refine St.imp.trans (St.imp_cell_nil (k:=1015) (j:=3) (l:=1972) (sz:=3) (by simp[rlk hρ,far]; rfl) (by simp; rfl) (by simp[rlk hρ,far])) ?_
   simp[rpt hρ,far]
   refine St.imp.trans (St.imp_tok 1987 1 (by simp[rlk hρ,far])) ?_
   simp[St.dg,rpt hρ,far,mM hρ,li hE,jx hO,-dgE,xz,xk,hcd]
   refine St.imp.trans (St.imp_cell_nil (k:=1015) (j:=8) (l:=1987) (sz:=1) (by simp[rlk hρ,far]; rfl) (by simp; rfl) (by simp[rlk hρ,far])) ?_
   simp[rpt hρ,far,FO]
   exact St.imp.refl
  ·have e:(k:Int)<m:=by omega
   have w:=zm (k:=k) (by omega)
   have hau:wb 1 [[zH]] [0] [.list 3 (.own 1059) (fR (A k) n)]=some [[.list 3 (.own 1059) (fR (A k) n)]]:=rfl
   have hd1:∀ l,¬ l=1059→zR l [[.list 3 (.own 1059) (fR (A k) n)]]=[[.list 3 (.own 1059) (fR (A k) n)]]:=fun l h=>by
    have:¬ 1059=l:=fun e=>h e.symm
    simp[zR,dg,this]
   have hfb:fR bb k++[fr (bb k)]=fR bb (k+1):=vF.symm
   have hnb:nR (fun i=>n+i) k++[[iv (n+k:Nat)]]=nR (fun i=>n+i) (k+1):=DH (f:=fun i=>n+i)
   have hnb':nR (fun i=>n+i) k++[[iv ((n:Int)+k)]]=nR (fun i=>n+i) (k+1):=by rw[← hnb,Int.natCast_add]
   have wn:IntKind.i64.wrap (n+k)=(n:Int)+(k:Int):=by rw[wrap64]<;>omega
   simp[pF,FO,e,hk,rlk hρ,rpt hρ,wI hρ,far,mM hρ,li hE,jx hO,-dgE,xz,xk,hcd,xd hρ,Aw hE,afK hO,hau,ag8,am,hd1,hfb,wn,w,XG]
   refine ⟨by omega,by omega,by omega,by omega,by omega,by omega,by omega,by omega,?_⟩
   refine St.imp.trans (St.imp_rn 1059 (1000000+k)) ?_
   have ho:om k=.own (1000000+k):=rfl
   have hap:=afG (a:=A) (md:=om) (cl:=fun _=>n) (k:=k)
   rw[ho] at hap
   have s1:∀ l,l<1000000→¬ l=1059→sw 1059 (1000000+k) l=l:=fun l h1 h2=>by unfold sw; rw[if_neg h2,if_neg (by omega)]
   have s2:sw 1059 (1000000+k) 1059=1000000+k:=by unfold sw; rw[if_pos rfl]
   have hf:far (1000000+k)=true:=decide_eq_true (by omega)
   have hc:=acB (l:=1059) (j:=1000000+k) (k:=n) (by omega) (by omega)
   have hr:=ag9 (A:=A) (cl:=fun _=>n) (n:=k) (k:=1059) (l:=k) (by omega) (Nat.le_refl _)
   have he:=cq (k:=1059) (by omega) (j:=1000000+k) (by omega) hE
   have ho':=Xa (k:=1059) (by omega) (j:=1000000+k) (by omega) hO
   have hq:zR 1987 [[iv ((n:Int)+k)]]=[[iv ((n+k:Nat):Int)]]:=by rw[Int.natCast_add]; rfl
   have hr0:=aaI (k:=1059) (l:=1000000+k) hρ rfl hf
   simp only[St.rn,List.map_append,List.map_cons,List.map_nil,hr0,s1,s2,Xl,ak,MF,PO,Sv,al,Su,hr,hc,he,ho',G2,abQ,GE,GF,GG,hap,hq,Nat.reduceLT,Nat.reduceEqDiff,not_false_eq_true,Int.natCast_add]
   rw[hnb']
   exact St.imp.refl
  ·simp[pF,FO,jH,cA,-dgE]
   exact h
noncomputable def Lg (n:Nat) (out:List (List (Nat × AV))) (k:Nat):St:={env:=[(3,.sl 1006 3 0 n),(8,iv n),(9,iv k)],sto:=[(1006,.arr 3 (fZ (fun _=>0) k n))],out:=out,base:=1000}
theorem LC {n:Nat} {s:St} {K:AV→St→Prop} (hs:s.sto=[]) (hn:n<1000000) (h:K (.sl 1006 3 0 n) ⟨s.env,[(1006,.arr 3 (fR (fun _=>0) n))],s.out,s.base⟩) :
  z5 Tryz.prog rX [iv n] s K:=by
 obtain ⟨env,σ,out,base⟩:=s
 simp only at hs h
 subst hs
 refine va 1000 Pd (by simp) ?_
 simp[ZM,eMk]
 refine ⟨by omega,by omega,?_⟩
 rw[cf (f:=fun _=>0)]
 have k0:zd Tryz.prog zM [iv 0] (fq 0):=xi (n:=0) (by decide) (by decide)
 refine zq (Lg n (env::out)) (fun _=>True) n (by simp[Lg]) trivial (fun k hk _=>?_) (fun _=>?_)
 ·have e:(k:Int)<n:=by omega
  have w:=zm (k:=k) (by omega)
  have hs:=ZR (f:=fun _=>0) hk
  simp[qj,Lg,e]
  refine za k0 (by simp) (by simp) ?_
  simp[splice,hk,w,hs,Lg]
 ·simp[qj,gU,Yl,Lg,ce]
  exact h
theorem b9:yR Tryz.prog rX=true:=by kernel_rfl
noncomputable def tR (n m:Nat) (d:zo):AV:=.ro [iv n,iv m,.list 1 .plain (cR d.a (fun _=>d.c) m),fL d.b m,fL d.cst d.c,f0 d.v,f1 d.v,f2 d.v,.list 1 .plain (nR d.bas m),.list 1 .plain (nR d.fre d.c)]
def xM (n m:Nat) (d:zo):Nat→Nat→Rat
 | 0=>fun _=>0
 | k+1=>if n≤d.fre k∧d.fre k<n+m then upd (xM n m d k) (d.fre k-n) (-d.cst k) else xM n m d k
noncomputable def Ta (n m:Nat) (d:zo) (k:Nat):St :=
 {env:=[(0,tR n m d),(3,.sl 1006 3 0 m),(14,.list 1 .plain (nR d.fre d.c)),(15,iv d.c),(16,iv k)],sto:=[(1006,.arr 3 (fR (xM n m d k) m))]}
theorem Mw {n m L:Nat} {d:zo} (hm:m<1000000) (hn:n<1000000) (hc:d.c<1000000) (hfre:∀ j,j<d.c→d.fre j<4000000) (hL:L≤100000000000) (hsz:∀ j,j<d.c→sz L (d.cst j)) :
  zd Tryz.prog tn [tR n m d] (fL (xM n m d d.c) m):=by
 refine zt YF (by simp[tR]) ?_
 simp[gz,tR,b9]
 refine yb (LC rfl hm ?_)
 simp
 refine zq (Ta n m d) (fun _=>True) d.c (by simp[Ta,tR,xM]) trivial (fun k hk _=>?_) (fun _=>?_)
 ·have e:(k:Int)<d.c:=by omega
  have w:=zm (k:=k) (by omega)
  have g:=Sh (K:=L) (by omega) (hsz k hk)
  have hf:=hfre k hk
  obtain ⟨f,hfe⟩:∃ f,d.fre k=f:=⟨_,rfl⟩
  rw[hfe] at hf
  have w1:IntKind.i64.wrap ((n:Int)+m)=(n:Int)+m:=by rw[wrap64]<;>omega
  by_cases h1:n≤f
  ·by_cases h2:f<n+m
   ·have ev:xM n m d (k+1)=upd (xM n m d k) (f-n) (-d.cst k):=by simp only[xM]; rw[hfe,if_pos ⟨h1,h2⟩]
    have h1':(n:Int)≤f:=by omega
    have h2':(f:Int)<n+m:=by omega
    have w2:IntKind.i64.wrap ((f:Int)-n)=((f-n:Nat):Int):=by rw[wrap64]<;>omega
    have h3:f-n<m:=by omega
    have h4:((f-n:Nat):Int)<m:=by omega
    generalize f-n=g0 at *
    simp[xr,Ta,tR,e,hk,hfe,w1,h1',h2',w2]
    refine za g (by simp) (by simp) ?_
    simp[splice,h3,h4,w,Ta,tR,ev,mD]
   ·have ev:xM n m d (k+1)=xM n m d k:=by simp only[xM]; rw[hfe,if_neg fun h=>h2 h.2]
    have h1':(n:Int)≤f:=by omega
    have h2':¬ (f:Int)<n+m:=by omega
    simp[xr,Ta,tR,e,hk,hfe,w1,h1',h2',w,ev]
  ·have ev:xM n m d (k+1)=xM n m d k:=by simp only[xM]; rw[hfe,if_neg fun h=>h1 h.1]
   have h1':¬ (n:Int)≤f:=by omega
   simp[xr,Ta,tR,e,hk,hfe,h1',w,ev]
 ·simp[xr,mj,fu,Ta]
def nA (n:Nat) (d:zo):Nat→Nat→Rat
 | 0=>fun _=>0
 | k+1=>if d.bas k<n then upd (nA n d k) (d.bas k) (d.b k) else nA n d k
noncomputable def M9 (n m:Nat) (d:zo) (k:Nat):St :=
 {env:=[(0,tR n m d),(3,.sl 1006 3 0 n),(14,.list 1 .plain (nR d.bas m)),(15,iv m),(16,iv k)],sto:=[(1006,.arr 3 (fR (nA n d k) n))]}
theorem Kb {n m:Nat} {d:zo} (hm:m<1000000) (hn:n<1000000) :
  zd Tryz.prog pJ [tR n m d] (fL (nA n d m) n):=by
 refine zt Kx (by simp[tR]) ?_
 simp[XL,tR,b9]
 refine yb (LC rfl hn ?_)
 simp
 refine zq (M9 n m d) (fun _=>True) m (by simp[M9,tR,nA]) trivial (fun k hk _=>?_) (fun _=>?_)
 ·have e:(k:Int)<m:=by omega
  have w:=zm (k:=k) (by omega)
  obtain ⟨f,hfe⟩:∃ f,d.bas k=f:=⟨_,rfl⟩
  by_cases h1:f<n
  ·have ev:nA n d (k+1)=upd (nA n d k) f (d.b k):=by simp only[nA]; rw[hfe,if_pos h1]
   have h1':(f:Int)<n:=by omega
   simp[qN,M9,tR,e,hk,hfe,h1,h1',w,ev,splice,mD]
  ·have ev:nA n d (k+1)=nA n d k:=by simp only[nA]; rw[hfe,if_neg h1]
   have h1':¬ (f:Int)<n:=by omega
   simp[qN,M9,tR,e,hk,hfe,h1',w,ev]
 ·simp[qN,dY,X7,M9]
def tX (n:Nat) (d:zo) (q:Nat):Nat→Nat→Rat
 | 0=>if d.fre q<n then upd (fun _=>0) (d.fre q) 1 else fun _=>0
 | k+1=>if d.bas k<n then upd (tX n d q k) (d.bas k) (-d.a k q) else tX n d q k
noncomputable def aC (n m q:Nat) (d:zo) (k:Nat):St :=
 {env:=[(0,tR n m d),(1,iv q),(5,.sl 1006 3 0 n),(38,.list 1 .plain (nR d.bas m)),(39,iv m),(40,iv k)],sto:=[(1006,.arr 3 (fR (tX n d q k) n))]}
theorem Ck {n m q L:Nat} {d:zo} (hm:m<1000000) (hn:n<1000000) (hq:q<d.c) (hL:L≤100000000000) (hsz:∀ i,i<m→sz L (d.a i q)) :
  zd Tryz.prog Zr [tR n m d,iv q] (fL (tX n d q m) n):=by
 have h1g:zd Tryz.prog zM [iv 1] (fq 1):=xi (n:=1) (by decide) (by decide)
 have eq0:(q:Int)<d.c:=by omega
 obtain ⟨f,hfe⟩:∃ f,d.fre q=f:=⟨_,rfl⟩
 have loop:awp Tryz.prog (.loop r8) (aC n m q d 0) (wR 0 (ry Tryz.prog gA (U0 Ye (fL (tX n d q m) n)))):=by
  refine zq (aC n m q d) (fun _=>True) m (by simp[aC]) trivial (fun k hk _=>?_) (fun _=>?_)
  ·have e:(k:Int)<m:=by omega
   have w:=zm (k:=k) (by omega)
   have g:=Sh (K:=L) (by omega) (hsz k hk)
   obtain ⟨f,hfe⟩:∃ f,d.bas k=f:=⟨_,rfl⟩
   by_cases h1:f<n
   ·have ev:tX n d q (k+1)=upd (tX n d q k) f (-d.a k q):=by simp only[tX]; rw[hfe,if_pos h1]
    have h1':(f:Int)<n:=by omega
    simp[r8,aC,tR,e,hk,hq,eq0,hfe,h1']
    refine za g (by simp) (by simp) ?_
    simp[aC,tR,h1,h1',w,ev,splice,mD]
   ·have ev:tX n d q (k+1)=tX n d q k:=by simp only[tX]; rw[hfe,if_neg h1]
    have h1':¬ (f:Int)<n:=by omega
    simp[r8,aC,tR,e,hk,hfe,h1',w,ev]
  ·simp[r8,gA,Ye,aC]
 refine zt Be (by simp[tR]) ?_
 simp[Qm,tR,b9]
 refine yb (LC rfl hn ?_)
 by_cases h1:f<n
 ·have h1':(f:Int)<n:=by omega
  have ev:tX n d q 0=upd (fun _=>0) f 1:=by simp only[tX]; rw[hfe,if_pos h1]
  simp[hq,eq0,hfe,h1']
  refine za h1g (by simp) (by simp) ?_
  simp[h1,h1',splice,mD]
  simpa [aC,tR,ev] using loop
 ·have h1':¬ (f:Int)<n:=by omega
  have ev:tX n d q 0=fun _=>0:=by simp only[tX]; rw[hfe,if_neg h1]
  simp[hq,eq0,hfe,h1']
  simpa [aC,tR,ev] using loop
noncomputable def Lh (n:Nat) (σ:List (Nat × ze)) (out:List (List (Nat × AV))) (k:Nat):St:={env:=[(3,.sl 5006 3 0 n),(8,iv n),(9,iv k)],sto:=σ++[(5006,.arr 3 (fZ (fun _=>0) k n))],out:=out,base:=5000}
theorem agv {n n' m:Nat} {d:zo} {ρ:List (Nat × ze)} {s:St} {K:AV→St→Prop} (hs:s.sto=ρ++tL n' m d) (hρ:rest ρ) (hn:n<1000000)
  (h:K (.sl 5006 3 0 n) ⟨s.env,ρ++(tL n' m d++[(5006,.arr 3 (fR (fun _=>0) n))]),s.out,s.base⟩) :
  z5 Tryz.prog rX [iv n] s K:=by
 obtain ⟨env,σ,out,base⟩:=s
 simp only at hs h
 subst hs
 refine va 5000 Pd (by simp) ?_
 simp[ZM,eMk,tL,rlk hρ,rpt hρ,far]
 refine ⟨by omega,by omega,?_⟩
 rw[cf (f:=fun _=>0)]
 have k0:zd Tryz.prog zM [iv 0] (fq 0):=xi (n:=0) (by decide) (by decide)
 refine zq (Lh n (ρ++tL n' m d) (env::out)) (fun _=>True) n (by simp[Lh,tL]) trivial (fun k hk _=>?_) (fun _=>?_)
 ·have e:(k:Int)<n:=by omega
  have w:=zm (k:=k) (by omega)
  have hs:=ZR (f:=fun _=>0) hk
  simp[qj,Lh,tL,e]
  refine za k0 (by simp) (by simp) ?_
  simp[splice,hk,w,hs,Lh,rlk hρ,rpt hρ,far]
 ·simp[qj,gU,Yl,Lh,tL,ce]
  exact h
noncomputable def dJ (ls:List (Nat × AV)) (σ:List (Nat × ze)) (f:Nat→Rat) (len:Nat) (out:List (List (Nat × AV))) (last:Bool):St :=
 if last then ⟨ls++[(3,fL f len)],σ,out,4500⟩ else ⟨ls++[(3,.sl 5006 3 0 len)],σ++[(5006,.arr 3 (fR f len))],out,4500⟩
theorem aB {ls:List (Nat × AV)} {σ:List (Nat × ze)} {f:Nat→Rat} {len:Nat} {out:List (List (Nat × AV))}:dJ ls σ f len out false=⟨ls++[(3,.sl 5006 3 0 len)],σ++[(5006,.arr 3 (fR f len))],out,4500⟩:=rfl
theorem Ml {M k len:Nat} {ls:List (Nat × AV)} {f:Nat→Rat} (hl:yH M ls) (hk:M≤k):q9 k (ls++[(3,fL f len)])=true :=
 jZ (M:=M) hk fun p hp=>by
  rcases List.mem_append.1 hp with h | h
  ·exact hl p h
  ·simp only[List.mem_singleton] at h; subst h; rfl
theorem MP {ls:List (Nat × AV)} {n m:Nat} {d:zo} {ρ:List (Nat × ze)} {f:Nat→Rat} {len:Nat} {out:List (List (Nat × AV))} {last:Bool} (hρ:rest ρ) (hl:yH 3000 ls) (hO:yk 2000 out) :
  St.imp (dJ ls (ρ++tL n m d) f len out false) (dJ ls (ρ++tL n m d) f len out last):=by
 cases last with
 | false=>exact St.imp.refl
 | true =>
  refine St.imp_freeze (k:=5006) ?_
  have hn1:q9 5006 (ls++[(3,fL f len)])=true:=Ml hl (by omega)
  have e1:=UM (k:=5006) (e:=.arr 3 (fR f len)) (by omega) hl
  simp[xA,dJ,tL,rlk hρ,wI hρ,xd hρ,ono hO,aaF hρ,A5 hO,far,sC,nT,t5,kT,e1,hn1]
abbrev lsA (d:zo) (k:Nat):List (Nat × AV):=[(0,.ptr 1015 0),(14,.us 2029 1 0 d.c),(15,iv d.c),(16,iv k)]
theorem Jw {d:zo} {k:Nat}:yH 3000 (lsA d k):=by simp[yu,yO,mF,xB]; rfl
theorem adD {n m L:Nat} {d:zo} {ρ:List (Nat × ze)} {s:St} {K:AV→St→Prop} (hs:s.sto=ρ++tL n m d) (hρ:rest ρ) (hE:yH 2000 s.env) (hO:yk 2000 s.out) (hm:m<1000000) (hn:n<1000000) (hc:d.c<1000000) (hfre:∀ j,j<d.c→d.fre j<4000000) (hL:L≤100000000000) (hsz:∀ j,j<d.c→sz L (d.cst j))
  (h:K (fL (xM n m d d.c) m) ⟨s.env,ρ++tL n m d,s.out,s.base⟩):z5 Tryz.prog tn [.ptr 1015 0] s K:=by
 obtain ⟨env,σ,out,base⟩:=s
 simp only at hs hE hO h
 subst hs
 have hO2:yk 2000 (env::out):=kX.2 ⟨hE,hO⟩
 refine va 4500 YF (by simp) ?_
 simp[gz,b9,tL,rlk hρ,far]
 refine yb (agv (d:=d) (n':=n) (m:=m) rfl hρ hm ?_)
 simp[tL,rlk hρ,far]
 refine te (fun k=>dJ (lsA d k) (ρ++tL n m d) (xM n m d k) m (env::out) (k == d.c)) (fun _=>True) d.c (St.imp.trans (St.imp_of (by simp[dJ,tL,xM])) (MP hρ Jw hO2)) trivial (fun k hk _=>?_) (fun _=>?_)
 ·have e:(k:Int)<d.c:=by omega
  have hlast:(k == d.c)=false:=by simp; omega
  rw[hlast]
  have fin:=MP (last:=k+1 == d.c) (n:=n) (m:=m) (d:=d) (f:=xM n m d (k+1)) (len:=m) hρ (Jw (d:=d) (k:=k+1)) hO2
  have w:=zm (k:=k) (by omega)
  have g:=Sh (K:=L) (by omega) (hsz k hk)
  have hf:=hfre k hk
  obtain ⟨f,hfe⟩:∃ f,d.fre k=f:=⟨_,rfl⟩
  rw[hfe] at hf
  have w1:IntKind.i64.wrap ((n:Int)+m)=(n:Int)+m:=by rw[wrap64]<;>omega
  by_cases h1:n≤f
  ·by_cases h2:f<n+m
   ·have ev:xM n m d (k+1)=upd (xM n m d k) (f-n) (-d.cst k):=by simp only[xM]; rw[hfe,if_pos ⟨h1,h2⟩]
    have h1':(n:Int)≤f:=by omega
    have h2':(f:Int)<n+m:=by omega
    have w2:IntKind.i64.wrap ((f:Int)-n)=((f-n:Nat):Int):=by rw[wrap64]<;>omega
    have h3:f-n<m:=by omega
    have h4:((f-n:Nat):Int)<m:=by omega
    rw[ev] at fin
    generalize f-n=g0 at *
    simp[xr,aB,tL,rlk hρ,far,e,hk,hfe,w1,h1',h2',w2]
    refine za g (by simp) (by simp) ?_
    simp[splice,h3,h4,w,mD,rlk hρ,rpt hρ,far]
    rw[ev]
    refine St.imp.trans (St.imp_of ?_) fin
    simp[dJ,tL]
   ·have ev:xM n m d (k+1)=xM n m d k:=by simp only[xM]; rw[hfe,if_neg fun h=>h2 h.2]
    have h1':(n:Int)≤f:=by omega
    have h2':¬ (f:Int)<n+m:=by omega
    simp[xr,aB,tL,rlk hρ,far,e,hk,hfe,w1,h1',h2',w]
    refine St.imp.trans (St.imp_of ?_) fin
    simp[dJ,tL,ev]
  ·have ev:xM n m d (k+1)=xM n m d k:=by simp only[xM]; rw[hfe,if_neg fun h=>h1 h.1]
   have h1':¬ (n:Int)≤f:=by omega
   simp[xr,aB,tL,rlk hρ,far,e,hk,hfe,h1',w]
   refine St.imp.trans (St.imp_of ?_) fin
   simp[dJ,tL,ev]
 ·simp[xr,mj,fu,dJ]
  exact h
end Go.Proofs.YtjeoklgggppjiaaGreat

namespace Go.LP
def sk (j k:Nat):Nat:=if k<j then k else k+1
theorem ab9 {j k:Nat}:sk j k≠j:=by unfold sk; split<;>omega
theorem PR {j k n:Nat} (hj:j<n) (h:k<n-1):sk j k<n:=by unfold sk; split<;>omega
theorem YE {j:Nat} {f:Nat→Rat}:∀ {n:Nat},j<n+1→zh (n+1) f=zh n (fun k=>f (sk j k))+f j
 | 0,h=>by
  obtain rfl:j=0:=by omega
  simp[zh]
 | n+1,h=>by
  by_cases e:j=n+1
  ·subst e
   simp only[zh]
   rw[zy (n:=n) (f:=fun k=>f (sk (n+1) k)) (g:=f) fun k hk=>by unfold sk; rw[if_pos (by omega)]]
   unfold sk; rw[if_pos (by omega)]
  ·have ih:=YE (f:=f) (n:=n) (show j<n+1 by omega)
   rw[show zh (n+1+1) f=zh (n+1) f+f (n+1) from rfl,ih]
   simp only[zh]
   rw[show sk j n=n+1 by unfold sk; rw[if_neg (by omega)]]
   grind
def mB (d:zo) (j:Nat):zo:=⟨d.r,d.c-1,fun i k=>d.a i (sk j k),d.b,fun k=>d.cst (sk j k),d.v,d.bas,fun k=>d.fre (sk j k)⟩
theorem Ax {d:zo} {p q:Nat} (h:feas d) (hb:d.b p=0):feas (pivot d p q):=by
 intro i hi
 have:=h i hi
 simp only[pivot,hb]
 split<;>grind
section
variable {n m:Nat} {A:Nat→Nat→Rat} {bb gg:Nat→Rat}
theorem Ga {p:Nat}:(dA n m A bb).a p n≠0:=by
 simp only[dA,Nat.lt_irrefl,if_false]
 grind
theorem FU {p:Nat} (hp:p<m):Same (pivot (dA n m A bb) p n) (dA n m A bb) (n+m+1):=Same.pivot ae9 hp (Nat.lt_succ_self n) Ga
theorem FT {p:Nat} (h0:bb p<0) (hmin:∀ i,i<m→bb p≤bb i):feas (pivot (dA n m A bb) p n):=by
 intro i hi
 have:=hmin i hi
 simp only[pivot,dA,Nat.lt_irrefl,if_false]
 split<;>grind
section
variable {d:zo} (h:Same d (dA n m A bb) (n+m+1))
include h
theorem RL {x:Nat→Rat} (hx:sol d x):obj d x=- x (n+m):=by rw[h.obj x hx,DN]
theorem abZ (hf:feas d):d.v≤0:=by
 have h1:=RL h (fN h.bd)
 rw[YM h.bd] at h1
 have:=jg h.bd hf (n+m)
 grind
theorem L9 (hf:feas d) {q:Nat} (hq:q<d.c) (hc:0<d.cst q) (ha:∀ i,i<d.r→d.a i q≤0):False:=by
 have hv:=abZ h hf
 have hy0:0≤1/d.cst q:=by have:=bR hc; grind
 have hy:0≤(1-d.v)*(1/d.cst q):=Rat.mul_nonneg (by grind) hy0
 have h1:=RL h (pg h.bd hq (y:=(1-d.v)*(1/d.cst q)))
 rw[Xd h.bd hq] at h1
 have h2:d.v+d.cst q*((1-d.v)*(1/d.cst q))=1:=by grind
 have h3:0≤ptq d q ((1-d.v)*(1/d.cst q)) (n+m):=by
  unfold ptq
  generalize (1-d.v)*(1/d.cst q)=y at *
  have:0≤zh d.r (fun i=>if d.bas i=n+m then d.b i-d.a i q*y else 0):=ti fun i hi=>by
   split
   ·have h4:=hf i hi
    have h5:=Rat.mul_nonneg (show 0≤- d.a i q by have:=ha i hi; grind) hy
    grind
   ·grind
  split<;>grind
 rw[h2] at h1
 grind
theorem adz {i:Nat} (hi:i<d.r) (hb:d.bas i=n+m):∃ j,j<d.c∧d.a i j≠0:=by
 apply Classical.byContradiction
 intro hno
 have hz:∀ j,j<d.c→d.a i j=0:=fun j hj=>Classical.byContradiction fun e=>hno ⟨j,hj,e⟩
 have hx:=(h.sol _).2 (RW (n:=n) (m:=m) (A:=A) (bb:=bb) (x:=fun k=>if k<n then 0 else if k=n+m then d.b i+1 else bb (k-n)+(d.b i+1)) fun l hl=>by
  rw[if_neg (by omega),if_neg (by omega),if_neg (by omega),if_pos rfl,Nat.add_sub_cancel_left,zS fun j hj=>by rw[if_pos hj]; grind]
  grind)
 have h1:=hx i hi
 rw[hb,zS fun j hj=>by rw[hz j hj]; grind] at h1
 dsimp only at h1
 rw[if_neg (by omega),if_pos rfl] at h1
 grind
theorem afT {i:Nat} (hi:i<d.r) (hb:d.bas i=n+m) (hv:d.v=0):d.b i=0:=by
 have h1:=RL h (fN h.bd)
 rw[YM h.bd,← hb,YL h.bd hi] at h1
 grind
theorem Ae {j:Nat} (hj:j<d.c) (hfre:d.fre j=n+m):Bij (mB d j) (n+m):=by
 intro g
 have h1:=h.bd fun k=>if k=n+m then 0 else g k
 obtain ⟨c,hc⟩:∃ c,d.c=c+1:=⟨d.c-1,by omega⟩
 simp only[zh,if_true] at h1
 rw[hc,YE (j:=j) (by omega)] at h1
 simp only[mB,hc,Nat.add_sub_cancel]
 rw[hfre,if_pos rfl,zy (n:=n+m) (g:=g) fun k hk=>if_neg (by omega),
  zy (n:=c) (g:=fun k=>g (d.fre (sk j k))) fun k hk=>if_neg fun e=>ab9 (lm h.bd (PR (n:=d.c) (k:=k) hj (by omega)) hj (by rw[e,hfre])),
  zy (n:=d.r) (g:=fun i=>g (d.bas i)) fun i hi=>if_neg fun e=>uP h.bd hi hj (by rw[e,hfre])] at h1
 grind
theorem Af {j:Nat} (hj:j<d.c) (hfre:d.fre j=n+m) (x:Nat→Rat):sol (mB d j) x↔sol (dG n m A bb gg) x:=by
 obtain ⟨c,hc⟩:∃ c,d.c=c+1:=⟨d.c-1,by omega⟩
 have e1:sol (mB d j) x↔sol d (fun k=>if k=n+m then 0 else x k):=by
  refine forall_congr' fun i=>forall_congr' fun hi=>?_
  simp only[mB,hc,Nat.add_sub_cancel]
  rw[if_neg fun e=>uP h.bd hi hj (by rw[e,hfre]),YE (j:=j) (by omega),hfre,if_pos rfl,
   zy (n:=c) (f:=fun k=>d.a i (sk j k)*(if d.fre (sk j k)=n+m then 0 else x (d.fre (sk j k)))) (g:=fun k=>d.a i (sk j k)*x (d.fre (sk j k))) fun k hk=>by
    rw[if_neg fun e=>ab9 (lm h.bd (PR (n:=d.c) (k:=k) hj (by omega)) hj (by rw[e,hfre]))]]
  grind
 rw[e1,h.sol]
 constructor
 ·intro hx i hi
  have:=agd hx hi
  rw[if_neg (by simp only[dG] at hi; omega),if_pos rfl,zy (n:=n) (g:=fun j=>A i j*x j) fun k hk=>by rw[if_neg (by omega)]] at this
  simp only[dG]
  grind
 ·intro hx
  refine RW fun i hi=>?_
  have:=SJ hx hi
  rw[if_neg (by omega),if_pos rfl,zy (n:=n) (g:=fun j=>A i j*x j) fun k hk=>by rw[if_neg (by omega)]]
  grind
end
end
theorem acb {d:zo} {N L:Nat} (hb:Bij d N) (hs:szD L d) (k:Nat):sz L (vl d k):=by
 by_cases h:inB d k
 ·obtain ⟨i,hi,rfl⟩:=h
  rw[YL hb hi]; exact hs.b i hi
 ·rw[fM h]; exact ws
theorem abN {d:zo} {N L:Nat} (hb:Bij d N) (hs:szD L d) (k:Nat):sz L (cv d k):=by
 by_cases h:∃ j,j<d.c∧d.fre j=k
 ·obtain ⟨j,hj,rfl⟩:=h
  rw[TR hb hj]; exact hs.cst j hj
 ·have:cv d k=0:=zS fun j hj=>if_neg fun e=>h ⟨j,hj,e⟩
  rw[this]; exact ws
theorem adJ {d:zo} {N L q:Nat} (hb:Bij d N) (hs:szD L d) (hq:q<d.c) (k:Nat):sz L (dH d q k):=by
 by_cases h:inB d k
 ·obtain ⟨i,hi,rfl⟩:=h
  have e:dH d q (d.bas i)=- d.a i q:=by rw[Xj,cy hb hq hi,cy hb hq hi]; grind
  rw[e]; exact mV (hs.a i q hi hq)
 ·unfold dH
  rw[zS fun i hi=>if_neg fun e=>h ⟨i,hi,e⟩]
  split
  ·rw[show (0:Rat)+1=1 by grind]; exact Bd
  ·rw[show (0:Rat)+0=0 by grind]; exact ws
def sgV (n:Nat) (g:Nat→Rat) (d:zo) (k:Nat):Rat:=zh k fun i=>if d.bas i<n then g (d.bas i)*d.b i else 0
def sgC (n:Nat) (g:Nat→Rat) (d:zo) (k j:Nat):Rat:=(if d.fre j<n then g (d.fre j) else 0)-zh k fun i=>if d.bas i<n then g (d.bas i)*d.a i j else 0
def l8 (n:Nat) (g:Nat→Rat) (d:zo):zo:={d with cst:=sgC n g d d.r,v:=sgV n g d d.r}
section
variable {n m:Nat} {A:Nat→Nat→Rat} {bb gg:Nat→Rat}
theorem Dg {d:zo} (hb:Bij d (n+m)) (hs:∀ x,sol d x↔sol (dG n m A bb gg) x):Same (l8 n gg d) (dG n m A bb gg) (n+m):=by
 refine ⟨hb,EP,hs,fun x hx=>?_⟩
 have hx':sol d x:=hx
 rw[Sk]
 have h1:=hb fun k=>if k<n then gg k*x k else 0
 rw[fH,zy (n:=n) (g:=fun k=>gg k*x k) fun k hk=>if_pos hk,zS (n:=m) fun k hk=>if_neg (by omega)] at h1
 have h2:zh d.r (fun i=>if d.bas i<n then gg (d.bas i)*x (d.bas i) else 0)=sgV n gg d d.r-zh d.c fun j=>zh d.r (fun i=>if d.bas i<n then gg (d.bas i)*d.a i j else 0)*x (d.fre j):=by
  rw[zy (n:=d.c) (g:=fun j=>zh d.r fun i=>if d.bas i<n then gg (d.bas i)*d.a i j*x (d.fre j) else 0) fun j hj=>by
   rw[← de]; exact zy fun i hi=>by split<;>grind]
  rw[← YD,sgV,← qC]
  refine zy fun i hi=>?_
  by_cases e:d.bas i<n
  ·simp only[if_pos e]
   rw[hx' i hi,zy (n:=d.c) (f:=fun j=>gg (d.bas i)*d.a i j*x (d.fre j)) (g:=fun j=>gg (d.bas i)*(d.a i j*x (d.fre j))) fun j hj=>by grind,fI]
   grind
  ·simp only[if_neg e]
   rw[zS fun j hj=>rfl]
   grind
 have h3:zh d.c (fun j=>sgC n gg d d.r j*x (d.fre j))=zh d.c (fun j=>if d.fre j<n then gg (d.fre j)*x (d.fre j) else 0)-zh d.c fun j=>zh d.r (fun i=>if d.bas i<n then gg (d.bas i)*d.a i j else 0)*x (d.fre j):=by
  rw[← qC]
  refine zy fun j hj=>?_
  unfold sgC
  split<;>grind
 show sgV n gg d d.r+zh d.c (fun j=>sgC n gg d d.r j*x (d.fre j))=_
 rw[h3]
 grind
end
end Go.LP

namespace Go.Proofs.YtjeoklgggppjiaaGreat
open Go Go.Am Go.Dig Go.LP
theorem af7 {n k L:Nat} {g:Nat→Rat} {d:zo} (hg:∀ j,j<n→sz L (g j)) (hb:∀ i,i<k→sz L (d.b i)):sz (k*(2*L+1)) (sgV n g d k):=by
 induction k with
 | zero=>exact ws
 | succ k ih =>
  have h1:=ih fun i hi=>hb i (by omega)
  have e:(k+1)*(2*L+1)=k*(2*L+1)+(L+L)+1:=by rw[Nat.succ_mul]; omega
  rw[e]
  refine cD h1 ?_
  dsimp only
  split
  ·rename_i h; exact yg (hg _ h) (hb k (by omega))
  ·exact ws
theorem af6 {n k L j:Nat} {g:Nat→Rat} {d:zo} (hg:∀ j,j<n→sz L (g j)) (ha:∀ i,i<k→sz L (d.a i j)):sz (L+k*(2*L+1)+1) (sgC n g d k j):=by
 refine S1 ?_ ?_
 ·split
  ·rename_i h; exact hg _ h
  ·exact ws
 ·induction k with
  | zero=>exact ws
  | succ k ih =>
   have h1:=ih fun i hi=>ha i (by omega)
   have e:(k+1)*(2*L+1)=k*(2*L+1)+(L+L)+1:=by rw[Nat.succ_mul]; omega
   rw[e]
   refine cD h1 ?_
   dsimp only
   split
   ·rename_i h; exact yg (hg _ h) (ha k (by omega))
   ·exact ws
def wv (d:zo) (v:Rat):zo:={d with v:=v}
noncomputable def U6 (n m:Nat) (g:Nat→Rat) (d:zo) (ρ:List (Nat × ze)) (out:List (List (Nat × AV))) (k:Nat):St :=
 {env:=[(0,.ptr 1015 0),(1,fL g n),(4,.sl 5020 3 0 d.c),(24,.us 2029 1 0 d.c),(25,iv d.c),(26,iv k)],
  sto:=ρ++(tL n m (wv d 0)++[(5020,.arr 3 (fZ (sgC n g d 0) k d.c))]),out:=out,base:=5000}
noncomputable def mS (n m:Nat) (g:Nat→Rat) (d:zo) (ρ:List (Nat × ze)) (out:List (List (Nat × AV))) (k:Nat):St :=
 {env:=[(0,.ptr 1015 0),(1,fL g n),(4,.sl 5020 3 0 d.c),(52,.us 1987 1 0 m),(53,iv m),(54,iv k)],
  sto:=ρ++(tL n m (wv d (sgV n g d k))++[(5020,.arr 3 (fR (sgC n g d k) d.c))]),out:=out,base:=5000}
noncomputable def MR (n m:Nat) (g:Nat→Rat) (d:zo) (ρ:List (Nat × ze)) (out:List (List (Nat × AV))) (k:Nat):St :=
 if k=m then ⟨[(0,.ptr 1015 0),(1,fL g n),(4,fL (sgC n g d k) d.c),(52,.us 1987 1 0 m),(53,iv m),(54,iv k)],
  ρ++tL n m (wv d (sgV n g d k)),out,5000⟩ else mS n m g d ρ out k
theorem aeb {n m:Nat} {g:Nat→Rat} {d:zo} {ρ:List (Nat × ze)} {out:List (List (Nat × AV))} {k:Nat} (h:k<m):MR n m g d ρ out k=mS n m g d ρ out k:=if_neg (by omega)
theorem abl {n m:Nat} {g:Nat→Rat} {d:zo} {ρ:List (Nat × ze)} {out:List (List (Nat × AV))}:MR n m g d ρ out m=⟨[(0,.ptr 1015 0),(1,fL g n),(4,fL (sgC n g d m) d.c),(52,.us 1987 1 0 m),(53,iv m),(54,iv m)],
  ρ++tL n m (wv d (sgV n g d m)),out,5000⟩:=if_pos rfl
theorem MS {n m:Nat} {g:Nat→Rat} {d:zo} {ρ:List (Nat × ze)} {out:List (List (Nat × AV))} (hρ:rest ρ) (hO:yk 2000 out) (k:Nat):St.imp (mS n m g d ρ out k) (MR n m g d ρ out k):=by
 unfold MR
 split
 ·refine St.imp_freeze (k:=5020) ?_
  simp[xA,mS,tL,rlk hρ,wI hρ,xd hρ,ono hO,aaF hρ,A5 hO,far,wv,sC,nT,t5,kT]
 ·exact St.imp.refl
noncomputable def U7 (n m:Nat) (g:Nat→Rat) (d:zo) (ρ:List (Nat × ze)) (out:List (List (Nat × AV))) (k:Nat) (l:Nat):St :=
 {env:=[(0,.ptr 1015 0),(1,fL g n),(4,.sl 5020 3 0 d.c),(8,iv (d.bas k)),(52,.us 1987 1 0 m),(53,iv m),(54,iv k),(99,fL (d.a k) d.c),(100,iv d.c),(101,iv l)],
  sto:=ρ++(tL n m (wv d (sgV n g d (k+1)))++[(5020,.arr 3 (fR (fun j=>if j<l then sgC n g d (k+1) j else sgC n g d k j) d.c))]),out:=out,base:=5000}
theorem MK {n m L:Nat} {g:Nat→Rat} {d:zo} {ρ:List (Nat × ze)} {s:St} {K:AV→St→Prop} (hs:s.sto=ρ++tL n m d) (hρ:rest ρ) (hE:yH 2000 s.env) (hO:yk 2000 s.out) (hm:m<1000000) (_hn:n<1000000) (hc:d.c<1000000) (hr:d.r=m)
  (hL:L+(m+1)*(2*L+1)≤100000000000) (hsz:szD L d) (hg:∀ j,j<n→sz L (g j)) (h:K (.tuple []) ⟨s.env,ρ++tL n m (l8 n g d),s.out,s.base⟩) :
  z5 Tryz.prog pT [.ptr 1015 0,fL g n] s K:=by
 obtain ⟨env,σ,out,base⟩:=s
 simp only at hs hE hO h
 subst hs
 have g0:zd Tryz.prog zM [iv 0] (fq 0):=xi (n:=0) (by decide) (by decide)
 have v0:sgV n g d 0=0:=rfl
 refine va 5000 Pu (by simp) ?_
 simp[aT,tL]
 refine za g0 (by simp) (by simp) ?_
 simp[rlk hρ,rpt hρ,far,eMk]
 refine ⟨by omega,by omega,?_⟩
 rw[cf (f:=sgC n g d 0)]
 refine zq (U6 n m g d ρ (env::out)) (fun _=>True) d.c (by simp[U6,tL,wv]) trivial (fun k hk _=>?_) (fun _=>?_)
 ·have e:(k:Int)<d.c:=by omega
  have w:=zm (k:=k) (by omega)
  have hset:=ZR (f:=sgC n g d 0) hk
  obtain ⟨f,hfe⟩:∃ f,d.fre k=f:=⟨_,rfl⟩
  by_cases h1:f<n
  ·have h1':(f:Int)<n:=by omega
   have ev:sgC n g d 0 k=g f:=by simp only[sgC,zh]; rw[hfe,if_pos h1]; grind
   rw[ev] at hset
   simp[sh,U6,tL,rlk hρ,far,wv,e,hk,hfe]
   refine za g0 (by simp) (by simp) ?_
   simp[tL,rlk hρ,rpt hρ,far,wv,e,hk,h1,h1',w,splice,hset,U6]
  ·have h1':¬ (f:Int)<n:=by omega
   have ev:sgC n g d 0 k=0:=by simp only[sgC,zh]; rw[hfe,if_neg h1]; grind
   rw[ev] at hset
   simp[sh,U6,tL,rlk hρ,far,wv,e,hk,hfe]
   refine za g0 (by simp) (by simp) ?_
   simp[tL,rlk hρ,rpt hρ,far,wv,e,hk,h1',w,splice,hset,U6]
 ·simp[sh,U6,gC,tL,rlk hρ,far,wv,ce]
  have hO2:yk 2000 (env::out):=kX.2 ⟨hE,hO⟩
  refine te (MR n m g d ρ (env::out)) (fun _=>True) m (St.imp.trans (St.imp_of (by simp[mS,tL,wv,v0])) (MS hρ hO2 0)) trivial (fun k hk _=>?_) (fun _=>?_)
  ·rw[aeb hk]
   have fin:=MS (n:=n) (m:=m) (g:=g) (d:=d) hρ hO2 (k+1)
   have e:(k:Int)<m:=by omega
   have w:=zm (k:=k) (by omega)
   have hkm:k*(2*L+1)≤m*(2*L+1):=Nat.mul_le_mul_right _ (by omega)
   have hms:(m+1)*(2*L+1)=m*(2*L+1)+(2*L+1):=Nat.succ_mul _ _
   rw[hms] at hL
   obtain ⟨v,hve⟩:∃ v,d.bas k=v:=⟨_,rfl⟩
   by_cases h1:n≤v
   ·have h1':(n:Int)≤v:=by omega
    have h1n:¬ v<n:=by omega
    have ev:sgV n g d (k+1)=sgV n g d k:=by simp only[sgV,zh]; rw[hve,if_neg (by omega)]; grind
    have ec:sgC n g d (k+1)=sgC n g d k:=by funext j; simp only[sgC,zh]; rw[hve,if_neg h1n]; grind
    simp[ur,sf,mS,tL,rlk hρ,far,wv,e,hk,hve,h1',w]
    refine St.imp.trans (St.imp_of ?_) fin
    simp[mS,tL,wv,ev,ec]
   ·have hvn:v<n:=by omega
    have hvn':(v:Int)<n:=by omega
    have h1':¬ (n:Int)≤v:=by omega
    have s1:=qy (q:=g v)
    by_cases h2:g v=0
    ·have s2:xN (g v)=0:=v8.2 h2
     have ev:sgV n g d (k+1)=sgV n g d k:=by simp only[sgV,zh]; rw[hve,if_pos hvn,h2]; grind
     have ec:sgC n g d (k+1)=sgC n g d k:=by funext j; simp only[sgC,zh]; rw[hve,if_pos hvn,h2]; grind
     simp[ur,sf,mS,tL,rlk hρ,far,wv,e,hk,hve,h1',hvn,hvn']
     refine za s1 (by simp) (by simp) ?_
     simp[w,s2]
     refine St.imp.trans (St.imp_of ?_) fin
     simp[mS,tL,wv,ev,ec]
    ·have s2:¬ xN (g v)=0:=fun h=>h2 (v8.1 h)
     have sb:=hsz.b k (by omega)
     have sv:=af7 (k:=k) hg (fun i hi=>hsz.b i (by omega))
     have g1:=mG (K:=L) (by omega) (hg v hvn) sb
     have g2:=YU (K:=L+(m+1)*(2*L+1)) (by omega) (zJ sv (by omega)) (zJ (yg (hg v hvn) sb) (by omega))
     have ev:sgV n g d k+g v*d.b k=sgV n g d (k+1):=by simp only[sgV,zh]; rw[hve,if_pos hvn]
     rw[ev] at g2
     have ec:∀ j,sgC n g d k j-g v*d.a k j=sgC n g d (k+1) j:=fun j=>by simp only[sgC,zh]; rw[hve,if_pos hvn]; grind
     simp[ur,sf,mS,tL,rlk hρ,far,wv,e,hk,hve,h1',hvn,hvn']
     refine za s1 (by simp) (by simp) ?_
     simp[rlk hρ,far,e,hk,hvn,hvn',s2]
     refine za g1 (by simp) (by simp) ?_
     simp
     refine za g2 (by simp) (by simp) ?_
     simp[rlk hρ,rpt hρ,far,e,hk]
     refine zq (U7 n m g d ρ (env::out) k) (fun _=>True) d.c (by simp[U7,tL,wv,hve]) trivial (fun l hl _=>?_) (fun _=>?_)
     ·have e2:(l:Int)<d.c:=by omega
      have w2:=zm (k:=l) (by omega)
      have t1:=qy (q:=d.a k l)
      have sa:=hsz.a k l (by omega) hl
      have sc:=af6 (k:=k) (j:=l) hg (fun i hi=>hsz.a i l (by omega) hl)
      have mx:∀ x,x=sgC n g d (k+1) l→(fR (fun j=>if j<l then sgC n g d (k+1) j else sgC n g d k j) d.c).set l (fr x)=fR (fun j=>if j<l+1 then sgC n g d (k+1) j else sgC n g d k j) d.c:=fun x hx=>by
       rw[mD]
       refine wh fun j _=>?_
       unfold upd
       by_cases ej:j=l
       ·subst ej; rw[if_pos rfl,if_pos (by omega),hx]
       ·rw[if_neg ej]
        dsimp only
        by_cases ej2:j<l
        ·rw[if_pos ej2,if_pos (by omega)]
        ·rw[if_neg ej2,if_neg (by omega)]
      have mg:(fR (fun j=>if j<l then sgC n g d (k+1) j else sgC n g d k j) d.c)[l]?=some (fr (sgC n g d k l)):=by rw[cd hl,if_neg (Nat.lt_irrefl l)]
      have ecl:=ec l
      by_cases h3:d.a k l=0
      ·have s3:xN (d.a k l)=0:=v8.2 h3
       have ms:fR (fun j=>if j<l then sgC n g d (k+1) j else sgC n g d k j) d.c=fR (fun j=>if j<l+1 then sgC n g d (k+1) j else sgC n g d k j) d.c:=by
        refine wh fun j _=>?_
        by_cases ej:j=l
        ·subst ej; rw[if_neg (Nat.lt_irrefl j),if_pos (by omega),← ecl,h3]; grind
        ·by_cases ej2:j<l
         ·rw[if_pos ej2,if_pos (by omega)]
         ·rw[if_neg ej2,if_neg (by omega)]
       simp[sj,U7,tL,rlk hρ,rpt hρ,far,wv,e2,hl,hve]
       refine za t1 (by simp) (by simp) ?_
       simp[tL,rlk hρ,wI hρ,xd hρ,eno hE,ono hO,far,wv,s3,w2,U7,hve,ms]
      ·have s3:¬ xN (d.a k l)=0:=fun h=>h3 (v8.1 h)
       have t2:=mG (K:=L) (by omega) (hg v hvn) sa
       have t3:=F1 (K:=L+(m+1)*(2*L+1)) (by omega) (zJ sc (by omega)) (zJ (yg (hg v hvn) sa) (by omega))
       rw[ecl] at t3
       have mx:=mx _ rfl
       simp[sj,U7,tL,rlk hρ,rpt hρ,far,wv,e2,hl,hve]
       refine za t1 (by simp) (by simp) ?_
       simp[rlk hρ,far,e2,hl,s3,hvn,hvn']
       refine za t2 (by simp) (by simp) ?_
       simp
       refine za t3 (by simp) (by simp) ?_
       simp[tL,rlk hρ,rpt hρ,wI hρ,xd hρ,eno hE,ono hO,far,wv,e2,hl,splice,mx,w2,U7,hve]
     ·have hfull:fR (fun j=>if j<d.c then sgC n g d (k+1) j else sgC n g d k j) d.c=fR (sgC n g d (k+1)) d.c:=wh fun j hj=>if_pos hj
      simp[sj,U7,tL,wv,hfull,w]
      refine St.imp.trans (St.imp_of ?_) fin
      simp[mS,tL,wv]
  ·rw[abl]
   simp[ur,gB,Zg,tL,rlk hρ,rpt hρ,far,wv]
   simpa [l8,tL,tC,hr] using h
@[simp] theorem aeS {sz by_ d n j sz' off len:Nat} {rows:List (List AV)} {s:St} {K:St→Prop} (h:lk s.sto j=some (.uarr sz rows)) :
  xl sz by_ s (some d) K [.list n .full [],.us j sz' off len]=(sz'=sz∧off+len≤rows.length∧0<sz∧((rows.drop off).take len).length*by_≤140737488355328∧((rows.drop off).take len).length≤9223372036854775807∧lk s.sto (s.base+d)=none ∧
   K (((s.dg (s.base+d)).put (some d) (.us (s.base+d) sz 0 ((rows.drop off).take len).length)).new (some d) (some (.uarr sz (zR (s.base+d) ((rows.drop off).take len)))))):=by
 simp[xl,xj,h]
@[simp] theorem acM {sz by_ d l j sz1 off1 len1 sz' off len:Nat} {rows1 rows:List (List AV)} {s:St} {K:St→Prop} (h1:lk s.sto l=some (.uarr sz rows1)) (h:lk s.sto j=some (.uarr sz rows)) :
  xl sz by_ s (some d) K [.us l sz1 off1 len1,.us j sz' off len]=(sz'=sz∧off+len≤rows.length∧0<sz∧(len1+((rows.drop off).take len).length)*by_≤140737488355328∧len1+((rows.drop off).take len).length≤9223372036854775807∧sz1=sz∧off1=0∧len1=rows1.length ∧
   K ({(s.dg l) with sto:=pt (s.dg l).sto l (.uarr sz (zR l (rows1++((rows.drop off).take len))))}.put (some d) (.us l sz 0 (len1+((rows.drop off).take len).length)))):=by
 simp[xl,xj,h,h1]
theorem Jx {g:Nat→List AV} {j c:Nat} (hj:j<c):(mR g c).take j++(mR g c).drop (j+1)=mR (fun k=>g (sk j k)) (c-1):=by
 apply List.ext_getElem?
 intro i
 by_cases h:i<j
 ·rw[List.getElem?_append_left (by simp; omega),List.getElem?_take,if_pos h,sY (by omega),sY (by omega)]
  unfold sk; rw[if_pos h]
 ·rw[List.getElem?_append_right (by simp; omega),List.getElem?_drop]
  have e:j+1+(i-((mR g c).take j).length)=i+1:=by simp; omega
  rw[e]
  by_cases h2:i<c-1
  ·rw[sY (by omega),sY h2]
   unfold sk; rw[if_neg h]
  ·rw[List.getElem?_eq_none (by simp; omega),List.getElem?_eq_none (by simp; omega)]
theorem Je {f:Nat→Rat} {j c:Nat} (hj:j<c):(fR f c).take j++(fR f c).drop (j+1)=fR (fun k=>f (sk j k)) (c-1):=Jx (g:=fun k=>fr (f k)) hj
theorem adf {f:Nat→Nat} {j c:Nat} (hj:j<c):(nR f c).take j++(nR f c).drop (j+1)=nR (fun k=>f (sk j k)) (c-1):=Jx (g:=fun k=>[iv (f k)]) hj
theorem adg {f:Nat→Nat} {j c l:Nat}:zR l ((nR f c).take j)=(nR f c).take j:=yP fun r hr=>by
 obtain ⟨i,_,rfl⟩:=List.mem_map.1 (List.mem_of_mem_take hr)
 rfl
theorem ade {f:Nat→Nat} {j c l:Nat}:zR l ((nR f c).drop j)=(nR f c).drop j:=yP fun r hr=>by
 obtain ⟨i,_,rfl⟩:=List.mem_map.1 (List.mem_of_mem_drop hr)
 rfl
theorem adh {f:Nat→Nat} {j c:Nat}:((nR f c).drop j).take (c-j)=(nR f c).drop j:=List.take_of_length_le (by simp)
theorem least {p:Nat→Prop}:∀ {n:Nat},(∃ i,i<n∧p i)→∃ i,i<n∧p i∧∀ k,k<i→¬ p k
 | 0,⟨i,h,_⟩=>by omega
 | n+1,⟨i,h,hp⟩=>by
  by_cases e:∃ i,i<n∧p i
  ·obtain ⟨i,h1,h2,h3⟩:=least e
   exact ⟨i,by omega,h2,h3⟩
  ·refine ⟨i,h,hp,fun k hk hpk=>e ⟨k,by omega,hpk⟩⟩
theorem N7 {M n:Nat} {f:Nat→Rat}:Am.low M (fL f n)=true:=rfl
theorem DS:yR Tryz.prog vB=true:=by kernel_rfl
noncomputable def Yy (n m:Nat) (d:zo) (ρ:List (Nat × ze)) (out:List (List (Nat × AV))) (k:Nat):St :=
 {env:=[(0,.ptr 1015 0),(2,iv (n+m:Nat)),(23,.us 1987 1 0 m),(24,iv m),(25,iv k)],sto:=ρ++tL n m d,out:=out,base:=4500}
noncomputable def La (n m i:Nat) (d:zo) (ρ:List (Nat × ze)) (out:List (List (Nat × AV))) (k:Nat):St :=
 {env:=[(0,.ptr 1015 0),(2,iv (n+m:Nat)),(3,iv i),(39,fL (d.a i) d.c),(40,iv d.c),(41,iv k)],sto:=ρ++tL n m d,out:=out,base:=4500}
noncomputable def Tb (n m:Nat) (d:zo) (ρ:List (Nat × ze)) (out:List (List (Nat × AV))) (k:Nat):St :=
 {env:=[(0,.ptr 1015 0),(2,iv (n+m:Nat)),(58,.us 2029 1 0 d.c),(59,iv d.c),(60,iv k)],sto:=ρ++tL n m d,out:=out,base:=4500}
noncomputable def sR (d:zo) (j k m:Nat):List (List AV):=mR (fun i=>if i<k then [fL (fun l=>d.a i (sk j l)) (d.c-1)] else [fL (d.a i) d.c]) m
theorem ab7 {d:zo} {j k m l:Nat}:zR l (sR d j k m)=sR d j k m:=tP fun i=>by split<;>simp
@[simp] theorem aka {d:zo} {j k m l:Nat}:yK l (sR d j k m)=false:=ct fun i=>by split<;>simp
@[simp] theorem aj9 {d:zo} {j k m:Nat}:(sR d j k m).length=m:=sZ
noncomputable def tS (n m j k:Nat) (d:zo):List (Nat × ze) :=
 [(1015,.var (tC n m d)),(1961,.uarr 1 (sR d j k m)),(1972,.uarr 3 (fR d.b m)),(1987,.uarr 1 (nR d.bas m)),(2029,.uarr 1 (nR d.fre d.c))]
noncomputable def FP (n m j:Nat) (d:zo) (ρ:List (Nat × ze)) (out:List (List (Nat × AV))) (k:Nat):St :=
 {env:=[(0,.ptr 1015 0),(7,iv j),(71,.us 1961 1 0 m),(72,iv m),(73,iv k)],sto:=ρ++tS n m j k d,out:=out,base:=4500}
@[simp] theorem agE {a':Nat→Nat→Rat} {cl:Nat→Nat} {n a b:Nat}:((cR a' cl n).map fun r=>r.map (rn a b))=cR a' cl n:=tP fun _=>by simp[rn,rn1]
noncomputable def tW (n m j:Nat) (d:zo):List (Nat × ze) :=
 [(1015,.var [iv n,iv m,.us 1961 1 0 m,.us 1972 3 0 m,.list 3 (.own 4622) (fR (fun k=>d.cst (sk j k)) (d.c-1)),f0 d.v,f1 d.v,f2 d.v,.us 1987 1 0 m,.us 4603 1 0 (d.c-1)]),
  (1961,.uarr 1 (sR d j m m)),(1972,.uarr 3 (fR d.b m)),(1987,.uarr 1 (nR d.bas m)),(2029,.uarr 1 (nR d.fre d.c)),(4603,.uarr 1 (nR (fun k=>d.fre (sk j k)) (d.c-1)))]
theorem adU {d:zo} {j m:Nat}:sR d j m m=cR (fun i k=>d.a i (sk j k)) (fun _=>d.c-1) m:=wZ fun _i hi=>if_pos hi
theorem agm {n m j:Nat} {d:zo} {ρ:List (Nat × ze)} {env:List (Nat × AV)} {out:List (List (Nat × AV))} {base:Nat} (hρ:rest ρ) (hE:yH 2000 env) (hO:yk 2000 out) :
  St.imp ⟨env,ρ++tW n m j d,out,base⟩ ⟨env,ρ++tL n m (mB d j),out,base⟩:=by
 refine St.imp.trans (St.imp_cell_weak (k:=1015) (j:=4) (y:=fL (fun k=>d.cst (sk j k)) (d.c-1)) (by simp[tW,rlk hρ,far]; rfl) (by simp; rfl) wQ.list) ?_
 simp[tW,rpt hρ,far]
 refine St.imp.trans (St.impW_drop (l:=2029) (by simp[rlk hρ,far]; exact ⟨rfl,rfl⟩)).imp ?_
 simp[wI hρ,far]
 refine St.imp.trans (St.imp_rn 4603 2029) ?_
 have hr0:=aaI (k:=4603) (l:=2029) hρ rfl rfl
 have he:=cq (k:=4603) (by omega) (j:=2029) (by omega) hE
 have ho:=Xa (k:=4603) (by omega) (j:=2029) (by omega) hO
 simp only[St.rn,List.map_append,hr0,he,ho]
 simp only[List.map_cons,List.map_nil,Xl,ak,PO,Sv,al,G2,abQ,agE,adU,GE,GF,GG,sw,Nat.reduceEqDiff,if_true,if_false]
 exact St.imp.refl
theorem adL {n m:Nat} {d:zo} {ρ:List (Nat × ze)} {env:List (Nat × AV)} {out:List (List (Nat × AV))} {base:Nat} {K:AV→St→Prop} (hρ:rest ρ) (hE:yH 2000 env) (hO:yk 2000 out) (hm:m<1000000) (_hn:n<1000000) (hc:d.c<1000000)
  {j0:Nat} (hj0:j0<d.c) (hf0:d.fre j0=n+m) (hmin:∀ k,k<j0→¬ d.fre k=n+m) (h:K (.tuple []) ⟨env,ρ++tW n m j0 d,out,base⟩) :
  awp Tryz.prog (.loop wC) (Tb n m d ρ (env::out) 0) (wR 4 (U1 tU base K)):=by
 refine zq (Tb n m d ρ (env::out)) (fun _=>True) j0 (by simp[Tb]) trivial (fun k hk _=>?_) (fun _=>?_)
 ·have e:(k:Int)<d.c:=by omega
  have hkc:k<d.c:=by omega
  have w:=zm (k:=k) (by omega)
  have hne:¬ d.fre k=n+m:=hmin k hk
  have hne':¬ (d.fre k:Int)=(n:Int)+m:=by omega
  simp[wC,Tb,tL,e,hkc,rlk hρ,far,hne',w,qc]
 ·have e:(j0:Int)<d.c:=by omega
  have hf0':(d.fre j0:Int)=(n:Int)+m:=by omega
  simp[wC,Tb,tL,e,hj0,rlk hρ,far,hf0']
  have hj1:(j0:Int)≤d.c:=by omega
  have hj2:j0≤d.c:=by omega
  have wj:IntKind.i64.wrap ((j0:Int)+1)=((j0+1:Nat):Int):=zm (by omega)
  have hj3:(j0:Int)+1≤d.c:=by omega
  have hj5:(0:Int)≤(j0:Int)+1:=by omega
  have hj4:j0+1≤d.c:=by omega
  refine te (FP n m j0 d ρ (env::out)) (fun _=>True) m ?_ trivial (fun k hk _=>?_) (fun _=>?_)
  ·exact St.imp_of (by simp[FP,tS,sR,cR])
  ·have e:(k:Int)<m:=by omega
   have w:=zm (k:=k) (by omega)
   have g:(sR d j0 k m)[k]?=some [fL (d.a k) d.c]:=by unfold sR; rw[sY hk,if_neg (by omega)]
   have gE:∀ h,(sR d j0 k m)[k]'h=[fL (d.a k) d.c]:=fun h=>(List.getElem?_eq_some_iff.1 g).2
   simp[uq,FP,tS,e,hk,gE,rlk hρ,rpt hρ,wI hρ,far,mM hρ,edg hE,odg hO,-dgE,xz,xk,ab7,w,hj1,hj2,wj,hj3,hj5]
   refine ⟨by omega,by omega,by omega,by omega,?_⟩
   rw[Je hj0]
   have hset:(sR d j0 k m).set k [fL (fun l=>d.a k (sk j0 l)) (d.c-1)]=sR d j0 (k+1) m:=by
    unfold sR
    rw[cu]
    refine wZ fun i _=>?_
    unfold upd
    by_cases ei:i=k
    ·subst ei; rw[if_pos rfl,if_pos (by omega)]
    ·rw[if_neg ei]
     dsimp only
     by_cases ei2:i<k
     ·rw[if_pos ei2,if_pos (by omega)]
     ·rw[if_neg ei2,if_neg (by omega)]
   refine St.imp.trans (St.imp_uarr (l:=1961) (sz:=1) (rows':=sR d j0 (k+1) m) (by simp[rlk hρ,far]; rfl) (by simp) fun i r r' hr hr'=>?_) ?_
   ·rw[← hset] at hr'
    rw[List.getElem?_set] at hr hr'
    by_cases ei:k=i
    ·subst ei
     rw[if_pos rfl] at hr hr'
     split at hr
     ·rename_i h1
      rw[if_pos h1] at hr'
      simp only[Option.some.injEq] at hr hr'
      subst hr hr'
      exact ⟨rfl,fun j c c' hj hj'=>by
       cases j with
       | zero=>simp only[List.getElem?_cons_zero,Option.some.injEq] at hj hj'; subst hj hj'; exact wQ.list
       | succ j=>simp at hj⟩
     ·cases hr
    ·rw[if_neg ei] at hr hr'
     rw[hr] at hr'
     cases hr'
     exact ⟨rfl,fun j c c' hj hj'=>by rw[hj] at hj'; cases hj'; exact wQ.refl⟩
   ·simp[rpt hρ,far]
    exact St.imp.refl
  ·simp[uq,FP,tS,rlk hρ,rpt hρ,wI hρ,far,mM hρ,edg hE,odg hO,-dgE,xz,xk,ab7,qa,tU,adg,ade,adh,adf hj0,Je hj0,am,hj1,hj2,wj,hj3,hj4,hj5]
   rw[show j0+(d.c-(j0+1))=d.c-1 by omega]
   exact ⟨by omega,by omega,by omega,by omega,by omega,by omega,by omega,by omega,h⟩
theorem adM {n m L:Nat} {d d1:zo} {ρ:List (Nat × ze)} {s:St} {K:AV→St→Prop} (hs:s.sto=ρ++tL n m d) (hρ:rest ρ) (hE:yH 2000 s.env) (hO:yk 2000 s.out) (hm:m<1000000) (hn:n<1000000) (hc:d.c<1000000) (hr:d.r=m)
  (hL:L≤10000000000) (hsz:szD L d)
  (h1:(d1=d∧∀ i,i<m→d.bas i≠n+m)∨∃ i q,i<m∧q<d.c∧d.bas i=n+m∧(∀ k,k<i→d.bas k≠n+m)∧d.a i q≠0∧(∀ k,k<q→d.a i k=0)∧d1=pivot d i q)
  {j0:Nat} (hj0:j0<d1.c) (hf0:d1.fre j0=n+m) (hmin:∀ k,k<j0→¬ d1.fre k=n+m) (h:K (.tuple []) ⟨s.env,ρ++tL n m (mB d1 j0),s.out,s.base⟩) :
  z5 Tryz.prog vB [.ptr 1015 0] s K:=by
 obtain ⟨env,σ,out,base⟩:=s
 simp only at hs hE hO h
 subst hs
 have hO2:yk 2000 (env::out):=kX.2 ⟨hE,hO⟩
 have wnm:IntKind.i64.wrap ((n:Int)+m)=(n:Int)+m:=by rw[wrap64]<;>omega
 refine z5.post (K:=fun r s'=>r=.tuple []∧s'=⟨env,ρ++tW n m j0 d1,out,base⟩) ?_ fun r s' ⟨e1,e2⟩=>.inr ⟨e1,⟨env,ρ++tL n m (mB d1 j0),out,base⟩,by subst e2; exact agm hρ hE hO,by subst e1; exact h⟩
 refine va 4500 cH (by simp) ?_
 have k7:=adL (n:=n) (m:=m) (d:=d1) (K:=fun r s'=>r=.tuple []∧s'=⟨env,ρ++tW n m j0 d1,out,base⟩) (base:=base) hρ hE hO hm hn (by rcases h1 with ⟨rfl,_⟩ | ⟨i,q,_,_,_,_,_,_,rfl⟩<;>exact hc) hj0 hf0 hmin ⟨rfl,rfl⟩
 rcases h1 with ⟨rfl,hno⟩ | ⟨i0,q0,hi0,hq0,hb0,hbmin,ha0,hamin,rfl⟩
 ·simp[tA,tL,rlk hρ,far,wnm]
  refine zq (Yy n m d1 ρ (env::out)) (fun _=>True) m (by simp[Yy,tL]) trivial (fun k hk _=>?_) (fun _=>?_)
  ·have e:(k:Int)<m:=by omega
   have w:=zm (k:=k) (by omega)
   have hne:¬ (d1.bas k:Int)=(n:Int)+m:=by have:=hno k hk; omega
   simp[xF,Yy,tL,e,hk,rlk hρ,far,hne,w,ul]
  ·simp[xF,Yy,tL,rlk hρ,far,um]
   simpa [Tb,tL] using k7
 ·simp[tA,tL,rlk hρ,far,wnm]
  refine zq (Yy n m d ρ (env::out)) (fun _=>True) i0 (by simp[Yy,tL]) trivial (fun k hk _=>?_) (fun _=>?_)
  ·have hkm:k<m:=by omega
   have e:(k:Int)<m:=by omega
   have w:=zm (k:=k) (by omega)
   have hne:¬ (d.bas k:Int)=(n:Int)+m:=by have:=hbmin k hk; omega
   simp[xF,Yy,tL,e,hkm,rlk hρ,far,hne,w,ul]
  ·have e:(i0:Int)<m:=by omega
   have heq:(d.bas i0:Int)=(n:Int)+m:=by omega
   simp[xF,Yy,tL,e,hi0,rlk hρ,far,heq]
   refine zq (La n m i0 d ρ (env::out)) (fun _=>True) q0 (by simp[La,tL]) trivial (fun k hk _=>?_) (fun _=>?_)
   ·have hkc:k<d.c:=by omega
    have e2:(k:Int)<d.c:=by omega
    have w:=zm (k:=k) (by omega)
    have g:=qy (q:=d.a i0 k)
    have z:xN (d.a i0 k)=0:=v8.2 (hamin k hk)
    simp[uo,La,tL,e2,hkc,rlk hρ,rpt hρ,far]
    refine za g (by simp) (by simp) ?_
    simp[z,w,La,tL,rlk hρ,wI hρ,xd hρ,eno hE,ono hO,far]
   ·have e2:(q0:Int)<d.c:=by omega
    have g:=qy (q:=d.a i0 q0)
    have z:¬ xN (d.a i0 q0)=0:=fun h=>ha0 (v8.1 h)
    simp[uo,La,tL,e2,hq0,rlk hρ,rpt hρ,far]
    refine za g (by simp) (by simp) ?_
    simp[z,b8,rlk hρ,wI hρ,xd hρ,eno hE,ono hO,far]
    refine yb (Mv (s:=⟨_,ρ++tL n m d,env::out,4500⟩) (d:=d) (ρ:=ρ) (n:=n) (m:=m) (L:=L) rfl hρ ?_ hO2 hm hc hr hi0 hq0 hL hsz ha0 ?_)
    ·simp[yu,yO,mF,sX,xB,N7]
    simp[r9,um,tL,rlk hρ,far]
    simpa [Tb,tL] using k7
theorem JF {n m i:Nat} {d:zo} (hi:i<m):∀ k,(∀ a b,a<k→b<k→d.fre a=d.fre b→a=b)→xM n m d k i=- zh k fun j=>if d.fre j=n+i then d.cst j else 0
 | 0,_=>by simp only[xM,zh]; grind
 | k+1,hinj=>by
  have ih:=JF hi (d:=d) (n:=n) k fun a b ha hb=>hinj a b (by omega) (by omega)
  simp only[xM,zh]
  by_cases e:d.fre k=n+i
  ·rw[if_pos ⟨by omega,by omega⟩,if_pos e,zS fun j hj=>if_neg fun e2=>by have:=hinj j k (by omega) (by omega) (by rw[e,e2]); omega]
   have:d.fre k-n=i:=by omega
   rw[this]
   simp only[upd,if_true]
   grind
  ·rw[if_neg e]
   split
   ·rename_i hc
    have:¬ i=d.fre k-n:=by omega
    simp only[upd,if_neg this]
    rw[ih]; grind
   ·rw[ih]; grind
theorem Ce {n m i N:Nat} {d:zo} (hb:Bij d N) (hi:i<m):xM n m d d.c i=- cv d (n+i):=JF hi d.c fun _ _ ha hb'=>lm hb ha hb'
theorem JE {n j:Nat} {d:zo} (hj:j<n):∀ k,(∀ a b,a<k→b<k→d.bas a=d.bas b→a=b)→nA n d k j=zh k fun i=>if d.bas i=j then d.b i else 0
 | 0,_=>rfl
 | k+1,hinj=>by
  have ih:=JE hj (d:=d) k fun a b ha hb=>hinj a b (by omega) (by omega)
  simp only[nA,zh]
  by_cases e:d.bas k=j
  ·rw[if_pos (by omega),if_pos e,zS fun i hi=>if_neg fun e2=>by have:=hinj i k (by omega) (by omega) (by rw[e,e2]); omega]
   rw[e]
   simp only[upd,if_true]
   grind
  ·rw[if_neg e]
   split
   ·have:¬ j=d.bas k:=fun h=>e h.symm
    simp only[upd,if_neg this]
    rw[ih]; grind
   ·rw[ih]; grind
theorem afV {n j N:Nat} {d:zo} (hb:Bij d N) (hj:j<n):nA n d d.r j=vl d j:=JE hj d.r fun _ _ ha hb'=>ge hb ha hb'
theorem JW {n j q:Nat} {d:zo} (hj:j<n):∀ k,(∀ a b,a<k→b<k→d.bas a=d.bas b→a=b)→(∀ a,a<k→d.bas a≠d.fre q)→tX n d q k j=(zh k fun i=>if d.bas i=j then-d.a i q else 0)+if d.fre q=j then 1 else 0
 | 0,_,_=>by
  simp only[tX,zh]
  by_cases e:d.fre q=j
  ·rw[if_pos (by omega),if_pos e,e]
   simp only[upd,if_true]; grind
  ·rw[if_neg e]
   split
   ·have:¬ j=d.fre q:=fun h=>e h.symm
    simp only[upd,if_neg this]; grind
   ·grind
 | k+1,hinj,hne=>by
  have ih:=JW hj (d:=d) (q:=q) k (fun a b ha hb=>hinj a b (by omega) (by omega)) fun a ha=>hne a (by omega)
  simp only[tX,zh]
  by_cases e:d.bas k=j
  ·rw[if_pos (by omega),if_pos e,zS fun i hi=>if_neg fun e2=>by have:=hinj i k (by omega) (by omega) (by rw[e,e2]); omega]
   have h2:¬ d.fre q=j:=fun h=>hne k (by omega) (by rw[e,h])
   rw[if_neg h2,e]
   simp only[upd,if_true]
   grind
  ·rw[if_neg e]
   split
   ·have:¬ j=d.bas k:=fun h=>e h.symm
    simp only[upd,if_neg this]
    rw[ih]; grind
   ·rw[ih]; grind
theorem ahh {n j q N:Nat} {d:zo} (hb:Bij d N) (hq:q<d.c) (hj:j<n):tX n d q d.r j=dH d q j :=
 JW hj d.r (fun _ _ ha hb'=>ge hb ha hb') fun _a ha e=>uP hb ha hq e.symm
def yW (bb:Nat→Rat):Nat→Int
 | 0=>-1
 | k+1=>if bb k<0∧(yW bb k<0∨bb k<bb (yW bb k).toNat) then k else yW bb k
theorem XC (bb:Nat→Rat):∀ k,-1≤yW bb k∧yW bb k<k
 | 0=>by simp[yW]
 | k+1=>by have:=XC bb k; simp only[yW]; split<;>omega
theorem Tk {bb:Nat→Rat}:∀ k,yW bb k<0→∀ i,i<k→0≤bb i
 | 0,_,i,hi=>by omega
 | k+1,h,i,hi=>by
  simp only[yW] at h
  split at h
  ·omega
  ·rename_i hn
   by_cases e:i=k
   ·subst e
    have:¬ bb i<0:=fun h0=>hn ⟨h0,.inl h⟩
    grind
   ·exact Tk k h i (by omega)
theorem Tl {bb:Nat→Rat}:∀ k,0≤yW bb k→bb (yW bb k).toNat<0∧∀ i,i<k→bb (yW bb k).toNat≤bb i
 | 0,h=>by simp[yW] at h
 | k+1,h=>by
  have b:=XC bb k
  simp only[yW] at h ⊢
  split
  ·rename_i hc
   refine ⟨by simpa using hc.1,fun i hi=>?_⟩
   simp only[Int.toNat_natCast]
   by_cases e:i=k
   ·subst e; grind
   ·by_cases h1:yW bb k<0
    ·have:=Tk k h1 i (by omega); have:=hc.1; grind
    ·have h2:=hc.2.resolve_left h1
     have:=(Tl (bb:=bb) k (by omega)).2 i (by omega)
     grind
  ·rename_i hc
   rw[if_neg hc] at h
   obtain ⟨h1,h2⟩:=Tl k h
   refine ⟨h1,fun i hi=>?_⟩
   by_cases e:i=k
   ·subst e
    have:¬ bb i<bb (yW bb i).toNat:=fun h3=>hc ⟨by grind,.inr h3⟩
    grind
   ·exact h2 i (by omega)
noncomputable def tN (n m:Nat) (A:Nat→Nat→Rat) (bb:Nat→Rat):List (Nat × ze) :=
 [(1015,.var [iv n,iv m,.us 1961 1 0 m,.us 1972 3 0 m,vO n,f0 0,f1 0,f2 0,.us 1987 1 0 m,.us 2029 1 0 n]),(2029,.uarr 1 (nR id n)),
   (1961,.uarr 1 (oR A om (fun _=>n) m)),(1972,.uarr 3 (fR bb m)),(1987,.uarr 1 (nR (fun i=>n+i) m))]
theorem EO {n:Nat}:wQ (vO n) (fL (fun _=>0) n):=by
 unfold vO
 split
 ·rename_i h; subst h; exact wQ.nil
 ·exact wQ.list
theorem Jz {g h:Nat→List AV} {n:Nat} (e:∀ i,i<n→∃ x y,g i=[x]∧h i=[y]∧wQ x y):∀ (i:Nat) r r',(mR g n)[i]?=some r→(mR h n)[i]?=some r'→r'.length=r.length∧∀ (j:Nat) c c',r[j]?=some c→r'[j]?=some c'→wQ c c':=by
 intro i r r' hr hr'
 have hi:i<n:=by have:=(List.getElem?_eq_some_iff.1 hr).1; simpa using this
 rw[sY hi] at hr hr'
 obtain ⟨x,y,e1,e2,hw⟩:=e i hi
 simp only[Option.some.injEq] at hr hr'
 subst hr hr'
 rw[e1,e2]
 refine ⟨rfl,fun j c c' hj hj'=>?_⟩
 cases j with
 | zero=>simp only[List.getElem?_cons_zero,Option.some.injEq] at hj hj'; subst hj hj'; exact hw
 | succ j=>simp at hj
def dZ (n m:Nat) (A:Nat→Nat→Rat) (bb:Nat→Rat):zo:=dG n m A bb fun _=>0
theorem Z5 {ρ l l':List (Nat × ze)} (h:lk l=lk l'):lk (ρ++l)=lk (ρ++l'):=by
 funext k
 induction ρ with
 | nil=>exact congrFun h k
 | cons p ρ ih =>
  obtain ⟨q,x⟩:=p
  simp only[List.cons_append,lk]
  split
  ·rfl
  ·exact ih
theorem Jk {s t:St} (h1:s.env=t.env) (h2:lk s.sto=lk t.sto) (h3:s.out=t.out):St.impW s t:=by
 intro F a w I β lam hI
 have e:t.look=s.look:=by
  funext ⟨d,k⟩
  cases d<;>simp only[St.look,h1,h3]
 rw[e,← h2]
 exact hI
theorem NY {s:St} {env:List (Nat × AV)} (h:qz s.env env):St.impW s {s with env:=env}:=by
 intro F a w I β lam hI
 refine {hI with env:=fun t x hx=>hI.env t x ?_}
 obtain ⟨d,t⟩:=t
 cases d with
 | zero=>exact Xt h hx
 | succ d=>exact hx
theorem aeh {n m:Nat} {A:Nat→Nat→Rat} {bb:Nat→Rat} {ρ:List (Nat × ze)} {env:List (Nat × AV)} {out:List (List (Nat × AV))} {base:Nat} (hρ:rest ρ) :
  St.impW ⟨env,ρ++tN n m A bb,out,base⟩ ⟨env,ρ++tL n m (dZ n m A bb),out,base⟩:=by
 refine St.impW.trans (St.impW_cell_weak (k:=1015) (j:=4) (y:=fL (fun _=>0) n) (by simp[tN,rlk hρ,far]; rfl) rfl EO) ?_
 simp[tN,rpt hρ,far]
 refine St.impW.trans (St.impW_uarr (l:=1961) (sz:=1) (rows':=cR A (fun _=>n) m) (by simp[rlk hρ,far]; rfl) (by simp) (Jz fun i hi=>⟨_,_,rfl,rfl,wQ.list⟩)) ?_
 simp[rpt hρ,far]
 refine Jk rfl (Z5 (Qa ?_ ?_)) rfl
 ·simp[tL,dZ,dG,t8,qB]; rfl
 ·simp[tL,dZ,dG,t8,qB]; rfl
theorem QP:yR Tryz.prog tn=true:=by kernel_rfl
theorem kh:yR Tryz.prog wm=true:=by kernel_rfl
noncomputable def aF (n m:Nat) (A:Nat→Nat→Rat) (bb:Nat→Rat) (ρ:List (Nat × ze)) (out:List (List (Nat × AV))) (k:Nat):St :=
 {env:=[(0,.ptr 1015 0),(4,iv (yW bb k)),(12,.us 1972 3 0 m),(13,iv m),(14,iv k)],sto:=ρ++tN n m A bb,out:=out,base:=4000}
noncomputable def aR (A:Nat→Nat→Rat) (n k m:Nat):List (List AV):=mR (fun i=>if i<k then [fL (fun j=>if j<n then A i j else -1) (n+1)] else [.list 3 (om i) (fR (A i) n)]) m
noncomputable def FQ (n m p:Nat) (A:Nat→Nat→Rat) (bb:Nat→Rat) (ρ:List (Nat × ze)) (out:List (List (Nat × AV))) (k:Nat):St :=
 {env:=[(0,.ptr 1015 0),(4,iv p),(7,.ptr 4007 0),(47,iv m),(48,iv k)],
  sto:=ρ++[(1015,.var [iv n,iv m,.us 1961 1 0 m,.us 1972 3 0 m,vO n,f0 0,f1 0,f2 0,.us 1987 1 0 m,.us 2029 1 0 n]),(2029,.uarr 1 (nR id n)),
   (1961,.uarr 1 (aR A n k m)),(1972,.uarr 3 (fR bb m)),(1987,.uarr 1 (nR (fun i=>n+i) m)),(4007,.var (fr (-1)))],out:=out,base:=4000}
structure Ready (n m L:Nat) (A:Nat→Nat→Rat) (bb:Nat→Rat) (e:zo):Prop where
 bij:Bij e (n+m)
 sol:∀ x,sol e x↔sol (dZ n m A bb) x
 feas:feas e
 r:e.r=m
 c:e.c=n
 sz:szD L e
theorem Li {n m L:Nat} {A:Nat→Nat→Rat} {bb:Nat→Rat} {ρ:List (Nat × ze)} {env:List (Nat × AV)} {out:List (List (Nat × AV))} {Q:Exit→St→Prop} (hρ:rest ρ) (hE:yH 2000 env) (hO:yk 2000 out) (hm:m<900000) (hL:L≤10000000000) (hb:∀ i,i<m→sz L (bb i))
  (h:Q (.exit 0) ⟨[(0,.ptr 1015 0),(4,iv (yW bb m)),(12,.us 1972 3 0 m),(13,iv m),(14,iv m),(15,bv false)],ρ++tN n m A bb,env::out,4000⟩) :
  awp Tryz.prog (.loop qP) (aF n m A bb ρ (env::out) 0) Q:=by
 refine zq (aF n m A bb ρ (env::out)) (fun _=>True) m (by simp[aF]) trivial (fun k hk _=>?_) (fun _=>?_)
 ·have e:(k:Int)<m:=by omega
  have w:=zm (k:=k) (by omega)
  obtain ⟨b1,b2⟩:=XC bb k
  have g1:=qy (q:=bb k)
  simp[qP,aF,tN,e,hk,rlk hρ,rpt hρ,far]
  refine za g1 (by simp) (by simp) ?_
  by_cases h0:bb k<0
  ·have h0':xN (bb k)<0:=fE.2 h0
   by_cases h1:yW bb k<0
   ·have ev:yW bb (k+1)=k:=by simp only[yW]; rw[if_pos ⟨h0,.inl h1⟩]
    simp[h0',h1,w,aF,tN,ev,rlk hρ,wI hρ,xd hρ,eno hE,ono hO,far]
   ·have b3:(yW bb k).toNat<m:=by omega
    have b4:(0:Int)≤yW bb k:=by omega
    have b5:yW bb k<m:=by omega
    have g2:=bt (by omega) (hb k hk) (hb _ b3)
    simp[h0',h1,b3,b4,b5,rlk hρ,far]
    refine za g2 (by simp) (by simp) ?_
    by_cases h2:bb k<bb (yW bb k).toNat
    ·have ev:yW bb (k+1)=k:=by simp only[yW]; rw[if_pos ⟨h0,.inr h2⟩]
     have h2':xY (bb k) (bb (yW bb k).toNat)<0:=cb.2 h2
     simp[h2',w,aF,tN,ev,rlk hρ,wI hρ,xd hρ,eno hE,ono hO,far]
    ·have ev:yW bb (k+1)=yW bb k:=by simp only[yW]; rw[if_neg fun h=>h.2.elim h1 h2]
     have h2':¬ xY (bb k) (bb (yW bb k).toNat)<0:=fun h=>h2 (cb.1 h)
     simp[h2',w,aF,tN,ev,rlk hρ,wI hρ,xd hρ,eno hE,ono hO,far]
  ·have h0':¬ xN (bb k)<0:=fun h=>h0 (fE.1 h)
   have ev:yW bb (k+1)=yW bb k:=by simp only[yW]; rw[if_neg fun h=>h0 h.1]
   simp[h0',w,aF,tN,ev,rlk hρ,wI hρ,xd hρ,eno hE,ono hO,far]
 ·simp[qP,aF]
  exact h
def sec:zc→zc
 | .seq _ b=>b
 | c=>c
def Next (n m:Nat) (e:zo) (res:AV) (e2:zo):Prop :=
 (e.v<0∧res=.tuple [fL (xM n m e e.c) m,bv false]∧e2=e) ∨
 (¬ e.v<0∧res=.tuple [zH,bv true]∧∃ d1 j0,((d1=e∧∀ i,i<m→e.bas i≠n+m)∨∃ i q,i<m∧q<e.c∧e.bas i=n+m∧(∀ k,k<i→e.bas k≠n+m)∧e.a i q≠0∧(∀ k,k<q→e.a i k=0)∧d1=pivot e i q) ∧
  j0<d1.c∧d1.fre j0=n+m∧(∀ k,k<j0→¬ d1.fre k=n+m)∧e2=mB d1 j0)
noncomputable def tM (X n m:Nat) (A:Nat→Nat→Rat) (bb:Nat→Rat):List (Nat × ze) :=
 [(1015,.var [iv n,iv m,.us 1961 1 0 m,.us 1972 3 0 m,.list 3 (.own X) (fR (dA n m A bb).cst (n+1)),f0 0,f1 0,f2 0,.us 1987 1 0 m,.us 2029 1 0 (n+1)]),(2029,.uarr 1 (nR (dA n m A bb).fre (n+1))),
  (1961,.uarr 1 (cR (dA n m A bb).a (fun _=>n+1) m)),(1972,.uarr 3 (fR bb m)),(1987,.uarr 1 (nR (fun i=>n+i) m))]
theorem aeg {X n m:Nat} {A:Nat→Nat→Rat} {bb:Nat→Rat} {ρ:List (Nat × ze)} {env:List (Nat × AV)} {out:List (List (Nat × AV))} {base:Nat} (hρ:rest ρ) :
  St.impW ⟨env,ρ++tM X n m A bb,out,base⟩ ⟨env,ρ++tL n m (dA n m A bb),out,base⟩:=by
 refine St.impW.trans (St.impW_cell_weak (k:=1015) (j:=4) (y:=fL (dA n m A bb).cst (n+1)) (by simp[tM,rlk hρ,far]; rfl) rfl wQ.list) ?_
 simp[tM,rpt hρ,far]
 refine Jk rfl (Z5 (Qa ?_ ?_)) rfl
 ·simp[tL,dA,t8,qB]
 ·simp[tL,dA,t8,qB]
theorem ace {A:Nat→Nat→Rat} {n m:Nat}:aR A n 0 m=oR A om (fun _=>n) m:=wZ fun i _=>if_neg (by omega)
theorem acd {A:Nat→Nat→Rat} {bb:Nat→Rat} {n m:Nat}:aR A n m m=cR (dA n m A bb).a (fun _=>n+1) m:=wZ fun _i hi=>if_pos hi
theorem FV {n m p L:Nat} {A:Nat→Nat→Rat} {bb:Nat→Rat} {e e2:zo} {res:AV} (hm:m<900000) (hn:n<900000) (hL:L≤10000000000) (hb:∀ i,i<m→sz L (bb i)) (hw:yW bb m=(p:Nat)) (hp:p<m)
  (szA:szD L (dA n m A bb)) (sze:szD L e) (her:e.r=m) (hec:e.c=n+1) (hfre:∀ j,j<e.c→e.fre j<4000000)
  (hopt:∀ {ρ:List (Nat × ze)} {s:St} {K:AV→St→Prop},s.sto=ρ++tL n m (pivot (dA n m A bb) p n)→rest ρ→yH 2000 s.env→yk 2000 s.out→K (dC e) ⟨s.env,ρ++tL n m e,s.out,s.base⟩→z5 Tryz.prog wm [.ptr 1015 0] s K)
  (hx:Next n m e res e2) {ρ:List (Nat × ze)} {s:St} {K:AV→St→Prop} (hs:s.sto=ρ++tN n m A bb) (hρ:rest ρ) (hE:yH 2000 s.env) (hO:yk 2000 s.out) (h:K res ⟨s.env,ρ++tL n m e2,s.out,s.base⟩) :
  z5 Tryz.prog u0 [.ptr 1015 0] s K:=by
 obtain ⟨env,σ,out,base⟩:=s
 simp only at hs hE hO h
 subst hs
 have hO2:yk 2000 (env::out):=kX.2 ⟨hE,hO⟩
 have g0:zd Tryz.prog zM [iv (-1)] (fq (-1)):=xi (n:=-1) (by decide) (by decide)
 refine va 4000 Ud (by simp) ?_
 simp[dr,tN,rlk hρ,far]
 refine Li (n:=n) (A:=A) hρ hE hO hm hL hb ?_
 have hp0:¬ (p:Int)<0:=by omega
 simp[m9,hw,hp0,ri]
 refine za g0 (by simp) (by simp) ?_
 simp[tN,rlk hρ,rpt hρ,far]
 refine te (FQ n m p A bb ρ (env::out)) (fun _=>True) m (St.imp_of (by simp[FQ,ace])) trivial (fun k hk _=>?_) (fun _=>?_)
 ·have e1:(k:Int)<m:=by omega
  have w:=zm (k:=k) (by omega)
  have g:(aR A n k m)[k]?=some [.list 3 (om k) (fR (A k) n)]:=by unfold aR; rw[sY hk,if_neg (by omega)]
  have gE:∀ h,(aR A n k m)[k]'h=[.list 3 (om k) (fR (A k) n)]:=fun h=>(List.getElem?_eq_some_iff.1 g).2
  have aL:(aR A n k m).length=m:=sZ
  have hf:far (1000000+k)=true:=decide_eq_true (by omega)
  have l1:∀ l,lk (ρ++l) (1000000+k)=lk l (1000000+k):=fun l=>rlk hρ hf
  have hd0:=mM (k:=1000000+k) hρ (by omega)
  have hd1:=edg (k:=1000000+k) hE (by omega)
  have hd2:=odg (k:=1000000+k) hO (by omega)
  have hd3:=Y0 (l:=1000000+k) (k:=n) (by omega)
  have n0:∀ j,j<1000000→¬ j=1000000+k:=fun j hj=>by omega
  have hdg:zR (1000000+k) (aR A n k m)=mR (fun i=>if i<k then [fL (fun j=>if j<n then A i j else -1) (n+1)] else [.list 3 (if i=k then .plain else om i) (fR (A i) n)]) m:=by
   unfold aR zR
   refine t6 fun i hi=>?_
   by_cases h1:i<k
   ·rw[if_pos h1,if_pos h1]; simp
   ·rw[if_neg h1,if_neg h1]
    by_cases h2:i=k
    ·subst h2; simp[om,dg]
    ·rw[if_neg h2]
     simp[om,dg,h2]
  have wn:(n+1)*56≤140737488355328:=by omega
  have wn2:n≤9223372036854775806:=by omega
  have hfa:fR (A k) n++[fr (-1)]=fR (fun j=>if j<n then A k j else -1) (n+1):=by
   rw[vF,if_neg (Nat.lt_irrefl n)]
   rw[wh (f:=fun j=>if j<n then A k j else -1) (g:=A k) fun j hj=>if_pos hj]
  simp[la,FQ,e1,hk,gE,aL,om,rlk hρ,rpt hρ,wI hρ,far,w,l1,hd0,hd1,hd2,hd3,n0,hdg,-dgE,xz,xk,wn,wn2,hfa]
  rw[cu]
  refine St.imp.trans (St.imp_uarr (l:=1961) (sz:=1) (rows':=aR A n (k+1) m) (by simp[rlk hρ,far]; rfl) (by simp[aR]) ?_) ?_
  ·unfold aR
   refine Jz fun i hi=>?_
   by_cases h1:i=k
   ·subst h1
    exact ⟨.list 3 (.own (1000000+i)) (fR (fun j=>if j<n then A i j else -1) (n+1)),fL (fun j=>if j<n then A i j else -1) (n+1),by simp[upd],by rw[if_pos (by omega)],wQ.list⟩
   ·by_cases h2:i<k
    ·exact ⟨fL (fun j=>if j<n then A i j else -1) (n+1),_,by simp only[upd,if_neg h1,if_pos h2],by rw[if_pos (by omega)],wQ.refl⟩
    ·exact ⟨.list 3 (om i) (fR (A i) n),.list 3 (om i) (fR (A i) n),by simp only[upd,if_neg h1,if_neg h2]; rfl,by rw[if_neg (by omega)],wQ.refl⟩
  ·simp[rpt hρ,far]
   exact St.imp.refl
 ·have wn1:(n+1)*8≤140737488355328:=by omega
  have wn:(n+1)*56≤140737488355328:=by omega
  have wn2:n≤9223372036854775806:=by omega
  have wnm:IntKind.i64.wrap ((n:Int)+m)=((n+m:Nat):Int):=by rw[wrap64]<;>omega
  have hdg:=Y0 (l:=2029) (k:=n) (by omega)
  have hfe:nR id n++[[iv ((n:Int)+m)]]=nR (dA n m A bb).fre (n+1):=by
   unfold nR
   rw[lB]
   simp only[dA,Nat.lt_irrefl,if_false,Int.natCast_add]
   congr 1
   exact wZ fun i hi=>by rw[if_pos hi]; rfl
  simp[la,FQ,qO,rlk hρ,rpt hρ,far,mM hρ,edg hE,odg hO,-dgE,xz,xk,hdg,wn1,wn2,wnm,acd (bb:=bb),hfe]
  have hcs:fR (fun _=>0) n++[fr (-1)]=fR (dA n m A bb).cst (n+1):=by
   rw[vF]
   simp only[dA,Nat.lt_irrefl,if_false]
   rw[wh (f:=fun j=>if j<n then (0:Rat) else -1) (g:=fun _=>0) fun j hj=>if_pos hj]
  have hc0:(n=0∧vO n=zH)∨vO n=.list 3 (.own 2039) (fR (fun _=>0) n):=by
   unfold vO
   split
   ·exact .inl ⟨by assumption,rfl⟩
   ·exact .inr rfl
  have wn3:IntKind.i64.wrap (n:Int)=n:=by rw[wrap64]<;>omega
  have hds:(dA n m A bb).c=n+1:=rfl
  have pv:∀ (X:Nat) (env0:List (Nat × AV)),qz env0 [(0,.ptr 1015 0)]→∀ {K:AV→St→Prop},K (.tuple []) ⟨[(0,.ptr 1015 0)],ρ++tL n m (pivot (dA n m A bb) p n),env::out,4000⟩→z5 Tryz.prog uZ [.ptr 1015 0,iv p,iv n] ⟨env0,ρ++tM X n m A bb,env::out,4000⟩ K:=fun X env0 h0 K hK =>
   z5.pre (St.impW.trans (aeg hρ) (NY h0)) (Mv (s:=⟨[(0,.ptr 1015 0)],ρ++tL n m (dA n m A bb),env::out,4000⟩) (d:=dA n m A bb) (ρ:=ρ) (n:=n) (m:=m) (L:=L) rfl hρ (by simp[yu,yO,xB]) hO2 (by omega) (by simp only[dA]; omega) rfl hp (by simp only[dA]; omega) hL szA Ga hK)
  have sg:=qy (q:=e.v)
  have fin:tG Tryz.prog wm [AV.ptr 1015 0]
    {env:=[(0,AV.ptr 1015 0),(105,AV.ptr 1015 0)],sto:=ρ++tL n m (pivot (dA n m A bb) p n),out:=env::out,base:=4000} (some 106)
    (dE Tryz.prog [] (NH [105,106] [] (ry Tryz.prog (sec (sec (sec (sec qO)))) (U1 ri base K)))):=by
   refine yb (hopt rfl hρ (by simp[yu,yO,xB]) hO2 ?_)
   simp[sec,qO,tL,rlk hρ,far]
   refine za sg (by simp) (by simp) ?_
   rcases hx with ⟨hv,rfl,rfl⟩ | ⟨hv,rfl,d1,j0,h1,hj0,hf0,hmin,rfl⟩
   ·have hv':xN e2.v<0:=fE.2 hv
    simp[hv',QP]
    refine yb (adD (s:=⟨_,ρ++tL n m e2,env::out,4000⟩) (n:=n) (m:=m) (d:=e2) (ρ:=ρ) (L:=L) rfl hρ ?_ hO2 (by omega) (by omega) (by omega) hfre (by omega) sze.cst ?_)
    ·simp[yu,yO,sX,xB]
    simp[ri]
    exact h
   ·have hv':¬ xN e.v<0:=fun h=>hv (fE.1 h)
    simp[hv',DS]
    refine yb (adM (s:=⟨_,ρ++tL n m e,env::out,4000⟩) (d:=e) (d1:=d1) (ρ:=ρ) (n:=n) (m:=m) (L:=L) rfl hρ (by simp[yu,yO,sX,xB]) hO2 (by omega) (by omega) (by omega) her hL sze h1 hj0 hf0 hmin ?_)
    simp[ri]
    exact h
  rcases hc0 with ⟨hn0,hc⟩ | hc
  ·have hcs2:[fr (-1)]=fR (dA n m A bb).cst (n+1):=by rw[← hcs,hn0]; rfl
   simp[hc,hcs2,rlk hρ,rpt hρ,wI hρ,far,mM hρ,edg hE,odg hO,-dgE,xz,xk,wn,wn2,wn3,xd hρ,eno hE,ono hO,b8]
   refine yb (pv 4093 _ (by simp[t8,qB]) ?_)
   simp[kh]
   exact fin
  ·simp[hc,hcs,rlk hρ,rpt hρ,wI hρ,far,mM hρ,edg hE,odg hO,-dgE,xz,xk,wn,wn2,wn3,xd hρ,eno hE,ono hO,b8]
   refine yb (pv 2039 _ (by simp[t8,qB]) ?_)
   simp[kh]
   exact fin
theorem agf {n m S t:Nat} {A:Nat→Nat→Rat} {bb:Nat→Rat} (ht:m≤t∨n+1≤t) (hm:m<900000) (hn:n<900000) (hS:grow S t≤10000000000) (ha:∀ i j,i<m→j<n→sz S (A i j)) (hb:∀ i,i<m→sz S (bb i)) :
  (∃ e y,(Inf n m A bb y∧∀ i,sz (grow S t) (y i))∧∀ {ρ:List (Nat × ze)} {s:St} {K:AV→St→Prop},s.sto=ρ++tN n m A bb→rest ρ→yH 2000 s.env→yk 2000 s.out→K (.tuple [fL y m,bv false]) ⟨s.env,ρ++tL n m e,s.out,s.base⟩→z5 Tryz.prog u0 [.ptr 1015 0] s K) ∨
  (∃ e,Ready n m (grow S t) A bb e∧∀ {ρ:List (Nat × ze)} {s:St} {K:AV→St→Prop},s.sto=ρ++tN n m A bb→rest ρ→yH 2000 s.env→yk 2000 s.out→K (.tuple [zH,bv true]) ⟨s.env,ρ++tL n m e,s.out,s.base⟩→z5 Tryz.prog u0 [.ptr 1015 0] s K):=by
 have hSm:S≤grow S t:=ZX (m:=0) (Nat.zero_le t)
 have sm1:sz S (-1):=mV Bd
 have szA:szD S (dA n m A bb):=⟨fun i j hi hj=>by
   simp only[dA] at hi ⊢
   split
   ·exact ha i j hi (by assumption)
   ·exact sm1,fun i hi=>hb i hi,fun j hj=>by
   simp only[dA]
   split
   ·exact ws
   ·exact sm1,ws⟩
 have szZ:szD (grow S t) (dZ n m A bb):=Td ⟨fun i j hi hj=>ha i j hi hj,fun i hi=>hb i hi,fun j hj=>ws,ws⟩ hSm
 have bw:=XC bb m
 by_cases hw:yW bb m<0
 ·refine .inr ⟨dZ n m A bb,⟨EP,fun _=>Iff.rfl,fun i hi=>Tk m hw i hi,rfl,rfl,szZ⟩,?_⟩
  intro ρ s K hs hρ hE hO h
  obtain ⟨env,σ,out,base⟩:=s
  simp only at hs hE hO h
  subst hs
  refine z5.post (K:=fun r s'=>r=.tuple [zH,bv true]∧s'=⟨env,ρ++tN n m A bb,out,base⟩) ?_ fun r s' ⟨e1,e2⟩=>.inl ⟨_,by subst e2; exact aeh hρ,by subst e1; exact h⟩
  refine va 4000 Ud (by simp) ?_
  simp[dr,tN,rlk hρ,far]
  refine Li (n:=n) (A:=A) hρ hE hO hm hS (fun i hi=>zJ (hb i hi) hSm) ?_
  simp[m9,hw,ri]
  rfl
 ·obtain ⟨p,hp⟩:∃ p:Nat,yW bb m=p:=⟨(yW bb m).toNat,by omega⟩
  have hpm:p<m:=by omega
  obtain ⟨w1,w2⟩:=Tl m (by omega:0≤yW bb m)
  rw[hp] at w1 w2
  simp only[Int.toNat_natCast] at w1 w2
  have hS1:Same (pivot (dA n m A bb) p n) (dA n m A bb) (n+m+1):=FU hpm
  have hF1:feas (pivot (dA n m A bb) p n):=FT w1 w2
  have hsize:∀ e,Same e (pivot (dA n m A bb) p n) (n+m+1)→e.r=(pivot (dA n m A bb) p n).r→e.c=(pivot (dA n m A bb) p n).c→szD (grow S t) e:=fun e he h1 h2 =>
   Same.size_t (d:=dA n m A bb) szA (he.trans hS1).symm h1 h2 ht
  obtain ⟨e,hfin,hopt⟩:=QR hS1.bd hF1
  have hSe:Same e (dA n m A bb) (n+m+1):=hfin.same.trans hS1
  have her:e.r=m:=hfin.r
  have hec:e.c=n+1:=hfin.c
  have sze:szD (grow S t) e:=hsize e hfin.same hfin.r hfin.c
  have hcst:∀ j,j<e.c→e.cst j≤0:=by
   rcases hfin.out with ⟨_,h⟩ | ⟨q,_,hq,hc,hall⟩
   ·exact h
   ·exact absurd (L9 hSe hfin.feas hq hc hall) id
  have hfre:∀ j,j<e.c→e.fre j<4000000:=fun j hj=>by have:=kS hSe.bd hj; omega
  have hwalk:=fun {e2:zo} {res:AV} (hx:Next n m e res e2) {ρ:List (Nat × ze)} {s:St} {K:AV→St→Prop}=>FV (n:=n) (m:=m) (p:=p) (L:=grow S t) (A:=A) (bb:=bb) (e:=e) (ρ:=ρ) (s:=s) (K:=K) hm hn hS (fun i hi=>zJ (hb i hi) hSm) hp hpm (Td szA hSm) sze her hec hfre
   (fun {ρ s K} hs hρ hE hO hK=>hopt hs hρ hE hO (by omega) (by simp only[pivot,dA]; omega) rfl hS hsize hK) hx
  by_cases hv:e.v<0
  ·refine .inl ⟨e,_,⟨afv hSe hcst hv,fun i=>mV (abN hSe.bd sze (n+i))⟩,?_⟩
   have hy:fL (fun i=>- cv e (n+i)) m=fL (xM n m e e.c) m:=congrArg _ (wh fun i hi=>(Ce hSe.bd hi).symm)
   rw[hy]
   exact fun {ρ s K} hs hρ hE hO h=>hwalk (.inl ⟨hv,rfl,rfl⟩) hs hρ hE hO h
  ·have hv0:e.v=0:=by have:=abZ hSe hfin.feas; grind
   have fin:∀ d1:zo,((d1=e∧∀ i,i<m→e.bas i≠n+m)∨∃ i q,i<m∧q<e.c∧e.bas i=n+m∧(∀ k,k<i→e.bas k≠n+m)∧e.a i q≠0∧(∀ k,k<q→e.a i k=0)∧d1=pivot e i q) →
     Same d1 (dA n m A bb) (n+m+1)→feas d1→d1.r=m→d1.c=n+1→(∃ j,j<d1.c∧d1.fre j=n+m)→szD (grow S t) d1 →
     (∃ e,Ready n m (grow S t) A bb e∧∀ {ρ:List (Nat × ze)} {s:St} {K:AV→St→Prop},s.sto=ρ++tN n m A bb→rest ρ→yH 2000 s.env→yk 2000 s.out→K (.tuple [zH,bv true]) ⟨s.env,ρ++tL n m e,s.out,s.base⟩→z5 Tryz.prog u0 [.ptr 1015 0] s K):=by
    intro d1 h1 hS hF hr hc hex hz
    obtain ⟨j0,hj0,hf0,hmin⟩:=least hex
    refine ⟨mB d1 j0,⟨Ae hS hj0 hf0,fun x=>Af hS hj0 hf0 x,fun i hi=>hF i hi,hr,by simp only[mB]; omega,
     ⟨fun i j hi hj=>hz.a i _ hi (PR hj0 hj),fun i hi=>hz.b i hi,fun j hj=>hz.cst _ (PR hj0 hj),hz.v⟩⟩,?_⟩
    exact fun {ρ s K} hs hρ hE hO h=>hwalk (.inr ⟨hv,rfl,d1,j0,h1,hj0,hf0,hmin,rfl⟩) hs hρ hE hO h
   refine .inr ?_
   by_cases hb0:∃ i,i<m∧e.bas i=n+m
   ·obtain ⟨i,hi,hbi,hmin⟩:=least hb0
    obtain ⟨q,hq,haq,hqm⟩:=least (adz hSe (by omega) hbi)
    have hS2:Same (pivot e i q) (dA n m A bb) (n+m+1):=(Same.pivot hSe.bd (by omega) hq haq).trans hSe
    refine fin (pivot e i q) (.inr ⟨i,q,hi,hq,hbi,hmin,haq,fun k hk=>Classical.byContradiction fun h=>hqm k hk h,rfl⟩) hS2 (Ax hfin.feas (afT hSe (by omega) hbi hv0)) her hec ⟨q,hq,by simp only[pivot,upd,if_true]; exact hbi⟩ ?_
    exact Same.size_t (d:=dA n m A bb) szA hS2.symm her hec ht
   ·refine fin e (.inl ⟨rfl,fun i hi h=>hb0 ⟨i,hi,h⟩⟩) hSe hfin.feas her hec ?_ sze
    rcases Zd hSe.bd (show n+m<n+m+1 by omega) with h | ⟨i,hi,h⟩
    ·exact h
    ·exact absurd ⟨i,by omega,h⟩ hb0
@[simp] theorem Jy {g:Nat→List AV} {n:Nat}:(mR g n).take n=mR g n:=List.take_of_length_le (by simp)
@[simp] theorem aiR {a:Nat→Nat→Rat} {cl:Nat→Nat} {n:Nat}:(cR a cl n).take n=cR a cl n:=Jy
@[simp] theorem ai8 {f:Nat→Nat} {n:Nat}:(nR f n).take n=nR f n:=Jy
theorem aeV {I I':Nat→Nat→Prop} {w:World} {β β':zV} {lam lam':z6} {v:Value} {x y:Value} (h:R I w β lam (.tuple [.val x,.val y]) v):R I' w β' lam' (.tuple [.val x,.val y]) v:=by
 have key:∀ {l:List AV} {vs:Array Value},l=[.val x,.val y]→vs.size=l.length→(∀ i c,l[i]?=some c→R I w β lam c (vs.getD i undef))→∀ i c,l[i]?=some c→R0 I' w c (vs.getD i undef):=by
  intro l vs hl _ h i c hc
  subst hl
  have h1:=h i c hc
  match i,hc with
  | 0,hc =>
   simp only[List.getElem?_cons_zero,Option.some.injEq] at hc
   subst hc
   cases h1 with
   | base h1=>cases h1; exact .val _
  | 1,hc =>
   simp only[List.getElem?_cons_succ,List.getElem?_cons_zero,Option.some.injEq] at hc
   subst hc
   cases h1 with
   | base h1=>cases h1; exact .val _
 cases h with
 | base h=>cases h with | tuple _ vs hs hc=>exact .base (.tuple _ vs hs (key rfl hs fun i c h=>.base (hc i c h)))
 | tuple _ vs hs _ hc=>exact .base (.tuple _ vs hs (key rfl hs hc))
theorem ahf {P:Program} {f:FuncId} {xs:List AV} {s:St} {x y:Value} {s1 t:St} {K':AV→St→Prop} (hc:z5 P f xs s fun r s'=>r=.tuple [.val x,.val y]∧s'=s1) (h:St.imp s1 t) (hk:K' (.tuple [.val x,.val y]) t):z5 P f xs s K' :=
 fun F a w I β lam hI vs hn hv=>Calls.mono (hc F a w I β lam hI vs hn hv) fun e w' ⟨v,e1,r,s',I',β',lam',⟨hr,hs⟩,hI',hR⟩=>by
  subst hr hs
  obtain ⟨I2,β2,lam2,h2⟩:=h _ _ _ ⟨I',β',lam',hI'⟩
  exact ⟨v,e1,_,t,I2,β2,lam2,hk,h2,aeV hR⟩
theorem E7 (e:zo):∃ x y,dC e=.tuple [.val x,.val y]:=by
 unfold dC
 split
 ·exact ⟨_,_,rfl⟩
 ·exact ⟨_,_,rfl⟩
noncomputable def pH (A:Nat→Nat→Rat) (bb gg:Nat→Rat) (n m:Nat):List (Nat × ze) :=
 [(1,.var [fL gg n,.list 4 .plain (pR A bb n m)]),(2,.var [iv 0,bv false,zH,zH,zH,zH,zH])]
noncomputable def dI:List (Nat × ze):=[(2,.var [iv 0,bv false,zH,zH,zH,zH,zH])]
theorem n7 {A:Nat→Nat→Rat} {bb gg:Nat→Rat} {n m:Nat}:rest (pH A bb gg n m):=by
 intro p hp
 simp only[pH,List.mem_cons,List.not_mem_nil,or_false] at hp
 rcases hp with rfl | rfl
 ·exact ⟨.inl (show (_:Nat)<1000 by simp),by simp[Z6]; exact ⟨rfl,rfl⟩⟩
 ·exact ⟨.inl (show (_:Nat)<1000 by simp),by simp[Z6]; exact ⟨rfl,rfl,rfl⟩⟩
theorem Cr:rest dI:=by
 intro p hp
 simp only[dI,List.mem_cons,List.not_mem_nil,or_false] at hp
 subst hp
 exact ⟨.inl (show (_:Nat)<1000 by simp),by simp[Z6]; exact ⟨rfl,rfl,rfl⟩⟩
theorem GJ {n m:Nat} {e:zo} {b:Nat} :
  St.imp ⟨[(2,.ptr 2 0),(5,.ptr 1015 0)],dI++tL n m e,[],b⟩ ⟨[(2,.ptr 2 0),(5,tR n m e)],dI,[],b⟩:=by
 refine St.imp.trans (St.imp_freeze (k:=1961) (by simp[xA,dI,tL,sC,nT,t5,kT,ln]; rfl)) ?_
 refine St.imp.trans (St.imp_freeze (k:=1972) (by simp[xA,sC,nT,t5,kT,ln]; rfl)) ?_
 refine St.imp.trans (St.imp_freeze (k:=1987) (by simp[xA,sC,nT,t5,kT,ln]; rfl)) ?_
 refine St.imp.trans (St.imp_freeze (k:=2029) (by simp[xA,sC,t5,kT,ln]; rfl)) ?_
 refine St.imp.trans (St.imp_freeze (k:=1015) (by simp[xA,sC,ln]; rfl)) ?_
 simp[tR,dI]
 exact St.imp.refl
@[simp] theorem ait {q:Rat} {a b:AV}:zD [f0 q,f1 q,f2 q,a,b] 0 (some 3)=some (fq q):=by simp[zD]
@[simp] theorem ahw {q:Rat} {a b c d x y z:AV}:splice [a,b,c,d,x,y,z] 1 (fr q)=[a,f0 q,f1 q,f2 q,x,y,z]:=by unfold fr; simp[splice,-qT]
theorem N8 {M:Nat}:Am.low M zH=true:=rfl
theorem N9 {A:Nat→Nat→Rat} {bb gg:Nat→Rat} {n m M:Nat}:Am.low M (.agg [.list 3 .plain (fR gg n),.list 4 .plain (pR A bb n m)])=true:=rfl
def aie (n m L:Nat) (A:Nat→Nat→Rat) (bb gg:Nat→Rat) (r:AV):Prop :=
 (∃ x y v,(Opt n m A bb gg x y v∧(∀ j,sz L (x j))∧(∀ i,sz L (y i))∧sz L v)∧r=.agg [iv 1,f0 v,f1 v,f2 v,fL x n,fL y m,zH]) ∨
 (∃ y,(Inf n m A bb y∧∀ i,sz L (y i))∧r=.agg [iv 2,bv false,zH,zH,zH,fL y m,zH]) ∨
 (∃ x ray,(Unb n m A bb gg x ray∧(∀ j,sz L (x j))∧∀ j,sz L (ray j))∧r=.agg [iv 3,bv false,zH,zH,fL x n,zH,fL ray n])
theorem jy:yR Tryz.prog tw=true:=by kernel_rfl
theorem UO:yR Tryz.prog u0=true:=by kernel_rfl
theorem A7:yR Tryz.prog pJ=true:=by kernel_rfl
theorem Sp:yR Tryz.prog pT=true:=by kernel_rfl
theorem ad6 {n m S t:Nat} {A:Nat→Nat→Rat} {bb gg:Nat→Rat} (ht1:m≤t∨n+1≤t) (hm:m<900000) (hn:n<900000) (hS:grow S t+(m+1)*(2*grow S t+1)≤30000000000) (ha:∀ i j,i<m→j<n→sz S (A i j)) (hb:∀ i,i<m→sz S (bb i)) (hg:∀ j,j<n→sz S (gg j))
  (hchk:zd Tryz.prog kB [pA A bb gg n m] (iv 0)) :
  ∃ r,aie n m (grow S t) A bb gg r∧zd Tryz.prog Zw [pA A bb gg n m] (.tuple [r,iv 0]):=by
 have ht:m≤t∨n≤t:=by omega
 have hSm:S≤grow S t:=ZX (m:=0) (Nat.zero_le t)
 have h0:1*(2*grow S t+1)≤(m+1)*(2*grow S t+1):=Nat.mul_le_mul_right _ (by omega)
 have hSG:grow S t≤10000000000:=by omega
 have szG:szD S (dG n m A bb gg):=⟨fun i j hi hj=>ha i j hi hj,fun i hi=>hb i hi,fun j hj=>hg j hj,ws⟩
 have nt:∀ {s:St} {K:AV→St→Prop},s.sto=pH A bb gg n m→yH 1000 s.env→yk 1000 s.out→K (.ptr 1015 0) ⟨s.env,pH A bb gg n m++tN n m A bb,s.out,s.base⟩→z5 Tryz.prog tw [pA A bb gg n m] s K :=
  fun hs hE hO hK=>L3 hs n7 hE hO (by omega) (by omega) hK
 rcases agf (S:=S) (A:=A) (bb:=bb) ht1 hm hn hSG ha hb with ⟨e,y,hi,hst⟩ | ⟨e,hr,hst⟩
 ·refine ⟨_,.inr (.inl ⟨y,hi,rfl⟩),?_⟩
  refine zt YI (by simp) ?_
  simp[eB]
  refine za hchk (by simp) (by simp) ?_
  simp[jy]
  refine yb (nt (by simp[pH]) (by simp[yu,yO,mF,sX,xB,N9]) (by simp[yk]) ?_)
  simp[UO]
  refine yb (hst rfl n7 (by simp[yu,yO,xB]) (by simp[yk]) ?_)
  simp[pH,tL,eZ]
 ·have hS2:Same (l8 n gg e) (dG n m A bb gg) (n+m):=Dg hr.bij hr.sol
  have hF2:feas (l8 n gg e):=hr.feas
  have hsize:∀ e',Same e' (l8 n gg e) (n+m)→e'.r=(l8 n gg e).r→e'.c=(l8 n gg e).c→szD (grow S t) e':=fun e' he h1 h2 =>
   Same.size_t (d:=dG n m A bb gg) szG (he.trans hS2).symm (by rw[h1]; exact hr.r) (by rw[h2]; exact hr.c) ht
  obtain ⟨e2,hfin,hopt⟩:=QR hS2.bd hF2
  have hSe:Same e2 (dG n m A bb gg) (n+m):=hfin.same.trans hS2
  have her:e2.r=m:=hfin.r.trans hr.r
  have hec:e2.c=n:=hfin.c.trans hr.c
  have sze:szD (grow S t) e2:=hsize e2 hfin.same hfin.r hfin.c
  have hfre:∀ j,j<e2.c→e2.fre j<4000000:=fun j hj=>by have:=kS hSe.bd hj; omega
  obtain ⟨fx,fy,hfr⟩:=E7 e2
  have so:∀ {K:AV→St→Prop},K (dC e2) ⟨[(2,.ptr 2 0),(5,tR n m e2)],dI,[],0⟩→z5 Tryz.prog wm [.ptr 1015 0] ⟨[(2,.ptr 2 0),(5,.ptr 1015 0),(32,.ptr 1015 0)],dI++tL n m (l8 n gg e),[],0⟩ K:=fun {K} hK=>by
   refine z5.pre (NY (env:=[(2,.ptr 2 0),(5,.ptr 1015 0)]) (by simp[t8,qB])) ?_
   refine ahf (hopt rfl Cr (by simp[yu,yO,xB]) (by simp[yk]) (by omega) (by rw[show (l8 n gg e).c=n from hr.c]; omega) hr.r hSG hsize ⟨hfr,rfl⟩) GJ ?_
   rw[← hfr]
   exact hK
  have pt:=Kb (n:=n) (m:=m) (d:=e2) (by omega) (by omega)
  have pr:=Mw (n:=n) (m:=m) (L:=grow S t) (d:=e2) (by omega) (by omega) (by omega) hfre (by omega) sze.cst
  have hx:fL (nA n e2 m) n=fL (vl e2) n:=congrArg _ (wh fun j hj=>by rw[← her]; exact afV hSe.bd hj)
  have hy:fL (xM n m e2 e2.c) m=fL (fun i=>- cv e2 (n+i)) m:=congrArg _ (wh fun i hi=>Ce hSe.bd hi)
  rw[hx] at pt
  rw[hy] at pr
  rcases hfin.out with ⟨ho,hcst⟩ | ⟨q,ho,hq,hc0,hall⟩
  ·refine ⟨_,.inl ⟨_,_,_,⟨afO hSe hfin.feas hcst,acb hSe.bd sze,fun i=>mV (abN hSe.bd sze (n+i)),sze.v⟩,rfl⟩,?_⟩
   rw[ho] at so
   refine zt YI (by simp) ?_
   simp[eB]
   refine za hchk (by simp) (by simp) ?_
   simp[jy]
   refine yb (nt (by simp[pH]) (by simp[yu,yO,mF,sX,xB,N9]) (by simp[yk]) ?_)
   simp[UO]
   refine yb (hst rfl n7 (by simp[yu,yO,xB]) (by simp[yk]) ?_)
   simp[Sp,pH]
   refine yb (MK (s:=⟨_,pH A bb gg n m++tL n m e,[],0⟩) (L:=grow S t) (d:=e) (g:=gg) (ρ:=pH A bb gg n m) (n:=n) (m:=m) rfl n7 ?_ (by simp[yk]) (by omega) (by omega) (by rw[hr.c]; omega) hr.r (by omega) hr.sz (fun j hj=>zJ (hg j hj) hSm) ?_)
   ·simp[yu,yO,sX,xB,N7,N8]
   simp[kh,pH,tL]
   refine yb (so ?_)
   simp[tR,dI,A7]
   refine NC pt (by simp) (by simp[tR]) (by simp) ?_
   simp[QP]
   refine NC pr (by simp) (by simp[tR]) (by simp) ?_
   simp[eZ]
  ·have ra:=Ck (n:=n) (m:=m) (L:=grow S t) (d:=e2) (q:=q) (by omega) (by omega) hq (by omega) (fun i hi=>sze.a i q (by omega) hq)
   have hra:fL (tX n e2 q m) n=fL (dH e2 q) n:=congrArg _ (wh fun j hj=>by rw[← her]; exact ahh hSe.bd hq hj)
   rw[hra] at ra
   refine ⟨_,.inr (.inr ⟨_,_,⟨agr hSe hfin.feas hq hc0 hall,acb hSe.bd sze,adJ hSe.bd sze hq⟩,rfl⟩),?_⟩
   rw[ho] at so
   refine zt YI (by simp) ?_
   simp[eB]
   refine za hchk (by simp) (by simp) ?_
   simp[jy]
   refine yb (nt (by simp[pH]) (by simp[yu,yO,mF,sX,xB,N9]) (by simp[yk]) ?_)
   simp[UO]
   refine yb (hst rfl n7 (by simp[yu,yO,xB]) (by simp[yk]) ?_)
   simp[Sp,pH]
   refine yb (MK (s:=⟨_,pH A bb gg n m++tL n m e,[],0⟩) (L:=grow S t) (d:=e) (g:=gg) (ρ:=pH A bb gg n m) (n:=n) (m:=m) rfl n7 ?_ (by simp[yk]) (by omega) (by omega) (by rw[hr.c]; omega) hr.r (by omega) hr.sz (fun j hj=>zJ (hg j hj) hSm) ?_)
   ·simp[yu,yO,sX,xB,N7,N8]
   simp[kh,pH,tL]
   refine yb (so ?_)
   simp[tR,dI]
   refine za pt (by simp[tR]) (by simp) ?_
   simp
   refine za ra (by simp[tR]) (by simp) ?_
   simp[eZ]
end Go.Proofs.YtjeoklgggppjiaaGreat

namespace Go.Pb
structure Of where
 b:Int
 w:Nat→Int
 v:Int
structure Pb where
 sup:Nat→Int
 opn:Nat→Int
 cls:Nat→Int
 cl:List Int
 of:List Of
def vq {α:Type} (f:α→Int) (l:List α) (k:Nat):Int:=((l.take k).map f).sum
section
variable {α:Type} {f g:α→Int} {l:List α} {k:Nat} {o:α}
theorem eU:vq f l 0=0:=rfl
theorem j4 (h:l[k]?=some o):l.take (k+1)=l.take k++[o]:=by rw[List.take_add_one,h]; rfl
theorem kZ (h:l[k]?=some o):vq f l (k+1)=vq f l k+f o:=by
 unfold vq
 rw[j4 h,List.map_append,List.sum_append]
 simp
theorem fp:vq f l l.length=(l.map f).sum:=by simp[vq]
theorem pe {a b:Int} (h:∀ o∈l,a≤f o∧f o≤b):∀ k,k≤l.length→a*k≤vq f l k∧vq f l k≤b*k
 | 0,_=>by simp[vq]
 | k+1,hk=>by
  have hk':k<l.length:=by omega
  have hg:l[k]?=some l[k]:=by simp[hk']
  obtain ⟨h1,h2⟩:=pe h k (by omega)
  obtain ⟨h3,h4⟩:=h l[k] (List.getElem_mem hk')
  rw[kZ hg,Int.natCast_add,Int.mul_add,Int.mul_add]
  omega
theorem Pa {a b:Int} (h:∀ o∈l,a≤f o∧f o≤b):a*l.length≤(l.map f).sum∧(l.map f).sum≤b*l.length:=by
 have:=pe h l.length (Nat.le_refl _)
 rwa [fp] at this
end
def okB (w:Nat→Int):Prop:=∀ j,j<6→0≤w j∧w j≤4
instance (w:Nat→Int):Decidable (okB w):=by unfold okB; exact inferInstance
def kw (w:Nat→Int):Prop:=∀ j,j<6→w j=0
instance (w:Nat→Int):Decidable (kw w):=by unfold kw; exact inferInstance
def eqB (w u:Nat→Int):Prop:=∀ j,j<6→w j=u j
instance (w u:Nat→Int):Decidable (eqB w u):=by unfold eqB; exact inferInstance
def leB (w u:Nat→Int):Prop:=∀ j,j<6→w j≤u j
instance (w u:Nat→Int):Decidable (leB w u):=by unfold leB; exact inferInstance
def Pb.clOf (P:Pb) (b:Int):Int:=P.cl.getD b.toNat 0
def Pb.rows (P:Pb):Nat:=P.cl.length+12
def Pb.coef (P:Pb) (r:Nat) (o:Of):Int :=
 if r<P.cl.length then (if o.b=r then 1 else 0)
 else if r<P.cl.length+6 then o.w (r-P.cl.length)
 else if P.cls (r-P.cl.length-6)=0∨P.cls (r-P.cl.length-6)=P.clOf o.b then 0 else o.w (r-P.cl.length-6)
def Pb.bnd (P:Pb) (r:Nat):Int :=
 if r<P.cl.length then 1 else if r<P.cl.length+6 then P.sup (r-P.cl.length) else P.opn (r-P.cl.length-6)
def Pb.fits (P:Pb) (l:List Of):Prop:=∀ r,r<P.rows→(l.map (P.coef r)).sum≤P.bnd r
instance (P:Pb) (l:List Of):Decidable (P.fits l):=by unfold Pb.fits; exact inferInstance
def Pb.okC (P:Pb) (j:Nat):Prop:=0≤P.cls j∧P.cls j≤4∧0≤P.opn j∧P.opn j≤P.sup j∧(P.cls j=0→P.opn j=P.sup j)
instance (P:Pb) (j:Nat):Decidable (P.okC j):=by unfold Pb.okC; exact inferInstance
def Pb.okCs (P:Pb):Prop:=∀ j,j<6→P.okC j
instance (P:Pb):Decidable P.okCs:=Nat.decidableBallLT 6 fun j _=>P.okC j
def mI (c:Int):Prop:=0≤c∧c≤4
instance (c:Int):Decidable (mI c):=by unfold mI; exact inferInstance
def Pb.frameE (P:Pb):Int :=
 if ¬ okB P.sup then 4 else if ¬ P.okCs then 4 else if 8<P.cl.length∨160<P.of.length then 3 else if ∀ c∈P.cl,mI c then 0 else 4
def ru (n:Nat) (o:Of):Int:=if o.b<0∨(n:Int)≤o.b then 6 else if o.v<1∨1000000<o.v then 4 else if okB o.w then 0 else 4
def Pb.offE (P:Pb) (o:Of):Int:=if ru P.cl.length o≠0 then ru P.cl.length o else if kw o.w then 4 else if P.fits [o] then 0 else 14
def pm (o o':Of):Prop:=o.b=o'.b∧eqB o.w o'.w
instance (o o':Of):Decidable (pm o o'):=by unfold pm; exact inferInstance
def Pb.offI (P:Pb) (i:Nat) (o:Of):Int:=if P.offE o≠0 then P.offE o else if ∃ o'∈P.of.take i,pm o' o then 7 else 0
def Pb.chkL (P:Pb):Nat→Int
 | 0=>0
 | i+1=>if P.chkL i=0 then (match P.of[i]? with | some o=>P.offI i o | none=>0) else P.chkL i
def Pb.chk (P:Pb):Int:=if P.frameE=0 then P.chkL P.of.length else P.frameE
section
variable {P:Pb}
theorem Qy {i:Nat} (h:P.chkL i≠0):∀ d,P.chkL (i+d)=P.chkL i
 | 0=>rfl
 | d+1=>by
  have:=Qy h d
  rw[← Nat.add_assoc,Pb.chkL,this,if_neg h]
theorem jR {i k:Nat} {o:Of} (h0:P.chkL i=0) (hi:P.of[i]?=some o) (he:P.offI i o≠0) (hk:i<k):P.chkL k=P.offI i o:=by
 have h1:P.chkL (i+1)=P.offI i o:=by rw[Pb.chkL,if_pos h0,hi]
 have h2:=Qy (P:=P) (i:=i+1) (by rw[h1]; exact he) (k-(i+1))
 rw[show i+1+(k-(i+1))=k by omega] at h2
 rw[h2,h1]
theorem Qx {i:Nat} {o:Of} (h0:P.chkL i=0) (hi:P.of[i]?=some o) (he:P.offI i o=0):P.chkL (i+1)=0:=by rw[Pb.chkL,if_pos h0,hi]; exact he
theorem EA {k:Nat} (h:P.chkL k=0):∀ i o,i<k→P.of[i]?=some o→P.offI i o=0:=by
 induction k with
 | zero=>intro i o hi; omega
 | succ k ih =>
  have hk:P.chkL k=0:=by
   rw[Pb.chkL] at h
   split at h
   ·rename_i h0; exact h0
   ·exact h
  intro i o hi ho
  by_cases e:i=k
  ·subst e
   rw[Pb.chkL,if_pos hk,ho] at h
   exact h
  ·exact ih hk i o (by omega) ho
structure Pb.Good (P:Pb):Prop where
 sup:okB P.sup
 set:P.okCs
 n:P.cl.length≤8
 k:P.of.length≤160
 cl:∀ c∈P.cl,mI c
 off:∀ o∈P.of,P.offE o=0
 new:∀ (i l:Nat) o o',l<i→P.of[i]?=some o→P.of[l]?=some o'→¬ pm o' o
theorem xS (h:P.chk=0):P.Good:=by
 unfold Pb.chk at h
 split at h
 ·rename_i hf
  unfold Pb.frameE at hf
  split at hf
  ·cases hf
  ·rename_i h1
   split at hf
   ·cases hf
   ·rename_i h2
    split at hf
    ·cases hf
    ·rename_i h3
     split at hf
     ·rename_i h4
      have hz:=EA h
      refine ⟨Decidable.not_not.1 h1,Decidable.not_not.1 h2,by omega,by omega,h4,fun o ho=>?_,fun i l o o' hl hi hlo hs=>?_⟩
      ·obtain ⟨i,hi,rfl⟩:=List.getElem_of_mem ho
       have:=hz i P.of[i] hi (by simp[hi])
       unfold Pb.offI at this
       split at this
       ·exact this
       ·rename_i h5; exact Decidable.not_not.1 h5
      ·have hi':i<P.of.length:=(List.getElem?_eq_some_iff.1 hi).1
       have:=hz i o hi' hi
       unfold Pb.offI at this
       split at this
       ·rename_i h5; exact h5 this
       ·rw[if_pos ⟨o',List.mem_of_getElem? (i:=l) (by rw[List.getElem?_take,if_pos hl]; exact hlo),hs⟩] at this
        cases this
     ·cases hf
 ·rename_i hf; exact absurd h hf
theorem y7 {o:Of} (h:P.offE o=0):ru P.cl.length o=0∧¬ kw o.w∧P.fits [o]:=by
 unfold Pb.offE at h
 split at h
 ·rename_i h1; exact absurd h h1
 ·rename_i h1
  split at h
  ·cases h
  ·rename_i h2
   split at h
   ·rename_i h3; exact ⟨Decidable.not_not.1 h1,h2,h3⟩
   ·cases h
theorem xI {n:Nat} {o:Of} (h:ru n o=0):(0≤o.b∧o.b<n)∧(1≤o.v∧o.v≤1000000)∧okB o.w:=by
 unfold ru at h
 split at h
 ·cases h
 ·rename_i h1
  split at h
  ·cases h
  ·rename_i h2
   split at h
   ·rename_i h3; exact ⟨by omega,by omega,h3⟩
   ·cases h
theorem tF {r:Nat} {o:Of} (hw:okB o.w) (hr:r<P.rows):0≤P.coef r o∧P.coef r o≤4:=by
 unfold Pb.rows at hr
 unfold Pb.coef
 split
 ·split<;>omega
 ·split
  ·exact hw _ (by omega)
  ·split
   ·omega
   ·exact hw _ (by omega)
end
end Go.Pb

namespace Go.Proofs.YtjeoklgggppjiaaGreat
open Go Go.Am Go.Pb
def bI (w:Nat→Int):List Int:=[w 0,w 1,w 2,w 3,w 4,w 5]
@[irreducible] def bC (w:Nat→Int):List AV:=(bI w).map iv
theorem vY (w:Nat→Int):bC w=[iv (w 0),iv (w 1),iv (w 2),iv (w 3),iv (w 4),iv (w 5)]:=by unfold bC; rfl
section
variable {w u:Nat→Int} {k l a b M:Nat} {e:ze}
@[simp] theorem aeY:(bC w).length=6:=by rw[vY]; rfl
@[simp] theorem agD:(bC w).all rf=true:=by rw[vY]; rfl
theorem aeZ {x:AV} (h:x∈bC w):∃ n,x=iv n:=by
 unfold bC at h
 obtain ⟨n,_,rfl⟩:=List.mem_map.1 h
 exact ⟨n,rfl⟩
@[simp] theorem ahE:(∀ x,x∈bC w→rf x=true)=True:=eq_true fun x h=>by obtain ⟨n,rfl⟩:=aeZ h; rfl
@[simp] theorem BN:(bC w).map strip=bC w:=by rw[vY]; rfl
@[simp] theorem ake:(bC w).map (dg l)=bC w:=by rw[vY]; simp
@[simp] theorem ajp:xn k (bC w)=false:=by rw[vY]; simp
theorem P6 (h:k<6):(bC w)[k]?=some (iv (w k)):=by
 rw[vY]
 match k,h with
 | 0,_=>rfl
 | 1,_=>rfl
 | 2,_=>rfl
 | 3,_=>rfl
 | 4,_=>rfl
 | 5,_=>rfl
 | n+6,h=>omega
@[simp] theorem aiP {h:k<(bC w).length}:(bC w)[k]=iv (w k):=by
 have h2:k<6:=by simpa using h
 have:=P6 (w:=w) h2
 rw[List.getElem?_eq_getElem h] at this
 exact Option.some.inj this
@[simp] theorem ahO:zD (bC w) 0 (some 6)=some (.agg (bC w)):=by rw[vd aeY agD,BN]
theorem ZW (h:k<6):zD (bC w) k none=some (iv (w k)):=by
 simp[zD,P6 h]
theorem UP (h:k<6):vJ (bC w) k none=some (iv (w k)):=by
 simp[vJ,P6 h]
@[simp] theorem nV:ff 6 (bC w)=true:=by unfold bC; rw[T4]; rfl
@[simp] theorem aiz:qY (bC w)=bI w:=by unfold bC; exact Z2 _
theorem PH:(bI w=bI u)↔eqB w u:=by
 unfold bI eqB
 constructor
 ·intro h j hj
  simp only[List.cons.injEq,and_true] at h
  obtain ⟨h0,h1,h2,h3,h4,h5⟩:=h
  match j,hj with
  | 0,_=>exact h0
  | 1,_=>exact h1
  | 2,_=>exact h2
  | 3,_=>exact h3
  | 4,_=>exact h4
  | 5,_=>exact h5
  | n+6,h=>omega
 ·intro h
  rw[h 0 (by omega),h 1 (by omega),h 2 (by omega),h 3 (by omega),h 4 (by omega),h 5 (by omega)]
end
@[irreducible] def oC (o:Of):List AV:=iv o.b::(bC o.w++[iv o.v])
theorem sE (o:Of):oC o=[iv o.b,iv (o.w 0),iv (o.w 1),iv (o.w 2),iv (o.w 3),iv (o.w 4),iv (o.w 5),iv o.v]:=by unfold oC; rw[vY]; rfl
section
variable {o:Of} {k l:Nat}
@[simp] theorem afF:(oC o).length=8:=by rw[sE]; rfl
@[simp] theorem abX:(oC o).all rf=true:=by rw[sE]; rfl
@[simp] theorem ahX:(∀ x,x∈oC o→rf x=true)=True:=eq_true fun x h=>List.all_eq_true.1 abX x h
@[simp] theorem A2:(oC o).map strip=oC o:=by rw[sE]; rfl
@[simp] theorem akR:(oC o).map (dg l)=oC o:=by rw[sE]; simp
@[simp] theorem ajZ:xn k (oC o)=false:=by rw[sE]; simp
@[simp] theorem aiE:(oC o)[0]?=some (iv o.b):=by rw[sE]; rfl
@[simp] theorem aiF:(oC o)[7]?=some (iv o.v):=by rw[sE]; rfl
@[simp] theorem akP {h:0<(oC o).length}:(oC o)[0]=iv o.b:=by have:=aiE (o:=o); rw[List.getElem?_eq_getElem h] at this; exact Option.some.inj this
@[simp] theorem akQ {h:7<(oC o).length}:(oC o)[7]=iv o.v:=by have:=aiF (o:=o); rw[List.getElem?_eq_getElem h] at this; exact Option.some.inj this
theorem DM (h:k<6):(oC o)[1+k]?=some (iv (o.w k)):=by
 rw[sE]
 match k,h with
 | 0,_=>rfl
 | 1,_=>rfl
 | 2,_=>rfl
 | 3,_=>rfl
 | 4,_=>rfl
 | 5,_=>rfl
 | n+6,h=>omega
@[simp] theorem ahU:zD (oC o) 0 (some 8)=some (.agg (oC o)):=by rw[vd afF abX,A2]
@[simp] theorem agR:zD (oC o) 0 none=some (iv o.b):=by simp[zD]
@[simp] theorem agS:zD (oC o) 7 none=some (iv o.v):=by simp[zD]
@[simp] theorem agV:zD (oC o) 1 (some 6)=some (.agg (bC o.w)):=by rw[sE,vY]; rfl
theorem bN (h:k<6):zD (oC o) (1+k) none=some (iv (o.w k)):=by simp[zD,DM h]
end
def clR (l:List Int):List (List AV):=l.map fun c=>[iv c]
abbrev clA (l:List Int):AV:=.list 1 .plain (clR l)
def ofR (l:List Of):List (List AV):=l.map oC
abbrev ofA (l:List Of):AV:=.list 8 .plain (ofR l)
section
variable {l:List Int} {L:List Of} {k:Nat} {c:Int} {o:Of}
@[simp] theorem uK:(clR l).length=l.length:=by simp[clR]
@[simp] theorem ajt:yn (clR l)=true:=by simp[clR,yn]
@[simp] theorem aju:zN (clR l)=clR l:=by simp[clR,zN]
@[simp] theorem rg:(ofR L).length=L.length:=by simp[ofR]
@[simp] theorem aj2:yn (ofR L)=true:=by simp[ofR,yn]
@[simp] theorem aj3:zN (ofR L)=ofR L:=by simp[ofR,zN]
end
@[irreducible] def pbX (P:Pb) (c o:AV):List AV:=bC P.sup++bC P.opn++bC P.cls++[c,o]
theorem xc (P:Pb) (c o:AV):pbX P c o=[iv (P.sup 0),iv (P.sup 1),iv (P.sup 2),iv (P.sup 3),iv (P.sup 4),iv (P.sup 5),iv (P.opn 0),iv (P.opn 1),iv (P.opn 2),iv (P.opn 3),iv (P.opn 4),iv (P.opn 5),
  iv (P.cls 0),iv (P.cls 1),iv (P.cls 2),iv (P.cls 3),iv (P.cls 4),iv (P.cls 5),c,o]:=by unfold pbX; rw[vY,vY,vY]; rfl
abbrev pbC (P:Pb):List AV:=pbX P (clA P.cl) (ofA P.of)
section
variable {P:Pb} {c o:AV} {k l:Nat}
@[simp] theorem ady:(pbX P c o).length=20:=by rw[xc]; rfl
theorem afR (hc:rf c=true) (ho:rf o=true):(pbX P c o).all rf=true:=by rw[xc]; simp[hc,ho]
@[simp] theorem Ca:(pbC P).all rf=true:=afR rfl rfl
@[simp] theorem ahe:(∀ x,x∈pbC P→rf x=true)=True:=eq_true fun x h=>List.all_eq_true.1 Ca x h
@[simp] theorem Cb:(pbX P c o).map strip=pbX P (strip c) (strip o):=by rw[xc,xc]; rfl
@[simp] theorem aj5:(pbX P c o).map (dg l)=pbX P (dg l c) (dg l o):=by rw[xc,xc]; simp
@[simp] theorem aje:xn k (pbX P c o)=(zU k c||zU k o):=by rw[xc]; simp[xn]
@[simp] theorem agX:zD (pbC P) 0 (some 20)=some (.agg (pbC P)):=by rw[vd ady Ca,Cb]; rfl
@[simp] theorem agZ:zD (pbX P c o) 0 (some 6)=some (.agg (bC P.sup)):=by rw[xc,vY]; rfl
@[simp] theorem agW:zD (pbX P c o) 6 (some 6)=some (.agg (bC P.opn)):=by rw[xc,vY]; rfl
@[simp] theorem agQ:zD (pbX P c o) 12 (some 6)=some (.agg (bC P.cls)):=by rw[xc,vY]; rfl
@[simp] theorem afP:(pbX P c o)[18]?=some c:=by rw[xc]; rfl
@[simp] theorem afQ:(pbX P c o)[19]?=some o:=by rw[xc]; rfl
@[simp] theorem ahM:zD (pbX P c o) 18 none=some c:=by rw[xc]; rfl
@[simp] theorem ahN:zD (pbX P c o) 19 none=some o:=by rw[xc]; rfl
@[simp] theorem ajc {h:18<(pbX P c o).length}:(pbX P c o)[18]=c:=by have:=afP (P:=P) (c:=c) (o:=o); rw[List.getElem?_eq_getElem h] at this; exact Option.some.inj this
@[simp] theorem ajd {h:19<(pbX P c o).length}:(pbX P c o)[19]=o:=by have:=afQ (P:=P) (c:=c) (o:=o); rw[List.getElem?_eq_getElem h] at this; exact Option.some.inj this
theorem wy (h:k<6):zD (pbX P c o) k none=some (iv (P.sup k)):=by
 rw[xc]
 match k,h with
 | 0,_=>rfl
 | 1,_=>rfl
 | 2,_=>rfl
 | 3,_=>rfl
 | 4,_=>rfl
 | 5,_=>rfl
 | n+6,h=>omega
theorem ym (h:k<6):zD (pbX P c o) (6+k) none=some (iv (P.opn k)):=by
 rw[xc]
 match k,h with
 | 0,_=>rfl
 | 1,_=>rfl
 | 2,_=>rfl
 | 3,_=>rfl
 | 4,_=>rfl
 | 5,_=>rfl
 | n+6,h=>omega
theorem yf (h:k<6):zD (pbX P c o) (12+k) none=some (iv (P.cls k)):=by
 rw[xc]
 match k,h with
 | 0,_=>rfl
 | 1,_=>rfl
 | 2,_=>rfl
 | 3,_=>rfl
 | 4,_=>rfl
 | 5,_=>rfl
 | n+6,h=>omega
theorem aap (h:k<6):(pbX P c o)[k]?=some (iv (P.sup k)):=by have:=wy (P:=P) (c:=c) (o:=o) h; simpa [zD] using this
theorem aao (h:k<6):(pbX P c o)[6+k]?=some (iv (P.opn k)):=by have:=ym (P:=P) (c:=c) (o:=o) h; simpa [zD] using this
theorem UQ (h:k<6):(pbX P c o)[12+k]?=some (iv (P.cls k)):=by have:=yf (P:=P) (c:=c) (o:=o) h; simpa [zD] using this
@[simp] theorem ah1 {x:AV}:splice (pbX P c o) 18 [x]=pbX P x o:=by rw[xc,xc]; rfl
@[simp] theorem ah2 {x:AV}:splice (pbX P c o) 19 [x]=pbX P c x:=by rw[xc,xc]; rfl
end
def RY (w:Nat→Int) (k:Nat):St:={env:=[(5,.agg (bC w)),(6,iv k)],sto:=[]}
theorem P8 {w:Nat→Int}:zd Tryz.prog qG [.agg (bC w)] (iv (if okB w then 0 else 4)):=by
 refine zt Qe (by simp) ?_
 simp[d6]
 refine zq (RY w) (fun i=>∀ j,j<i→0≤w j∧w j≤4) 6 (by simp[RY]) (fun j hj=>by omega) (fun i hi hI=>?_) (fun hI=>?_)
 ·have e:(i:Int)<6:=by omega
  have w1:=zm (k:=i) (by omega)
  by_cases c1:w i<0
  ·rw[if_neg fun h=>by have:=h i hi; omega]
   simp[vU,RY,e,UP hi,c1,pi]
  ·by_cases c2:4<w i
   ·rw[if_neg fun h=>by have:=h i hi; omega]
    simp[vU,RY,e,UP hi,c1,c2,pi]
   ·simp[vU,RY,e,UP hi,c1,c2,w1]
    exact fun j hj=>by
     by_cases e:j=i
     ·subst e; omega
     ·exact hI j (by omega)
 ·rw[if_pos (show okB w from hI)]
  simp[vU,RY,jF,pi]
section
variable {P:Pb} {r n:Nat} {o:Of}
theorem Np (h:0≤o.b∧o.b<P.cl.length):∃ b:Nat,o.b=b∧b<P.cl.length∧P.cl[b]?=some (P.clOf o.b):=by
 refine ⟨o.b.toNat,by omega,by omega,?_⟩
 unfold Pb.clOf
 have h2:o.b.toNat<P.cl.length:=by omega
 rw[List.getD_eq_getElem?_getD,List.getElem?_eq_getElem h2]
 rfl
@[simp] theorem aik {l:List Int} {b:Nat} {h:b<(clR l).length}:(clR l)[b]=[iv (l[b]'(by simpa using h))]:=by simp[clR]
theorem EJ (hn:P.cl.length≤1000) (hb:0≤o.b∧o.b<P.cl.length) (hr:r<P.rows):zd Tryz.prog xv [.agg (pbC P),iv r,.agg (oC o)] (iv (P.coef r o)):=by
 unfold Pb.rows at hr
 obtain ⟨n,hn'⟩:∃ n,P.cl.length=n:=⟨_,rfl⟩
 have w1:IntKind.i64.wrap ((r:Int)-n)=(r:Int)-n:=by rw[wrap64]<;>omega
 refine zt cE (by simp) ?_
 unfold Pb.coef
 rw[hn'] at hr hb hn ⊢
 by_cases h1:r<n
 ·rw[if_pos h1]
  have c1:((r:Int)-n)<0:=by omega
  by_cases h2:o.b=r
  ·rw[if_pos h2]
   simp[yL,hn',w1,c1,h2,yT]
  ·rw[if_neg h2]
   simp[yL,hn',w1,c1,h2,yT]
 ·rw[if_neg h1]
  have c1:¬ ((r:Int)-n)<0:=by omega
  obtain ⟨k,hk⟩:∃ k,r=n+k:=⟨r-n,by omega⟩
  have e1:(r:Int)-n=k:=by omega
  have e2:r-n=k:=by omega
  rw[e1] at w1 c1
  by_cases h2:k<6
  ·rw[if_pos (by omega),e2]
   have c2:(k:Int)<6:=by omega
   simp[yL,hn',e1,w1,c1,c2,DM h2,yT]
  ·obtain ⟨j,hj0⟩:∃ j,k=6+j:=⟨k-6,by omega⟩
   rw[if_neg (by omega),e2,show k-6=j by omega]
   have c2:¬ (k:Int)<6:=by omega
   have hj:j<6:=by omega
   have hj':(j:Int)<6:=by omega
   have e3:(k:Int)-6=j:=by omega
   have w2:IntKind.i64.wrap (j:Int)=j:=by rw[wrap64]<;>omega
   obtain ⟨b,hb1,hb2,hb3⟩:=Np (P:=P) (o:=o) (by rw[hn']; exact hb)
   have hbn:(b:Int)<n:=by omega
   have hbn':b<n:=by omega
   have hc:P.cl[b]?=some (P.clOf (b:Int)):=by rw[← hb1]; exact hb3
   have hE:P.cl[b]=P.clOf (b:Int):=by rw[List.getElem?_eq_getElem hb2] at hc; exact Option.some.inj hc
   rw[hb1]
   by_cases h3:P.cls j=0
   ·rw[if_pos (.inl h3)]
    simp[yL,hn',e1,w1,c1,c2,e3,w2,hj',UQ hj,h3,yT]
   ·by_cases h4:P.cls j=P.clOf (b:Int)
    ·rw[if_pos (.inr h4)]
     rw[h4] at h3
     simp[yL,hn',e1,w1,c1,c2,e3,w2,hj',UQ hj,h3,hb1,hbn,hbn',hE,h4,yT]
    ·rw[if_neg (by intro h; exact h.elim h3 h4)]
     simp[yL,hn',e1,w1,c1,c2,e3,w2,hj',UQ hj,h3,hb1,hbn,hbn',hE,h4,bN hj,yT]
end
section
variable {P:Pb} {r n:Nat} {o:Of} {L:List Of}
theorem Ct (hn:P.cl.length≤1000):zd Tryz.prog vA [.agg (pbC P)] (iv P.rows):=by
 refine zt cG (by simp) ?_
 have w1:IntKind.i64.wrap ((P.cl.length:Int)+12)=(P.cl.length:Int)+12:=by rw[wrap64]<;>omega
 have e:((P.rows:Nat):Int)=(P.cl.length:Int)+12:=by unfold Pb.rows; omega
 rw[e]
 simp[nK,w1,n5]
theorem KI (hn:P.cl.length≤1000) (hr:r<P.rows):zd Tryz.prog vb [.agg (pbC P),iv r] (iv (P.bnd r)):=by
 unfold Pb.rows at hr
 obtain ⟨n,hn'⟩:∃ n,P.cl.length=n:=⟨_,rfl⟩
 have w1:IntKind.i64.wrap ((r:Int)-n)=(r:Int)-n:=by rw[wrap64]<;>omega
 refine zt dL (by simp) ?_
 unfold Pb.bnd
 rw[hn'] at hr hn ⊢
 by_cases h1:r<n
 ·rw[if_pos h1]
  have c1:((r:Int)-n)<0:=by omega
  simp[vc,hn',w1,c1,vg]
 ·rw[if_neg h1]
  have c1:¬ ((r:Int)-n)<0:=by omega
  obtain ⟨k,hk⟩:∃ k,r=n+k:=⟨r-n,by omega⟩
  have e1:(r:Int)-n=k:=by omega
  have e2:r-n=k:=by omega
  rw[e1] at w1 c1
  by_cases h2:k<6
  ·rw[if_pos (by omega),e2]
   have c2:(k:Int)<6:=by omega
   simp[vc,hn',e1,w1,c1,c2,aap h2,vg]
  ·obtain ⟨j,hj0⟩:∃ j,k=6+j:=⟨k-6,by omega⟩
   rw[if_neg (by omega),e2,show k-6=j by omega]
   have c2:¬ (k:Int)<6:=by omega
   have hj:j<6:=by omega
   have hj':(j:Int)<6:=by omega
   have e3:(k:Int)-6=j:=by omega
   have w2:IntKind.i64.wrap (j:Int)=j:=by rw[wrap64]<;>omega
   simp[vc,hn',e1,w1,c1,c2,e3,w2,hj',aao hj,vg]
end
def MQ (P:Pb) (L:List Of) (r:Nat):St:={env:=[(1,ofA L),(2,.ptr 2 0),(5,.fn (.func xv) []),(11,iv P.rows),(12,iv r)],sto:=[(2,.var (pbC P))]}
def SP (P:Pb) (L:List Of) (r k:Nat):St :=
 {env:=[(1,ofA L),(2,.ptr 2 0),(5,.fn (.func xv) []),(6,iv r),(7,iv (vq (P.coef r) L k)),(11,iv P.rows),(12,iv r),(15,ofA L),(16,iv L.length),(17,iv k)],sto:=[(2,.var (pbC P))]}
@[simp] theorem aiG {l:List Of} {b:Nat} {h:b<(ofR l).length}:(ofR l)[b]=oC (l[b]'(by simpa using h)):=by simp[ofR]
section
variable {P:Pb} {r n:Nat} {o:Of} {L:List Of}
theorem E9 (hn:P.cl.length≤1000) (hL:L.length≤1000) (hb:∀ o∈L,0≤o.b∧o.b<P.cl.length) (hw:∀ o∈L,okB o.w):zd Tryz.prog vz [.agg (pbC P),ofA L] (bv (decide (P.fits L))):=by
 have hok:yR Tryz.prog xv=true:=by kernel_rfl
 have hR:P.rows≤1012:=by unfold Pb.rows; omega
 refine zt cF (by simp) ?_
 simp[nJ]
 refine za (Ct hn) (by simp) (by simp) ?_
 simp
 refine zq (MQ P L) (fun r=>∀ q,q<r→(L.map (P.coef q)).sum≤P.bnd q) P.rows (by simp[MQ]) (fun q hq=>by omega) (fun r hr hI=>?_) (fun hI=>?_)
 ·have e:(r:Int)<P.rows:=by omega
  have w1:=zm (k:=r) (by omega)
  simp[uj,MQ,e]
  refine zq (SP P L r) (fun _=>True) L.length (by simp[SP,eU]) trivial (fun k hk _=>?_) (fun _=>?_)
  ·have e':(k:Int)<L.length:=by omega
   have hg:L[k]?=some L[k]:=by simp[hk]
   have hm:L[k]∈L:=List.getElem_mem hk
   have w2:=zm (k:=k) (by omega)
   obtain ⟨p1,p2⟩:=pe (f:=P.coef r) (fun o ho=>tF (P:=P) (hw o ho) hr) k (by omega)
   obtain ⟨p3,p4⟩:=tF (P:=P) (hw _ hm) hr
   have w3:IntKind.i64.wrap (vq (P.coef r) L k+P.coef r L[k])=vq (P.coef r) L k+P.coef r L[k]:=by rw[wrap64]<;>omega
   have hs:=kZ (f:=P.coef r) hg
   simp[ui,SP,e',hk,hok]
   refine za (EJ hn (hb _ hm) hr) (by simp) (by simp) ?_
   simp[w2,w3,hs,SP]
  ·have hall:vq (P.coef r) L L.length=(L.map (P.coef r)).sum:=fp
   simp[ui,SP,r5]
   refine za (KI hn hr) (by simp) (by simp) ?_
   by_cases hc:P.bnd r<(L.map (P.coef r)).sum
   ·have hf:¬ P.fits L:=fun h=>by have:=h r hr; omega
    simp[hall,hc,hf,tT]
   ·simp[hall,hc,r6,w1,MQ]
    exact fun q hq=>by
     by_cases eq:q=r
     ·subst eq; omega
     ·exact hI q (by omega)
 ·have hf:P.fits L:=hI
  simp[uj,MQ,hf,r7,tT]
end
section
variable {P:Pb} {r n:Nat} {o:Of} {L:List Of}
theorem aa7:zd Tryz.prog ni [iv n,.agg (oC o)] (iv (ru n o)):=by
 refine zt Ti (by simp) ?_
 unfold ru
 by_cases c1:o.b<0
 ·rw[if_pos (.inl c1)]
  simp[wX,c1,w8]
 ·by_cases c2:(n:Int)≤o.b
  ·rw[if_pos (.inr c2)]
   simp[wX,c1,c2,w8]
  ·rw[if_neg (by omega)]
   by_cases c3:o.v<1
   ·rw[if_pos (.inl c3)]
    simp[wX,c1,c2,c3,w8]
   ·by_cases c4:1000000<o.v
    ·rw[if_pos (.inr c4)]
     simp[wX,c1,c2,c3,c4,w8]
    ·rw[if_neg (by omega)]
     simp[wX,c1,c2,c3,c4]
     refine za (P8 (w:=o.w)) (by simp) (by simp) ?_
     simp[w8]
theorem Dj {f:FuncId} {x y y' r:AV} (h:zd Tryz.prog f [x,y'] r) (hy:AV.imp y y'):zd Tryz.prog f [x,y] r:=fun I vs w h1 h2 h3 =>
 h I vs w h1 h2 fun i a hi=>by
  match i,hi with
  | 0,hi=>exact h3 0 a hi
  | 1,hi=>simp at hi; subst hi; exact hy _ _ _ (h3 1 y rfl)
  | i+2,hi=>simp at hi
theorem KH:[iv 0,iv 0,iv 0,iv 0,iv 0,iv 0]=bC (fun _=>0):=by rw[vY]
theorem adn (hn:P.cl.length≤1000):zd Tryz.prog uY [.agg (pbC P),.agg (oC o)] (iv (P.offE o)):=by
 have hk:kds Tryz.prog Op.maxDepth wB=some (List.replicate 6 (.i .i64)):=by kernel_rfl
 have hg:Tryz.prog.eqGuardType Tryz.prog.depth wB=false:=by kernel_rfl
 have hA:agT Tryz.prog wB=true:=by kernel_rfl
 have hz:decide (bI o.w=bI (fun _=>0))=decide (kw o.w):=by
  rw[decide_eq_decide,PH]
  exact Iff.rfl
 refine zt dN (by simp) ?_
 simp[pM]
 refine za (aa7 (n:=P.cl.length) (o:=o)) (by simp) (by simp) ?_
 unfold Pb.offE
 by_cases c1:ru P.cl.length o=0
 ·obtain ⟨hb,_,hw⟩:=xI c1
  rw[if_neg (fun h=>h c1)]
  simp[c1,KH]
  rw[sV hk hg hA nV nV]
  by_cases c2:kw o.w
  ·rw[if_pos c2]
   simp[hz,c2,wa]
  ·rw[if_neg c2]
   simp[hz,c2]
   have hf:=E9 (P:=P) (L:=[o]) hn (by simp) (fun x hx=>by rw[List.mem_singleton.1 hx]; exact hb) (fun x hx=>by rw[List.mem_singleton.1 hx]; exact hw)
   refine za (Dj hf (wk (rows:=[oC o]))) (by simp) (by simp) ?_
   by_cases c3:P.fits [o]
   ·simp[c3,wa]
   ·simp[c3,wa]
 ·rw[if_pos c1]
  simp[c1,wa]
end
section
variable {P:Pb} {r n:Nat} {o:Of} {L:List Of}
def nd (P:Pb) (k:Nat):St:={env:=[(1,.ptr 1 0),(16,iv k)],sto:=[(1,.var (pbC P))]}
def Xr (P:Pb) (k:Nat):St:={env:=[(76,clA P.cl),(77,iv P.cl.length),(78,iv k)],sto:=[]}
theorem frC (P:Pb) (h:∀ i,(hi:i<P.cl.length)→mI P.cl[i]):∀ c∈P.cl,mI c:=fun c hc=>by
 obtain ⟨i,hi,rfl⟩:=List.getElem_of_mem hc
 exact h i hi
theorem acS:zd Tryz.prog uX [.agg (pbC P)] (iv P.frameE):=by
 refine zt dM (by simp) ?_
 simp[pL]
 refine za (P8 (w:=P.sup)) (by simp) (by simp) ?_
 unfold Pb.frameE
 by_cases c1:okB P.sup
 ·rw[if_neg (fun h=>h c1)]
  simp[c1]
  refine zq (nd P) (fun r=>∀ q,q<r→P.okC q) 6 (by simp[nd]) (fun q hq=>by omega) (fun k hk hI=>?_) (fun hI=>?_)
  ·have e:(k:Int)<6:=by omega
   have w1:=zm (k:=k) (by omega)
   by_cases d:P.okC k
   ·have d':=d
    unfold Pb.okC at d'
    obtain ⟨d1,d2,d3,d4,d5⟩:=d'
    have b1:¬ P.cls k<0:=by omega
    have b2:¬ 4<P.cls k:=by omega
    have b3:¬ P.opn k<0:=by omega
    have b4:¬ P.sup k<P.opn k:=by omega
    have hx:∀ q,q<k+1→P.okC q:=fun q hq=>by
     by_cases eq:q=k
     ·subst eq; exact d
     ·exact hI q (by omega)
    by_cases b5:P.cls k=0
    ·have b6:=d5 b5
     rw[b5] at b1 b2
     rw[b6] at b3 b4
     simp[zY,nd,e,ym hk,yf hk,wy hk,b3,b5,b6,w1]
     exact hx
    ·simp[zY,nd,e,ym hk,yf hk,wy hk,b1,b2,b3,b4,b5,w1]
     exact hx
   ·rw[if_neg (show ¬ P.okCs from fun h=>d (h k hk))]
    by_cases b1:P.cls k<0
    ·simp[zY,nd,e,ym hk,yf hk,b1,z3]
    ·by_cases b2:4<P.cls k
     ·simp[zY,nd,e,ym hk,yf hk,b1,b2,z3]
     ·by_cases b3:P.opn k<0
      ·simp[zY,nd,e,ym hk,yf hk,b1,b2,b3,z3]
      ·by_cases b4:P.sup k<P.opn k
       ·simp[zY,nd,e,ym hk,yf hk,wy hk,b1,b2,b3,b4,z3]
       ·have b5:P.cls k=0∧¬ P.opn k=P.sup k:=by
         unfold Pb.okC at d
         by_cases b5:P.cls k=0
         ·exact ⟨b5,fun h=>d ⟨by omega,by omega,by omega,by omega,fun _=>h⟩⟩
         ·exact absurd (⟨by omega,by omega,by omega,by omega,fun h=>absurd h b5⟩) d
        simp[zY,nd,e,ym hk,yf hk,wy hk,b3,b4,b5,z3]
  ·have hs:P.okCs:=hI
   rw[if_pos hs]
   by_cases f1:8<P.cl.length
   ·have f1':(8:Int)<P.cl.length:=by omega
    rw[if_pos (.inl f1)]
    simp[zY,nd,wu,f1',z3]
   ·have f1':¬ (8:Int)<P.cl.length:=by omega
    by_cases f2:160<P.of.length
    ·have f2':(160:Int)<P.of.length:=by omega
     rw[if_pos (.inr f2)]
     simp[zY,nd,wu,f1',f2',z3]
    ·have f2':¬ (160:Int)<P.of.length:=by omega
     rw[if_neg (by omega)]
     simp[zY,nd,wu,f1',f2']
     refine zq (Xr P) (fun r=>∀ q,q<r→(hq:q<P.cl.length)→mI P.cl[q]) P.cl.length (by simp[Xr]) (fun q hq=>by omega) (fun k hk hI=>?_) (fun hI=>?_)
     ·have e:(k:Int)<P.cl.length:=by omega
      have w1:=zm (k:=k) (by omega)
      by_cases d:mI P.cl[k]
      ·have d':=d
       unfold mI at d'
       have b1:¬ P.cl[k]<0:=by omega
       have b2:¬ 4<P.cl[k]:=by omega
       simp[xo,Xr,e,hk,b1,b2,w1]
       exact fun q hq hl=>by
        by_cases eq:q=k
        ·subst eq; exact d
        ·exact hI q (by omega) hl
      ·rw[if_neg (fun h=>d (h _ (List.getElem_mem hk)))]
       unfold mI at d
       by_cases b1:P.cl[k]<0
       ·simp[xo,Xr,e,hk,b1,z3]
       ·have b2:4<P.cl[k]:=by omega
        simp[xo,Xr,e,hk,b1,b2,z3]
     ·have hc:=frC P fun i hi=>hI i hi hi
      rw[if_pos hc]
      simp[xo,Xr,rG,z3]
 ·rw[if_pos c1]
  simp[c1,z3]
end
theorem aiB {k:List Int} (h:k.length=7):∃ a b c d e f g,k=[a,b,c,d,e,f,g]:=by
 match k,h with
 | [a,b,c,d,e,f,g],_=>exact ⟨a,b,c,d,e,f,g,rfl⟩
theorem afy (b:Bool) (a0 a1 a2 a3 a4 a5 a6:Int):zr Tryz.prog (Instr.checkKey b 10000 pY (vR [a0,a1,a2,a3,a4,a5,a6]))=some ():=by kernel_rfl
theorem Jr {t:TypeId}:ji Tryz.prog t pY 7 where
 kd:=RC
 ag:=by kernel_rfl
 chk:=fun b k h=>by
  obtain ⟨a0,a1,a2,a3,a4,a5,a6,rfl⟩:=aiB h
  exact afy b a0 a1 a2 a3 a4 a5 a6
def jw (o:Of):List Int:=o.b::bI o.w
theorem UH {o:Of}:(jw o).length=7:=rfl
theorem Jq {o u:Of}:jw o=jw u↔pm o u:=by
 unfold jw pm
 rw[List.cons.injEq,PH]
def tm (L:List Of):rS:=L.map fun o=>(jw o,.bool true)
theorem SB {L:List Of}:eN 7 (tm L):=fun x hx=>by
 obtain ⟨o,_,rfl⟩:=List.mem_map.1 hx
 exact UH
theorem au {o:Of}:∀ {L:List Of},wG (jw o) (tm L)=if ∃ u∈L,pm u o then some (.bool true) else none
 | []=>by simp[tm,wG]
 | u::L=>by
  have ih:=au (o:=o) (L:=L)
  unfold tm at ih ⊢
  rw[List.map_cons,wG,ih]
  by_cases h:jw o=jw u
  ·rw[if_pos h,if_pos ⟨u,by simp,Jq.1 h.symm⟩]
  ·rw[if_neg h]
   by_cases h2:∃ u∈L,pm u o
   ·obtain ⟨x,h3,h4⟩:=h2
    rw[if_pos ⟨x,h3,h4⟩,if_pos ⟨x,by simp[h3],h4⟩]
   ·rw[if_neg h2,if_neg]
    rintro ⟨x,h3,h4⟩
    rcases List.mem_cons.1 h3 with rfl | h3
    ·exact h (Jq.2 h4).symm
    ·exact h2 ⟨x,h3,h4⟩
@[irreducible] def kC (o:Of):List AV:=(jw o).map iv
theorem Y8 (o:Of):kC o=[iv o.b,iv (o.w 0),iv (o.w 1),iv (o.w 2),iv (o.w 3),iv (o.w 4),iv (o.w 5)]:=by unfold kC; rfl
section
variable {o:Of} {k l:Nat}
@[simp] theorem afx:(kC o).length=7:=by rw[Y8]; rfl
@[simp] theorem abV:(kC o).all rf=true:=by rw[Y8]; rfl
@[simp] theorem ahW:(∀ x,x∈kC o→rf x=true)=True:=eq_true fun x h=>List.all_eq_true.1 abV x h
@[simp] theorem AH:(kC o).map strip=kC o:=by rw[Y8]; rfl
@[simp] theorem akK:(kC o).map (dg l)=kC o:=by rw[Y8]; simp
@[simp] theorem ajV:xn k (kC o)=false:=by rw[Y8]; simp
@[simp] theorem ahT:zD (kC o) 0 (some 7)=some (.agg (kC o)):=by rw[vd afx abV,AH]
@[simp] theorem aiA:splice [AV.val (Value.int IntKind.i64 o.b),AV.val (Value.int IntKind.i64 0),AV.val (Value.int IntKind.i64 0),AV.val (Value.int IntKind.i64 0),AV.val (Value.int IntKind.i64 0),AV.val (Value.int IntKind.i64 0),AV.val (Value.int IntKind.i64 0)] 1 (bC o.w)=kC o:=by
 rw[Y8,vY]; rfl
end
noncomputable def boolT:TypeId:=match Tryz.prog.underlying xg with
 | some (.map _ e)=>e
 | _=>0
theorem ckM:Tryz.prog.underlying xg=some (.map pY boolT):=by kernel_rfl
theorem ckZ:zr Tryz.prog (zeroValue boolT)=some (.bool false):=by kernel_rfl
theorem afB {σ:Nat→Option ze} {K:AV→Option ze→Prop} {L:List Of} {o:Of} {c:Nat} (hs:σ 17=some (.map (qu (tm L)) c)) :
  uL Tryz.prog xg false σ [.mp 17,.agg (kC o)] K=K (bv (decide (∃ u∈L,pm u o))) none:=by
 have e:kC o=(jw o).map iv:=by unfold kC; rfl
 rw[e,ND Jr ckM ckZ hs UH SB,au]
 by_cases h:∃ u∈L,pm u o
 ·rw[if_pos h,decide_eq_true h]; rfl
 ·rw[if_neg h,decide_eq_false h]; rfl
theorem ahr {s:St} {KS:St→Prop} {L:List Of} {o:Of} (hs:lk s.sto 17=some (.map (qu (tm L)) (tm L).length)) (hn:¬ ∃ u∈L,pm u o) :
  tH Tryz.prog xg s none KS [.mp 17,.agg (kC o),.val (.bool true)]=KS {s with sto:=pt s.sto 17 (.map (qu (tm (L++[o]))) (tm (L++[o])).length)}:=by
 have e:kC o=(jw o).map iv:=by unfold kC; rfl
 have e2:lM (jw o) (.bool true) (tm L)=tm (L++[o]):=by
  rw[Yo (by rw[au,if_neg hn])]
  simp[tm]
 rw[e,NF Jr ckM hs UH SB rfl,e2]
 simp
section
variable {P:Pb} {r n:Nat} {o:Of} {L:List Of}
def SO (P:Pb) (k:Nat):St:={env:=[(3,.ptr 3 0),(5,.mp 17),(19,ofA P.of),(20,iv P.of.length),(21,iv k)],sto:=[(3,.var (pbC P)),(17,.map (qu (tm (P.of.take k))) (tm (P.of.take k)).length)]}
theorem YY (hn:P.cl.length≤1000) (hk:P.of.length≤1000000):zd Tryz.prog vD [.agg (pbC P)] (iv P.chk):=by
 refine zt S6 (by simp) ?_
 simp[er]
 refine za (acS (P:=P)) (by simp) (by simp) ?_
 unfold Pb.chk
 by_cases c1:P.frameE=0
 ·rw[if_pos c1]
  simp[c1]
  refine zq (SO P) (fun k=>P.chkL k=0) P.of.length (by simp[SO,tm,qu,ux]) rfl (fun k hk' hI=>?_) (fun hI=>?_)
  ·have e:(k:Int)<P.of.length:=by omega
   have hg:P.of[k]?=some P.of[k]:=by simp[hk']
   have w1:=zm (k:=k) (by omega)
   obtain ⟨o,ho⟩:∃ o,P.of[k]=o:=⟨_,rfl⟩
   rw[ho] at hg
   simp[qh,SO,e,hk',ho]
   refine za (adn (P:=P) (o:=o) hn) (by simp) (by simp) ?_
   by_cases d:P.offE o=0
   ·simp[d]
    rw[afB (L:=P.of.take k) (c:=(tm (P.of.take k)).length) (by simp)]
    by_cases d2:∃ u∈P.of.take k,pm u o
    ·have hi:P.offI k o=7:=by unfold Pb.offI; rw[if_neg (fun h=>h d),if_pos d2]
     rw[jR hI hg (by rw[hi]; decide) hk',hi]
     rw[decide_eq_true d2]
     simp[uS]
    ·have hi:P.offI k o=0:=by unfold Pb.offI; rw[if_neg (fun h=>h d),if_neg d2]
     have hx:=Qx hI hg hi
     rw[decide_eq_false d2]
     simp
     rw[ahr (L:=P.of.take k) (by simp) d2,← j4 hg]
     simp[w1,hx,SO]
   ·have hi:P.offI k o=P.offE o:=by unfold Pb.offI; rw[if_pos d]
    rw[jR hI hg (by rw[hi]; exact d) hk',hi]
    simp[d,uS]
  ·rw[hI]
   simp[qh,SO,kH,uS]
 ·rw[if_neg c1]
  simp[c1,uS]
end
end Go.Proofs.YtjeoklgggppjiaaGreat

namespace Go.Pb
def Pb.at (P:Pb) (i:Int):Of:=P.of.getD i.toNat ⟨0,fun _=>0,0⟩
def Pb.pick (P:Pb) (ch:List Int):List Of:=ch.map P.at
def prv (ch:List Int):Nat→Int
 | 0=>-1
 | k+1=>ch.getD k 0
def okI (n:Nat) (ch:List Int) (k:Nat):Prop:=prv ch k<ch.getD k 0∧ch.getD k 0<n
instance (n:Nat) (ch:List Int) (k:Nat):Decidable (okI n ch k):=inferInstanceAs (Decidable (prv ch k<ch.getD k 0∧ch.getD k 0<n))
def okP (n:Nat) (ch:List Int):Prop:=∀ k,k<ch.length→okI n ch k
instance (n:Nat) (ch:List Int):Decidable (okP n ch):=Nat.decidableBallLT ch.length fun k _=>okI n ch k
def Pb.feaE (P:Pb) (ch:List Int):Int:=if P.chk≠0 then P.chk else if ¬ okP P.of.length ch then 4 else if P.fits (P.pick ch) then 0 else 14
def Pb.valE (P:Pb) (ch:List Int):Int:=if okP P.of.length ch∧P.chk=0 then ((P.pick ch).map fun o=>o.v).sum else 0
section
variable {P:Pb} {n k:Nat} {ch:List Int}
theorem Sq (h:∀ q,q<k→okI n ch q):(k:Int)-1≤prv ch k:=by
 induction k with
 | zero=>simp[prv]
 | succ k ih =>
  have h1:=ih fun q hq=>h q (by omega)
  have h2:=(h k (by omega)).1
  simp only[prv]
  omega
theorem nX (h:okP n ch):ch.length≤n:=by
 cases e:ch.length with
 | zero=>omega
 | succ k =>
  have h1:=Sq (k:=k) (n:=n) (ch:=ch) fun q hq=>h q (by omega)
  have h2:=h k (by omega)
  unfold okI at h2
  omega
theorem Xc (h:∀ q,q<k→okI n ch q) (hk:okI n ch k):∃ b:Nat,ch.getD k 0=b∧b<n:=by
 have h1:=Sq h
 have h2:=hk
 unfold okI at h2
 exact ⟨(ch.getD k 0).toNat,by omega,by omega⟩
theorem lE (h:okP P.of.length ch):∀ o∈P.pick ch,o∈P.of:=fun o ho=>by
 obtain ⟨i,hi,rfl⟩:=List.mem_map.1 ho
 obtain ⟨k,hk,rfl⟩:=List.getElem_of_mem hi
 obtain ⟨b,hb,hbn⟩:=Xc (fun q hq=>h q (by omega)) (h k hk)
 have e:ch.getD k 0=ch[k]:=by rw[List.getD_eq_getElem?_getD,List.getElem?_eq_getElem hk]; rfl
 unfold Pb.at
 rw[← e,hb,Int.toNat_natCast,List.getD_eq_getElem?_getD,List.getElem?_eq_getElem hbn]
 exact List.getElem_mem hbn
theorem xU:(P.pick ch).length=ch.length:=by simp[Pb.pick]
end
end Go.Pb

namespace Go.Proofs.YtjeoklgggppjiaaGreat
open Go Go.Am Go.Pb
@[simp] theorem aiS:clR []=[]:=rfl
@[simp] theorem aja:ofR []=[]:=rfl
@[simp] theorem aig {tok sz:Nat}:apc tok sz []=dD:=rc rfl
section
variable {P:Pb} {r n:Nat} {o:Of} {L:List Of} {ch:List Int}
theorem getD_lt {l:List Int} {k:Nat} (h:k<l.length):l.getD k 0=l[k]:=by rw[List.getD_eq_getElem?_getD,List.getElem?_eq_getElem h]; rfl
theorem Gh {b:Nat} (h:b<P.of.length):P.at (b:Int)=P.of[b]:=by unfold Pb.at; rw[Int.toNat_natCast,List.getD_eq_getElem?_getD,List.getElem?_eq_getElem h]; rfl
theorem Yc {k:Nat} (h:k<ch.length):P.pick (ch.take (k+1))=P.pick (ch.take k)++[P.at ch[k]]:=by
 unfold Pb.pick
 rw[j4 (o:=ch[k]) (by simp[h]),List.map_append]
 rfl
theorem RI {L M:List Of}:ofR (L++M)=ofR L++ofR M:=by simp[ofR]
theorem ua {tok sz by_:Nat} {s:St} {KS:St→Prop} {rows:List (List AV)} {m:Am.Mode} {x:List AV} (h0:0<sz) (h1:s.base+tok=tok) (h2:(rows.length+1)*by_≤140737488355328) (h3:rows.length+1≤9223372036854775807) (h4:lk s.sto tok=none)
  (hK:KS ((s.dg tok).put (some tok) (apc tok sz (rows++[x])))):yM sz by_ s (some tok) KS [apc tok sz rows,.list sz m [x]]:=by
 have e:∀ r:List (List AV),apc tok sz r=wx sz tok r:=fun r=>by
  unfold apc wx
  by_cases h:r=[]
  ·subst h; simp
  ·simp[h]
 rw[e,ZO h0 h1]
 exact ⟨h2,h3,h4,by rw[← e]; exact hK⟩
theorem BC {tok sz by_:Nat} {s:St} {KS:St→Prop} {rows:List (List AV)} {x:List AV} (h0:0<sz) (h1:s.base+tok=tok) (h2:(rows.length+1)*by_≤140737488355328) (h3:rows.length+1≤9223372036854775807) (h4:lk s.sto tok=none)
  (hr:x.all rf=true) (hK:KS ((s.dg tok).put (some tok) (apc tok sz (rows++[x.map strip])))):yM sz by_ s (some tok) KS [apc tok sz rows,.lit sz [x]]:=by
 have h:=ua (m:=.plain) (x:=x.map strip) h0 h1 h2 h3 h4 hK
 have e:yn [x]=true:=by simp only[yn,List.all_cons,hr,List.all_nil,Bool.and_self]
 have e2:zN [x]=[x.map strip]:=rfl
 unfold apc at h ⊢
 split
 ·rename_i hc
  rw[if_pos hc] at h
  obtain ⟨_,h⟩:=h
  exact ⟨rfl,e,h⟩
 ·rename_i hc
  rw[if_neg hc] at h
  obtain ⟨_,h⟩:=h
  exact ⟨rfl,e,h⟩
end
end Go.Proofs.YtjeoklgggppjiaaGreat

namespace Go.Pb
def okX (fx:List Int) (i:Nat):Prop:=fx.getD i 9=-1∨fx.getD i 9=0∨fx.getD i 9=1
instance (fx:List Int) (i:Nat):Decidable (okX fx i):=inferInstanceAs (Decidable (_∨_∨_))
def okF (fx:List Int):Prop:=∀ i,i<fx.length→okX fx i
instance (fx:List Int):Decidable (okF fx):=Nat.decidableBallLT fx.length fun i _=>okX fx i
section
variable {P:Pb} {fx:List Int} {v:Int} {k i:Nat}
theorem gu (h:i<P.of.length):P.at (i:Int)=P.of[i]:=by
 unfold Pb.at; rw[Int.toNat_natCast,List.getD_eq_getElem?_getD,List.getElem?_eq_getElem h]; rfl
theorem at_mem (h:i<P.of.length):P.at (i:Int)∈P.of:=by rw[gu h]; exact List.getElem_mem h
end
end Go.Pb

namespace Go.Proofs.YtjeoklgggppjiaaGreat
open Go Go.Am Go.Pb
section
variable {P:Pb} {r n k:Nat} {o:Of} {L:List Of} {fx:List Int}
@[simp] theorem agz:zD ((oC o).drop 7) 0 none=some (iv o.v):=by rw[sE]; rfl
@[simp] theorem ah8 {q:Rat} {a b c d:AV}:splice [a,b,c,d] 1 (fr q)=a::fr q:=by unfold fr; simp[splice,-qT]
@[simp] theorem ah7 {q:Rat} {x a b c d:AV}:splice [a,b,c,d] 0 (x::fr q)=x::fr q:=by unfold fr; simp[splice,-qT]
@[simp] theorem ah9 {q:Rat} {x y:AV}:splice (x::fr q) 0 [y]=y::fr q:=by unfold fr; simp[splice,-qT]
@[simp] theorem ahV {q:Rat} {x:AV} (h:rf x=true):zD (x::fr q) 0 (some 4)=some (.agg (strip x::fr q)):=by
 rw[vd (by simp) (by rw[List.all_cons,h,GI]; rfl),List.map_cons,Uw]
@[simp] theorem ahP {x:AV} {l:List AV}:zD (x::l) 0 none=some x:=rfl
@[simp] theorem ahQ {x y:AV} {l:List AV}:zD (x::y::l) 1 none=some y:=rfl
end
def R9 (w:Nat→Int) (k:Nat):St:={env:=[(1,.ptr 1 0),(3,iv k)],sto:=[(1,.var (bC w))]}
theorem MI {w:Nat→Int}:zd Tryz.prog pW [.agg (bC w)] (bv (decide (okB w))):=by
 refine zt PA (by simp) ?_
 simp[aY]
 refine zq (R9 w) (fun i=>∀ j,j<i→0≤w j∧w j≤4) 6 (by simp[R9]) (fun j hj=>by omega) (fun i hi hI=>?_) (fun hI=>?_)
 ·have e:(i:Int)<6:=by omega
  have w1:=zm (k:=i) (by omega)
  by_cases c1:w i<0
  ·have hf:¬ okB w:=fun h=>by have:=h i hi; omega
   simp[uu,R9,e,ZW hi,c1,hf,p9]
  ·by_cases c2:4<w i
   ·have hf:¬ okB w:=fun h=>by have:=h i hi; omega
    simp[uu,R9,e,ZW hi,c1,c2,hf,p9]
   ·simp[uu,R9,e,ZW hi,c1,c2,w1]
    exact fun j hj=>by
     by_cases e:j=i
     ·subst e; omega
     ·exact hI j (by omega)
 ·have hf:okB w:=hI
  simp[uu,R9,hf,gO,p9]
section
variable {P:Pb} {r n:Nat} {o:Of}
theorem Xk (hn:P.cl.length≤1000) (hb:0≤o.b) (hr:r<P.rows):∃ c,(o.b<P.cl.length→c=P.coef r o)∧zd Tryz.prog tv [.agg (pbC P),iv r,.agg (oC o)] (.tuple [iv c,iv (P.bnd r)]):=by
 unfold Pb.rows at hr
 unfold Pb.coef Pb.bnd
 obtain ⟨n,hn'⟩:∃ n,P.cl.length=n:=⟨_,rfl⟩
 rw[hn'] at hr hn ⊢
 by_cases h1:r<n
 ·refine ⟨if o.b=r then 1 else 0,fun _=>by rw[if_pos h1],?_⟩
  refine zt t0 (by simp) ?_
  rw[if_pos h1]
  by_cases h2:o.b=r
  ·rw[if_pos h2]
   simp[vo,hn',h1,h2,vu]
  ·rw[if_neg h2]
   simp[vo,hn',h1,h2,vu]
 ·have w0:IntKind.i64.wrap ((n:Int)+6)=(n:Int)+6:=by rw[wrap64]<;>omega
  obtain ⟨k,hk⟩:∃ k,r=n+k:=⟨r-n,by omega⟩
  have e0:(r:Int)-n=k:=by omega
  have e2:r-n=k:=by omega
  have w1:IntKind.i64.wrap (k:Int)=k:=by rw[wrap64]<;>omega
  rw[if_neg h1,if_neg h1,e2]
  have c1:¬ (r:Int)<n:=by omega
  by_cases h2:k<6
  ·have c2:(r:Int)<(n:Int)+6:=by omega
   have h2':(k:Int)<6:=by omega
   refine ⟨o.w k,fun _=>by rw[if_pos (by omega)],?_⟩
   rw[if_pos (by omega)]
   refine zt t0 (by simp) ?_
   simp[vo,hn',w0,c1,c2,e0,w1,h2',bN h2,wy h2,vu]
  ·obtain ⟨j,hj0⟩:∃ j,k=6+j:=⟨k-6,by omega⟩
   have hj:j<6:=by omega
   have hj':(j:Int)<6:=by omega
   have c2:¬ (r:Int)<(n:Int)+6:=by omega
   have e3:(k:Int)-6=j:=by omega
   have w2:IntKind.i64.wrap (j:Int)=j:=by rw[wrap64]<;>omega
   have hr6:¬ r<n+6:=by omega
   rw[if_neg hr6,if_neg hr6,show k-6=j by omega]
   by_cases h3:P.cls j=0
   ·refine ⟨0,fun _=>by rw[if_pos (.inl h3)],?_⟩
    refine zt t0 (by simp) ?_
    simp[vo,hn',w0,c1,c2,e0,w1,e3,w2,hj',yf hj,ym hj,h3,vu]
   ·by_cases h5:o.b<n
    ·obtain ⟨b,hb1,hb2,hb3⟩:=Np (P:=P) (o:=o) (by rw[hn']; exact ⟨hb,h5⟩)
     have hbn:(b:Int)<n:=by omega
     have hbn':b<n:=by omega
     have hc:P.cl[b]?=some (P.clOf (b:Int)):=by rw[← hb1]; exact hb3
     have hE:P.cl[b]=P.clOf (b:Int):=by rw[List.getElem?_eq_getElem hb2] at hc; exact Option.some.inj hc
     rw[hb1]
     by_cases h4:P.cls j=P.clOf (b:Int)
     ·refine ⟨0,fun _=>by rw[if_pos (.inr h4)],?_⟩
      rw[h4] at h3
      refine zt t0 (by simp) ?_
      simp[vo,hn',w0,c1,c2,e0,w1,e3,w2,hj',yf hj,ym hj,h3,hb1,hbn,hbn',hE,h4,vu]
     ·refine ⟨o.w j,fun _=>by rw[if_neg (fun h=>h.elim h3 h4)],?_⟩
      refine zt t0 (by simp) ?_
      simp[vo,hn',w0,c1,c2,e0,w1,e3,w2,hj',yf hj,ym hj,bN hj,h3,hb1,hbn,hbn',hE,h4,vu]
    ·refine ⟨0,fun h=>absurd h h5,?_⟩
     refine zt t0 (by simp) ?_
     simp[vo,hn',w0,c1,c2,e0,w1,e3,w2,hj',yf hj,ym hj,h3,h5,vu]
end
def oZ:Of:=⟨0,fun _=>0,0⟩
theorem JC:[iv 0,iv 0,iv 0,iv 0,iv 0,iv 0,iv 0,iv 0]=oC oZ:=by rw[sE]; rfl
def Lb (P:Pb) (L:List Of) (r:Nat):St:={env:=[(1,ofA L),(2,.ptr 2 0),(5,iv r)],sto:=[(2,.var (pbC P))]}
def R5 (P:Pb) (L:List Of) (r k:Nat):St:={env:=[(1,ofA L),(2,.ptr 2 0),(5,iv r),(6,iv (vq (P.coef r) L k)),(7,iv k)],sto:=[(2,.var (pbC P))]}
section
variable {P:Pb} {r n:Nat} {o:Of} {L:List Of}
theorem JZ (hn:P.cl.length≤1000) (hL:L.length≤1000) (hb:∀ o∈L,0≤o.b∧o.b<P.cl.length) (hw:∀ o∈L,okB o.w):zd Tryz.prog mh [.agg (pbC P),ofA L] (bv (decide (P.fits L))):=by
 have hR:P.rows≤1012:=by unfold Pb.rows; omega
 have hRi:((P.rows:Nat):Int)=(P.cl.length:Int)+12:=by unfold Pb.rows; omega
 have w0:IntKind.i64.wrap ((P.cl.length:Int)+12)=(P.cl.length:Int)+12:=by rw[wrap64]<;>omega
 refine zt Lq (by simp) ?_
 simp[ZJ]
 refine zq (Lb P L) (fun r=>∀ q,q<r→(L.map (P.coef q)).sum≤P.bnd q) P.rows (by simp[Lb]) (fun q hq=>by omega) (fun r hr hI=>?_) (fun hI=>?_)
 ·have e:(r:Int)<(P.cl.length:Int)+12:=by omega
  have w1:=zm (k:=r) (by omega)
  simp[mv,Lb,e,w0]
  refine zq (R5 P L r) (fun _=>True) L.length (by simp[R5,eU]) trivial (fun k hk _=>?_) (fun _=>?_)
  ·have e':(k:Int)<L.length:=by omega
   have hg:L[k]?=some L[k]:=by simp[hk]
   have hm:L[k]∈L:=List.getElem_mem hk
   have w2:=zm (k:=k) (by omega)
   obtain ⟨p1,p2⟩:=pe (f:=P.coef r) (fun o ho=>tF (P:=P) (hw o ho) hr) k (by omega)
   obtain ⟨p3,p4⟩:=tF (P:=P) (hw _ hm) hr
   have w3:IntKind.i64.wrap (vq (P.coef r) L k+P.coef r L[k])=vq (P.coef r) L k+P.coef r L[k]:=by rw[wrap64]<;>omega
   have hs:=kZ (f:=P.coef r) hg
   obtain ⟨c,hc,hk'⟩:=Xk (P:=P) (o:=L[k]) hn (hb _ hm).1 hr
   have hc:=hc (hb _ hm).2
   subst hc
   simp[rJ,R5,e',hk]
   refine za hk' (by simp) (by simp) ?_
   simp[w2,w3,hs,R5]
  ·have hall:vq (P.coef r) L L.length=(L.map (P.coef r)).sum:=fp
   obtain ⟨z,hz,hz0⟩:∃ z:Of,[iv 0,iv 0,iv 0,iv 0,iv 0,iv 0,iv 0,iv 0]=oC z∧0≤z.b:=⟨oZ,JC,Int.le_refl 0⟩
   obtain ⟨c,_,hk'⟩:=Xk (P:=P) (o:=z) hn hz0 hr
   have key:∀ K:Exit→St→Prop,K (.exit 2) {env:=[(1,ofA L),(2,.ptr 2 0),(5,iv r),(6,iv (vq (P.coef r) L L.length)),(7,iv L.length),(23,bv false)],sto:=[(2,.var (pbC P))]}→awp Tryz.prog rJ (R5 P L r L.length) (qZ K):=by
    intro K h
    simp[rJ,R5]
    exact h
   refine key _ ?_
   simp[ew,hz]
   refine za hk' (by simp) (by simp) ?_
   by_cases hc:P.bnd r<(L.map (P.coef r)).sum
   ·have hf:¬ P.fits L:=fun h=>by have:=h r hr; omega
    simp[hall,hc,hf,fC]
   ·simp[hall,hc,ey,w1,Lb]
    exact fun q hq=>by
     by_cases eq:q=r
     ·subst eq; omega
     ·exact hI q (by omega)
 ·have hf:P.fits L:=hI
  have e:¬ ((P.rows:Nat):Int)<(P.cl.length:Int)+12:=by omega
  simp[mv,Lb,w0,e,hf,ez,fC]
end
@[simp] theorem agU {u:Of}:zD (oC u).tail 0 (some 6)=some (.agg (bC u.w)):=by rw[sE,vY]; rfl
section
variable {P:Pb} {r n:Nat} {o:Of} {L:List Of}
def mU (P:Pb) (k:Nat):St:={env:=[(1,.ptr 1 0),(3,iv k)],sto:=[(1,.var (pbC P))]}
def aD (P:Pb) (k:Nat):St:={env:=[(1,.ptr 1 0),(4,iv k)],sto:=[(1,.var (pbC P))]}
def ku (P:Pb) (k:Nat):St:={env:=[(1,.ptr 1 0),(5,iv k)],sto:=[(1,.var (pbC P))]}
def aE (P:Pb) (o:Of) (k j:Nat):St:={env:=[(1,.ptr 1 0),(5,iv k),(6,.ptr 6 0),(7,iv j)],sto:=[(1,.var (pbC P)),(6,.var (oC o))]}
theorem JD {i:Nat} (h:P.offE o≠0):P.offI i o=P.offE o:=by unfold Pb.offI; rw[if_pos h]
theorem Sl (h:o.b<0∨(P.cl.length:Int)≤o.b):P.offE o=6:=by
 have:ru P.cl.length o=6:=by unfold ru; rw[if_pos h]
 unfold Pb.offE; rw[this]; rfl
theorem Sm (hb:¬ (o.b<0∨(P.cl.length:Int)≤o.b)) (h:o.v<1∨1000000<o.v):P.offE o=4:=by
 have:ru P.cl.length o=4:=by unfold ru; rw[if_neg hb,if_pos h]
 unfold Pb.offE; rw[this]; rfl
theorem DP (hb:¬ (o.b<0∨(P.cl.length:Int)≤o.b)) (hv:¬ (o.v<1∨1000000<o.v)) (h:¬ okB o.w):P.offE o=4:=by
 have:ru P.cl.length o=4:=by unfold ru; rw[if_neg hb,if_neg hv,if_neg h]
 unfold Pb.offE; rw[this]; rfl
theorem afi (hb:¬ (o.b<0∨(n:Int)≤o.b)) (hv:¬ (o.v<1∨1000000<o.v)) (h:okB o.w):ru n o=0:=by unfold ru; rw[if_neg hb,if_neg hv,if_pos h]
theorem DQ (hf:ru P.cl.length o=0) (h:kw o.w):P.offE o=4:=by unfold Pb.offE; rw[if_neg (fun h=>h hf),if_pos h]
theorem DO (hf:ru P.cl.length o=0) (hz:¬ kw o.w):P.offE o=if P.fits [o] then 0 else 14:=by unfold Pb.offE; rw[if_neg (fun h=>h hf),if_neg hz]
theorem qx (hn:P.cl.length≤1000) (hk:P.of.length≤1000000):zd Tryz.prog vN [.agg (pbC P)] (iv P.chk):=by
 have hkd:kds Tryz.prog Op.maxDepth wB=some (List.replicate 6 (.i .i64)):=by kernel_rfl
 have hg:Tryz.prog.eqGuardType Tryz.prog.depth wB=false:=by kernel_rfl
 have hA:agT Tryz.prog wB=true:=by kernel_rfl
 refine zt PB (by simp) ?_
 simp[aZ]
 refine za (MI (w:=P.sup)) (by simp) (by simp) ?_
 unfold Pb.chk
 by_cases c1:okB P.sup
 ·simp[c1]
  refine zq (mU P) (fun r=>∀ q,q<r→P.okC q) 6 (by simp[mU]) (fun q hq=>by omega) (fun k hk hI=>?_) (fun hI=>?_)
  ·have e:(k:Int)<6:=by omega
   have w1:=zm (k:=k) (by omega)
   by_cases d:P.okC k
   ·have d':=d
    unfold Pb.okC at d'
    obtain ⟨d1,d2,d3,d4,d5⟩:=d'
    have b1:¬ P.cls k<0:=by omega
    have b2:¬ 4<P.cls k:=by omega
    have b3:¬ P.opn k<0:=by omega
    have b4:¬ P.sup k<P.opn k:=by omega
    have hx:∀ q,q<k+1→P.okC q:=fun q hq=>by
     by_cases eq:q=k
     ·subst eq; exact d
     ·exact hI q (by omega)
    by_cases b5:P.cls k=0
    ·have b6:=d5 b5
     rw[b5] at b1 b2
     rw[b6] at b3 b4
     simp[yC,mU,e,ym hk,yf hk,wy hk,b3,b5,b6,w1]
     exact hx
    ·simp[yC,mU,e,ym hk,yf hk,wy hk,b1,b2,b3,b4,b5,w1]
     exact hx
   ·have hF:P.frameE=4:=by unfold Pb.frameE; rw[if_neg (fun h=>h c1),if_pos (show ¬ P.okCs from fun h=>d (h k hk))]
    rw[hF]
    by_cases b1:P.cls k<0
    ·simp[yC,mU,e,yf hk,b1,z4]
    ·by_cases b2:4<P.cls k
     ·simp[yC,mU,e,yf hk,b1,b2,z4]
     ·by_cases b3:P.opn k<0
      ·simp[yC,mU,e,ym hk,yf hk,b1,b2,b3,z4]
      ·by_cases b4:P.sup k<P.opn k
       ·simp[yC,mU,e,ym hk,yf hk,wy hk,b1,b2,b3,b4,z4]
       ·have b5:P.cls k=0∧¬ P.opn k=P.sup k:=by
         unfold Pb.okC at d
         by_cases b5:P.cls k=0
         ·exact ⟨b5,fun h=>d ⟨by omega,by omega,by omega,by omega,fun _=>h⟩⟩
         ·exact absurd (⟨by omega,by omega,by omega,by omega,fun h=>absurd h b5⟩) d
        simp[yC,mU,e,ym hk,yf hk,wy hk,b3,b4,b5,z4]
  ·have hs:P.okCs:=hI
   have key:∀ K:Exit→St→Prop,K (.exit 0) {env:=[(1,.ptr 1 0),(3,iv (6:Nat)),(13,bv false)],sto:=[(1,.var (pbC P))]}→awp Tryz.prog yC (mU P 6) (qZ K):=by
    intro K h
    simp[yC,mU]
    exact h
   refine key _ ?_
   by_cases f1:8<P.cl.length
   ·have f1':(8:Int)<P.cl.length:=by omega
    have hF:P.frameE=3:=by unfold Pb.frameE; rw[if_neg (fun h=>h c1),if_neg (fun h=>h hs),if_pos (.inl f1)]
    simp[sm,f1',hF,z4]
   ·have f1':¬ (8:Int)<P.cl.length:=by omega
    by_cases f2:160<P.of.length
    ·have f2':(160:Int)<P.of.length:=by omega
     have hF:P.frameE=3:=by unfold Pb.frameE; rw[if_neg (fun h=>h c1),if_neg (fun h=>h hs),if_pos (.inr f2)]
     simp[sm,f1',f2',hF,z4]
    ·have f2':¬ (160:Int)<P.of.length:=by omega
     simp[sm,f1',f2']
     refine zq (aD P) (fun r=>∀ q,q<r→(hq:q<P.cl.length)→mI P.cl[q]) P.cl.length (by simp[aD]) (fun q hq=>by omega) (fun k hk hI=>?_) (fun hI=>?_)
     ·have e:(k:Int)<P.cl.length:=by omega
      have w1:=zm (k:=k) (by omega)
      by_cases d:mI P.cl[k]
      ·have d':=d
       unfold mI at d'
       have b1:¬ P.cl[k]<0:=by omega
       have b2:¬ 4<P.cl[k]:=by omega
       simp[wY,aD,e,hk,b1,b2,w1]
       exact fun q hq hl=>by
        by_cases eq:q=k
        ·subst eq; exact d
        ·exact hI q (by omega) hl
      ·have hF:P.frameE=4:=by unfold Pb.frameE; rw[if_neg (fun h=>h c1),if_neg (fun h=>h hs),if_neg (by omega),if_neg (fun h=>d (h _ (List.getElem_mem hk)))]
       rw[hF]
       unfold mI at d
       by_cases b1:P.cl[k]<0
       ·simp[wY,aD,e,hk,b1,z4]
       ·have b2:4<P.cl[k]:=by omega
        simp[wY,aD,e,hk,b1,b2,z4]
     ·have hc:=frC P fun i hi=>hI i hi hi
      have hF:P.frameE=0:=by unfold Pb.frameE; rw[if_neg (fun h=>h c1),if_neg (fun h=>h hs),if_neg (by omega),if_pos hc]
      rw[if_pos hF]
      have key:∀ K:Exit→St→Prop,K (.exit 2) {env:=[(1,.ptr 1 0),(4,iv P.cl.length),(78,bv false)],sto:=[(1,.var (pbC P))]}→awp Tryz.prog wY (aD P P.cl.length) (qZ K):=by
       intro K h
       simp[wY,aD]
       exact h
      refine key _ ?_
      simp[gR]
      refine zq (ku P) (fun k=>P.chkL k=0) P.of.length (by simp[ku]) rfl (fun k hk' hI=>?_) (fun hI=>?_)
      ·have e:(k:Int)<P.of.length:=by omega
       have hgk:P.of[k]?=some P.of[k]:=by simp[hk']
       have w1:=zm (k:=k) (by omega)
       obtain ⟨o,ho⟩:∃ o,P.of[k]=o:=⟨_,rfl⟩
       rw[ho] at hgk
       have fin:P.offE o≠0→P.chkL P.of.length=P.offE o:=fun h=>by
        rw[jR hI hgk (by rw[JD h]; exact h) hk',JD h]
       by_cases b1:o.b<0
       ·rw[fin (by rw[Sl (.inl b1)]; decide),Sl (.inl b1)]
        simp[xG,ku,e,hk',ho,b1,z4]
       ·by_cases b2:(P.cl.length:Int)≤o.b
        ·rw[fin (by rw[Sl (.inr b2)]; decide),Sl (.inr b2)]
         simp[xG,ku,e,hk',ho,b1,b2,z4]
        ·have hb:¬ (o.b<0∨(P.cl.length:Int)≤o.b):=by omega
         by_cases b3:o.v<1
         ·rw[fin (by rw[Sm hb (.inl b3)]; decide),Sm hb (.inl b3)]
          simp[xG,ku,e,hk',ho,b1,b2,b3,z4]
         ·by_cases b4:1000000<o.v
          ·rw[fin (by rw[Sm hb (.inr b4)]; decide),Sm hb (.inr b4)]
           simp[xG,ku,e,hk',ho,b1,b2,b3,b4,z4]
          ·have hv:¬ (o.v<1∨1000000<o.v):=by omega
           simp[xG,ku,e,hk',ho,b1,b2,b3,b4]
           refine za (MI (w:=o.w)) (by simp) (by simp) ?_
           by_cases b5:okB o.w
           ·have hf:=afi (n:=P.cl.length) hb hv b5
            have hz:decide (bI o.w=bI (fun _=>0))=decide (kw o.w):=by
             rw[decide_eq_decide,PH]
             exact Iff.rfl
            simp[b5,KH]
            rw[sV hkd hg hA nV nV]
            by_cases b6:kw o.w
            ·rw[fin (by rw[DQ hf b6]; decide),DQ hf b6]
             simp[hz,b6,z4]
            ·simp[hz,b6]
             have hfs:=JZ (P:=P) (L:=[o]) hn (by simp) (fun x hx=>by rw[List.mem_singleton.1 hx]; omega) (fun x hx=>by rw[List.mem_singleton.1 hx]; exact b5)
             refine za (Dj hfs (wk (rows:=[oC o]))) (by simp) (by simp) ?_
             by_cases b7:P.fits [o]
             ·have hE:P.offE o=0:=by rw[DO hf b6,if_pos b7]
              simp[b7]
              refine zq (aE P o k) (fun j=>∀ (q:Nat) u,q<j→P.of[q]?=some u→¬ pm u o) k (by simp[aE]) (fun q u hq=>by omega) (fun j hj hJ=>?_) (fun hJ=>?_)
              ·have ej:(j:Int)<k:=by omega
               have hj2:j<P.of.length:=by omega
               have ej2:(j:Int)<P.of.length:=by omega
               have w2:=zm (k:=j) (by omega)
               obtain ⟨u,hu⟩:∃ u,P.of[j]=u:=⟨_,rfl⟩
               have hgj:P.of[j]?=some u:=by simp[hj2,hu]
               have hzu:decide (bI u.w=bI o.w)=decide (eqB u.w o.w):=by rw[decide_eq_decide,PH]
               by_cases d1:u.b=o.b
               ·simp[uw,aE,ej,ej2,hj2,hu,d1]
                rw[sV hkd hg hA nV nV]
                by_cases d2:eqB u.w o.w
                ·have hi:P.offI k o=7:=by
                  unfold Pb.offI
                  rw[if_neg (fun h=>h hE),if_pos ⟨u,List.mem_of_getElem? (i:=j) (by rw[List.getElem?_take,if_pos hj]; exact hgj),d1,d2⟩]
                 rw[jR hI hgk (by rw[hi]; decide) hk',hi]
                 simp[hzu,d2,z4]
                ·simp[hzu,d2,w2,aE]
                 intro q x hq hx
                 by_cases eq:q=j
                 ·subst eq
                  rw[hgj] at hx
                  rw[← Option.some.inj hx]
                  exact fun h=>d2 h.2
                 ·exact hJ q x (by omega) hx
               ·simp[uw,aE,ej,ej2,hj2,hu,d1,w2]
                intro q x hq hx
                by_cases eq:q=j
                ·subst eq
                 rw[hgj] at hx
                 rw[← Option.some.inj hx]
                 exact fun h=>d1 h.1
                ·exact hJ q x (by omega) hx
              ·have hi:P.offI k o=0:=by
                unfold Pb.offI
                rw[if_neg (fun h=>h hE),if_neg]
                rintro ⟨u,hu,hs'⟩
                obtain ⟨q,hq⟩:=List.mem_iff_getElem?.1 hu
                rw[List.getElem?_take] at hq
                split at hq
                ·rename_i hqk; exact hJ q u hqk hq hs'
                ·cases hq
               have hx:=Qx hI hgk hi
               have key:∀ K:Exit→St→Prop,K (.exit 6) {env:=[(1,.ptr 1 0),(5,iv k),(6,.ptr 6 0),(7,iv k),(145,bv false)],sto:=[(1,.var (pbC P)),(6,.var (oC o))]}→awp Tryz.prog uw (aE P o k k) (qZ K):=by
                intro K h
                simp[uw,aE]
                exact h
               refine key _ ?_
               simp[gP,w1,hx,ku]
             ·have hE:P.offE o=14:=by rw[DO hf b6,if_neg b7]
              rw[fin (by rw[hE]; decide),hE]
              simp[b7,z4]
           ·rw[fin (by rw[DP hb hv b5]; decide),DP hb hv b5]
            simp[b5,z4]
      ·rw[hI]
       have key:∀ K:Exit→St→Prop,K (.exit 4) {env:=[(1,.ptr 1 0),(5,iv P.of.length),(99,bv false)],sto:=[(1,.var (pbC P))]}→awp Tryz.prog xG (ku P P.of.length) (qZ K):=by
        intro K h
        simp[xG,ku]
        exact h
       refine key _ ?_
       simp[gQ,z4]
 ·have hF:P.frameE=4:=by unfold Pb.frameE; rw[if_pos c1]
  simp[c1,hF,z4]
end
end Go.Proofs.YtjeoklgggppjiaaGreat

namespace Go.Pb
open Go.LP
def Pb.cof (P:Pb) (r i:Nat):Rat:=((P.coef r (P.at (i:Int)):Int):Rat)
def Pb.vQ (P:Pb) (i:Nat):Rat:=(((P.at (i:Int)).v:Int):Rat)
structure Pb.Sol (P:Pb) (fx:List Int) (x:Nat→Rat):Prop where
 x0:∀ i,i<fx.length→0≤x i
 one:∀ i,i<fx.length→fx.getD i 9=1→x i=1
 out:∀ i,i<fx.length→fx.getD i 9≠1→fx.getD i 9≠0→x i=0
 row:∀ r,r<P.rows→zh fx.length (fun i=>P.cof r i*x i)≤((P.bnd r:Int):Rat)
def Pb.val (P:Pb) (n:Nat) (x:Nat→Rat):Rat:=zh n fun i=>P.vQ i*x i
end Go.Pb

namespace Go.Proofs.YtjeoklgggppjiaaGreat
open Go Go.Am Go.Pb
def xf (P:Pb):Nat:=if P.chk=0 then P.rows else 0
def th (P:Pb) (r:Nat):List Int:=P.of.map (P.coef r)
section
variable {P:Pb} {r n:Nat} {o:Of} {L:List Of}
theorem J3 (hn:P.cl.length≤1000) (hk:P.of.length≤1000000):zd Tryz.prog qK [.agg (pbC P)] (iv (xf P)):=by
 refine zt Qf (by simp) ?_
 simp[d7]
 refine za (YY hn hk) (by simp) (by simp) ?_
 unfold xf
 by_cases c1:P.chk=0
 ·simp[c1]
  refine za (Ct hn) (by simp) (by simp) ?_
  simp[lH]
 ·simp[c1,lH]
theorem J4 (hn:P.cl.length≤1000) (hk:P.of.length≤1000000):zd Tryz.prog mf [.agg (pbC P)] (iv (xf P)):=by
 refine zt Lp (by simp) ?_
 simp[ZI]
 refine za (qx hn hk) (by simp) (by simp) ?_
 unfold xf
 by_cases c1:P.chk=0
 ·have w1:IntKind.i64.wrap ((P.cl.length:Int)+12)=(P.cl.length:Int)+12:=by rw[wrap64]<;>omega
  have e:((P.rows:Nat):Int)=(P.cl.length:Int)+12:=by unfold Pb.rows; omega
  simp[c1,w1,e,fB]
 ·simp[c1,fB]
noncomputable def Lc (P:Pb) (r:Int) (q k:Nat):St:={env:=[(1,iv r),(4,apc 32 1 (clR ((th P q).take k))),(6,.ptr 6 0),(20,ofA P.of),(21,iv P.of.length),(22,iv k)],sto:=[(6,.var (pbC P))]}
noncomputable def R6 (P:Pb) (r:Int) (q k:Nat):St:={env:=[(1,iv r),(2,.ptr 2 0),(6,apc 41 1 (clR ((th P q).take k))),(7,iv k)],sto:=[(2,.var (pbC P))]}
@[simp] theorem fD:(th P r).length=P.of.length:=by simp[th]
theorem Q0 {k:Nat} (h:k<P.of.length):clR ((th P r).take k)++[[iv (P.coef r P.of[k])]]=clR ((th P r).take (k+1)):=by
 rw[j4 (l:=th P r) (o:=P.coef r P.of[k]) (by simp[th,h])]
 simp[clR]
theorem MG {k:Nat} (h:P.of.length≤k):(th P r).take k=th P r:=List.take_of_length_le (by rw[fD]; exact h)
def Ym (P:Pb) (r:Int):AV:=.tuple [if 0≤r∧r<xf P then clA (th P r.toNat) else dD,iv (if 0≤r∧r<xf P then P.bnd r.toNat else 0)]
theorem ab1 {r:Int} (hn:P.cl.length≤1000) (hk:P.of.length≤1000000):zd Tryz.prog pV [.agg (pbC P),iv r] (Ym P r):=by
 refine wN Pz (by simp) ?_
 unfold Ym
 by_cases b1:r<0
 ·have hc:¬ (0≤r∧r<xf P):=by omega
  simp[jq,b1,hc,p8]
  exact AV.imp.refl
 ·simp[jq,b1]
  refine za (J3 hn hk) (by simp) (by simp) ?_
  by_cases b2:(xf P:Int)≤r
  ·have hc:¬ (0≤r∧r<xf P):=by omega
   simp[b2,hc,p8]
   exact AV.imp.refl
  ·have hc:0≤r∧r<xf P:=by omega
   obtain ⟨q,rfl⟩:∃ q:Nat,r=q:=⟨r.toNat,by omega⟩
   have hG:P.Good:=by
    refine xS ?_
    unfold xf at hc
    split at hc
    ·assumption
    ·omega
   have hq:q<P.rows:=by
    unfold xf at hc
    split at hc<;>omega
   simp[b2,hc]
   refine zq (Lc P q q) (fun _=>True) P.of.length (by simp[Lc]) trivial (fun k hk' _=>?_) (fun _=>?_)
   ·have e:(k:Int)<P.of.length:=by omega
    have w1:=zm (k:=k) (by omega)
    have hm:P.of[k]∈P.of:=List.getElem_mem hk'
    have hs:=xI (y7 (hG.off _ hm)).1
    simp[nk,Lc,e,hk']
    refine za (EJ (P:=P) (r:=q) hn hs.1 hq) (by simp) (by simp) ?_
    simp
    refine ua (by decide) rfl ?_ ?_ (by simp) ?_
    ·simp only[uK,fD,List.length_take]; omega
    ·simp only[uK,fD,List.length_take]; omega
    ·rw[Q0 hk']
     simp[w1,Lc]
   ·simp[nk,Lc,gJ,MG]
    refine za (KI (P:=P) (r:=q) hn hq) (by simp) (by simp) ?_
    simp[p8]
    exact AV.imp_tuple2 (cx kW)
theorem Cu {r:Int} (hn:P.cl.length≤1000) (hk:P.of.length≤1000000):zd Tryz.prog s9 [.agg (pbC P),iv r] (Ym P r):=by
 refine wN KA (by simp) ?_
 unfold Ym
 by_cases b1:r<0
 ·have hc:¬ (0≤r∧r<xf P):=by omega
  simp[dy,b1,hc,ki]
  exact AV.imp.refl
 ·simp[dy,b1]
  refine za (J4 hn hk) (by simp) (by simp) ?_
  by_cases b2:(xf P:Int)≤r
  ·have hc:¬ (0≤r∧r<xf P):=by omega
   simp[b2,hc,ki]
   exact AV.imp.refl
  ·have hc:0≤r∧r<xf P:=by omega
   obtain ⟨q,rfl⟩:∃ q:Nat,r=q:=⟨r.toNat,by omega⟩
   have hG:P.Good:=by
    refine xS ?_
    unfold xf at hc
    split at hc
    ·assumption
    ·omega
   have hq:q<P.rows:=by
    unfold xf at hc
    split at hc<;>omega
   simp[b2,hc]
   refine zq (R6 P q q) (fun _=>True) P.of.length (by simp[R6]) trivial (fun k hk' _=>?_) (fun _=>?_)
   ·have e:(k:Int)<P.of.length:=by omega
    have w1:=zm (k:=k) (by omega)
    have hm:P.of[k]∈P.of:=List.getElem_mem hk'
    have hs:=xI (y7 (hG.off _ hm)).1
    obtain ⟨c,hc1,hk1⟩:=Xk (P:=P) (o:=P.of[k]) hn hs.1.1 hq
    have hc1:=hc1 hs.1.2
    subst hc1
    simp[qQ,R6,e,hk']
    refine za hk1 (by simp) (by simp) ?_
    simp
    refine ua (by decide) rfl ?_ ?_ (by simp) ?_
    ·simp only[uK,fD,List.length_take]; omega
    ·simp only[uK,fD,List.length_take]; omega
    ·rw[Q0 hk']
     simp[w1,R6]
   ·obtain ⟨z,hz,hz0⟩:∃ z:Of,[iv 0,iv 0,iv 0,iv 0,iv 0,iv 0,iv 0,iv 0]=oC z∧0≤z.b:=⟨oZ,JC,Int.le_refl 0⟩
    obtain ⟨c,_,hk1⟩:=Xk (P:=P) (o:=z) hn hz0 hq
    have key:∀ K:Exit→St→Prop,K (.exit 0) {env:=[(1,iv q),(2,.ptr 2 0),(6,apc 41 1 (clR (th P q))),(7,iv P.of.length),(24,bv false)],sto:=[(2,.var (pbC P))]}→awp Tryz.prog qQ (R6 P q q P.of.length) (qZ K):=by
     intro K h
     simp[qQ,R6,MG]
     exact h
    refine key _ ?_
    simp[d8,hz]
    refine za hk1 (by simp) (by simp) ?_
    simp[ki]
    exact AV.imp_tuple2 (cx kW)
end
open Go.Dig Go.LP
structure RF where
 s:Bool
 a:List Nat
 c:List Nat
def RF.fine (x:RF):Prop:=ok x.a∧ok x.c∧x.a.length<17179869184∧x.c.length<17179869184
def RF.v (x:RF):Bool:=vfr x.s x.a x.c
def RF.of (q:Rat):RF:=⟨decide (q.num<0),zf q.num.natAbs,zf q.den⟩
noncomputable def h0 (x:RF):AV:=Classical.choose (p7 (bv x.s))
noncomputable def h1 (x:RF):AV:=Classical.choose (p7 (nl .plain x.a))
noncomputable def h2 (x:RF):AV:=Classical.choose (p7 (nl .plain x.c))
theorem l9 (x:RF):h0 x=bv x.s:=Classical.choose_spec (p7 _)
theorem rN (x:RF):h1 x=nl .plain x.a:=Classical.choose_spec (p7 _)
theorem qX (x:RF):h2 x=nl .plain x.c:=Classical.choose_spec (p7 _)
noncomputable def hr (x:RF):List AV:=[h0 x,h1 x,h2 x]
@[simp] theorem ai4 (x:RF):[h0 x,h1 x,h2 x]=hr x:=rfl
noncomputable abbrev hq (x:RF):AV:=.agg (hr x)
theorem abR (q:Rat):h0 (RF.of q)=f0 q:=by rw[l9,lZ]; rfl
theorem abS (q:Rat):h1 (RF.of q)=f1 q:=by rw[rN,l0]; rfl
theorem abT (q:Rat):h2 (RF.of q)=f2 q:=by rw[qX,l7]; rfl
theorem T1 (q:Rat):hr (RF.of q)=fr q:=by unfold hr fr; rw[abR,abS,abT]
theorem jW (x:RF):hr x=[bv x.s,nl .plain x.a,nl .plain x.c]:=by unfold hr; rw[l9,rN,qX]
section
variable {x:RF} {l k a b M:Nat} {e:ze}
@[simp] theorem akx:rf (h0 x)=true:=by rw[l9]; rfl
@[simp] theorem aiu:strip (h0 x)=h0 x:=by rw[l9]; rfl
@[simp] theorem akw:dg l (h0 x)=h0 x:=by rw[l9]; simp
@[simp] theorem ajL:frz l e (h0 x)=h0 x:=by rw[l9]; rfl
@[simp] theorem aky:rn a b (h0 x)=h0 x:=by rw[l9]; rfl
@[simp] theorem ajM:Am.low M (h0 x)=true:=by rw[l9]; rfl
@[simp] theorem ai0:zU k (h0 x)=false:=by rw[l9]; rfl
@[simp] theorem ajN:nE k (h0 x)=false:=by rw[l9]; rfl
@[simp] theorem akA:rf (h1 x)=true:=by rw[rN]; rfl
@[simp] theorem aiv:strip (h1 x)=h1 x:=by rw[rN]; rfl
@[simp] theorem akz:dg l (h1 x)=h1 x:=by rw[rN]; simp
@[simp] theorem ajO:frz l e (h1 x)=h1 x:=by rw[rN]; rfl
@[simp] theorem akB:rn a b (h1 x)=h1 x:=by rw[rN]; rfl
@[simp] theorem ajP:Am.low M (h1 x)=true:=by rw[rN]; rfl
@[simp] theorem ai1:zU k (h1 x)=false:=by rw[rN]; rfl
@[simp] theorem ajQ:nE k (h1 x)=false:=by rw[rN]; rfl
@[simp] theorem akD:rf (h2 x)=true:=by rw[qX]; rfl
@[simp] theorem aiw:strip (h2 x)=h2 x:=by rw[qX]; rfl
@[simp] theorem akC:dg l (h2 x)=h2 x:=by rw[qX]; simp
@[simp] theorem ajR:frz l e (h2 x)=h2 x:=by rw[qX]; rfl
@[simp] theorem akE:rn a b (h2 x)=h2 x:=by rw[qX]; rfl
@[simp] theorem ajS:Am.low M (h2 x)=true:=by rw[qX]; rfl
@[simp] theorem ai2:zU k (h2 x)=false:=by rw[qX]; rfl
@[simp] theorem ajT:nE k (h2 x)=false:=by rw[qX]; rfl
@[simp] theorem afu:(hr x).length=3:=by simp[jW]
@[simp] theorem ag1:(hr x).all rf=true:=by rw[jW]; simp
@[simp] theorem AD:(hr x).map strip=hr x:=by rw[jW]; simp
@[simp] theorem akJ:(hr x).map (dg l)=hr x:=by rw[jW]; simp
@[simp] theorem ajU:xn k (hr x)=false:=by rw[jW]; simp
@[simp] theorem ahS:zD (hr x) 0 (some 3)=some (hq x):=by rw[vd afu ag1,AD]
@[simp] theorem agy {y:AV}:zD (y::hr x) 1 (some 3)=some (hq x):=by
 simp only[zD,hr,List.length_cons,List.length_nil,List.drop_succ_cons,List.drop_zero,List.take]
 simp
@[simp] theorem ah5 {y z w:AV}:splice [y,z,w] 0 (hr x)=hr x:=by rw[jW]; simp[splice]
end
theorem Y5 {x:RF} (h:x.fine):zd Tryz.prog v5 [hq x] (bv x.v):=by
 unfold hq; rw[jW]; exact Eb h.1 h.2.1 h.2.2.1 h.2.2.2 rfl rfl
theorem AB {x:RF} (h:x.fine):zd Tryz.prog fU [hq x] (bv x.v):=by
 unfold hq; rw[jW]; exact Ec h.1 h.2.1 h.2.2.1 h.2.2.2 rfl rfl
noncomputable def hR (f:Nat→RF) (n:Nat):List (List AV):=mR (fun j=>hr (f j)) n
noncomputable abbrev hL (f:Nat→RF) (n:Nat):AV:=.list 3 .plain (hR f n)
section
variable {f:Nat→RF} {n i k:Nat}
@[simp] theorem Di:(hR f n).length=n:=sZ
theorem cn (hi:i<n):(hR f n)[i]?=some (hr (f i)):=sY hi
@[simp] theorem ai3 {hi:i<(hR f n).length}:(hR f n)[i]=hr (f i):=nW
@[simp] theorem akF:yn (hR f n)=true:=cr fun _=>by simp
@[simp] theorem akG:zN (hR f n)=hR f n:=tP fun _=>by simp
theorem GR {g:Nat→Rat} (h:∀ j,j<n→f j=RF.of (g j)):hR f n=fR g n:=wZ fun j hj=>by rw[h j hj,T1]
end
@[simp] theorem ak5 {x:RF}:(hr x)[0]?=some (h0 x):=rfl
@[simp] theorem ak6 {x:RF}:(hr x)[1]?=some (h1 x):=rfl
@[simp] theorem ak7 {x:RF}:(hr x)[2]?=some (h2 x):=rfl
@[simp] theorem akH {x:RF} {h:1<(hr x).length}:(hr x)[1]=h1 x:=rfl
@[simp] theorem akI {x:RF} {h:2<(hr x).length}:(hr x)[2]=h2 x:=rfl
def Ys (x:RF) (D:Nat):Prop:=x.a.length≤D∧x.c.length≤D
noncomputable def alz (s t:Bool) (a c a' c':List Nat) (k:Nat):St :=
 {env:=[(2,.ptr 2 0),(3,.ptr 3 0),(5,iv k)],sto:=[(2,.var [bv s,nl .plain a,nl .plain c]),(3,.var [bv t,nl .plain a',nl .plain c'])]}
noncomputable def SS (s t:Bool) (a c a' c':List Nat) (k:Nat):St :=
 {env:=[(2,.ptr 2 0),(3,.ptr 3 0),(6,iv k)],sto:=[(2,.var [bv s,nl .plain a,nl .plain c]),(3,.var [bv t,nl .plain a',nl .plain c'])]}
theorem T8 {a b:List Nat} (hl:a.length=b.length) (h:∀ j,j<a.length→a[j]?=b[j]?):a=b:=by
 apply List.ext_getElem?
 intro j
 by_cases hj:j<a.length
 ·exact h j hj
 ·rw[List.getElem?_eq_none (by omega),List.getElem?_eq_none (by omega)]
theorem aaR {s t:Bool} {a c a' c':List Nat} (hn:a.length<4611686018427387904) (hm:c.length<4611686018427387904) :
  zd Tryz.prog vM [.agg [bv s,nl .plain a,nl .plain c],.agg [bv t,nl .plain a',nl .plain c']] (bv (decide (s=t∧a=a'∧c=c'))):=by
 refine zt abD (by simp) ?_
 by_cases e1:s=t
 rotate_left
 ·have e1':(s == t)=false:=by simp[e1]
  rw[decide_eq_false fun h=>e1 h.1]
  simp[gI,xJ ud,e1',nB]
 subst e1
 by_cases e2:a.length=a'.length
 rotate_left
 ·have e2':¬ (a.length:Int)=a'.length:=by omega
  rw[decide_eq_false fun h=>e2 (by rw[h.2.1])]
  simp[gI,xJ ud,e2',nB]
 have e2':(a.length:Int)=a'.length:=by omega
 by_cases e3:c.length=c'.length
 rotate_left
 ·have e3':¬ (c.length:Int)=c'.length:=by omega
  rw[decide_eq_false fun h=>e3 (by rw[h.2.2])]
  simp[gI,xJ ud,e2,e3',nB]
 have e3':(c.length:Int)=c'.length:=by omega
 simp[gI,xJ ud,e2,e3]
 refine zq (alz s s a c a' c') (fun k=>∀ j,j<k→a[j]?=a'[j]?) a.length (by simp[alz]) (fun j hj=>by omega) (fun k hk hI=>?_) (fun hI0=>?_)
 ·have e:(k:Int)<a.length:=by omega
  have w:=zm (k:=k) (by omega)
  have hk':k<a'.length:=by omega
  have e':(k:Int)<a'.length:=by omega
  by_cases h:a[k]=a'[k]
  ·have h':(a[k]:Int)=a'[k]:=by rw[h]
   simp[lT,alz,e,hk,hk',e',h,w]
   intro j hj
   by_cases ej:j=k
   ·subst ej; simp[hk,hk',h]
   ·exact hI j (by omega)
  ·have h':¬ (a[k]:Int)=a'[k]:=by omega
   rw[decide_eq_false (p:=a=a') fun h2=>h (by simp only[h2])]
   simp[lT,alz,e,hk,hk',e',h',nB]
 ·have hae:=T8 e2 hI0
  subst hae
  simp[lT,alz,XP]
  refine zq (SS s s a c a c') (fun k=>∀ j,j<k→c[j]?=c'[j]?) c.length (by simp[SS]) (fun j hj=>by omega) (fun k hk hI=>?_) (fun hI1=>?_)
  ·have e:(k:Int)<c.length:=by omega
   have w:=zm (k:=k) (by omega)
   have hk':k<c'.length:=by omega
   have e':(k:Int)<c'.length:=by omega
   by_cases h:c[k]=c'[k]
   ·have h':(c[k]:Int)=c'[k]:=by rw[h]
    simp[lU,SS,e,hk,hk',e',h,w]
    intro j hj
    by_cases ej:j=k
    ·subst ej; simp[hk,hk',h]
    ·exact hI j (by omega)
   ·have h':¬ (c[k]:Int)=c'[k]:=by omega
    rw[decide_eq_false (p:=c=c') fun h2=>h (by simp only[h2])]
    simp[lU,SS,e,hk,hk',e',h',nB]
  ·have hce:=T8 e3 hI1
   subst hce
   simp[lU,SS,XO,nB]
theorem Cj {p q:Rat}:(decide (p.num<0)=decide (q.num<0)∧zf p.num.natAbs=zf q.num.natAbs∧zf p.den=zf q.den)↔p=q:=by
 constructor
 ·rintro ⟨h1,h2,h3⟩
  have h2:=bz h2
  have h3:=bz h3
  have h1:=decide_eq_decide.1 h1
  exact Rat.ext (by omega) h3
 ·rintro rfl; exact ⟨rfl,rfl,rfl⟩
theorem SA {K:Nat} {p q:Rat} (hK:K≤137438953472) (hp:sz K p):zd Tryz.prog vM [fq p,fq q] (bv (decide (p=q))):=by
 obtain ⟨l1,l2⟩:=vX hp
 have h:=aaR (s:=decide (p.num<0)) (t:=decide (q.num<0)) (a:=zf p.num.natAbs) (c:=zf p.den) (a':=zf q.num.natAbs) (c':=zf q.den) (by omega) (by omega)
 unfold fq
 rw[rM,rM]
 rw[show decide (p=q)=decide (decide (p.num<0)=decide (q.num<0)∧zf p.num.natAbs=zf q.num.natAbs∧zf p.den=zf q.den) from decide_eq_decide.2 Cj.symm]
 exact h
theorem agk {L n:Nat} {f:Nat→Rat} (h:∀ i,i<n→sz L (f i)):sz (n*(L+1)) (zh n f):=by
 induction n with
 | zero=>exact ws
 | succ n ih =>
  have:=cD (ih fun i hi=>h i (by omega)) (h n (by omega))
  rw[Nat.succ_mul,← Nat.add_assoc]
  exact this
theorem Pc {L n N:Nat} {f:Nat→Rat} (h:∀ i,i<n→sz L (f i)) (hn:n≤N):sz (N*(L+1)) (zh n f):=zJ (agk h) (Nat.mul_le_mul_right _ hn)
theorem By:zd Tryz.prog yU [iv 0] (fq 0):=eL (n:=0) (by decide) (by decide)
theorem cg {K:Nat} {q:Rat} (hK:K≤137438953472) (h:sz K q):(RF.of q).fine:=by
 obtain ⟨l1,l2⟩:=vX h
 exact ⟨zx _,zx _,by simp only[RF.of]; omega,by simp only[RF.of]; omega⟩
@[simp] theorem ak2 {q:Rat}:(fr q)[0]?=some (f0 q):=rfl
@[simp] theorem akt {q:Rat} {h:0<(fr q).length}:(fr q)[0]=f0 q:=rfl
@[simp] theorem ak3 {q:Rat}:(fr q)[1]?=some (f1 q):=rfl
@[simp] theorem ak4 {q:Rat}:(fr q)[2]?=some (f2 q):=rfl
@[simp] theorem aku {q:Rat} {h:1<(fr q).length}:(fr q)[1]=f1 q:=rfl
@[simp] theorem akv {q:Rat} {h:2<(fr q).length}:(fr q)[2]=f2 q:=rfl
theorem A3 (q:Rat):(RF.of q).v=true:=Lz q
abbrev F8:Ty:=.slice (.int .u32)
abbrev je:Ty:=.st [.bool,F8,F8]
theorem DJ {cs:List AV} (h:TyC F8 cs):∃ a:List Nat,cs=[nl .plain a]∧ok a:=by
 obtain ⟨rows,rfl,_,h⟩:=h
 obtain ⟨a,rfl,h2⟩:=lL (fun d:Nat=>[uv d]) (fun d=>d<B) (fun r hr=>by
  obtain ⟨n,rfl,hn⟩:=hr
  have hn2:0≤n∧n<4294967296:=by
   have h:=Bool.and_eq_true_iff.1 hn
   have h1:=of_decide_eq_true h.1
   have h2:=of_decide_eq_true h.2
   have e1:IntKind.min .u32=0:=by decide
   have e2:IntKind.max .u32=4294967295:=by decide
   omega
  refine ⟨n.toNat,?_,?_⟩
  ·show _=[AV.val (.int .u32 ((n.toNat:Nat):Int))]
   rw[show ((n.toNat:Nat):Int)=n by omega]
  ·show n.toNat<4294967296
   omega) h
 exact ⟨a,rfl,h2⟩
theorem acR {r:List AV} (h:TyC je r):∃ x:RF,r=hr x∧(ok x.a∧ok x.c):=by
 obtain ⟨a1,b1,rfl,⟨s,rfl⟩,a2,b2,rfl,h2,a3,b3,rfl,h3,rfl⟩:=h
 obtain ⟨a,rfl,ha⟩:=DJ h2
 obtain ⟨c,rfl,hc⟩:=DJ h3
 exact ⟨⟨s,a,c⟩,by rw[jW]; rfl,ha,hc⟩
theorem ac6 {α:Type} (d:α) (g:α→List AV) (l:List α):mR (fun j=>g (l.getD j d)) l.length=l.map g:=by
 apply List.ext_getElem?
 intro j
 by_cases h:j<l.length
 ·rw[sY h]; simp[h]
 ·rw[List.getElem?_eq_none (by simp; omega),List.getElem?_eq_none (by simp; omega)]
theorem Uy {cs:List AV} (h:TyC (.slice je) cs):∃ (f:Nat→RF) (n:Nat),cs=[hL f n]∧n<2305843009213693952∧∀ j,j<n→ok (f j).a∧ok (f j).c:=by
 obtain ⟨rows,rfl,hl,h⟩:=h
 obtain ⟨l,rfl,h2⟩:=lL hr (fun x=>ok x.a∧ok x.c) (fun r hr=>acR hr) h
 refine ⟨fun j=>l.getD j ⟨false,[],[]⟩,l.length,?_,?_,fun j hj=>?_⟩
 ·have:=ac6 (⟨false,[],[]⟩:RF) hr l
  unfold hL hR
  rw[this]; rfl
 ·simp[reachBytes] at hl; omega
 ·have:l.getD j ⟨false,[],[]⟩=l[j]:=by simp[hj]
  dsimp only
  rw[this]
  exact h2 _ (List.getElem_mem hj)
section
variable {D:Nat}
theorem TZ {x:RF} {D:Nat} (h:ok x.a∧ok x.c) (hs:Ys x D) (hD:D≤1000):x.fine:=⟨h.1,h.2,by have:=hs.1; omega,by have:=hs.2; omega⟩
theorem abw {x:RF} {q:Rat} (h:Ys x D) (e:x=RF.of q):sz (32*D) q:=by
 subst e
 have e1:2^(32*D)=B^D:=by rw[Nat.pow_mul,show (2:Nat)^32=B from rfl]
 obtain ⟨h1,h2⟩:=h
 simp only[RF.of] at h1 h2
 exact ⟨Nat.le_of_lt (by rw[e1]; exact zE.1 h1),Nat.le_of_lt (by rw[e1]; exact zE.1 h2)⟩
end
theorem tZ {K:Nat} {n:Int} (h:n.natAbs≤2^K):sz K (n:Rat):=⟨by simpa using h,by simpa using Nat.one_le_two_pow⟩
def RF.q (x:RF):Rat:=mkRat (sg x.s (val x.a)) (val x.c)
theorem afW (q:Rat):(RF.of q).q=q:=by
 unfold RF.q RF.of
 simp only[zK]
 rw[mO,Rat.mkRat_self]
theorem G4 {x:RF} (h:x.v=true):x=RF.of x.q:=by
 obtain ⟨q,h1,h2,h3⟩:=aeP h
 have:x=RF.of q:=by cases x; simp only at h1 h2 h3; subst h1 h2 h3; rfl
 rw[this,afW]
section
variable {P:Pb} {fx:List Int} {y:Nat→Rat} {S k r i:Nat}
theorem Nr (hG:P.Good) (hi:i<P.of.length) (hr:r<P.rows):sz 2 (P.cof r i):=by
 have hv:=tF (xI (y7 (hG.off _ (at_mem hi))).1).2.2 hr
 exact tZ (by omega)
theorem Na (hG:P.Good) (hr:r<P.rows):0≤P.bnd r∧P.bnd r≤4:=by
 unfold Pb.rows at hr
 unfold Pb.bnd
 split
 ·omega
 ·split
  ·exact hG.sup _ (by omega)
  ·have h1:=hG.set (r-P.cl.length-6) (by omega)
   have h2:=hG.sup (r-P.cl.length-6) (by omega)
   unfold Pb.okC at h1
   omega
end
end Go.Proofs.YtjeoklgggppjiaaGreat
