/- What the proof rests on, part 9: F3f F5 FR PE QG QA QB QC LP LP2 LP3 LP4 PF BA QE N1v N3 N4 N20 N21 N22 N23 N24 N25 N26 N27 N28. -/
import Derived.Test.YtfmcplfbnkoglaaP8
set_option maxRecDepth 100000
set_option maxHeartbeats 4000000
namespace Go.Proofs.Ytfmcplfbnkoglaa
open Go Go.Am Go.Dig
theorem NB {P:Program} {k:IntKind} {a:Int}:zr P (Op.unary .neg (Value.int k a))=some (Value.int k (k.wrap (-a))):=by
 simp[zr,Op.unary,Op.intArith,pure]
theorem ab5 {k:IntKind} {a:Int}:ofV (Value.int k a)=.val (.int k a):=rfl
theorem qz {x:Nat} (h:x<18446744073709551616):(zf x).length≤2:=zE.2 (by
 have:B^2=18446744073709551616:=by decide
 omega)
theorem kO {n:Int} (h1:-9223372036854775808≤n) (h2:n<9223372036854775808):zd Try.prog jC [iv n] (nD n.natAbs):=by
 obtain ⟨x,hx⟩:∃ x,n.natAbs=x:=⟨_,rfl⟩
 have hxl:x<18446744073709551616:=by omega
 have k:=qD (x:=x) hxl
 rw[hx]
 refine zD aap (by simp) ?_
 by_cases h:n<0
 ·have w1:IntKind.i64.wrap (n+1)=n+1:=by rw[wrap64]<;>omega
  have w2:IntKind.i64.wrap (-(n+1))=(x:Int)-1:=by rw[wrap64]<;>omega
  have w2':IntKind.i64.wrap (-1+-n)=(x:Int)-1:=by rw[wrap64]<;>omega
  have w3:IntKind.u64.wrap ((x:Int)-1)=(x:Int)-1:=by rw[vL]<;>omega
  have w4:IntKind.u64.wrap (x:Int)=x:=w64 hxl
  simp[Xt,h,w1,NB,w2,w3,w4]
  refine za k (by simp) (by simp) ?_
  simp[XZ]
 ·have w4:IntKind.u64.wrap n=(x:Int):=by rw[vL]<;>omega
  simp[Xt,h,w4]
  refine za k (by simp) (by simp) ?_
  simp[XZ]
theorem QA {n:Int} (h1:-9223372036854775808≤n) (h2:n<9223372036854775808):zd Try.prog zP [iv n] (xk (decide (n<0)) n.natAbs 1):=by
 have k1:=kO h1 h2
 have k2:=qD (x:=1) (by omega)
 have l1:=qz (x:=n.natAbs) (by omega)
 have l2:=qz (x:=1) (by omega)
 have k3:=qG (neg:=decide (n<0)) (N:=n.natAbs) (D:=1) (by omega) (by omega) (by omega)
 unfold xk at *
 generalize n.natAbs/Nat.gcd n.natAbs 1=p at *
 generalize 1/Nat.gcd n.natAbs 1=q at *
 refine zD LD (by simp) ?_
 simp[YV]
 refine za k1 (by simp) (by simp) ?_
 simp
 refine za k2 (by simp) (by simp) ?_
 simp
 refine za k3 (by simp) (by simp) ?_
 simp[Xd]
abbrev frA (s:Bool) (N D:Nat):AV:=.agg [bv s,nD N,nD D]
abbrev yp (q:Rat):AV:=frA (decide (q.num<0)) q.num.natAbs q.den
def sg (s:Bool) (N:Nat):Int:=if s then -(N:Int) else N
theorem tP {s:Bool} {N D:Nat} (h:D≠0):xk s N D=yp (mkRat (sg s N) D):=by
 have hab:(sg s N).natAbs=N:=by unfold sg; split<;>omega
 have hm:mkRat (sg s N) D=Rat.normalize (sg s N) D h:=by simp[mkRat,h]
 rw[hm,Rat.normalize_eq]
 unfold xk yp
 simp only[hab]
 have hg:0<Nat.gcd N D:=Nat.gcd_pos_of_pos_right _ (by omega)
 obtain ⟨c,hc⟩:=Nat.gcd_dvd_left N D
 generalize Nat.gcd N D=g at *
 subst hc
 have e1:(sg s (g*c))/(g:Int)=sg s c:=by
  unfold sg
  split
  ·rw[show -((g*c:Nat):Int)=(g:Int)*(-(c:Int)) by rw[Int.natCast_mul,Int.mul_neg]]
   exact Int.mul_ediv_cancel_left _ (by omega)
  ·rw[Int.natCast_mul]
   exact Int.mul_ediv_cancel_left _ (by omega)
 have e2:g*c/g=c:=Nat.mul_div_cancel_left _ hg
 rw[e1,e2]
 have e3:(sg s c).natAbs=c:=by unfold sg; split<;>omega
 have e4:(s&&decide (g*c≠0))=decide (sg s c<0):=by
  have hg0:¬ g=0:=by omega
  unfold sg
  rcases Nat.eq_zero_or_pos c with h0 | h0
  ·subst h0; cases s<;>simp
  ·have hc0:¬ c=0:=by omega
   have hcl:0<c:=h0
   have hng:¬ (c:Int)<0:=by omega
   have hneg:-(c:Int)<0:=by omega
   have hgc:¬ g*c=0:=Nat.mul_ne_zero hg0 hc0
   cases s<;>simp[hng,hgc,hcl]
 rw[e3,e4]
theorem mi (n:Int):sg (decide (n<0)) n.natAbs=n:=by
 unfold sg
 by_cases h:n<0
 ·simp[h]; omega
 ·simp[h]; omega
theorem Kq (n:Int):xk (decide (n<0)) n.natAbs 1=yp (n:Rat):=by
 rw[tP (by decide),mi]
 congr 1
 rw[← Rat.mkRat_self (n:Rat)]; rfl
theorem P4 {n:Int} (h1:-9223372036854775808≤n) (h2:n<9223372036854775808):zd Try.prog zP [iv n] (yp n):=by
 rw[← Kq]; exact QA h1 h2
theorem pG (x:AV):∃ y:AV,y=x:=⟨_,rfl⟩
noncomputable def f0 (q:Rat):AV:=Classical.choose (pG (bv (decide (q.num<0))))
noncomputable def f1 (q:Rat):AV:=Classical.choose (pG (nD q.num.natAbs))
noncomputable def f2 (q:Rat):AV:=Classical.choose (pG (nD q.den))
theorem lu (q:Rat):f0 q=bv (decide (q.num<0)):=Classical.choose_spec (pG _)
theorem pH (q:Rat):f1 q=nD q.num.natAbs:=Classical.choose_spec (pG _)
theorem pI (q:Rat):f2 q=nD q.den:=Classical.choose_spec (pG _)
noncomputable def fr (q:Rat):List AV:=[f0 q,f1 q,f2 q]
@[simp] theorem nG (q:Rat):[f0 q,f1 q,f2 q]=fr q:=rfl
theorem uF (q:Rat):fr q=[bv (decide (q.num<0)),nD q.num.natAbs,nD q.den]:=by unfold fr; rw[lu,pH,pI]
noncomputable abbrev fq (q:Rat):AV:=.agg (fr q)
theorem wP (q:Rat):yp q=fq q:=by unfold fq; rw[uF]
abbrev zz:List AV:=[.val (.bool false),.list 0 .full [],.list 0 .full []]
@[simp] theorem ajc (q:Rat):rf (f0 q)=true:=by rw[lu]; rfl
@[simp] theorem ag9 (q:Rat):strip (f0 q)=f0 q:=by rw[lu]; rfl
@[simp] theorem ajb (q:Rat) (l:Nat):dg l (f0 q)=f0 q:=by rw[lu]; simp
@[simp] theorem aim (q:Rat) (l:Nat) (e:ze):frz l e (f0 q)=f0 q:=by rw[lu]; rfl
@[simp] theorem JE (q:Rat) (a b:Nat):rn a b (f0 q)=f0 q:=by rw[lu]; rfl
@[simp] theorem ain (q:Rat) (M:Nat):Am.low M (f0 q)=true:=by rw[lu]; rfl
@[simp] theorem ahK (q:Rat) (k:Nat):zT k (f0 q)=false:=by rw[lu]; rfl
@[simp] theorem aio (q:Rat) (k:Nat):na k (f0 q)=false:=by rw[lu]; rfl
@[simp] theorem aje (q:Rat):rf (f1 q)=true:=by rw[pH]; rfl
@[simp] theorem aha (q:Rat):strip (f1 q)=f1 q:=by rw[pH]; rfl
@[simp] theorem ajd (q:Rat) (l:Nat):dg l (f1 q)=f1 q:=by rw[pH]; simp
@[simp] theorem aip (q:Rat) (l:Nat) (e:ze):frz l e (f1 q)=f1 q:=by rw[pH]; rfl
@[simp] theorem JF (q:Rat) (a b:Nat):rn a b (f1 q)=f1 q:=by rw[pH]; rfl
@[simp] theorem aiq (q:Rat) (M:Nat):Am.low M (f1 q)=true:=by rw[pH]; rfl
@[simp] theorem ahL (q:Rat) (k:Nat):zT k (f1 q)=false:=by rw[pH]; rfl
@[simp] theorem air (q:Rat) (k:Nat):na k (f1 q)=false:=by rw[pH]; rfl
@[simp] theorem ajg (q:Rat):rf (f2 q)=true:=by rw[pI]; rfl
@[simp] theorem ahb (q:Rat):strip (f2 q)=f2 q:=by rw[pI]; rfl
@[simp] theorem ajf (q:Rat) (l:Nat):dg l (f2 q)=f2 q:=by rw[pI]; simp
@[simp] theorem ais (q:Rat) (l:Nat) (e:ze):frz l e (f2 q)=f2 q:=by rw[pI]; rfl
@[simp] theorem JG (q:Rat) (a b:Nat):rn a b (f2 q)=f2 q:=by rw[pI]; rfl
@[simp] theorem ait (q:Rat) (M:Nat):Am.low M (f2 q)=true:=by rw[pI]; rfl
@[simp] theorem ahM (q:Rat) (k:Nat):zT k (f2 q)=false:=by rw[pI]; rfl
@[simp] theorem aiu (q:Rat) (k:Nat):na k (f2 q)=false:=by rw[pI]; rfl
@[simp] theorem ad7 {q:Rat}:(fr q).length=3:=by simp[uF]
@[simp] theorem JI {q:Rat}:(fr q).all rf=true:=by rw[uF]; simp
@[simp] theorem XC {q:Rat}:(fr q).map strip=fr q:=by rw[uF]; simp
@[simp] theorem aft {q:Rat} {l:Nat}:(fr q).map (dg l)=fr q:=by rw[uF]; simp
@[simp] theorem ad6 {q:Rat} {l:Nat} {e:ze}:(fr q).map (frz l e)=fr q:=by rw[uF]; rfl
@[simp] theorem afu {q:Rat} {a b:Nat}:(fr q).map (rn a b)=fr q:=by rw[uF]; rfl
@[simp] theorem ad8 {q:Rat} {M:Nat}:(fr q).all (Am.low M)=true:=by rw[uF]; rfl
@[simp] theorem ad9 {q:Rat} {k:Nat}:y5 k (fr q)=false:=by rw[uF]; simp
@[simp] theorem aiA {q:Rat} {k:Nat}:(fr q).any (na k)=false:=by rw[uF]; rfl
@[simp] theorem agx {q:Rat}:zH (fr q) 0 (some 3)=some (fq q):=by
 rw[uH ad7 JI,XC]
@[simp] theorem agL {q:Rat} {a b c:AV}:splice [a,b,c] 0 (fr q)=fr q:=by rw[uF]; simp[splice]
@[simp] theorem aga {p q:Rat}:splice (fr p) 0 (fr q)=fr q:=by simp[splice]
@[simp] theorem age {q:Rat} {a b c d e x y z g h:AV}:splice [a,b,c,d,e,x,y,z,g,h] 5 (fr q)=[a,b,c,d,e,f0 q,f1 q,f2 q,g,h]:=by unfold fr; simp[splice,-nG]
@[simp] theorem ahR {q:Rat}:(fr q).drop 3=[]:=by rw[uF]; rfl
theorem yH {n:Int} (h1:-9223372036854775808≤n) (h2:n<9223372036854775808):zd Try.prog zP [iv n] (fq n):=by rw[← wP]; exact P4 h1 h2
end Go.Proofs.Ytfmcplfbnkoglaa

namespace Go.Pb
def su (fx:List Int) (v:Int) (k:Nat):List Nat:=(List.range k).filter fun i=>decide (fx.getD i 9=v)
def zK (fx:List Int):List Nat:=su fx 0 fx.length
def Pb.inK (P:Pb) (fx:List Int) (k:Nat):List Of:=(su fx 1 k).map fun i:Nat=>P.at i
def Pb.inL (P:Pb) (fx:List Int):List Of:=P.inK fx fx.length
def okX (fx:List Int) (i:Nat):Prop:=fx.getD i 9=-1∨fx.getD i 9=0∨fx.getD i 9=1
instance (fx:List Int) (i:Nat):Decidable (okX fx i):=inferInstanceAs (Decidable (_∨_∨_))
def okF (fx:List Int):Prop:=∀ i,i<fx.length→okX fx i
instance (fx:List Int):Decidable (okF fx):=Nat.decidableBallLT fx.length fun i _=>okX fx i
def Pb.relE (P:Pb) (fx:List Int):Int :=
 if P.chk≠0 then P.chk else if fx.length≠P.of.length then 3 else if ¬ okF fx then 4 else if P.fits (P.inL fx) then 0 else 14
def Pb.relB (P:Pb) (fx:List Int) (r:Nat):Int:=P.bnd r-((P.inL fx).map (P.coef r)).sum
def Pb.relC (P:Pb) (fx:List Int) (r:Nat):List Int:=(zK fx).map fun i:Nat=>P.coef r (P.at i)
def Pb.relG (P:Pb) (fx:List Int):List Int:=(zK fx).map fun i:Nat=>(P.at i).v
section
variable {P:Pb} {fx:List Int} {v:Int} {k i:Nat}
theorem Zr:su fx v 0=[]:=rfl
theorem r5:su fx v (k+1)=if fx.getD k 9=v then su fx v k++[k] else su fx v k:=by
 unfold su
 rw[List.range_succ,List.filter_append]
 by_cases h:fx.getD k 9=v
 ·rw[if_pos h,List.filter_cons_of_pos (by simpa using h)]; rfl
 ·rw[if_neg h,List.filter_cons_of_neg (by simpa using h),List.filter_nil,List.append_nil]
theorem gp (h:i∈su fx v k):i<k∧fx.getD i 9=v:=by
 unfold su at h
 obtain ⟨h1,h2⟩:=List.mem_filter.1 h
 exact ⟨by simpa using h1,by simpa using h2⟩
theorem cL:(su fx v k).length≤k:=by
 unfold su
 have:=List.length_filter_le (fun i=>decide (fx.getD i 9=v)) (List.range k)
 rwa [List.length_range] at this
theorem SC:(P.inK fx k).length≤k:=by unfold Pb.inK; rw[List.length_map]; exact cL
theorem uz (h:i<P.of.length):P.at (i:Int)=P.of[i]:=by
 unfold Pb.at; rw[Int.toNat_natCast,List.getD_eq_getElem?_getD,List.getElem?_eq_getElem h]; rfl
theorem at_mem (h:i<P.of.length):P.at (i:Int)∈P.of:=by rw[uz h]; exact List.getElem_mem h
theorem Ko (h:k≤P.of.length):∀ o∈P.inK fx k,o∈P.of:=fun o ho=>by
 obtain ⟨i,hi,rfl⟩:=List.mem_map.1 ho
 have:=(gp hi).1
 exact at_mem (by omega)
end
end Go.Pb

namespace Go.Proofs.Ytfmcplfbnkoglaa
open Go Go.Am Go.Pb
noncomputable def qI (l:List Int):List (List AV):=l.map fun n:Int=>fr (n:Rat)
noncomputable def Dq (P:Pb) (fx:List Int) (r:Nat):List AV:=plc 3 (qI (P.relC fx r))::fr (P.relB fx r:Int)
noncomputable def qX (P:Pb) (fx:List Int) (k:Nat):List (List AV):=(List.range k).map (Dq P fx)
noncomputable def Gr (P:Pb) (fx:List Int):AV:=.agg [.list 3 .plain (qI (P.relG fx)),.list 4 .plain ((List.range P.rows).map fun r=>(.list 3 .plain (qI (P.relC fx r)):AV)::fr (P.relB fx r:Int))]
section
variable {P:Pb} {r n k:Nat} {o:Of} {L:List Of} {fx:List Int}
@[simp] theorem TC {l:List Int}:(qI l).length=l.length:=by simp[qI]
@[simp] theorem ai0:qI []=[]:=rfl
theorem KO {l:List Int} {k:Nat} (h:k<l.length):qI (l.take k)++[fr ((l[k]:Int):Rat)]=qI (l.take (k+1)):=by
 unfold qI
 rw[mq (o:=l[k]) (by simp[h]),List.map_append]
 rfl
@[simp] theorem N0:(qX P fx k).length=k:=by simp[qX]
@[simp] theorem agK:qX P fx 0=[]:=rfl
theorem Dp:qX P fx k++[Dq P fx k]=qX P fx (k+1):=by unfold qX; rw[List.range_succ,List.map_append]; rfl
@[simp] theorem afc:zH ((oC o).drop 7) 0 none=some (iv o.v):=by rw[rq]; rfl
@[simp] theorem agO {q:Rat} {a b c d:AV}:splice [a,b,c,d] 1 (fr q)=a::fr q:=by unfold fr; simp[splice,-nG]
@[simp] theorem agN {q:Rat} {x a b c d:AV}:splice [a,b,c,d] 0 (x::fr q)=x::fr q:=by unfold fr; simp[splice,-nG]
@[simp] theorem agP {q:Rat} {x y:AV}:splice (x::fr q) 0 [y]=y::fr q:=by unfold fr; simp[splice,-nG]
@[simp] theorem agB {q:Rat} {x:AV} (h:rf x=true):zH (x::fr q) 0 (some 4)=some (.agg (strip x::fr q)):=by
 rw[uH (by simp) (by rw[List.all_cons,h,JI]; rfl),List.map_cons,XC]
@[simp] theorem agv {x:AV} {l:List AV}:zH (x::l) 0 none=some x:=rfl
@[simp] theorem agw {x y:AV} {l:List AV}:zH (x::y::l) 1 none=some y:=rfl
@[simp] theorem Ni {l:List Nat}:(ints l).length=l.length:=by simp[ints]
@[simp] theorem ahi:ints []=[]:=rfl
theorem BD {l m:List Nat}:clR (ints (l++m))=clR (ints l)++clR (ints m):=by simp[ints,clR]
noncomputable def eL (P:Pb) (fx:List Int) (k:Nat):St:={env:=[(2,.ptr 2 0),(4,.ptr 4 0),(8,apc 52 1 (clR (ints (su fx 0 k)))),(9,apc 62 8 (ofR (P.inK fx k))),(36,clA fx),(37,iv fx.length),(38,iv k)],sto:=[(2,.var (pbC P)),(4,.var [z8,z8])]}
noncomputable abbrev xF (fx:List Int):AV:=apc 52 1 (clR (ints (zK fx)))
noncomputable abbrev xI (P:Pb) (fx:List Int):AV:=apc 62 8 (ofR (P.inL fx))
noncomputable def Rg (P:Pb) (fx:List Int) (k:Nat):St:={env:=[(2,.ptr 2 0),(4,.ptr 4 0),(8,xF fx),(9,xI P fx),(12,.ptr 12 0),(13,.ptr 13 0),(71,xF fx),(72,iv (zK fx).length),(73,iv k)],sto:=[(2,.var (pbC P)),(4,.var [z8,z8]),(12,.var (pbC P)),(13,.var [apc 87 3 (qI ((P.relG fx).take k)),z8])]}
noncomputable def Rj (P:Pb) (fx:List Int) (k:Nat):St:={env:=[(2,.ptr 2 0),(4,.ptr 4 0),(8,xF fx),(9,xI P fx),(12,.ptr 12 0),(13,.ptr 13 0),(91,iv P.rows),(92,iv k)],sto:=[(2,.var (pbC P)),(4,.var [z8,z8]),(12,.var (pbC P)),(13,.var [apc 87 3 (qI (P.relG fx)),apc 139 4 (qX P fx k)])]}
noncomputable def Rh (P:Pb) (fx:List Int) (r k:Nat):St:={env:=[(2,.ptr 2 0),(4,.ptr 4 0),(8,xF fx),(9,xI P fx),(12,.ptr 12 0),(13,.ptr 13 0),(91,iv P.rows),(92,iv r),(16,iv r),(17,iv (P.bnd r-uj (P.coef r) (P.inL fx) k)),(98,xI P fx),(99,iv (P.inL fx).length),(100,iv k)],sto:=[(2,.var (pbC P)),(4,.var [z8,z8]),(12,.var (pbC P)),(13,.var [apc 87 3 (qI (P.relG fx)),apc 139 4 (qX P fx r)])]}
noncomputable def Ri (P:Pb) (fx:List Int) (r k:Nat):St:={env:=[(2,.ptr 2 0),(4,.ptr 4 0),(8,xF fx),(9,xI P fx),(12,.ptr 12 0),(13,.ptr 13 0),(91,iv P.rows),(92,iv r),(16,iv r),(20,.ptr 20 0),(114,xF fx),(115,iv (zK fx).length),(116,iv k)],sto:=[(2,.var (pbC P)),(4,.var [z8,z8]),(12,.var (pbC P)),(13,.var [apc 87 3 (qI (P.relG fx)),apc 139 4 (qX P fx r)]),(20,.var (apc 132 3 (qI ((P.relC fx r).take k))::fr (P.relB fx r:Int)))]}
@[simp] theorem Ek {l:List Nat} {k:Nat} {h:k<(ints l).length}:(ints l)[k]=((l[k]'(by simpa using h):Nat):Int):=by simp[ints]
theorem At {k:Nat} (h:k<(P.relG fx).length):(P.relG fx)[k]=(P.at ((zK fx)[k]'(by simpa [Pb.relG] using h):Nat)).v:=by simp[Pb.relG]
theorem As {k:Nat} (h:k<(P.relC fx r).length):(P.relC fx r)[k]=P.coef r (P.at ((zK fx)[k]'(by simpa [Pb.relC] using h):Nat)):=by simp[Pb.relC]
@[simp] theorem X7:(P.relG fx).length=(zK fx).length:=by simp[Pb.relG]
@[simp] theorem X6:(P.relC fx r).length=(zK fx).length:=by simp[Pb.relC]
theorem Ar:AV.imp (.agg [plc 3 (qI (P.relG fx)),plc 4 (qX P fx P.rows)]) (Gr P fx):=by
 refine Yk (yg (nK rU) (yg (nK ?_) rV))
 refine ⟨by simp,fun i x y hx hy=>?_⟩
 have hi:i<P.rows:=by have:=(List.getElem?_eq_some_iff.1 hx).1; simpa using this
 simp[qX,hi] at hx hy
 subst hx hy
 exact yg (nK rU) RT
theorem K6 (hn:P.cl.length≤1000) (hk:P.of.length≤1000000) (_hl:fx.length<4611686018427387904) :
  zd Try.prog nO [.agg (pbC P),clA fx] (if P.relE fx=0 then .tuple [Gr P fx,clA (ints (zK fx)),iv 0] else .tuple [.agg [z8,z8],z8,iv (P.relE fx)]):=by
 refine wT T8 (by simp) ?_
 simp[fc]
 refine za (Sq hn hk) (by simp) (by simp) ?_
 by_cases c1:P.chk=0
 ·have hG:=t9 c1
  by_cases c2:fx.length=P.of.length
  ·have c2':(fx.length:Int)=P.of.length:=by omega
   simp[c1,c2']
   refine zl (eL P fx) (fun k=>∀ q,q<k→okX fx q) fx.length (by simp[eL,Zr,Pb.inK,c2']) (fun q hq=>by omega) (fun k hk' hI=>?_) (fun hI=>?_)
   ·have e:(k:Int)<P.of.length:=by omega
    have hko:k<P.of.length:=by omega
    have w1:=zq (k:=k) (by omega)
    have hg:fx.getD k 9=fx[k]:=by rw[List.getD_eq_getElem?_getD,List.getElem?_eq_getElem hk']; rfl
    have hs0:=r5 (fx:=fx) (v:=0) (k:=k)
    have hs1:=r5 (fx:=fx) (v:=1) (k:=k)
    have hl0:=cL (fx:=fx) (v:=0) (k:=k)
    have hl1:=SC (P:=P) (fx:=fx) (k:=k)
    rw[hg] at hs0 hs1
    have hx:okX fx k→∀ q,q<k+1→okX fx q:=fun d q hq=>by
     by_cases eq:q=k
     ·subst eq; exact d
     ·exact hI q (by omega)
    by_cases d1:fx[k]=-1
    ·have d:=hx (.inl (by rw[hg,d1]))
     rw[d1] at hs0 hs1
     rw[if_neg (by decide)] at hs0 hs1
     simp[xA,eL,e,c2',hk',d1,w1,hs0,hs1,Pb.inK]
     exact d
    ·by_cases d2:fx[k]=0
     ·have d:=hx (.inr (.inl (by rw[hg,d2])))
      rw[d2] at hs0 hs1
      rw[if_pos rfl] at hs0
      rw[if_neg (by decide)] at hs1
      simp[xA,eL,e,c2',hk',d2]
      refine sP (by decide) rfl ?_ ?_ (by simp) ?_
      ·simp only[jr,Ni]; omega
      ·simp only[jr,Ni]; omega
      ·have hro:clR (ints (su fx 0 k))++[[iv k]]=clR (ints (su fx 0 (k+1))):=by rw[hs0,BD]; rfl
       rw[hro]
       simp[w1,eL,c2',aA,Pb.inK,hs1]
       exact d
     ·by_cases d3:fx[k]=1
      ·have d:=hx (.inr (.inr (by rw[hg,d3])))
       rw[d3] at hs0 hs1
       rw[if_neg (by decide)] at hs0
       rw[if_pos rfl] at hs1
       simp[xA,eL,e,c2',hk',d3,hko]
       refine sP (by decide) rfl ?_ ?_ (by simp) ?_
       ·simp only[jv]; omega
       ·simp only[jv]; omega
       ·have hro:ofR (P.inK fx k)++[oC P.of[k]]=ofR (P.inK fx (k+1)):=by unfold Pb.inK; rw[hs1,List.map_append,KH,← uz hko]; rfl
        rw[hro]
        simp[w1,eL,c2',aA,hs0]
        exact d
      ·have hf:P.relE fx=4:=by
        unfold Pb.relE
        rw[if_neg (by simp[c1]),if_neg (by simp[c2]),if_pos (fun h=>by
         rcases h k hk' with h | h | h
         ·exact d1 (by rw[← hg,h])
         ·exact d2 (by rw[← hg,h])
         ·exact d3 (by rw[← hg,h]))]
       simp[xA,eL,e,c2',hk',d1,d2,d3,hf,vE]
       exact AV.imp.refl
   ·have key:∀ K:Exit→St→Prop,K (.exit 0) {env:=[(2,.ptr 2 0),(4,.ptr 4 0),(8,xF fx),(9,xI P fx),(36,clA fx),(37,iv fx.length),(38,iv fx.length),(39,bv false)],sto:=[(2,.var (pbC P)),(4,.var [z8,z8])]}→awp Try.prog xA (eL P fx fx.length) (ug K):=by
     intro K h
     simp[xA,eL]
     exact h
    refine key _ ?_
    have hF:okF fx:=hI
    have hm:=Ko (P:=P) (fx:=fx) (k:=fx.length) (by omega)
    have hil:=SC (P:=P) (fx:=fx) (k:=fx.length)
    have hk160:=hG.k
    have hP:∀ o∈P.inL fx,P.offE o=0:=fun o ho=>hG.off o (hm o ho)
    have hil:(P.inL fx).length≤160:=by unfold Pb.inL; omega
    have hfl:(zK fx).length≤160:=by have:=cL (fx:=fx) (v:=0) (k:=fx.length); unfold zK; omega
    have hfm:∀ i∈zK fx,i<P.of.length:=fun i hi=>by have:=(gp hi).1; omega
    simp[mA]
    refine za (Tc (Ea (P:=P) (L:=P.inL fx) hn (by omega) (fun o ho=>(xY (xv (hP o ho)).1).1) (fun o ho=>(xY (xv (hP o ho)).1).2.2)) (nK rU)) (by simp) (by simp) ?_
    by_cases c3:P.fits (P.inL fx)
    ·have hE:P.relE fx=0:=by
      unfold Pb.relE
      rw[if_neg (by simp[c1]),if_neg (by simp[c2]),if_neg (fun h=>h hF),if_pos c3]
     rw[if_pos hE]
     simp[-qB,c3]
     have hR:P.rows≤1012:=by unfold Pb.rows; omega
     have hv:∀ i∈zK fx,-9223372036854775808≤(P.at (i:Nat)).v∧(P.at (i:Nat)).v<9223372036854775808:=fun i hi=>by
      have:=(xY (xv (hG.off _ (at_mem (hfm i hi)))).1).2.1
      omega
     refine zl (Rg P fx) (fun _=>True) (zK fx).length (by simp[Rg]) trivial (fun k hk' _=>?_) (fun _=>?_)
     ·have e:(k:Int)<(zK fx).length:=by omega
      have w1:=zq (k:=k) (by omega)
      obtain ⟨i,hi⟩:∃ i,(zK fx)[k]=i:=⟨_,rfl⟩
      have him:i∈zK fx:=hi▸List.getElem_mem hk'
      have hio:=hfm i him
      have hof:i<(ofR P.of).length:=by simpa using hio
      have hka:k<(clR (ints (zK fx))).length:=by simpa using hk'
      have hat:P.at (i:Int)=P.of[i]:=uz hio
      obtain ⟨hv1,hv2⟩:=hv i him
      rw[hat] at hv1 hv2
      have hgk:(P.relG fx)[k]'(by simpa using hk')=P.of[i].v:=by rw[At,hi,hat]
      simp[-xb,uA,Rg,e,eD hka,x5 hof,hi]
      refine za (yH hv1 hv2) (by simp) (by simp) ?_
      simp
      refine sP (by decide) rfl ?_ ?_ (by simp) ?_
      ·simp only[TC,List.length_take,X7]; omega
      ·simp only[TC,List.length_take,X7]; omega
      ·have hro:qI ((P.relG fx).take k)++[fr ((P.of[i].v:Int):Rat)]=qI ((P.relG fx).take (k+1)):=by rw[← KO (by simpa using hk'),hgk]
       rw[hro]
       simp[-cellsOf,w1,Rg,aA]
     ·have key:∀ K:Exit→St→Prop,K (.exit 3) {env:=[(2,.ptr 2 0),(4,.ptr 4 0),(8,xF fx),(9,xI P fx),(12,.ptr 12 0),(13,.ptr 13 0),(71,xF fx),(72,iv (zK fx).length),(73,iv (zK fx).length),(74,bv false)],sto:=[(2,.var (pbC P)),(4,.var [z8,z8]),(12,.var (pbC P)),(13,.var [apc 87 3 (qI (P.relG fx)),z8])]}→awp Try.prog uA (Rg P fx (zK fx).length) (ug K):=by
       intro K h
       have ht:(P.relG fx).take (zK fx).length=P.relG fx:=List.take_of_length_le (by simp)
       simp[uA,Rg,ht]
       exact h
      refine key _ ?_
      simp[lT]
      refine za (N5 hn) (by simp) (by simp) ?_
      simp
      refine zl (Rj P fx) (fun _=>True) P.rows (by simp[Rj]) trivial (fun r hr _=>?_) (fun _=>?_)
      ·have e:(r:Int)<P.rows:=by omega
       have w1:=zq (k:=r) (by omega)
       have hco:∀ o∈P.inL fx,0≤P.coef r o∧P.coef r o≤4:=fun o ho=>tu (xY (xv (hP o ho)).1).2.2 hr
       have hbn:-1000≤P.bnd r∧P.bnd r≤1000:=by
        unfold Pb.bnd
        unfold Pb.rows at hr
        split
        ·omega
        ·split
         ·have:=hG.sup (r-P.cl.length) (by omega); omega
         ·have:=hG.set (r-P.cl.length-6) (by omega)
          unfold Pb.okC at this
          have:=hG.sup (r-P.cl.length-6) (by omega)
          omega
       simp[uD,Rj,e]
       refine za (Sl (P:=P) hn hr) (by simp) (by simp) ?_
       simp[-qB]
       refine zl (Rh P fx r) (fun _=>True) (P.inL fx).length (by simp[Rh,Zv]) trivial (fun k hk' _=>?_) (fun _=>?_)
       ·have e:(k:Int)<(P.inL fx).length:=by omega
        have w2:=zq (k:=k) (by omega)
        have hka:k<(ofR (P.inL fx)).length:=by simpa using hk'
        have hg:(P.inL fx)[k]?=some (P.inL fx)[k]:=by simp[hk']
        have hmk:=List.getElem_mem hk'
        obtain ⟨p1,p2⟩:=mc hco k (by omega)
        obtain ⟨p3,p4⟩:=hco _ hmk
        have hs:=fE (f:=P.coef r) hg
        have hof:=(xY (xv (hP _ hmk)).1)
        obtain ⟨x,hx⟩:∃ x,P.bnd r-uj (P.coef r) (P.inL fx) k=x:=⟨_,rfl⟩
        have w3:IntKind.i64.wrap (x-P.coef r (P.inL fx)[k])=P.bnd r-uj (P.coef r) (P.inL fx) (k+1):=by rw[hs,wrap64]<;>omega
        simp[-xb,uB,Rh,e,eD hka]
        refine za (U0 (P:=P) (r:=r) hn hof.1 hr) (by simp) (by simp) ?_
        simp[hx,w2,w3,Rh]
       ·have hall:P.bnd r-uj (P.coef r) (P.inL fx) (P.inL fx).length=P.relB fx r:=by unfold Pb.relB; rw[cP]
        have key:∀ K:Exit→St→Prop,K (.exit 7) {env:=[(2,.ptr 2 0),(4,.ptr 4 0),(8,xF fx),(9,xI P fx),(12,.ptr 12 0),(13,.ptr 13 0),(91,iv P.rows),(92,iv r),(16,iv r),(17,iv (P.relB fx r)),(98,xI P fx),(99,iv (P.inL fx).length),(100,iv (P.inL fx).length),(101,bv false)],sto:=[(2,.var (pbC P)),(4,.var [z8,z8]),(12,.var (pbC P)),(13,.var [apc 87 3 (qI (P.relG fx)),apc 139 4 (qX P fx r)])]}→awp Try.prog uB (Rh P fx r (P.inL fx).length) (ug K):=by
         intro K h
         simp[uB,Rh,hall]
         exact h
        refine key _ ?_
        obtain ⟨q1,q2⟩:=Qs hco
        have hB:-9223372036854775808≤P.relB fx r∧P.relB fx r<9223372036854775808:=by unfold Pb.relB; omega
        simp[lO]
        refine za (yH hB.1 hB.2) (by simp) (by simp) ?_
        simp[-qB]
        refine zl (Ri P fx r) (fun _=>True) (zK fx).length (by simp[Ri]) trivial (fun k hk' _=>?_) (fun _=>?_)
        ·have e:(k:Int)<(zK fx).length:=by omega
         have w2:=zq (k:=k) (by omega)
         obtain ⟨i,hi⟩:∃ i,(zK fx)[k]=i:=⟨_,rfl⟩
         have him:i∈zK fx:=hi▸List.getElem_mem hk'
         have hio:=hfm i him
         have hof':i<(ofR P.of).length:=by simpa using hio
         have hka:k<(clR (ints (zK fx))).length:=by simpa using hk'
         have hat:P.at (i:Int)=P.of[i]:=uz hio
         have hof:=xY (xv (hG.off _ (List.getElem_mem hio))).1
         have hc4:=tu (P:=P) hof.2.2 hr
         have hgk:(P.relC fx r)[k]'(by simpa using hk')=P.coef r P.of[i]:=by rw[As,hi,hat]
         simp[-xb,uC,Ri,e,eD hka,x5 hof',hi]
         refine za (U0 (P:=P) (r:=r) hn hof.1 hr) (by simp) (by simp) ?_
         simp
         refine za (yH (n:=P.coef r P.of[i]) (by omega) (by omega)) (by simp) (by simp) ?_
         simp
         refine sP (by decide) rfl ?_ ?_ (by simp) ?_
         ·simp only[TC,List.length_take,X6]; omega
         ·simp only[TC,List.length_take,X6]; omega
         ·have hro:qI ((P.relC fx r).take k)++[fr ((P.coef r P.of[i]:Int):Rat)]=qI ((P.relC fx r).take (k+1)):=by rw[← KO (by simpa using hk'),hgk]
          rw[hro]
          simp[-cellsOf,w2,Ri,aA]
        ·have key:∀ K:Exit→St→Prop,K (.exit 9) {env:=[(2,.ptr 2 0),(4,.ptr 4 0),(8,xF fx),(9,xI P fx),(12,.ptr 12 0),(13,.ptr 13 0),(91,iv P.rows),(92,iv r),(16,iv r),(20,.ptr 20 0),(114,xF fx),(115,iv (zK fx).length),(116,iv (zK fx).length),(117,bv false)],sto:=[(2,.var (pbC P)),(4,.var [z8,z8]),(12,.var (pbC P)),(13,.var [apc 87 3 (qI (P.relG fx)),apc 139 4 (qX P fx r)]),(20,.var (apc 132 3 (qI (P.relC fx r))::fr (P.relB fx r:Int)))]}→awp Try.prog uC (Ri P fx r (zK fx).length) (ug K):=by
          intro K h
          have ht:(P.relC fx r).take (zK fx).length=P.relC fx r:=List.take_of_length_le (by simp)
          simp[uC,Ri,ht]
          exact h
         refine key _ ?_
         simp[lN]
         refine sP (by decide) rfl ?_ ?_ (by simp) ?_
         ·simp only[N0]; omega
         ·simp only[N0]; omega
         ·have hro:qX P fx r++[plc 3 (qI (P.relC fx r))::fr (P.relB fx r:Int)]=qX P fx (r+1):=Dp
          rw[hro]
          simp[-cellsOf,w1,lP,Rj,aA]
      ·have key:∀ K:Exit→St→Prop,K (.exit 5) {env:=[(2,.ptr 2 0),(4,.ptr 4 0),(8,xF fx),(9,xI P fx),(12,.ptr 12 0),(13,.ptr 13 0),(91,iv P.rows),(92,iv P.rows),(93,bv false)],sto:=[(2,.var (pbC P)),(4,.var [z8,z8]),(12,.var (pbC P)),(13,.var [apc 87 3 (qI (P.relG fx)),apc 139 4 (qX P fx P.rows)])]}→awp Try.prog uD (Rj P fx P.rows) (ug K):=by
        intro K h
        simp[uD,Rj]
        exact h
       refine key _ ?_
       simp[lS,vE]
       exact abL (yg Ar (yg (nK rU) (yg AV.imp.refl rV)))
    ·have hE:P.relE fx=14:=by
      unfold Pb.relE
      rw[if_neg (by simp[c1]),if_neg (by simp[c2]),if_neg (fun h=>h hF),if_neg c3]
     simp[c3,hE,vE]
     exact AV.imp.refl
  ·have c2':¬ (fx.length:Int)=P.of.length:=by omega
   have hE:P.relE fx=3:=by unfold Pb.relE; rw[if_neg (by simp[c1]),if_pos c2]
   simp[c1,c2',hE,vE]
   exact AV.imp.refl
 ·have hE:P.relE fx=P.chk:=by unfold Pb.relE; rw[if_pos c1]
  simp[c1,hE,vE]
  exact AV.imp.refl
end
def Rf (w:Nat→Int) (k:Nat):St:={env:=[(1,.ptr 1 0),(3,iv k)],sto:=[(1,.var (bC w))]}
theorem N7 {w:Nat→Int}:zd Try.prog py [.agg (bC w)] (bv (decide (okB w))):=by
 refine zD QO (by simp) ?_
 simp[bM]
 refine zl (Rf w) (fun i=>∀ j,j<i→0≤w j∧w j≤4) 6 (by simp[Rf]) (fun j hj=>by omega) (fun i hi hI=>?_) (fun hI=>?_)
 ·have e:(i:Int)<6:=by omega
  have w1:=zq (k:=i) (by omega)
  by_cases c1:w i<0
  ·have hf:¬ okB w:=fun h=>by have:=h i hi; omega
   simp[v9,Rf,e,Zb hi,c1,hf,pL]
  ·by_cases c2:4<w i
   ·have hf:¬ okB w:=fun h=>by have:=h i hi; omega
    simp[v9,Rf,e,Zb hi,c1,c2,hf,pL]
   ·simp[v9,Rf,e,Zb hi,c1,c2,w1]
    exact fun j hj=>by
     by_cases e:j=i
     ·subst e; omega
     ·exact hI j (by omega)
 ·have hf:okB w:=hI
  simp[v9,Rf,hf,jW,pL]
section
variable {P:Pb} {r n:Nat} {o:Of}
theorem Yy (hn:P.cl.length≤1000) (hb:0≤o.b) (hr:r<P.rows):∃ c,(o.b<P.cl.length→c=P.coef r o)∧zd Try.prog ti [.agg (pbC P),iv r,.agg (oC o)] (.tuple [iv c,iv (P.bnd r)]):=by
 unfold Pb.rows at hr
 unfold Pb.coef Pb.bnd
 obtain ⟨n,hn'⟩:∃ n,P.cl.length=n:=⟨_,rfl⟩
 rw[hn'] at hr hn ⊢
 by_cases h1:r<n
 ·refine ⟨if o.b=r then 1 else 0,fun _=>by rw[if_pos h1],?_⟩
  refine zD tK (by simp) ?_
  rw[if_pos h1]
  by_cases h2:o.b=r
  ·rw[if_pos h2]
   simp[ve,hn',h1,h2,vh]
  ·rw[if_neg h2]
   simp[ve,hn',h1,h2,vh]
 ·have w0:IntKind.i64.wrap ((n:Int)+6)=(n:Int)+6:=by rw[wrap64]<;>omega
  obtain ⟨k,hk⟩:∃ k,r=n+k:=⟨r-n,by omega⟩
  have e0:(r:Int)-n=k:=by omega
  have e2:r-n=k:=by omega
  have w1:IntKind.i64.wrap (k:Int)=k:=by rw[wrap64]<;>omega
  rw[if_neg h1,if_neg h1,e2]
  have c1:¬ (r:Int)<n:=by omega
  by_cases h2:k<6
  ·have c2:(r:Int)<(n:Int)+6:=by omega
   have h2':(k:Int)<6:=by omega
   refine ⟨o.w k,fun _=>by rw[if_pos (by omega)],?_⟩
   rw[if_pos (by omega)]
   refine zD tK (by simp) ?_
   simp[ve,hn',w0,c1,c2,e0,w1,h2',cz h2,wq h2,vh]
  ·obtain ⟨j,hj0⟩:∃ j,k=6+j:=⟨k-6,by omega⟩
   have hj:j<6:=by omega
   have hj':(j:Int)<6:=by omega
   have c2:¬ (r:Int)<(n:Int)+6:=by omega
   have e3:(k:Int)-6=j:=by omega
   have w2:IntKind.i64.wrap (j:Int)=j:=by rw[wrap64]<;>omega
   have hr6:¬ r<n+6:=by omega
   rw[if_neg hr6,if_neg hr6,show k-6=j by omega]
   by_cases h3:P.cls j=0
   ·refine ⟨0,fun _=>by rw[if_pos (.inl h3)],?_⟩
    refine zD tK (by simp) ?_
    simp[ve,hn',w0,c1,c2,e0,w1,e3,w2,hj',yf hj,yl hj,h3,vh]
   ·by_cases h5:o.b<n
    ·obtain ⟨b,hb1,hb2,hb3⟩:=PE (P:=P) (o:=o) (by rw[hn']; exact ⟨hb,h5⟩)
     have hbn:(b:Int)<n:=by omega
     have hbn':b<n:=by omega
     have hc:P.cl[b]?=some (P.clOf (b:Int)):=by rw[← hb1]; exact hb3
     have hE:P.cl[b]=P.clOf (b:Int):=by rw[List.getElem?_eq_getElem hb2] at hc; exact Option.some.inj hc
     rw[hb1]
     by_cases h4:P.cls j=P.clOf (b:Int)
     ·refine ⟨0,fun _=>by rw[if_pos (.inr h4)],?_⟩
      rw[h4] at h3
      refine zD tK (by simp) ?_
      simp[ve,hn',w0,c1,c2,e0,w1,e3,w2,hj',yf hj,yl hj,h3,hb1,hbn,hbn',hE,h4,vh]
     ·refine ⟨o.w j,fun _=>by rw[if_neg (fun h=>h.elim h3 h4)],?_⟩
      refine zD tK (by simp) ?_
      simp[ve,hn',w0,c1,c2,e0,w1,e3,w2,hj',yf hj,yl hj,cz hj,h3,hb1,hbn,hbn',hE,h4,vh]
    ·refine ⟨0,fun h=>absurd h h5,?_⟩
     refine zD tK (by simp) ?_
     simp[ve,hn',w0,c1,c2,e0,w1,e3,w2,hj',yf hj,yl hj,h3,h5,vh]
end
def oZ:Of:=⟨0,fun _=>0,0⟩
theorem KG:[iv 0,iv 0,iv 0,iv 0,iv 0,iv 0,iv 0,iv 0]=oC oZ:=by rw[rq]; rfl
def Mr (P:Pb) (L:List Of) (r:Nat):St:={env:=[(1,ofA L),(2,.ptr 2 0),(5,iv r)],sto:=[(2,.var (pbC P))]}
def Rb (P:Pb) (L:List Of) (r k:Nat):St:={env:=[(1,ofA L),(2,.ptr 2 0),(5,iv r),(6,iv (uj (P.coef r) L k)),(7,iv k)],sto:=[(2,.var (pbC P))]}
section
variable {P:Pb} {r n:Nat} {o:Of} {L:List Of}
theorem K8 (hn:P.cl.length≤1000) (hL:L.length≤1000) (hb:∀ o∈L,0≤o.b∧o.b<P.cl.length) (hw:∀ o∈L,okB o.w):zd Try.prog nS [.agg (pbC P),ofA L] (bv (decide (P.fits L))):=by
 have hR:P.rows≤1012:=by unfold Pb.rows; omega
 have hRi:((P.rows:Nat):Int)=(P.cl.length:Int)+12:=by unfold Pb.rows; omega
 have w0:IntKind.i64.wrap ((P.cl.length:Int)+12)=(P.cl.length:Int)+12:=by rw[wrap64]<;>omega
 refine zD MG (by simp) ?_
 simp[aO]
 refine zl (Mr P L) (fun r=>∀ q,q<r→(L.map (P.coef q)).sum≤P.bnd q) P.rows (by simp[Mr]) (fun q hq=>by omega) (fun r hr hI=>?_) (fun hI=>?_)
 ·have e:(r:Int)<(P.cl.length:Int)+12:=by omega
  have w1:=zq (k:=r) (by omega)
  simp[nZ,Mr,e,w0]
  refine zl (Rb P L r) (fun _=>True) L.length (by simp[Rb,Zv]) trivial (fun k hk _=>?_) (fun _=>?_)
  ·have e':(k:Int)<L.length:=by omega
   have hg:L[k]?=some L[k]:=by simp[hk]
   have hm:L[k]∈L:=List.getElem_mem hk
   have w2:=zq (k:=k) (by omega)
   obtain ⟨p1,p2⟩:=mc (f:=P.coef r) (fun o ho=>tu (P:=P) (hw o ho) hr) k (by omega)
   obtain ⟨p3,p4⟩:=tu (P:=P) (hw _ hm) hr
   have w3:IntKind.i64.wrap (uj (P.coef r) L k+P.coef r L[k])=uj (P.coef r) L k+P.coef r L[k]:=by rw[wrap64]<;>omega
   have hs:=fE (f:=P.coef r) hg
   obtain ⟨c,hc,hk'⟩:=Yy (P:=P) (o:=L[k]) hn (hb _ hm).1 hr
   have hc:=hc (hb _ hm).2
   subst hc
   simp[rk,Rb,e',hk]
   refine za hk' (by simp) (by simp) ?_
   simp[w2,w3,hs,Rb]
  ·have hall:uj (P.coef r) L L.length=(L.map (P.coef r)).sum:=cP
   obtain ⟨z,hz,hz0⟩:∃ z:Of,[iv 0,iv 0,iv 0,iv 0,iv 0,iv 0,iv 0,iv 0]=oC z∧0≤z.b:=⟨oZ,KG,Int.le_refl 0⟩
   obtain ⟨c,_,hk'⟩:=Yy (P:=P) (o:=z) hn hz0 hr
   have key:∀ K:Exit→St→Prop,K (.exit 2) {env:=[(1,ofA L),(2,.ptr 2 0),(5,iv r),(6,iv (uj (P.coef r) L L.length)),(7,iv L.length),(23,bv false)],sto:=[(2,.var (pbC P))]}→awp Try.prog rk (Rb P L r L.length) (ug K):=by
    intro K h
    simp[rk,Rb]
    exact h
   refine key _ ?_
   simp[fe,hz]
   refine za hk' (by simp) (by simp) ?_
   by_cases hc:P.bnd r<(L.map (P.coef r)).sum
   ·have hf:¬ P.fits L:=fun h=>by have:=h r hr; omega
    simp[hall,hc,hf,gA]
   ·simp[hall,hc,ff,w1,Mr]
    exact fun q hq=>by
     by_cases eq:q=r
     ·subst eq; omega
     ·exact hI q (by omega)
 ·have hf:P.fits L:=hI
  have e:¬ ((P.rows:Nat):Int)<(P.cl.length:Int)+12:=by omega
  simp[nZ,Mr,w0,e,hf,fg,gA]
end
@[simp] theorem afy {u:Of}:zH (oC u).tail 0 (some 6)=some (.agg (bC u.w)):=by rw[rq,vP]; rfl
section
variable {P:Pb} {r n:Nat} {o:Of} {L:List Of}
def mo (P:Pb) (k:Nat):St:={env:=[(1,.ptr 1 0),(3,iv k)],sto:=[(1,.var (pbC P))]}
def bh (P:Pb) (k:Nat):St:={env:=[(1,.ptr 1 0),(4,iv k)],sto:=[(1,.var (pbC P))]}
def lF (P:Pb) (k:Nat):St:={env:=[(1,.ptr 1 0),(5,iv k)],sto:=[(1,.var (pbC P))]}
def bm (P:Pb) (o:Of) (k j:Nat):St:={env:=[(1,.ptr 1 0),(5,iv k),(6,.ptr 6 0),(7,iv j)],sto:=[(1,.var (pbC P)),(6,.var (oC o))]}
theorem KI {i:Nat} (h:P.offE o≠0):P.offI i o=P.offE o:=by unfold Pb.offI; rw[if_pos h]
theorem Tw (h:o.b<0∨(P.cl.length:Int)≤o.b):P.offE o=6:=by
 have:s6 P.cl.length o=6:=by unfold s6; rw[if_pos h]
 unfold Pb.offE; rw[this]; rfl
theorem Tx (hb:¬ (o.b<0∨(P.cl.length:Int)≤o.b)) (h:o.v<1∨1000000<o.v):P.offE o=4:=by
 have:s6 P.cl.length o=4:=by unfold s6; rw[if_neg hb,if_pos h]
 unfold Pb.offE; rw[this]; rfl
theorem EL (hb:¬ (o.b<0∨(P.cl.length:Int)≤o.b)) (hv:¬ (o.v<1∨1000000<o.v)) (h:¬ okB o.w):P.offE o=4:=by
 have:s6 P.cl.length o=4:=by unfold s6; rw[if_neg hb,if_neg hv,if_neg h]
 unfold Pb.offE; rw[this]; rfl
theorem ad5 (hb:¬ (o.b<0∨(n:Int)≤o.b)) (hv:¬ (o.v<1∨1000000<o.v)) (h:okB o.w):s6 n o=0:=by unfold s6; rw[if_neg hb,if_neg hv,if_pos h]
theorem EM (hf:s6 P.cl.length o=0) (h:lH o.w):P.offE o=4:=by unfold Pb.offE; rw[if_neg (fun h=>h hf),if_pos h]
theorem EK (hf:s6 P.cl.length o=0) (hz:¬ lH o.w):P.offE o=if P.fits [o] then 0 else 14:=by unfold Pb.offE; rw[if_neg (fun h=>h hf),if_neg hz]
theorem X4 (hn:P.cl.length≤1000) (hk:P.of.length≤1000000):zd Try.prog um [.agg (pbC P)] (iv P.chk):=by
 have hkd:kds Try.prog Op.maxDepth ws=some (List.replicate 6 (.i .i64)):=by kernel_rfl
 have hg:Try.prog.eqGuardType Try.prog.depth ws=false:=by kernel_rfl
 have hA:agT Try.prog ws=true:=by kernel_rfl
 refine zD QP (by simp) ?_
 simp[bN]
 refine za (N7 (w:=P.sup)) (by simp) (by simp) ?_
 unfold Pb.chk
 by_cases c1:okB P.sup
 ·simp[c1]
  refine zl (mo P) (fun r=>∀ q,q<r→P.okC q) 6 (by simp[mo]) (fun q hq=>by omega) (fun k hk hI=>?_) (fun hI=>?_)
  ·have e:(k:Int)<6:=by omega
   have w1:=zq (k:=k) (by omega)
   by_cases d:P.okC k
   ·have d':=d
    unfold Pb.okC at d'
    obtain ⟨d1,d2,d3,d4,d5⟩:=d'
    have b1:¬ P.cls k<0:=by omega
    have b2:¬ 4<P.cls k:=by omega
    have b3:¬ P.opn k<0:=by omega
    have b4:¬ P.sup k<P.opn k:=by omega
    have hx:∀ q,q<k+1→P.okC q:=fun q hq=>by
     by_cases eq:q=k
     ·subst eq; exact d
     ·exact hI q (by omega)
    by_cases b5:P.cls k=0
    ·have b6:=d5 b5
     rw[b5] at b1 b2
     rw[b6] at b3 b4
     simp[yD,mo,e,yl hk,yf hk,wq hk,b3,b5,b6,w1]
     exact hx
    ·simp[yD,mo,e,yl hk,yf hk,wq hk,b1,b2,b3,b4,b5,w1]
     exact hx
   ·have hF:P.frameE=4:=by unfold Pb.frameE; rw[if_neg (fun h=>h c1),if_pos (show ¬ P.okCs from fun h=>d (h k hk))]
    rw[hF]
    by_cases b1:P.cls k<0
    ·simp[yD,mo,e,yf hk,b1,zZ]
    ·by_cases b2:4<P.cls k
     ·simp[yD,mo,e,yf hk,b1,b2,zZ]
     ·by_cases b3:P.opn k<0
      ·simp[yD,mo,e,yl hk,yf hk,b1,b2,b3,zZ]
      ·by_cases b4:P.sup k<P.opn k
       ·simp[yD,mo,e,yl hk,yf hk,wq hk,b1,b2,b3,b4,zZ]
       ·have b5:P.cls k=0∧¬ P.opn k=P.sup k:=by
         unfold Pb.okC at d
         by_cases b5:P.cls k=0
         ·exact ⟨b5,fun h=>d ⟨by omega,by omega,by omega,by omega,fun _=>h⟩⟩
         ·exact absurd (⟨by omega,by omega,by omega,by omega,fun h=>absurd h b5⟩) d
        simp[yD,mo,e,yl hk,yf hk,wq hk,b3,b4,b5,zZ]
  ·have hs:P.okCs:=hI
   have key:∀ K:Exit→St→Prop,K (.exit 0) {env:=[(1,.ptr 1 0),(3,iv (6:Nat)),(13,bv false)],sto:=[(1,.var (pbC P))]}→awp Try.prog yD (mo P 6) (ug K):=by
    intro K h
    simp[yD,mo]
    exact h
   refine key _ ?_
   by_cases f1:8<P.cl.length
   ·have f1':(8:Int)<P.cl.length:=by omega
    have hF:P.frameE=3:=by unfold Pb.frameE; rw[if_neg (fun h=>h c1),if_neg (fun h=>h hs),if_pos (.inl f1)]
    simp[t7,f1',hF,zZ]
   ·have f1':¬ (8:Int)<P.cl.length:=by omega
    by_cases f2:160<P.of.length
    ·have f2':(160:Int)<P.of.length:=by omega
     have hF:P.frameE=3:=by unfold Pb.frameE; rw[if_neg (fun h=>h c1),if_neg (fun h=>h hs),if_pos (.inr f2)]
     simp[t7,f1',f2',hF,zZ]
    ·have f2':¬ (160:Int)<P.of.length:=by omega
     simp[t7,f1',f2']
     refine zl (bh P) (fun r=>∀ q,q<r→(hq:q<P.cl.length)→mb P.cl[q]) P.cl.length (by simp[bh]) (fun q hq=>by omega) (fun k hk hI=>?_) (fun hI=>?_)
     ·have e:(k:Int)<P.cl.length:=by omega
      have w1:=zq (k:=k) (by omega)
      by_cases d:mb P.cl[k]
      ·have d':=d
       unfold mb at d'
       have b1:¬ P.cl[k]<0:=by omega
       have b2:¬ 4<P.cl[k]:=by omega
       simp[wN,bh,e,hk,b1,b2,w1]
       exact fun q hq hl=>by
        by_cases eq:q=k
        ·subst eq; exact d
        ·exact hI q (by omega) hl
      ·have hF:P.frameE=4:=by unfold Pb.frameE; rw[if_neg (fun h=>h c1),if_neg (fun h=>h hs),if_neg (by omega),if_neg (fun h=>d (h _ (List.getElem_mem hk)))]
       rw[hF]
       unfold mb at d
       by_cases b1:P.cl[k]<0
       ·simp[wN,bh,e,hk,b1,zZ]
       ·have b2:4<P.cl[k]:=by omega
        simp[wN,bh,e,hk,b1,b2,zZ]
     ·have hc:=frC P fun i hi=>hI i hi hi
      have hF:P.frameE=0:=by unfold Pb.frameE; rw[if_neg (fun h=>h c1),if_neg (fun h=>h hs),if_neg (by omega),if_pos hc]
      rw[if_pos hF]
      have key:∀ K:Exit→St→Prop,K (.exit 2) {env:=[(1,.ptr 1 0),(4,iv P.cl.length),(78,bv false)],sto:=[(1,.var (pbC P))]}→awp Try.prog wN (bh P P.cl.length) (ug K):=by
       intro K h
       simp[wN,bh]
       exact h
      refine key _ ?_
      simp[jZ]
      refine zl (lF P) (fun k=>P.chkL k=0) P.of.length (by simp[lF]) rfl (fun k hk' hI=>?_) (fun hI=>?_)
      ·have e:(k:Int)<P.of.length:=by omega
       have hgk:P.of[k]?=some P.of[k]:=by simp[hk']
       have w1:=zq (k:=k) (by omega)
       obtain ⟨o,ho⟩:∃ o,P.of[k]=o:=⟨_,rfl⟩
       rw[ho] at hgk
       have fin:P.offE o≠0→P.chkL P.of.length=P.offE o:=fun h=>by
        rw[kZ hI hgk (by rw[KI h]; exact h) hk',KI h]
       by_cases b1:o.b<0
       ·rw[fin (by rw[Tw (.inl b1)]; decide),Tw (.inl b1)]
        simp[xB,lF,e,hk',ho,b1,zZ]
       ·by_cases b2:(P.cl.length:Int)≤o.b
        ·rw[fin (by rw[Tw (.inr b2)]; decide),Tw (.inr b2)]
         simp[xB,lF,e,hk',ho,b1,b2,zZ]
        ·have hb:¬ (o.b<0∨(P.cl.length:Int)≤o.b):=by omega
         by_cases b3:o.v<1
         ·rw[fin (by rw[Tx hb (.inl b3)]; decide),Tx hb (.inl b3)]
          simp[xB,lF,e,hk',ho,b1,b2,b3,zZ]
         ·by_cases b4:1000000<o.v
          ·rw[fin (by rw[Tx hb (.inr b4)]; decide),Tx hb (.inr b4)]
           simp[xB,lF,e,hk',ho,b1,b2,b3,b4,zZ]
          ·have hv:¬ (o.v<1∨1000000<o.v):=by omega
           simp[xB,lF,e,hk',ho,b1,b2,b3,b4]
           refine za (N7 (w:=o.w)) (by simp) (by simp) ?_
           by_cases b5:okB o.w
           ·have hf:=ad5 (n:=P.cl.length) hb hv b5
            have hz:decide (bI o.w=bI (fun _=>0))=decide (lH o.w):=by
             rw[decide_eq_decide,QY]
             exact Iff.rfl
            simp[b5,LO]
            rw[kJ hkd hg hA nI nI]
            by_cases b6:lH o.w
            ·rw[fin (by rw[EM hf b6]; decide),EM hf b6]
             simp[hz,b6,zZ]
            ·simp[hz,b6]
             have hfs:=K8 (P:=P) (L:=[o]) hn (by simp) (fun x hx=>by rw[List.mem_singleton.1 hx]; omega) (fun x hx=>by rw[List.mem_singleton.1 hx]; exact b5)
             refine za (Tc hfs (wz (rows:=[oC o]))) (by simp) (by simp) ?_
             by_cases b7:P.fits [o]
             ·have hE:P.offE o=0:=by rw[EK hf b6,if_pos b7]
              simp[b7]
              refine zl (bm P o k) (fun j=>∀ (q:Nat) u,q<j→P.of[q]?=some u→¬ qL u o) k (by simp[bm]) (fun q u hq=>by omega) (fun j hj hJ=>?_) (fun hJ=>?_)
              ·have ej:(j:Int)<k:=by omega
               have hj2:j<P.of.length:=by omega
               have ej2:(j:Int)<P.of.length:=by omega
               have w2:=zq (k:=j) (by omega)
               obtain ⟨u,hu⟩:∃ u,P.of[j]=u:=⟨_,rfl⟩
               have hgj:P.of[j]?=some u:=by simp[hj2,hu]
               have hzu:decide (bI u.w=bI o.w)=decide (eqB u.w o.w):=by rw[decide_eq_decide,QY]
               by_cases d1:u.b=o.b
               ·simp[ua,bm,ej,ej2,hj2,hu,d1]
                rw[kJ hkd hg hA nI nI]
                by_cases d2:eqB u.w o.w
                ·have hi:P.offI k o=7:=by
                  unfold Pb.offI
                  rw[if_neg (fun h=>h hE),if_pos ⟨u,List.mem_of_getElem? (i:=j) (by rw[List.getElem?_take,if_pos hj]; exact hgj),d1,d2⟩]
                 rw[kZ hI hgk (by rw[hi]; decide) hk',hi]
                 simp[hzu,d2,zZ]
                ·simp[hzu,d2,w2,bm]
                 intro q x hq hx
                 by_cases eq:q=j
                 ·subst eq
                  rw[hgj] at hx
                  rw[← Option.some.inj hx]
                  exact fun h=>d2 h.2
                 ·exact hJ q x (by omega) hx
               ·simp[ua,bm,ej,ej2,hj2,hu,d1,w2]
                intro q x hq hx
                by_cases eq:q=j
                ·subst eq
                 rw[hgj] at hx
                 rw[← Option.some.inj hx]
                 exact fun h=>d1 h.1
                ·exact hJ q x (by omega) hx
              ·have hi:P.offI k o=0:=by
                unfold Pb.offI
                rw[if_neg (fun h=>h hE),if_neg]
                rintro ⟨u,hu,hs'⟩
                obtain ⟨q,hq⟩:=List.mem_iff_getElem?.1 hu
                rw[List.getElem?_take] at hq
                split at hq
                ·rename_i hqk; exact hJ q u hqk hq hs'
                ·cases hq
               have hx:=RL hI hgk hi
               have key:∀ K:Exit→St→Prop,K (.exit 6) {env:=[(1,.ptr 1 0),(5,iv k),(6,.ptr 6 0),(7,iv k),(145,bv false)],sto:=[(1,.var (pbC P)),(6,.var (oC o))]}→awp Try.prog ua (bm P o k k) (ug K):=by
                intro K h
                simp[ua,bm]
                exact h
               refine key _ ?_
               simp[jX,w1,hx,lF]
             ·have hE:P.offE o=14:=by rw[EK hf b6,if_neg b7]
              rw[fin (by rw[hE]; decide),hE]
              simp[b7,zZ]
           ·rw[fin (by rw[EL hb hv b5]; decide),EL hb hv b5]
            simp[b5,zZ]
      ·rw[hI]
       have key:∀ K:Exit→St→Prop,K (.exit 4) {env:=[(1,.ptr 1 0),(5,iv P.of.length),(99,bv false)],sto:=[(1,.var (pbC P))]}→awp Try.prog xB (lF P P.of.length) (ug K):=by
        intro K h
        simp[xB,lF]
        exact h
       refine key _ ?_
       simp[jY,zZ]
 ·have hF:P.frameE=4:=by unfold Pb.frameE; rw[if_pos c1]
  simp[c1,hF,zZ]
end
end Go.Proofs.Ytfmcplfbnkoglaa

namespace Go.LP
def zh:Nat→(Nat→Rat)→Rat
 | 0,_=>0
 | n+1,f=>zh n f+f n
theorem zt {n:Nat} {f g:Nat→Rat} (h:∀ i,i<n→f i=g i):zh n f=zh n g:=by
 induction n with
 | zero=>rfl
 | succ n ih=>simp only[zh]; rw[ih fun i hi=>h i (by omega),h n (by omega)]
theorem zO {n:Nat} {f:Nat→Rat} (h:∀ i,i<n→f i=0):zh n f=0:=by
 induction n with
 | zero=>rfl
 | succ n ih=>simp only[zh]; rw[ih fun i hi=>h i (by omega),h n (by omega)]; grind
theorem lh {n:Nat} {f g:Nat→Rat}:zh n (fun i=>f i+g i)=zh n f+zh n g:=by
 induction n with
 | zero=>simp only[zh]; grind
 | succ n ih=>simp only[zh]; rw[ih]; grind
theorem li {n:Nat} {f:Nat→Rat} {k:Rat}:zh n (fun i=>k*f i)=k*zh n f:=by
 induction n with
 | zero=>simp only[zh]; grind
 | succ n ih=>simp only[zh]; rw[ih]; grind
theorem fS {n:Nat} {f:Nat→Rat} {k:Rat}:zh n (fun i=>f i*k)=zh n f*k:=by
 induction n with
 | zero=>simp only[zh]; grind
 | succ n ih=>simp only[zh]; rw[ih]; grind
theorem uW {n:Nat} {f g:Nat→Rat}:zh n (fun i=>f i-g i)=zh n f-zh n g:=by
 induction n with
 | zero=>simp only[zh]; grind
 | succ n ih=>simp only[zh]; rw[ih]; grind
theorem gH {n:Nat} {f:Nat→Rat}:zh n (fun i=>- f i)=- zh n f:=by
 induction n with
 | zero=>simp only[zh]; grind
 | succ n ih=>simp only[zh]; rw[ih]; grind
theorem fQ {n m:Nat} {f:Nat→Nat→Rat}:zh n (fun i=>zh m (f i))=zh m (fun j=>zh n fun i=>f i j):=by
 induction n with
 | zero=>simp only[zh]; exact (zO fun _ _=>rfl).symm
 | succ n ih=>simp only[zh]; rw[ih,← lh]
theorem xZ {n:Nat} {f:Nat→Rat} (h:∀ i,i<n→0≤f i):0≤zh n f:=by
 induction n with
 | zero=>simp only[zh]; grind
 | succ n ih=>simp only[zh]; have:=ih fun i hi=>h i (by omega); have:=h n (by omega); grind
theorem jA {n:Nat} {f g:Nat→Rat} (h:∀ i,i<n→f i≤g i):zh n f≤zh n g:=by
 induction n with
 | zero=>simp only[zh]; grind
 | succ n ih=>simp only[zh]; have:=ih fun i hi=>h i (by omega); have:=h n (by omega); grind
theorem yk {n q:Nat} {f:Nat→Rat} (hq:q<n):zh n f=f q+zh n (fun j=>if j=q then 0 else f j):=by
 induction n with
 | zero=>omega
 | succ n ih =>
  simp only[zh]
  by_cases h:q=n
  ·subst h
   rw[if_pos rfl,zt (f:=fun j=>if j=q then 0 else f j) (g:=f) fun i hi=>if_neg (by omega)]
   grind
  ·rw[ih (by omega),if_neg (fun e=>h e.symm)]
   grind
theorem wE {n q:Nat} {f:Nat→Rat} (hq:q<n) (h:∀ i,i<n→i≠q→f i=0):zh n f=f q:=by
 rw[yk hq,zO (f:=fun j=>if j=q then 0 else f j) fun i hi=>by
  by_cases e:i=q
  ·exact if_pos e
  ·rw[if_neg e]; exact h i hi e]
 grind
theorem T3 {n:Nat} {f:Nat→Rat} (h:zh n f<0):∃ i,i<n∧f i<0:=by
 induction n with
 | zero=>simp only[zh] at h; grind
 | succ n ih =>
  simp only[zh] at h
  by_cases h1:zh n f<0
  ·obtain ⟨i,hi,hf⟩:=ih h1; exact ⟨i,by omega,hf⟩
  ·exact ⟨n,by omega,by grind⟩
structure zn where
 r:Nat
 c:Nat
 a:Nat→Nat→Rat
 b:Nat→Rat
 cst:Nat→Rat
 v:Rat
 bas:Nat→Nat
 fre:Nat→Nat
def sol (d:zn) (x:Nat→Rat):Prop:=∀ i,i<d.r→x (d.bas i)=d.b i-zh d.c fun j=>d.a i j*x (d.fre j)
def obj (d:zn) (x:Nat→Rat):Rat:=d.v+zh d.c fun j=>d.cst j*x (d.fre j)
def Bij (d:zn) (N:Nat):Prop:=∀ g:Nat→Rat,zh N g=zh d.c (fun j=>g (d.fre j))+zh d.r (fun i=>g (d.bas i))
def upd {α:Type} (f:Nat→α) (p:Nat) (x:α):Nat→α:=fun i=>if i=p then x else f i
def pivot (d:zn) (p q:Nat):zn where
 r:=d.r
 c:=d.c
 a:=fun i j=>if i=p then (if j=q then 1/d.a p q else d.a p j*(1/d.a p q)) else (if j=q then -(d.a i q*(1/d.a p q)) else d.a i j-d.a i q*(d.a p j*(1/d.a p q)))
 b:=fun i=>if i=p then d.b p*(1/d.a p q) else d.b i-d.a i q*(d.b p*(1/d.a p q))
 cst:=fun j=>if j=q then -(d.cst q*(1/d.a p q)) else d.cst j-d.cst q*(d.a p j*(1/d.a p q))
 v:=d.v+d.cst q*(d.b p*(1/d.a p q))
 bas:=upd d.bas p (d.fre q)
 fre:=upd d.fre q (d.bas p)
theorem Y9 {d:zn} {p q:Nat} (h:d.a p q≠0):pivot (pivot d p q) p q=d:=by
 cases d with
 | mk r c a b cst v bas fre =>
  simp only at h
  simp only[pivot,zn.mk.injEq,upd,if_true,true_and]
  refine ⟨?_,?_,?_,?_,?_,?_⟩
  ·funext i j
   by_cases hi:i=p<;>by_cases hj:j=q<;>simp only[hi,hj,if_true,if_false]<;>grind
  ·funext i
   by_cases hi:i=p<;>simp only[hi,if_true,if_false]<;>grind
  ·funext j
   by_cases hj:j=q<;>simp only[hj,if_true,if_false]<;>grind
  ·grind
  ·funext i; by_cases hi:i=p<;>simp[upd,hi]
  ·funext i; by_cases hi:i=q<;>simp[upd,hi]
theorem Qb {d:zn} {p q N:Nat} (hp:p<d.r) (hq:q<d.c) (h:Bij d N):Bij (pivot d p q) N:=by
 intro g
 rw[h g]
 simp only[pivot]
 rw[yk (f:=fun j=>g (d.fre j)) hq,yk (f:=fun j=>g (d.bas j)) hp,yk (f:=fun j=>g (upd d.fre q (d.bas p) j)) hq,
  yk (f:=fun j=>g (upd d.bas p (d.fre q) j)) hp]
 have e1:zh d.c (fun j=>if j=q then 0 else g (upd d.fre q (d.bas p) j))=zh d.c (fun j=>if j=q then 0 else g (d.fre j)):=zt fun i _=>by
  by_cases e:i=q<;>simp[e,upd]
 have e2:zh d.r (fun j=>if j=p then 0 else g (upd d.bas p (d.fre q) j))=zh d.r (fun j=>if j=p then 0 else g (d.bas j)):=zt fun i _=>by
  by_cases e:i=p<;>simp[e,upd]
 rw[e1,e2]
 simp only[upd,if_true]
 grind
theorem Qo {d:zn} {p q:Nat} (hp:p<d.r) (hq:q<d.c) (h:d.a p q≠0) {x:Nat→Rat} (hs:sol d x):sol (pivot d p q) x:=by
 have e0:=hs p hp
 rw[yk hq] at e0
 have k1:∀ (k:Rat),zh d.c (fun j=>if j=q then 0 else k*d.a p j*x (d.fre j))=k*zh d.c (fun j=>if j=q then 0 else d.a p j*x (d.fre j)):=fun k=>by
  rw[← li]
  exact zt fun j _=>by by_cases e:j=q<;>simp[e]; grind
 intro i hi
 simp only[pivot] at hi ⊢
 rw[yk hq]
 by_cases hip:i=p
 ·subst hip
  have e1:zh d.c (fun j=>if j=q then 0 else (if i=i then (if j=q then 1/d.a i q else d.a i j*(1/d.a i q)) else (if j=q then -(d.a i q*(1/d.a i q)) else d.a i j-d.a i q*(d.a i j*(1/d.a i q))))*x (upd d.fre q (d.bas i) j))
    = (1/d.a i q)*zh d.c (fun j=>if j=q then 0 else d.a i j*x (d.fre j)):=by
   rw[← k1]
   exact zt fun j _=>by by_cases e:j=q<;>simp[e,upd]; grind
  rw[e1]
  simp only[upd,if_true]
  grind
 ·have e2:=hs i hi
  rw[yk hq] at e2
  have e1:zh d.c (fun j=>if j=q then 0 else (if i=p then (if j=q then 1/d.a p q else d.a p j*(1/d.a p q)) else (if j=q then -(d.a i q*(1/d.a p q)) else d.a i j-d.a i q*(d.a p j*(1/d.a p q))))*x (upd d.fre q (d.bas p) j))
    = zh d.c (fun j=>if j=q then 0 else d.a i j*x (d.fre j))-(d.a i q*(1/d.a p q))*zh d.c (fun j=>if j=q then 0 else d.a p j*x (d.fre j)):=by
   rw[← k1,← uW]
   exact zt fun j _=>by by_cases e:j=q<;>simp[e,upd,hip]<;>grind
  rw[e1]
  simp only[upd,if_true,if_neg hip]
  grind
theorem kP {d:zn} {p q:Nat} (hp:p<d.r) (hq:q<d.c) (h:d.a p q≠0) {x:Nat→Rat}:sol (pivot d p q) x↔sol d x:=by
 constructor
 ·intro hs
  have h2:(pivot d p q).a p q≠0:=by simp only[pivot,if_true]; grind
  have:=Qo (d:=pivot d p q) hp hq h2 hs
  rwa [Y9 h] at this
 ·exact Qo hp hq h
theorem R6 {d:zn} {p q:Nat} (hp:p<d.r) (hq:q<d.c) (h:d.a p q≠0) {x:Nat→Rat} (hs:sol d x):obj (pivot d p q) x=obj d x:=by
 have e0:=hs p hp
 rw[yk hq] at e0
 have k1:∀ (k:Rat),zh d.c (fun j=>if j=q then 0 else k*d.a p j*x (d.fre j))=k*zh d.c (fun j=>if j=q then 0 else d.a p j*x (d.fre j)):=fun k=>by
  rw[← li]
  exact zt fun j _=>by by_cases e:j=q<;>simp[e]; grind
 simp only[obj,pivot]
 rw[yk hq,yk (f:=fun j=>d.cst j*x (d.fre j)) hq]
 have e1:zh d.c (fun j=>if j=q then 0 else (if j=q then -(d.cst q*(1/d.a p q)) else d.cst j-d.cst q*(d.a p j*(1/d.a p q)))*x (upd d.fre q (d.bas p) j))
    = zh d.c (fun j=>if j=q then 0 else d.cst j*x (d.fre j))-(d.cst q*(1/d.a p q))*zh d.c (fun j=>if j=q then 0 else d.a p j*x (d.fre j)):=by
  rw[← k1,← uW]
  exact zt fun j _=>by by_cases e:j=q<;>simp[e,upd]<;>grind
 rw[e1]
 simp only[upd,if_true]
 grind
section
variable {d:zn} {N:Nat} (hb:Bij d N)
include hb
theorem gU {k:Nat} (hk:k<N):zh d.c (fun j=>if d.fre j=k then 1 else 0)+zh d.r (fun i=>if d.bas i=k then 1 else 0)=1:=by
 have:=hb fun x=>if x=k then 1 else 0
 rw[wE hk (fun i _ hne=>if_neg hne),if_pos rfl] at this
 exact this.symm
theorem UD {k:Nat} (hk:N≤k):zh d.c (fun j=>if d.fre j=k then 1 else 0)+zh d.r (fun i=>if d.bas i=k then 1 else 0)=0:=by
 have:=hb fun x=>if x=k then 1 else 0
 rw[zO (fun i hi=>if_neg (by omega))] at this
 exact this.symm
omit hb in
theorem jb {n:Nat} {f:Nat→Nat} {k:Nat}:0≤zh n (fun j=>if f j=k then 1 else 0):=xZ fun i _=>by split<;>grind
omit hb in
theorem Yl {n j:Nat} {f:Nat→Nat} (hj:j<n):1≤zh n (fun i=>if f i=f j then 1 else 0):=by
 rw[yk hj]
 simp only[if_true]
 have:0≤zh n (fun i=>if i=j then 0 else if f i=f j then (1:Rat) else 0):=xZ fun i _=>by split<;>(try split)<;>grind
 grind
omit hb in
theorem Kp {n i j:Nat} {f:Nat→Nat} (hi:i<n) (hj:j<n) (hne:i≠j) (he:f i=f j):2≤zh n (fun l=>if f l=f j then 1 else 0):=by
 rw[yk hj,yk (f:=fun l=>if l=j then 0 else if f l=f j then (1:Rat) else 0) hi]
 simp only[if_true,if_neg hne,he]
 have:0≤zh n (fun l=>if l=i then 0 else if l=j then 0 else if f l=f j then (1:Rat) else 0):=xZ fun i _=>by split<;>(try split)<;>(try split)<;>grind
 grind
theorem lX {j:Nat} (hj:j<d.c):d.fre j<N:=by
 rcases Nat.lt_or_ge (d.fre j) N with h | h
 ·exact h
 ·have h1:=UD hb h
  have h2:=Yl (f:=d.fre) hj
  have h3:=jb (n:=d.r) (f:=d.bas) (k:=d.fre j)
  grind
theorem jH {i:Nat} (hi:i<d.r):d.bas i<N:=by
 rcases Nat.lt_or_ge (d.bas i) N with h | h
 ·exact h
 ·have h1:=UD hb h
  have h2:=Yl (f:=d.bas) hi
  have h3:=jb (n:=d.c) (f:=d.fre) (k:=d.bas i)
  grind
theorem mP {i j:Nat} (hi:i<d.c) (hj:j<d.c) (h:d.fre i=d.fre j):i=j:=by
 by_cases e:i=j
 ·exact e
 ·have h1:=gU hb (lX hb hj)
  have h2:=Kp (f:=d.fre) hi hj e h
  have h3:=jb (n:=d.r) (f:=d.bas) (k:=d.fre j)
  grind
theorem jp {i j:Nat} (hi:i<d.r) (hj:j<d.r) (h:d.bas i=d.bas j):i=j:=by
 by_cases e:i=j
 ·exact e
 ·have h1:=gU hb (jH hb hj)
  have h2:=Kp (f:=d.bas) hi hj e h
  have h3:=jb (n:=d.c) (f:=d.fre) (k:=d.bas j)
  grind
theorem uG {i j:Nat} (hi:i<d.r) (hj:j<d.c):d.fre j≠d.bas i:=fun e=>by
 have h1:=gU hb (jH hb hi)
 have h2:=Yl (f:=d.bas) hi
 have h3:=Yl (f:=d.fre) hj
 rw[e] at h3
 grind
omit hb in
theorem Nh {n k:Nat} {f:Nat→Nat} (h:∀ j,j<n→f j≠k):zh n (fun j=>if f j=k then (1:Rat) else 0)=0:=zO fun i hi=>if_neg (h i hi)
theorem bR {k:Nat} (hk:k<N):(∃ j,j<d.c∧d.fre j=k)∨∃ i,i<d.r∧d.bas i=k:=by
 apply Classical.byContradiction
 intro h
 have h1:=gU hb hk
 rw[Nh fun j hj e=>h (.inl ⟨j,hj,e⟩),Nh fun j hj e=>h (.inr ⟨j,hj,e⟩)] at h1
 grind
end
def inB (d:zn) (k:Nat):Prop:=∃ i,i<d.r∧d.bas i=k
def vl (d:zn) (k:Nat):Rat:=zh d.r fun i=>if d.bas i=k then d.b i else 0
def cv (d:zn) (k:Nat):Rat:=zh d.c fun j=>if d.fre j=k then d.cst j else 0
section
variable {d:zn} {N:Nat} (hb:Bij d N)
include hb
theorem Z2 {i:Nat} (hi:i<d.r):vl d (d.bas i)=d.b i:=by
 unfold vl
 rw[wE hi fun k hk hne=>if_neg fun e=>hne (jp hb hk hi e),if_pos rfl]
omit hb in
theorem gL {k:Nat} (h:¬ inB d k):vl d k=0:=zO fun i hi=>if_neg fun e=>h ⟨i,hi,e⟩
theorem U1 {j:Nat} (hj:j<d.c):cv d (d.fre j)=d.cst j:=by
 unfold cv
 rw[wE hj fun k hk hne=>if_neg fun e=>hne (mP hb hk hj e),if_pos rfl]
theorem PG {k:Nat} (h:inB d k):cv d k=0:=by
 obtain ⟨i,hi,rfl⟩:=h
 exact zO fun j hj=>if_neg fun e=>uG hb hi hj e
theorem xW {j:Nat} (hj:j<d.c):¬ inB d (d.fre j):=fun ⟨_,hi,e⟩=>uG hb hi hj e.symm
theorem js {k:Nat} (hk:k<N) (h:¬ inB d k):∃ j,j<d.c∧d.fre j=k:=(bR hb hk).resolve_right h
def ptq (d:zn) (q:Nat) (y:Rat) (k:Nat):Rat:=zh d.r (fun i=>if d.bas i=k then d.b i-d.a i q*y else 0)+(if d.fre q=k then y else 0)
theorem dx {q i:Nat} {y:Rat} (hq:q<d.c) (hi:i<d.r):ptq d q y (d.bas i)=d.b i-d.a i q*y:=by
 unfold ptq
 rw[wE hi fun k hk hne=>if_neg fun e=>hne (jp hb hk hi e),if_pos rfl,if_neg (uG hb hi hq)]
 grind
theorem vB {q j:Nat} {y:Rat} (hq:q<d.c) (hj:j<d.c):ptq d q y (d.fre j)=if j=q then y else 0:=by
 unfold ptq
 rw[zO fun i hi=>if_neg fun e=>uG hb hi hj e.symm]
 by_cases e:j=q
 ·subst e; simp; grind
 ·rw[if_neg e,if_neg fun h=>e (mP hb hj hq h.symm)]; grind
theorem qJ {q:Nat} {y:Rat} (hq:q<d.c):sol d (ptq d q y):=by
 intro i hi
 rw[dx hb hq hi,wE hq (fun j hj hne=>by rw[vB hb hq hj,if_neg hne]; grind),vB hb hq hq,if_pos rfl]
theorem Yr {q:Nat} {y:Rat} (hq:q<d.c):obj d (ptq d q y)=d.v+d.cst q*y:=by
 unfold obj
 rw[wE hq (fun j hj hne=>by rw[vB hb hq hj,if_neg hne]; grind),vB hb hq hq,if_pos rfl]
theorem gM:sol d (vl d):=by
 intro i hi
 rw[Z2 hb hi,zO fun j hj=>by rw[gL (xW hb hj)]; grind]
 grind
theorem Z3:obj d (vl d)=d.v:=by
 unfold obj
 rw[zO fun j hj=>by rw[gL (xW hb hj)]; grind]
 grind
theorem NI {x:Nat→Rat}:obj d x=d.v+zh N fun k=>cv d k*x k:=by
 have:=hb fun k=>cv d k*x k
 rw[this,zO (n:=d.r) fun i hi=>by rw[PG hb ⟨i,hi,rfl⟩]; grind]
 unfold obj
 rw[zt (g:=fun j=>cv d (d.fre j)*x (d.fre j)) fun j hj=>by rw[U1 hb hj]]
 grind
end
theorem lt_or_le (a b:Rat):a<b∨b≤a:=by
 by_cases h:a<b
 ·exact .inl h
 ·exact .inr (by grind)
theorem cE {a:Rat} (h:0<a):0<1/a:=by
 have h1:a*(1/a)=1:=by grind
 rcases lt_or_le 0 (1/a) with h2 | h2
 ·exact h2
 ·exfalso
  have:0≤a*(-(1/a)):=Rat.mul_nonneg (by grind) (by grind)
  grind
def kW (d:zn) (p q:Nat):Prop:=p<d.r∧q<d.c∧0<d.cst q∧(∀ j,j<d.c→0<d.cst j→d.fre q≤d.fre j)∧0<d.a p q ∧
 ∀ i,i<d.r→0<d.a i q→d.b p*d.a i q≤d.b i*d.a p q∧(d.b p*d.a i q=d.b i*d.a p q→d.bas p≤d.bas i)
def feas (d:zn):Prop:=∀ i,i<d.r→0≤d.b i
theorem Gj {d:zn} {p q:Nat} (hp:p<d.r) (hf:feas d) (ha:0<d.a p q) (hr:∀ i,i<d.r→0<d.a i q→d.b p*d.a i q≤d.b i*d.a p q):feas (pivot d p q):=by
 have hi:=cE ha
 intro i hir
 simp only[pivot] at hir ⊢
 by_cases e:i=p
 ·rw[if_pos e]; exact Rat.mul_nonneg (hf p hp) (by grind)
 ·rw[if_neg e]
  have h0:0≤d.b p*(1/d.a p q):=Rat.mul_nonneg (hf p hp) (by grind)
  by_cases h:0<d.a i q
  ·have h1:=hr i hir h
   have h2:0≤(d.b i*d.a p q-d.b p*d.a i q)*(1/d.a p q):=Rat.mul_nonneg (by grind) (by grind)
   have h3:(d.b i*d.a p q-d.b p*d.a i q)*(1/d.a p q)=d.b i-d.a i q*(d.b p*(1/d.a p q)):=by grind
   rwa [h3] at h2
  ·have h1:0≤(- d.a i q)*(d.b p*(1/d.a p q)):=Rat.mul_nonneg (by grind) h0
   have:=hf i hir
   grind
theorem kW.feas {d:zn} {p q:Nat} (h:kW d p q) (hf:feas d):feas (pivot d p q) :=
 Gj h.1 hf h.2.2.2.2.1 fun i hi ha=>(h.2.2.2.2.2 i hi ha).1
theorem kW.v_le {d:zn} {p q:Nat} (h:kW d p q) (hf:LP.feas d):d.v≤(pivot d p q).v:=by
 have hi:=cE h.2.2.2.2.1
 have h0:0≤d.cst q*(d.b p*(1/d.a p q)):=Rat.mul_nonneg (by have:=h.2.2.1; grind) (Rat.mul_nonneg (hf p h.1) (by grind))
 simp only[pivot]
 grind
theorem kW.v_eq {d:zn} {p q:Nat} (h:kW d p q) (hv:(pivot d p q).v=d.v):d.b p=0:=by
 have hi:=cE h.2.2.2.2.1
 have hc:=h.2.2.1
 simp only[pivot] at hv
 have e:d.cst q*(d.b p*(1/d.a p q))=0:=by grind
 have h1:d.b p*(1/d.a p q)=0:=by grind
 grind
theorem ae4 {d:zn} {p q:Nat} (h:d.b p=0) (k:Nat):vl (pivot d p q) k=vl d k:=by
 unfold vl
 simp only[pivot]
 refine zt fun i _=>?_
 by_cases e:i=p
 ·subst e
  simp only[h,upd,if_true]
  have:(0:Rat)*(1/d.a i q)=0:=by grind
  rw[this]
  split<;>split<;>rfl
 ·simp only[h,upd,if_neg e]
  have:d.b i-d.a i q*(0*(1/d.a p q))=d.b i:=by grind
  rw[this]
theorem core {d d':zn} {N p q q':Nat} (hb:Bij d N) (hb':Bij d' N) (ho:∀ x,sol d x→obj d x=obj d' x) (hv:d.v=d'.v) (hB:kW d p q)
  (hq':q'<d'.c) (ht:d'.fre q'=d.bas p) (hc':0<d'.cst q') (hm':∀ j,j<d'.c→0<d'.cst j→d'.fre q'≤d'.fre j)
  (hs:d.fre q<d.bas p) (hr:∀ k,inB d k→¬ inB d' k→k≤d.bas p∧vl d k=0) (hp0:d.b p=0) (_hf:feas d):False:=by
 obtain ⟨hp,hq,hc,hmin,ha,hrat⟩:=hB
 have key:∀ y:Rat,d.cst q*y=cv d' (d.fre q)*y+(zh d.r (fun i=>cv d' (d.bas i)*d.b i)-zh d.r (fun i=>cv d' (d.bas i)*d.a i q)*y):=fun y=>by
  have h1:=ho _ (qJ hb hq (y:=y))
  rw[Yr hb hq,NI hb',hb (fun k=>cv d' k*ptq d q y k)] at h1
  rw[wE hq (fun j hj hne=>by rw[vB hb hq hj,if_neg hne]; grind),vB hb hq hq,if_pos rfl] at h1
  rw[zt (g:=fun i=>cv d' (d.bas i)*d.b i-cv d' (d.bas i)*d.a i q*y) fun i hi=>by rw[dx hb hq hi]; grind] at h1
  rw[uW,fS] at h1
  grind
 have k0:=key 0
 have k1:=key 1
 have neg_of:∀ {k:Nat},k<d.bas p→k<N→cv d' k≤0:=fun {k} hk hkN=>by
  rcases lt_or_le 0 (cv d' k) with h | h
  ·exfalso
   by_cases hin:inB d' k
   ·rw[PG hb' hin] at h; grind
   ·obtain ⟨j,hj,rfl⟩:=js hb' hkN hin
    rw[U1 hb' hj] at h
    have:=hm' j hj h
    omega
  ·exact h
 have c1:=neg_of hs (lX hb hq)
 have c2:zh d.r (fun i=>cv d' (d.bas i)*d.a i q)<0:=by grind
 obtain ⟨i,hi,hneg⟩:=T3 c2
 have hnin:¬ inB d' (d.bas i):=fun h=>by rw[PG hb' h] at hneg; grind
 obtain ⟨h1,h2⟩:=hr _ ⟨i,hi,rfl⟩ hnin
 rw[Z2 hb hi] at h2
 have hne:d.bas i≠d.bas p:=fun e=>by
  have e2:=jp hb hi hp e
  subst e2
  rw[← ht,U1 hb' hq'] at hneg
  have:0<d'.cst q'*d.a i q:=Rat.mul_pos hc' ha
  grind
 have hlt:d.bas i<d.bas p:=by omega
 have c3:=neg_of hlt (jH hb hi)
 have c4:0<d.a i q:=by
  rcases lt_or_le 0 (d.a i q) with h | h
  ·exact h
  ·exfalso
   have:0≤(- cv d' (d.bas i))*(- d.a i q):=Rat.mul_nonneg (by grind) (by grind)
   grind
 have:=(hrat i hi c4).2 (by rw[h2,hp0]; grind)
 omega
structure Run (D:Nat→zn) (pp qq:Nat→Nat) (K N:Nat):Prop where
 bij:Bij (D 0) N
 feas:feas (D 0)
 step:∀ k,k<K→kW (D k) (pp k) (qq k)∧D (k+1)=pivot (D k) (pp k) (qq k)
section
variable {D:Nat→zn} {pp qq:Nat→Nat} {K N:Nat} (h:Run D pp qq K N)
include h
theorem Run.bijs:∀ k,k≤K→Bij (D k) N
 | 0,_=>h.bij
 | k+1,hk=>by
  obtain ⟨h1,h2⟩:=h.step k (by omega)
  rw[h2]
  exact Qb h1.1 h1.2.1 (Run.bijs k (by omega))
theorem Run.feass:∀ k,k≤K→LP.feas (D k)
 | 0,_=>h.feas
 | k+1,hk=>by
  obtain ⟨h1,h2⟩:=h.step k (by omega)
  rw[h2]
  exact h1.feas (Run.feass k (by omega))
theorem Run.same {i:Nat} {x:Nat→Rat}:∀ j,i≤j→j≤K→((sol (D i) x↔sol (D j) x)∧(sol (D i) x→obj (D i) x=obj (D j) x)):=by
 intro j hij
 induction j with
 | zero =>
   intro _; have:i=0:=by omega
   subst this; exact ⟨Iff.rfl,fun _=>rfl⟩
 | succ j ih =>
  intro hj
  by_cases e:i=j+1
  ·subst e; exact ⟨Iff.rfl,fun _=>rfl⟩
  ·obtain ⟨g1,g2⟩:=ih (by omega) (by omega)
   obtain ⟨h1,h2⟩:=h.step j (by omega)
   have ha:(D j).a (pp j) (qq j)≠0:=by have:=h1.2.2.2.2.1; grind
   rw[h2]
   exact ⟨g1.trans (kP h1.1 h1.2.1 ha).symm,fun hx=>(g2 hx).trans (R6 h1.1 h1.2.1 ha (g1.1 hx)).symm⟩
theorem Run.v_le {i:Nat}:∀ j,i≤j→j≤K→(D i).v≤(D j).v:=by
 intro j hij
 induction j with
 | zero =>
   intro _; have:i=0:=by omega
   subst this; grind
 | succ j ih =>
  intro hj
  by_cases e:i=j+1
  ·subst e; grind
  ·have g:=ih (by omega) (by omega)
   obtain ⟨h1,h2⟩:=h.step j (by omega)
   have:=h1.v_le (h.feass j (by omega))
   rw[← h2] at this
   grind
abbrev en (D:Nat→zn) (qq:Nat→Nat) (m:Nat):Nat:=(D m).fre (qq m)
abbrev lv (D:Nat→zn) (pp:Nat→Nat) (m:Nat):Nat:=(D m).bas (pp m)
theorem Run.next {m k:Nat} (hm:m<K):inB (D (m+1)) k↔(k=en D qq m∨(inB (D m) k∧k≠lv D pp m)):=by
 obtain ⟨h1,h2⟩:=h.step m hm
 have hb:=h.bijs m (by omega)
 rw[h2]
 constructor
 ·rintro ⟨i,hi,e⟩
  simp only[pivot,upd] at hi e
  by_cases hip:i=pp m
  ·rw[if_pos hip] at e; exact .inl e.symm
  ·rw[if_neg hip] at e
   refine .inr ⟨⟨i,hi,e⟩,fun e2=>hip (jp hb hi h1.1 (e.trans e2))⟩
 ·rintro (rfl | ⟨⟨i,hi,rfl⟩,hne⟩)
  ·exact ⟨pp m,h1.1,by simp[pivot,upd]⟩
  ·refine ⟨i,hi,?_⟩
   have:i≠pp m:=fun e=>hne (by rw[e])
   simp[pivot,upd,this]
theorem Run.en_free {m:Nat} (hm:m<K):¬ inB (D m) (en D qq m):=xW (h.bijs m (by omega)) (h.step m hm).1.2.1
omit h in
theorem Run.lv_basic {m:Nat} (h:Run D pp qq K N) (hm:m<K):inB (D m) (lv D pp m):=⟨pp m,(h.step m hm).1.1,rfl⟩
theorem Run.stay_free {k i j:Nat} (hj:j≤K) (hne:∀ m,i≤m→m<j→en D qq m≠k):∀ x y,i≤x→x≤y→y≤j→¬ inB (D x) k→¬ inB (D y) k:=by
 intro x y hx hxy
 induction y with
 | zero =>
   intro _ hf; have:x=0:=by omega
   subst this; exact hf
 | succ y ih =>
  intro hy hf
  by_cases e:x=y+1
  ·subst e; exact hf
  ·have g:=ih (by omega) (by omega) hf
   rw[h.next (by omega)]
   rintro (e2 | ⟨e2,_⟩)
   ·exact hne y (by omega) (by omega) e2.symm
   ·exact g e2
theorem Run.stay_basic {k i j:Nat} (hj:j≤K) (hne:∀ m,i≤m→m<j→lv D pp m≠k):∀ x y,i≤x→x≤y→y≤j→inB (D x) k→inB (D y) k:=by
 intro x y hx hxy
 induction y with
 | zero =>
   intro _ hf; have:x=0:=by omega
   subst this; exact hf
 | succ y ih =>
  intro hy hf
  by_cases e:x=y+1
  ·subst e; exact hf
  ·have g:=ih (by omega) (by omega) hf
   rw[h.next (by omega)]
   exact .inr ⟨g,fun e2=>hne y (by omega) (by omega) e2.symm⟩
theorem Run.enters {k i j x y:Nat} (hj:j≤K) (hij:inB (D i) k↔inB (D j) k) (hx:i≤x∧x≤j) (hy:i≤y∧y≤j) (h1:inB (D x) k) (h2:¬ inB (D y) k):∃ m,i≤m∧m<j∧en D qq m=k:=by
 apply Classical.byContradiction
 intro hno
 have hne:∀ m,i≤m→m<j→en D qq m≠k:=fun m a b e=>hno ⟨m,a,b,e⟩
 have f1:=h.stay_free hj hne y j hy.1 hy.2 (Nat.le_refl _) h2
 have f2:¬ inB (D i) k:=fun e=>f1 (hij.1 e)
 exact h.stay_free hj hne i x (Nat.le_refl _) hx.1 hx.2 f2 h1
theorem Run.leaves {k i j x y:Nat} (hj:j≤K) (hij:inB (D i) k↔inB (D j) k) (hx:i≤x∧x≤j) (hy:i≤y∧y≤j) (h1:inB (D x) k) (h2:¬ inB (D y) k):∃ m,i≤m∧m<j∧lv D pp m=k:=by
 apply Classical.byContradiction
 intro hno
 have hne:∀ m,i≤m→m<j→lv D pp m≠k:=fun m a b e=>hno ⟨m,a,b,e⟩
 have f1:=h.stay_basic hj hne x j hx.1 hx.2 (Nat.le_refl _) h1
 have f2:inB (D i) k:=hij.2 f1
 exact h2 (h.stay_basic hj hne i y (Nat.le_refl _) hy.1 hy.2 f2)
omit h in
theorem JD (f:Nat→Nat) (i:Nat):∀ j,i<j→∃ m,i≤m∧m<j∧∀ m',i≤m'→m'<j→f m'≤f m:=by
 intro j
 induction j with
 | zero=>intro hj; omega
 | succ j ih =>
  intro hj
  by_cases e:i=j
  ·subst e; exact ⟨i,Nat.le_refl _,by omega,fun m' a b=>by
    have:m'=i:=by omega
    rw[this]
    exact Nat.le_refl _⟩
  ·obtain ⟨m,a,b,g⟩:=ih (by omega)
   by_cases hlt:f m≤f j
   ·refine ⟨j,by omega,by omega,fun m' a' b'=>?_⟩
    by_cases e2:m'=j
    ·rw[e2]; exact Nat.le_refl _
    ·exact Nat.le_trans (g m' a' (by omega)) hlt
   ·refine ⟨m,a,by omega,fun m' a' b'=>?_⟩
    by_cases e2:m'=j
    ·rw[e2]; omega
    ·exact g m' a' (by omega)
theorem Run.no_repeat {i j:Nat} (hij:i<j) (hj:j≤K) (hB:∀ k,inB (D i) k↔inB (D j) k):False:=by
 have bi:=h.bijs i (by omega)
 have bj:=h.bijs j hj
 have hvij:(D i).v=(D j).v:=by
  have s1:=gM bi
  have s2:=(h.same j (by omega) hj (i:=i)).2 s1
  rw[Z3 bi] at s2
  rw[s2]
  unfold obj
  rw[zO fun l hl=>by rw[gL fun e=>xW bj hl ((hB _).1 e)]; grind]
  grind
 have hv:∀ m,i≤m→m≤j→(D m).v=(D i).v:=fun m a b=>by
  have g1:=h.v_le m a (by omega)
  have g2:=h.v_le j b hj
  grind
 have hdeg:∀ m,i≤m→m<j→(D m).b (pp m)=0:=fun m a b=>by
  obtain ⟨h1,h2⟩:=h.step m (by omega)
  apply h1.v_eq
  rw[← h2,hv (m+1) (by omega) (by omega),hv m a (by omega)]
 have hvl:∀ k m,i≤m→m≤j→vl (D m) k=vl (D i) k:=fun k m a=>by
  induction m with
  | zero =>
    intro _; have:i=0:=by omega
    rw[this]
  | succ m ih =>
   intro b
   by_cases e:i=m+1
   ·rw[e]
   ·rw[(h.step m (by omega)).2,ae4 (hdeg m (by omega) (by omega)),ih (by omega) (by omega)]
 obtain ⟨e,e1,e2,emax⟩:=JD (en D qq) i j hij
 have hfr:=h.en_free (m:=e) (by omega)
 have hin:inB (D (e+1)) (en D qq e):=(h.next (by omega)).2 (.inl rfl)
 obtain ⟨l,l1,l2,hl⟩:=h.leaves hj (hB (en D qq e)) (x:=e+1) (y:=e) ⟨by omega,by omega⟩ ⟨by omega,by omega⟩ hin hfr
 have hBl:=(h.step l (by omega)).1
 have hBe:=(h.step e (by omega)).1
 have hobj:∀ x,sol (D l) x→obj (D l) x=obj (D e) x:=fun x hx=>by
  rcases Nat.le_total l e with hle | hle
  ·exact (h.same e hle (by omega) (i:=l)).2 hx
  ·exact ((h.same l hle (by omega) (i:=e)).2 ((h.same l hle (by omega) (i:=e)).1.2 hx)).symm
 refine core (h.bijs l (by omega)) (h.bijs e (by omega)) hobj (by rw[hv l l1 (by omega),hv e e1 (by omega)]) hBl hBe.2.1 hl.symm hBe.2.2.1 hBe.2.2.2.1 ?_ ?_ (hdeg l l1 l2) (h.feass l (by omega))
 ·have g:=emax l l1 l2
  have hne:en D qq l≠en D qq e:=fun e3=>by
   have:=h.en_free (m:=l) (by omega)
   rw[e3,← hl] at this
   exact this (h.lv_basic (by omega))
  rw[show (D l).bas (pp l)=en D qq e from hl]
  simp only[en] at g hne ⊢
  omega
 ·intro k hk1 hk2
  obtain ⟨m,m1,m2,rfl⟩:=h.enters hj (hB k) (x:=l) (y:=e) ⟨l1,by omega⟩ ⟨e1,by omega⟩ hk1 hk2
  rw[show (D l).bas (pp l)=en D qq e from hl]
  refine ⟨emax m m1 m2,?_⟩
  rw[hvl _ l l1 (by omega),← hvl _ e e1 (by omega)]
  exact gL hk2
end
def code (d:zn):Nat→Nat
 | 0=>0
 | n+1=>2*code d n+(if (List.range d.r).any (fun i=>d.bas i == n)=true then 1 else 0)
theorem nh {d:zn} {n:Nat}:(List.range d.r).any (fun i=>d.bas i == n)=true↔inB d n:=by
 simp[inB]
theorem Ka {d:zn}:∀ n,code d n<2^n
 | 0=>by simp[code]
 | n+1=>by have:=Ka (d:=d) n; simp only[code,Nat.pow_succ]; split<;>omega
theorem code_inj {d d':zn}:∀ n,code d n=code d' n→∀ k,k<n→(inB d k↔inB d' k)
 | 0,_,k,hk=>by omega
 | n+1,he,k,hk=>by
  simp only[code] at he
  have h1:code d n=code d' n:=by split at he<;>split at he<;>omega
  by_cases e:k=n
  ·subst e
   rw[← nh,← nh]
   rw[h1] at he
   cases h2:(List.range d.r).any (fun i=>d.bas i == k)<;>cases h3:(List.range d'.r).any (fun i=>d'.bas i == k)<;>simp only[h2,h3,Bool.false_eq_true,if_true,if_false] at he ⊢<;>omega
  ·exact code_inj n h1 k (by omega)
theorem aeC:∀ (M K:Nat) (f:Nat→Nat),(∀ k,k<K→f k<M)→(∀ i j,i<j→j<K→f i≠f j)→K≤M:=by
 intro M
 induction M with
 | zero=>intro K f h _; rcases K with _ | K; exact Nat.le_refl _; exact absurd (h 0 (by omega)) (by omega)
 | succ M ih =>
  intro K f h hne
  rcases K with _ | K
  ·omega
  ·-- the last one is moved out of the way
   have:K≤M:=by
    refine ih K (fun k=>if f k=M then f K else f k) (fun k hk=>?_) (fun i j hij hj=>?_)
    ·have h1:=h k (by omega)
     have h2:=h K (by omega)
     have h3:=hne k K hk (by omega)
     by_cases e:f k=M
     ·simp only[e,if_true]; omega
     ·simp only[e,if_false]; omega
    ·have g1:=hne i j hij (by omega)
     have g2:=hne i K (by omega) (by omega)
     have g3:=hne j K hj (by omega)
     by_cases e1:f i=M<;>by_cases e2:f j=M<;>simp only[e1,e2,if_true,if_false]<;>omega
   omega
theorem Run.le {D:Nat→zn} {pp qq:Nat→Nat} {K N:Nat} (h:Run D pp qq K N):K<2^N:=by
 have:=aeC (2^N) (K+1) (fun k=>code (D k) N) (fun k _=>Ka N) (fun i j hij hj e=>by
  refine h.no_repeat hij (by omega) fun k=>?_
  by_cases hk:k<N
  ·exact code_inj N e k hk
  ·constructor
   ·rintro ⟨i',hi',rfl⟩; exact absurd (jH (h.bijs i (by omega)) hi') hk
   ·rintro ⟨i',hi',rfl⟩; exact absurd (jH (h.bijs j (by omega)) hi') hk)
 omega
def sz (K:Nat) (q:Rat):Prop:=q.num.natAbs≤2^K∧q.den≤2^K
theorem zC {K L:Nat} {q:Rat} (h:sz K q) (hl:K≤L):sz L q :=
 ⟨Nat.le_trans h.1 (Nat.pow_le_pow_right (by omega) hl),Nat.le_trans h.2 (Nat.pow_le_pow_right (by omega) hl)⟩
theorem Rn {K:Nat} {n:Int} {d:Nat} (hd:d≠0) (h1:n.natAbs≤2^K) (h2:d≤2^K):sz K (Rat.normalize n d hd):=by
 rw[Rat.normalize_eq]
 exact ⟨Nat.le_trans (Int.natAbs_ediv_le_natAbs _ _) h1,Nat.le_trans (Nat.div_le_self _ _) h2⟩
theorem wl {K:Nat}:sz K 0:=⟨Nat.zero_le _,Nat.pow_pos (by omega)⟩
theorem T4 {K:Nat}:sz K 1:=⟨Nat.pow_pos (by omega),Nat.pow_pos (by omega)⟩
theorem yB {K L:Nat} {a b:Rat} (ha:sz K a) (hb:sz L b):sz (K+L) (a*b):=by
 rw[Rat.mul_def]
 refine Rn _ ?_ ?_
 ·rw[Int.natAbs_mul,Nat.pow_add]; exact Nat.mul_le_mul ha.1 hb.1
 ·rw[Nat.pow_add]; exact Nat.mul_le_mul ha.2 hb.2
theorem pn {K L:Nat} {a b:Rat} (ha:sz K a) (hb:sz L b):sz (K+L+1) (a+b):=by
 rw[Rat.add_def]
 refine Rn _ ?_ ?_
 ·refine Nat.le_trans (Int.natAbs_add_le _ _) ?_
  rw[Int.natAbs_mul,Int.natAbs_mul,Nat.pow_succ,Nat.pow_add]
  have h1:=Nat.mul_le_mul ha.1 hb.2
  have h2:=Nat.mul_le_mul hb.1 ha.2
  rw[Nat.mul_comm (2^L)] at h2
  simp only[Int.natAbs_natCast]
  omega
 ·rw[Nat.pow_succ,Nat.pow_add]
  have:=Nat.mul_le_mul ha.2 hb.2
  omega
theorem qe {K:Nat} {a:Rat} (ha:sz K a):sz K (-a):=by
 unfold sz
 rw[Rat.neg_num,Rat.neg_den,Int.natAbs_neg]
 exact ha
theorem km {K L:Nat} {a b:Rat} (ha:sz K a) (hb:sz L b):sz (K+L+1) (a-b):=by
 rw[Rat.sub_eq_add_neg]; exact pn ha (qe hb)
theorem MB {K:Nat} {a:Rat} (ha:sz K a):sz K (1/a):=by
 have:1/a=a⁻¹:=by grind
 rw[this]
 unfold sz
 rw[Rat.num_inv,Rat.den_inv]
 constructor
 ·rw[Int.natAbs_mul,Int.natAbs_natCast,Int.natAbs_sign]
  have:=ha.2
  split<;>omega
 ·split
  ·exact Nat.pow_pos (by omega)
  ·exact ha.1
structure szD (K:Nat) (d:zn):Prop where
 a:∀ i j,i<d.r→j<d.c→sz K (d.a i j)
 b:∀ i,i<d.r→sz K (d.b i)
 cst:∀ j,j<d.c→sz K (d.cst j)
 v:sz K d.v
theorem Um {K L:Nat} {d:zn} (h:szD K d) (hl:K≤L):szD L d :=
 ⟨fun i j hi hj=>zC (h.a i j hi hj) hl,fun i hi=>zC (h.b i hi) hl,fun j hj=>zC (h.cst j hj) hl,zC h.v hl⟩
theorem D8 {K:Nat} {d:zn} {p q:Nat} (hp:p<d.r) (hq:q<d.c) (h:szD K d):szD (4*K+1) (pivot d p q):=by
 have hi:=MB (h.a p q hp hq)
 constructor
 ·intro i j hir hjc
  simp only[pivot] at hir hjc ⊢
  split<;>split
  ·exact zC hi (by omega)
  ·exact zC (yB (h.a p j hp hjc) hi) (by omega)
  ·exact zC (qe (yB (h.a i q hir hq) hi)) (by omega)
  ·exact zC (km (h.a i j hir hjc) (yB (h.a i q hir hq) (yB (h.a p j hp hjc) hi))) (by omega)
 ·intro i hir
  simp only[pivot] at hir ⊢
  split
  ·exact zC (yB (h.b p hp) hi) (by omega)
  ·exact zC (km (h.b i hir) (yB (h.a i q hir hq) (yB (h.b p hp) hi))) (by omega)
 ·intro j hjc
  simp only[pivot] at hjc ⊢
  split
  ·exact zC (qe (yB (h.cst q hq) hi)) (by omega)
  ·exact zC (km (h.cst j hjc) (yB (h.cst q hq) (yB (h.a p j hp hjc) hi))) (by omega)
 ·simp only[pivot]
  exact zC (pn h.v (yB (h.cst q hq) (yB (h.b p hp) hi))) (by omega)
structure Same (d e:zn) (N:Nat):Prop where
 bd:Bij d N
 be:Bij e N
 sol:∀ x,sol d x↔sol e x
 obj:∀ x,LP.sol d x→obj d x=obj e x
theorem Same.refl {d:zn} {N:Nat} (h:Bij d N):Same d d N:=⟨h,h,fun _=>Iff.rfl,fun _ _=>rfl⟩
theorem Same.symm {d e:zn} {N:Nat} (h:Same d e N):Same e d N:=⟨h.be,h.bd,fun x=>(h.sol x).symm,fun x hx=>(h.obj x ((h.sol x).2 hx)).symm⟩
theorem Same.trans {d e f:zn} {N:Nat} (h:Same d e N) (k:Same e f N):Same d f N :=
 ⟨h.bd,k.be,fun x=>(h.sol x).trans (k.sol x),fun x hx=>(h.obj x hx).trans (k.obj x ((h.sol x).1 hx))⟩
theorem Same.pivot {d:zn} {N p q:Nat} (h:Bij d N) (hp:p<d.r) (hq:q<d.c) (ha:d.a p q≠0):Same (pivot d p q) d N :=
 ⟨Qb hp hq h,h,fun _=>kP hp hq ha,fun _ hx=>R6 hp hq ha ((kP hp hq ha).1 hx)⟩
def far (d:zn) (f:Nat→Nat):Nat→Nat
 | 0=>0
 | n+1=>far d f n+(if (List.range d.r).any (fun i=>d.bas i == f n)=true then 0 else 1)
theorem F6 {d:zn} {f:Nat→Nat}:∀ n,far d f n≤n
 | 0=>Nat.le_refl _
 | n+1=>by have:=F6 (d:=d) (f:=f) n; simp only[far]; split<;>omega
theorem PY {d:zn} {f:Nat→Nat}:∀ n,far d f n=0→∀ i,i<n→inB d (f i)
 | 0,_,i,hi=>by omega
 | n+1,h,i,hi=>by
  simp only[far] at h
  by_cases e:i=n
  ·subst e
   apply nh.1
   cases h2:(List.range d.r).any (fun j=>d.bas j == f i)
   ·rw[h2] at h; simp at h
   ·rfl
  ·exact PY n (by omega) i (by omega)
theorem Kj {d:zn} {f:Nat→Nat}:∀ n,far d f n≠0→∃ i,i<n∧¬ inB d (f i)
 | 0,h=>absurd rfl h
 | n+1,h=>by
  by_cases e:inB d (f n)
  ·have h2:=nh.2 e
   simp only[far,h2,if_true] at h
   obtain ⟨i,hi,hf⟩:=Kj n (by omega)
   exact ⟨i,by omega,hf⟩
  ·exact ⟨n,by omega,e⟩
theorem Kl {d:zn} {f:Nat→Nat} {p k:Nat} (hk:inB d k) (hp:¬ inB d (f p)):∀ n,far d (upd f p k) n+(if p<n then 1 else 0)=far d f n
 | 0=>by simp[far]
 | n+1=>by
  have ih:=Kl (d:=d) (f:=f) (p:=p) (k:=k) hk hp n
  by_cases e:p=n
  ·subst e
   have h1:=nh.2 hk
   have h2:(List.range d.r).any (fun i=>d.bas i == f p)=false:=by
    cases h:(List.range d.r).any (fun i=>d.bas i == f p)
    ·rfl
    ·exact absurd (nh.1 h) hp
   simp only[far,upd,if_true,h1,h2,Bool.false_eq_true,if_false] at ih ⊢
   have:(upd f p k)=fun i=>if i=p then k else f i:=rfl
   simp only[Nat.lt_irrefl,if_false] at ih
   have e2:¬ p<p:=by omega
   simp only[show p<p+1 by omega,if_true]
   omega
  ·have e3:upd f p k n=f n:=by simp[upd,Ne.symm e]
   simp only[far,e3]
   have:(p<n+1)↔(p<n):=by omega
   simp only[this]
   omega
section
variable {d e:zn} {N:Nat} (h:Same d e N)
include h
theorem Same.entries {K:Nat} (hB:∀ k,inB e k→inB d k) (hB2:∀ k,inB d k→inB e k) (hs:szD K d):szD K e:=by
 have hF:∀ j,j<e.c→∃ j',j'<d.c∧d.fre j'=e.fre j:=fun j hj=>js h.bd (lX h.be hj) fun hin=>xW h.be hj (hB2 _ hin)
 have hR:∀ i,i<e.r→∃ i',i'<d.r∧d.bas i'=e.bas i:=fun i hi=>hB _ ⟨i,hi,rfl⟩
 have hpt:∀ j j' y,j<e.c→j'<d.c→d.fre j'=e.fre j→∀ k,k<N→¬ inB d k→ptq e j y k=ptq d j' y k:=fun j j' y hj hj' ejj k hk hnk=>by
  obtain ⟨l,hl,rfl⟩:=js h.bd hk hnk
  obtain ⟨l',hl',el⟩:=js h.be hk fun hin=>hnk (hB _ hin)
  rw[vB h.bd hj' hl,← el,vB h.be hj hl']
  by_cases e1:l'=j
  ·subst e1
   rw[if_pos rfl,if_pos (mP h.bd hl hj' (by rw[ejj,el]))]
  ·rw[if_neg e1,if_neg fun e2=>e1 (by subst e2; exact mP h.be hl' hj (by rw[el,ejj]))]
 -- the point of 'e' is the point of 'd'
 have key:∀ j j' y i i',j<e.c→j'<d.c→d.fre j'=e.fre j→i<e.r→i'<d.r→d.bas i'=e.bas i→e.b i-e.a i j*y=d.b i'-d.a i' j'*y:=fun j j' y i i' hj hj' ejj hi hi' eii=>by
  have s1:=(h.sol _).2 (qJ h.be hj (y:=y))
  have s2:=s1 i' hi'
  rw[eii,dx h.be hj hi] at s2
  rw[s2]
  rw[zt (g:=fun l=>d.a i' l*ptq d j' y (d.fre l)) fun l hl=>by rw[hpt j j' y hj hj' ejj _ (lX h.bd hl) (xW h.bd hl)]]
  rw[wE hj' (fun l hl hne=>by rw[vB h.bd hj' hl,if_neg hne]; grind),vB h.bd hj' hj',if_pos rfl]
 have keyo:∀ j j' y,j<e.c→j'<d.c→d.fre j'=e.fre j→e.v+e.cst j*y=d.v+d.cst j'*y:=fun j j' y hj hj' ejj=>by
  have s1:=(h.sol _).2 (qJ h.be hj (y:=y))
  have s2:=h.obj _ s1
  rw[Yr h.be hj] at s2
  rw[← s2]
  unfold LP.obj
  rw[zt (g:=fun l=>d.cst l*ptq d j' y (d.fre l)) fun l hl=>by rw[hpt j j' y hj hj' ejj _ (lX h.bd hl) (xW h.bd hl)]]
  rw[wE hj' (fun l hl hne=>by rw[vB h.bd hj' hl,if_neg hne]; grind),vB h.bd hj' hj',if_pos rfl]
 have hvl:∀ k,k<N→vl e k=0∨inB d k:=fun k hk=>by
  by_cases hin:inB e k
  ·exact .inr (hB _ hin)
  ·exact .inl (gL hin)
 have svl:=(h.sol _).2 (gM h.be)
 have z:∀ l,l<d.c→vl e (d.fre l)=0:=fun l hl=>gL fun hin=>xW h.bd hl (hB _ hin)
 constructor
 ·intro i j hi hj
  obtain ⟨i',hi',ei⟩:=hR i hi
  obtain ⟨j',hj',ej⟩:=hF j hj
  have k0:=key j j' 0 i i' hj hj' ej hi hi' ei
  have k1:=key j j' 1 i i' hj hj' ej hi hi' ei
  have:e.a i j=d.a i' j':=by grind
  rw[this]; exact hs.a i' j' hi' hj'
 ·intro i hi
  obtain ⟨i',hi',ei⟩:=hR i hi
  have s2:=svl i' hi'
  rw[ei,Z2 h.be hi,zO fun l hl=>by rw[z l hl]; grind] at s2
  have:e.b i=d.b i':=by grind
  rw[this]; exact hs.b i' hi'
 ·intro j hj
  obtain ⟨j',hj',ej⟩:=hF j hj
  have k0:=keyo j j' 0 hj hj' ej
  have k1:=keyo j j' 1 hj hj' ej
  have:e.cst j=d.cst j':=by grind
  rw[this]; exact hs.cst j' hj'
 ·have s2:=h.obj _ svl
  rw[Z3 h.be] at s2
  unfold LP.obj at s2
  rw[zO fun l hl=>by rw[z l hl]; grind] at s2
  have:e.v=d.v:=by grind
  rw[this]; exact hs.v
theorem Same.exchange {i:Nat} (hi:i<e.r) (hn:¬ inB d (e.bas i)):∃ j,j<e.c∧e.a i j≠0∧inB d (e.fre j):=by
 apply Classical.byContradiction
 intro hno
 obtain ⟨q,hq,eq⟩:=js h.bd (jH h.be hi) hn
 have key:∀ y:Rat,y=e.b i:=fun y=>by
  have s1:=(h.sol _).1 (qJ h.bd hq (y:=y)) i hi
  rw[← eq,vB h.bd hq hq,if_pos rfl] at s1
  rw[zO fun j hj=>?_] at s1
  ·grind
  ·by_cases ha:e.a i j=0
   ·rw[ha]; grind
   ·have hnf:¬ inB d (e.fre j):=fun hin=>hno ⟨j,hj,ha,hin⟩
    obtain ⟨l,hl,el⟩:=js h.bd (lX h.be hj) hnf
    rw[← el,vB h.bd hq hl,if_neg fun e2=>uG h.be hi hj (by rw[← el,e2,eq])]
    grind
 have k0:=key 0
 have k1:=key 1
 grind
end
def grow (K:Nat):Nat→Nat
 | 0=>K
 | n+1=>4*grow K n+1
theorem Zc {K:Nat} {m n:Nat} (h:m≤n):grow K m≤grow K n:=by
 induction n with
 | zero =>
   have:m=0:=by omega
   rw[this]; exact Nat.le_refl _
 | succ n ih =>
  by_cases e:m=n+1
  ·rw[e]; exact Nat.le_refl _
  ·have:=ih (by omega)
   simp only[grow]; omega
theorem Same.size {d:zn} {N K:Nat} (hs:szD K d):∀ n (e:zn),Same d e N→e.r=d.r→e.c=d.c→far d e.bas e.r≤n→szD (grow K n) e:=by
 intro n
 induction n with
 | zero =>
  intro e h hr hc hn
  have hB:∀ k,inB e k→inB d k:=fun k ⟨i,hi,ek⟩=>by
   have:=PY _ (Nat.le_zero.1 hn) i hi
   rwa [ek] at this
  refine h.entries hB (fun k hk=>?_) hs
  -- as many basic variables in both
  classical
  apply Classical.byContradiction
  intro hnk
  have hkN:k<N:=by obtain ⟨i,hi,rfl⟩:=hk; exact jH h.bd hi
  have c1:zh N (fun x=>if inB d x then (1:Rat) else 0)=zh d.r (fun _=>1):=by
   rw[h.bd fun x=>if inB d x then (1:Rat) else 0,zO fun j hj=>if_neg (xW h.bd hj),zt (n:=d.r) (g:=fun _=>1) fun i hi=>if_pos ⟨i,hi,rfl⟩]
   grind
  have c2:zh N (fun x=>if inB e x then (1:Rat) else 0)=zh e.r (fun _=>1):=by
   rw[h.be fun x=>if inB e x then (1:Rat) else 0,zO fun j hj=>if_neg (xW h.be hj),zt (n:=e.r) (g:=fun _=>1) fun i hi=>if_pos ⟨i,hi,rfl⟩]
   grind
  rw[hr,← c1] at c2
  rw[yk hkN,yk (f:=fun x=>if inB d x then (1:Rat) else 0) hkN,if_neg hnk,if_pos hk] at c2
  have:zh N (fun j=>if j=k then 0 else if inB e j then (1:Rat) else 0)≤zh N (fun j=>if j=k then 0 else if inB d j then (1:Rat) else 0):=jA fun j _=>by
   by_cases e1:j=k
   ·rw[if_pos e1,if_pos e1]; grind
   ·rw[if_neg e1,if_neg e1]
    by_cases e2:inB e j
    ·rw[if_pos e2,if_pos (hB _ e2)]; grind
    ·rw[if_neg e2]; split<;>grind
  grind
 | succ n ih =>
  intro e h hr hc hn
  by_cases h0:far d e.bas e.r≤n
  ·exact Um (ih e h hr hc h0) (Zc (by omega))
  ·obtain ⟨i,hi,hni⟩:=Kj e.r (by omega:far d e.bas e.r≠0)
   obtain ⟨j,hj,ha,hin⟩:=h.exchange hi hni
   have hS:=h.trans (Same.pivot h.be hi hj ha).symm
   have hfar:=Kl (f:=e.bas) hin hni e.r
   rw[if_pos hi] at hfar
   have:=ih (LP.pivot e i j) hS hr hc (by simp only[LP.pivot]; omega)
   have h2:=D8 (p:=i) (q:=j) (d:=LP.pivot e i j) hi hj this
   rwa [Y9 ha] at h2
open Classical in
theorem Kk {d:zn} {f:Nat→Nat}:∀ n,((far d f n:Nat):Rat)=zh n fun i=>if inB d (f i) then 0 else 1
 | 0=>rfl
 | n+1=>by
  have ih:=Kk (d:=d) (f:=f) n
  simp only[far,zh]
  rw[← ih]
  by_cases e:inB d (f n)
  ·rw[if_pos (nh.2 e),if_pos e]; simp; grind
  ·rw[if_neg (fun h=>e (nh.1 h)),if_neg e]; simp
theorem Qr:∀ n,zh n (fun _=>1)=((n:Nat):Rat)
 | 0=>rfl
 | n+1=>by simp only[zh]; rw[Qr n]; simp
open Classical in
theorem Same.far_c {d e:zn} {N:Nat} (h:Same d e N):far d e.bas e.r≤d.c:=by
 have h1:=Kk (d:=d) (f:=e.bas) e.r
 have h2:zh N (fun k=>if inB d k then (0:Rat) else 1)=zh e.c (fun j=>if inB d (e.fre j) then 0 else 1)+zh e.r (fun i=>if inB d (e.bas i) then 0 else 1):=h.be fun k=>if inB d k then (0:Rat) else 1
 have h3:zh N (fun k=>if inB d k then (0:Rat) else 1)=zh d.c (fun j=>if inB d (d.fre j) then 0 else 1)+zh d.r (fun i=>if inB d (d.bas i) then 0 else 1):=h.bd fun k=>if inB d k then (0:Rat) else 1
 rw[zO (n:=d.r) fun i hi=>if_pos ⟨i,hi,rfl⟩,zt (n:=d.c) (g:=fun _=>1) fun j hj=>if_neg (xW h.bd hj),Qr] at h3
 have h4:0≤zh e.c (fun j=>if inB d (e.fre j) then (0:Rat) else 1):=by
  have:=jA (n:=e.c) (f:=fun _=>(0:Rat)) (g:=fun j=>if inB d (e.fre j) then (0:Rat) else 1) fun j _=>by split<;>grind
  rwa [zO fun _ _=>rfl] at this
 have h5:((far d e.bas e.r:Nat):Rat)≤((d.c:Nat):Rat):=by grind
 exact Rat.natCast_le_natCast.1 h5
theorem Same.size_t {d e:zn} {N K t:Nat} (hs:szD K d) (h:Same d e N) (hr:e.r=d.r) (hc:e.c=d.c) (ht:d.r≤t∨d.c≤t):szD (grow K t) e :=
 Same.size hs t e h hr hc (by
  rcases ht with ht | ht
  ·exact Nat.le_trans (F6 _) (by rw[hr]; exact ht)
  ·exact Nat.le_trans h.far_c ht)
theorem gG (n m:Nat) (g:Nat→Rat):zh (n+m) g=zh n g+zh m (fun i=>g (n+i)):=by
 induction m with
 | zero=>simp only[Nat.add_zero,zh]; grind
 | succ m ih=>rw[← Nat.add_assoc]; simp only[zh]; rw[ih]; grind
section
variable (n m:Nat) (A:Nat→Nat→Rat) (bb gg:Nat→Rat)
def dG:zn:=⟨m,n,A,bb,gg,0,fun i=>n+i,fun j=>j⟩
def dA:zn:=⟨m,n+1,fun i j=>if j<n then A i j else -1,bb,fun j=>if j<n then 0 else -1,0,fun i=>n+i,fun j=>if j<n then j else n+m⟩
def xu (u:Nat→Rat) (k:Nat):Rat:=if k<n then u k else bb (k-n)-zh n fun j=>A (k-n) j*u j
end
section
variable {n m:Nat} {A:Nat→Nat→Rat} {bb gg:Nat→Rat}
theorem FJ:Bij (dG n m A bb gg) (n+m):=fun g=>gG n m g
theorem adT:Bij (dA n m A bb) (n+m+1):=fun g=>by
 simp only[dA,zh]
 rw[gG,if_neg (Nat.lt_irrefl n),zt (n:=n) (f:=fun j=>g (if j<n then j else n+m)) (g:=g) fun i hi=>by rw[if_pos hi]]
 grind
theorem Sd {u:Nat→Rat} {k:Nat} (h:k<n):xu n A bb u k=u k:=if_pos h
theorem Pa {u:Nat→Rat} {i:Nat}:xu n A bb u (n+i)=bb i-zh n fun j=>A i j*u j:=by
 unfold xu
 rw[if_neg (by omega),Nat.add_sub_cancel_left]
theorem ae5 {u:Nat→Rat}:sol (dG n m A bb gg) (xu n A bb u):=by
 intro i hi
 simp only[dG] at hi ⊢
 rw[Pa]
 congr 1
 exact zt fun j hj=>by rw[Sd hj]
theorem TQ {x:Nat→Rat} (h:sol (dG n m A bb gg) x) {i:Nat} (hi:i<m):x (n+i)=bb i-zh n fun j=>A i j*x j:=h i hi
theorem Tv {x:Nat→Rat}:obj (dG n m A bb gg) x=zh n fun j=>gg j*x j:=by
 simp only[obj,dG]; grind
theorem Ke {d:zn} (h:Same d (dG n m A bb gg) (n+m)) (u:Nat→Rat):zh n (fun j=>gg j*u j)=d.v+zh n (fun k=>cv d k*u k)+zh m (fun i=>cv d (n+i)*(bb i-zh n fun j=>A i j*u j)):=by
 have h1:=h.obj _ ((h.sol _).2 (ae5 (u:=u)))
 rw[Tv,NI h.bd,gG] at h1
 rw[zt (n:=n) (f:=fun j=>gg j*xu n A bb u j) (g:=fun j=>gg j*u j) fun j hj=>by rw[Sd hj],
  zt (n:=n) (f:=fun k=>cv d k*xu n A bb u k) (g:=fun k=>cv d k*u k) fun j hj=>by rw[Sd hj],
  zt (n:=m) (g:=fun i=>cv d (n+i)*(bb i-zh n fun j=>A i j*u j)) fun i hi=>by rw[Pa]] at h1
 grind
theorem FP {d:zn} (h:Same d (dG n m A bb gg) (n+m)):zh m (fun i=>-cv d (n+i)*bb i)=d.v:=by
 have h1:=Ke h fun _=>0
 rw[zO fun j _=>by grind,zO (n:=n) (f:=fun k=>cv d k*0) fun j _=>by grind,
  zt (n:=m) (g:=fun i=>cv d (n+i)*bb i) fun i _=>by rw[zO fun j _=>by grind]; grind] at h1
 rw[zt (g:=fun i=>-(cv d (n+i)*bb i)) fun i _=>by grind,gH]
 grind
theorem Be {d:zn} (h:Same d (dG n m A bb gg) (n+m)) {j:Nat} (hj:j<n):zh m (fun i=>-cv d (n+i)*A i j)=gg j-cv d j:=by
 have h1:=Ke h fun k=>if k=j then 1 else 0
 have h2:=FP h
 rw[wE hj fun i _ hne=>by rw[if_neg hne]; grind,wE (f:=fun k=>cv d k*if k=j then 1 else 0) hj fun i _ hne=>by rw[if_neg hne]; grind,
  zt (n:=m) (g:=fun i=>-(-cv d (n+i)*bb i)+-cv d (n+i)*A i j) fun i _=>by
   rw[wE hj fun l _ hne=>by rw[if_neg hne]; grind]
   rw[if_pos rfl]; grind,lh,gH] at h1
 simp only[if_true] at h1
 grind
theorem ku {d:zn} {N:Nat} (_hb:Bij d N) (hf:feas d) (k:Nat):0≤vl d k:=by
 refine xZ fun i hi=>?_
 split
 ·exact hf i hi
 ·grind
theorem fm {d:zn} (hc:∀ j,j<d.c→d.cst j≤0) (k:Nat):cv d k≤0:=by
 have:0≤zh d.c fun j=>-(if d.fre j=k then d.cst j else 0):=xZ fun j hj=>by
  split
  ·have:=hc j hj; grind
  ·grind
 rw[gH] at this
 unfold cv
 grind
theorem ZJ {x:Nat→Rat} (h:sol (dG n m A bb gg) x) (hx:∀ k,0≤x k) {i:Nat} (hi:i<m):zh n (fun j=>A i j*x j)≤bb i:=by
 have:=TQ h hi
 have:=hx (n+i)
 grind
structure Opt (n m:Nat) (A:Nat→Nat→Rat) (bb gg:Nat→Rat) (x y:Nat→Rat) (v:Rat):Prop where
 x0:∀ k,0≤x k
 row:∀ i,i<m→zh n (fun j=>A i j*x j)≤bb i
 y0:∀ i,0≤y i
 col:∀ j,j<n→gg j≤zh m (fun i=>y i*A i j)
 vx:zh n (fun j=>gg j*x j)=v
 vy:zh m (fun i=>y i*bb i)=v
theorem aew {d:zn} (h:Same d (dG n m A bb gg) (n+m)) (hf:feas d) (hc:∀ j,j<d.c→d.cst j≤0):Opt n m A bb gg (vl d) (fun i=>-cv d (n+i)) d.v:=by
 have s1:=(h.sol _).1 (gM h.bd)
 refine ⟨ku h.bd hf,fun i hi=>ZJ s1 (ku h.bd hf) hi,fun i=>by have:=fm hc (n+i); grind,fun j hj=>?_,?_,FP h⟩
 ·rw[Be h hj]; have:=fm hc j; grind
 ·have:=h.obj _ (gM h.bd)
  rw[Z3 h.bd,Tv] at this
  exact this.symm
def eH (d:zn) (q k:Nat):Rat:=zh d.r (fun i=>if d.bas i=k then-d.a i q else 0)+(if d.fre q=k then 1 else 0)
theorem Yx {d:zn} {q k:Nat}:eH d q k=ptq d q 1 k-ptq d q 0 k:=by
 unfold eH ptq
 rw[zt (g:=fun i=>(if d.bas i=k then d.b i-d.a i q*1 else 0)-(if d.bas i=k then d.b i-d.a i q*0 else 0)) fun i _=>by split<;>grind,uW]
 split<;>grind
structure Unb (n m:Nat) (A:Nat→Nat→Rat) (bb gg:Nat→Rat) (x ray:Nat→Rat):Prop where
 x0:∀ k,0≤x k
 row:∀ i,i<m→zh n (fun j=>A i j*x j)≤bb i
 r0:∀ k,0≤ray k
 rr:∀ i,i<m→zh n (fun j=>A i j*ray j)≤0
 up:0<zh n (fun j=>gg j*ray j)
theorem ae3 {d:zn} (h:Same d (dG n m A bb gg) (n+m)) (hf:feas d) {q:Nat} (hq:q<d.c) (hc:0<d.cst q) (ha:∀ i,i<d.r→d.a i q≤0):Unb n m A bb gg (vl d) (eH d q):=by
 have s0:=(h.sol _).1 (gM h.bd)
 have s1:=(h.sol _).1 (qJ h.bd hq (y:=1))
 have s2:=(h.sol _).1 (qJ h.bd hq (y:=0))
 have r0:∀ k,0≤eH d q k:=fun k=>by
  unfold eH
  have:0≤zh d.r (fun i=>if d.bas i=k then-d.a i q else 0):=xZ fun i hi=>by
   split
   ·have:=ha i hi; grind
   ·grind
  split<;>grind
 refine ⟨ku h.bd hf,fun i hi=>ZJ s0 (ku h.bd hf) hi,r0,fun i hi=>?_,?_⟩
 ·have e1:=TQ s1 hi
  have e2:=TQ s2 hi
  have e3:=r0 (n+i)
  rw[Yx,e1,e2] at e3
  rw[zt (g:=fun j=>A i j*ptq d q 1 j-A i j*ptq d q 0 j) fun j _=>by rw[Yx]; grind,uW]
  grind
 ·have e1:=h.obj _ (qJ h.bd hq (y:=1))
  have e2:=h.obj _ (qJ h.bd hq (y:=0))
  rw[Yr h.bd hq,Tv] at e1 e2
  rw[zt (g:=fun j=>gg j*ptq d q 1 j-gg j*ptq d q 0 j) fun j _=>by rw[Yx]; grind,uW]
  grind
theorem aeS {x:Nat→Rat} (h:sol (dA n m A bb) x) {i:Nat} (hi:i<m):x (n+i)=bb i-zh n (fun j=>A i j*x j)+x (n+m):=by
 have:=h i hi
 simp only[dA,zh] at this
 rw[if_neg (Nat.lt_irrefl n),if_neg (Nat.lt_irrefl n),zt (n:=n) (g:=fun j=>A i j*x j) fun j hj=>by rw[if_pos hj,if_pos hj]] at this
 grind
theorem S0 {x:Nat→Rat} (h:∀ i,i<m→x (n+i)=bb i-zh n (fun j=>A i j*x j)+x (n+m)):sol (dA n m A bb) x:=by
 intro i hi
 have:=h i hi
 simp only[dA,zh]
 rw[if_neg (Nat.lt_irrefl n),if_neg (Nat.lt_irrefl n),zt (n:=n) (g:=fun j=>A i j*x j) fun j hj=>by rw[if_pos hj,if_pos hj]]
 grind
theorem EJ {x:Nat→Rat}:obj (dA n m A bb) x=- x (n+m):=by
 simp only[obj,dA,zh]
 rw[if_neg (Nat.lt_irrefl n),if_neg (Nat.lt_irrefl n),zO fun j hj=>by rw[if_pos hj]; grind]
 grind
structure Inf (n m:Nat) (A:Nat→Nat→Rat) (bb:Nat→Rat) (y:Nat→Rat):Prop where
 y0:∀ i,0≤y i
 col:∀ j,j<n→0≤zh m (fun i=>y i*A i j)
 vy:zh m (fun i=>y i*bb i)<0
theorem aeh {d:zn} (h:Same d (dA n m A bb) (n+m+1)) (hc:∀ j,j<d.c→d.cst j≤0) (hv:d.v<0):Inf n m A bb (fun i=>-cv d (n+i)):=by
 have key:∀ u:Nat→Rat,0=d.v+zh n (fun k=>cv d k*u k)+zh m (fun i=>cv d (n+i)*(bb i-zh n fun j=>A i j*u j)):=fun u=>by
  have hx:∀ i,i<m→(fun k=>if k=n+m then 0 else xu n A bb u k) (n+i)=bb i-zh n (fun j=>A i j*(fun k=>if k=n+m then 0 else xu n A bb u k) j)+(fun k=>if k=n+m then 0 else xu n A bb u k) (n+m):=fun i hi=>by
   simp only[if_true]
   rw[if_neg (by omega),Pa,zt (n:=n) (f:=fun j=>A i j*if j=n+m then 0 else xu n A bb u j) (g:=fun j=>A i j*u j) fun j hj=>by rw[if_neg (by omega),Sd hj]]
   grind
  have h1:=h.obj _ ((h.sol _).2 (S0 (x:=fun k=>if k=n+m then 0 else xu n A bb u k) hx))
  rw[EJ,NI h.bd] at h1
  simp only[zh,if_true] at h1
  rw[gG,zt (n:=n) (f:=fun k=>cv d k*if k=n+m then 0 else xu n A bb u k) (g:=fun k=>cv d k*u k) fun j hj=>by rw[if_neg (by omega),Sd hj],
   zt (n:=m) (g:=fun i=>cv d (n+i)*(bb i-zh n fun j=>A i j*u j)) fun i hi=>by rw[if_neg (by omega),Pa]] at h1
  grind
 have hvy:zh m (fun i=>-cv d (n+i)*bb i)=d.v:=by
  have h1:=key fun _=>0
  rw[zO (n:=n) (f:=fun k=>cv d k*0) fun j _=>by grind,
   zt (n:=m) (g:=fun i=>cv d (n+i)*bb i) fun i _=>by rw[zO fun j _=>by grind]; grind] at h1
  rw[zt (g:=fun i=>-(cv d (n+i)*bb i)) fun i _=>by grind,gH]
  grind
 refine ⟨fun i=>by have:=fm hc (n+i); grind,fun j hj=>?_,by rw[hvy]; exact hv⟩
 have h1:=key fun k=>if k=j then 1 else 0
 rw[wE (f:=fun k=>cv d k*if k=j then 1 else 0) hj fun i _ hne=>by rw[if_neg hne]; grind,
  zt (n:=m) (g:=fun i=>-(-cv d (n+i)*bb i)+-cv d (n+i)*A i j) fun i _=>by
   rw[wE hj fun l _ hne=>by rw[if_neg hne]; grind]
   rw[if_pos rfl]; grind,lh,gH] at h1
 simp only[if_true] at h1
 have:=fm hc j
 grind
theorem vn {x y:Nat→Rat} (hx:∀ j,j<n→0≤x j) (hr:∀ i,i<m→zh n (fun j=>A i j*x j)≤bb i) (hy:∀ i,i<m→0≤y i) (hc:∀ j,j<n→gg j≤zh m (fun i=>y i*A i j)) :
  zh n (fun j=>gg j*x j)≤zh m (fun i=>y i*bb i):=by
 have h1:zh n (fun j=>gg j*x j)≤zh n (fun j=>zh m (fun i=>y i*A i j)*x j):=jA fun j hj=>by
  have:=Rat.mul_nonneg (show 0≤zh m (fun i=>y i*A i j)-gg j by have:=hc j hj; grind) (hx j hj)
  grind
 have h2:zh m (fun i=>y i*zh n (fun j=>A i j*x j))≤zh m (fun i=>y i*bb i):=jA fun i hi=>by
  have:=Rat.mul_nonneg (hy i hi) (show 0≤bb i-zh n (fun j=>A i j*x j) by have:=hr i hi; grind)
  grind
 have h3:zh n (fun j=>zh m (fun i=>y i*A i j)*x j)=zh m (fun i=>y i*zh n (fun j=>A i j*x j)):=by
  rw[zt (n:=n) (g:=fun j=>zh m (fun i=>y i*A i j*x j)) fun j _=>by rw[fS],fQ]
  exact zt fun i _=>by rw[← li]; exact zt fun j _=>by grind
 grind
end
end Go.LP

namespace Go.Pb
open Go.LP
def Pb.cof (P:Pb) (r i:Nat):Rat:=((P.coef r (P.at (i:Int)):Int):Rat)
def Pb.vQ (P:Pb) (i:Nat):Rat:=(((P.at (i:Int)).v:Int):Rat)
def Pb.accV (P:Pb) (fx:List Int) (k:Nat):Int:=((P.inK fx k).map fun o=>o.v).sum
def Pb.exc (P:Pb) (y:Nat→Rat) (R i:Nat):Rat:=P.vQ i-zh R fun r=>y r*P.cof r i
def Pb.bdQ (P:Pb) (fx:List Int) (y:Nat→Rat) (R:Nat):Rat:=((P.accV fx fx.length:Int):Rat)+zh R fun r=>y r*((P.relB fx r:Int):Rat)
def Pb.adQ (P:Pb) (fx:List Int) (y:Nat→Rat) (R k:Nat):Rat:=zh k fun i=>if fx.getD i 9=0∧0<P.exc y R i then P.exc y R i else 0
def Pb.fpQ (P:Pb) (fx:List Int) (y:Nat→Rat):Rat:=P.bdQ fx y P.rows+P.adQ fx y P.rows fx.length
def r6 (fx:List Int) (i:Nat):Nat:=(su fx 0 i).length
def bX (fx:List Int) (X:Nat→Rat) (i:Nat):Rat:=if fx.getD i 9=1 then 1 else if fx.getD i 9=0 then X (r6 fx i) else 0
def Pb.lA (P:Pb) (fx:List Int) (r k:Nat):Rat:=(((P.relC fx r).getD k 0:Int):Rat)
def Pb.lB (P:Pb) (fx:List Int) (r:Nat):Rat:=((P.relB fx r:Int):Rat)
def Pb.lG (P:Pb) (fx:List Int) (k:Nat):Rat:=(((P.relG fx).getD k 0:Int):Rat)
def Pb.exP (P:Pb) (fx:List Int) (y:Nat→Rat) (r i:Nat):Rat:=if fx.getD i 9=0 then P.exc y r i else P.vQ i
def Pb.exM (P:Pb) (fx:List Int) (y:Nat→Rat) (r k i:Nat):Rat:=if i<k then P.exP fx y (r+1) i else P.exP fx y r i
def Pb.fixE (P:Pb) (fx:List Int):Int:=if P.chk≠0 then P.chk else if fx.length≠P.of.length then 3 else if okF fx then 0 else 4
section
variable {P:Pb} {fx:List Int} {v:Int} {k i r:Nat}
theorem NH (g:Nat→Int):((((su fx v k).map g).sum:Int):Rat)=zh k fun i=>if fx.getD i 9=v then ((g i:Int):Rat) else 0:=by
 induction k with
 | zero=>rfl
 | succ k ih =>
  rw[r5]
  simp only[zh]
  rw[← ih]
  by_cases h:fx.getD k 9=v
  ·rw[if_pos h,if_pos h,List.map_append,List.sum_append,Rat.intCast_add]; simp
  ·rw[if_neg h,if_neg h]; grind
theorem LJ:((P.accV fx k:Int):Rat)=zh k fun i=>if fx.getD i 9=1 then P.vQ i else 0:=by
 unfold Pb.accV Pb.inK
 rw[List.map_map]
 exact NH _
theorem NZ:P.lB fx r=((P.bnd r:Int):Rat)-zh fx.length fun i=>if fx.getD i 9=1 then P.cof r i else 0:=by
 unfold Pb.lB Pb.relB Pb.inL Pb.inK
 rw[Rat.intCast_sub,List.map_map]
 congr 1
 exact NH _
theorem Da:r6 fx (k+1)=if fx.getD k 9=0 then r6 fx k+1 else r6 fx k:=by
 unfold r6
 rw[r5]
 split<;>simp
theorem NG (h:fx.getD i 9=0):∀ k,i<k→(su fx 0 k)[r6 fx i]?=some i
 | 0,hi=>by omega
 | k+1,hi=>by
  rw[r5]
  by_cases e:i=k
  ·subst e
   rw[if_pos h]
   unfold r6
   simp
  ·have ih:=NG h k (by omega)
   split
   ·rw[List.getElem?_append_left (List.getElem?_eq_some_iff.1 ih).1]; exact ih
   ·exact ih
theorem ge (h:fx.getD i 9=0) (hi:i<fx.length):(zK fx)[r6 fx i]?=some i:=NG h _ hi
theorem P1 (h:Nat→Nat→Rat):∀ k,k≤fx.length→zh (r6 fx k) (fun j=>h j ((zK fx).getD j 0))=zh k fun i=>if fx.getD i 9=0 then h (r6 fx i) i else 0
 | 0,_=>rfl
 | k+1,hk=>by
  have ih:=P1 h k (by omega)
  simp only[zh]
  rw[← ih,Da]
  by_cases e:fx.getD k 9=0
  ·rw[if_pos e,if_pos e]
   simp only[zh]
   rw[List.getD_eq_getElem?_getD,ge e (by omega)]
   rfl
  ·rw[if_neg e,if_neg e]; grind
theorem J5:(su fx v k).Nodup:=List.Nodup.sublist List.filter_sublist List.nodup_range
theorem BW {l:List Nat} (h:l.Nodup) {i j:Nat} (hi:i<l.length) (hj:j<l.length) (e:l[i]=l[j]):i=j:=by
 rcases Nat.lt_trichotomy i j with h1 | h1 | h1
 ·exact absurd e (List.pairwise_iff_getElem.1 h i j hi hj h1)
 ·exact h1
 ·exact absurd e.symm (List.pairwise_iff_getElem.1 h j i hj hi h1)
theorem Ao (h:k<(zK fx).length):r6 fx (zK fx)[k]=k:=by
 have hm:=gp (List.getElem_mem h)
 have h1:=ge (fx:=fx) hm.2 hm.1
 obtain ⟨h2,h3⟩:=List.getElem?_eq_some_iff.1 h1
 exact BW J5 h2 h h3
theorem Te (h:k<(zK fx).length):P.lA fx r k=P.cof r ((zK fx).getD k 0):=by
 unfold Pb.lA Pb.relC Pb.cof
 simp[h]
theorem JV (h:k<(zK fx).length):P.lG fx k=P.vQ ((zK fx).getD k 0):=by
 unfold Pb.lG Pb.relG Pb.vQ
 simp[h]
theorem Bu:r6 fx fx.length=(zK fx).length:=rfl
theorem Yj (h:k<(zK fx).length):(zK fx).getD k 0<fx.length∧fx.getD ((zK fx).getD k 0) 9=0:=by
 have:(zK fx).getD k 0=(zK fx)[k]:=by simp[h]
 rw[this]
 exact gp (List.getElem_mem h)
theorem Jb {X:Nat→Rat} (g:Nat→Rat):zh fx.length (fun i=>g i*bX fx X i)=zh fx.length (fun i=>if fx.getD i 9=1 then g i else 0)+zh (zK fx).length (fun j=>g ((zK fx).getD j 0)*X j):=by
 have h:=P1 (fx:=fx) (fun j i=>g i*X j) fx.length (Nat.le_refl _)
 rw[Bu] at h
 rw[h,← lh]
 refine zt fun i _=>?_
 unfold bX
 by_cases h1:fx.getD i 9=1
 ·rw[if_pos h1,if_pos h1,if_neg (by omega)]; grind
 ·by_cases h0:fx.getD i 9=0
  ·rw[if_neg h1,if_pos h0,if_neg h1,if_pos h0]; grind
  ·rw[if_neg h1,if_neg h0,if_neg h1,if_neg h0]; grind
theorem KJ (hG:P.Good) (hi:i<P.of.length):∃ b,b<P.cl.length∧b<P.rows∧P.bnd b=1∧P.cof b i=1:=by
 have hs:=xY (xv (hG.off _ (at_mem hi))).1
 refine ⟨(P.at (i:Int)).b.toNat,by omega,by unfold Pb.rows; omega,?_,?_⟩
 ·unfold Pb.bnd; rw[if_pos (by omega)]
 ·unfold Pb.cof Pb.coef; rw[if_pos (by omega),if_pos (by omega)]; rfl
theorem FE (hG:P.Good) (hi:i<P.of.length) (hr:r<P.rows):0≤P.cof r i∧P.cof r i≤4:=by
 have:=tu (xY (xv (hG.off _ (at_mem hi))).1).2.2 hr
 unfold Pb.cof
 constructor
 ·exact_mod_cast this.1
 ·exact_mod_cast this.2
end
structure Pb.Sol (P:Pb) (fx:List Int) (x:Nat→Rat):Prop where
 x0:∀ i,i<fx.length→0≤x i
 one:∀ i,i<fx.length→fx.getD i 9=1→x i=1
 out:∀ i,i<fx.length→fx.getD i 9≠1→fx.getD i 9≠0→x i=0
 row:∀ r,r<P.rows→zh fx.length (fun i=>P.cof r i*x i)≤((P.bnd r:Int):Rat)
def Pb.val (P:Pb) (n:Nat) (x:Nat→Rat):Rat:=zh n fun i=>P.vQ i*x i
section
variable {P:Pb} {fx:List Int} {x y:Nat→Rat}
theorem Pb.Sol.le_one (hG:P.Good) (hl:fx.length=P.of.length) (h:P.Sol fx x) {i:Nat} (hi:i<fx.length):x i≤1:=by
 obtain ⟨b,hb,hr,e1,e2⟩:=KJ (i:=i) hG (by omega)
 have h1:=h.row b hr
 rw[e1,yk hi,e2] at h1
 have h2:0≤zh fx.length (fun j=>if j=i then 0 else P.cof b j*x j):=xZ fun j hj=>by
  split
  ·exact Rat.le_refl
  ·exact Rat.mul_nonneg (FE hG (by omega) hr).1 (h.x0 j hj)
 have h3:(((1:Int):Int):Rat)=1:=rfl
 grind
theorem adv (hG:P.Good) (hl:fx.length=P.of.length) (h:P.Sol fx x) (hy:∀ r,r<P.rows→0≤y r):P.val fx.length x≤P.fpQ fx y:=by
 have t1:P.val fx.length x=zh fx.length (fun i=>P.exc y P.rows i*x i)+zh P.rows (fun r=>y r*zh fx.length fun i=>P.cof r i*x i):=by
  have:zh P.rows (fun r=>y r*zh fx.length fun i=>P.cof r i*x i)=zh fx.length fun i=>(zh P.rows fun r=>y r*P.cof r i)*x i:=by
   rw[zt (g:=fun r=>zh fx.length fun i=>y r*(P.cof r i*x i)) fun r _=>li.symm,fQ]
   refine zt fun i _=>?_
   rw[← fS]
   exact zt fun r _=>by grind
  rw[this,← lh]
  exact zt fun i _=>by unfold Pb.exc; grind
 have t2:zh fx.length (fun i=>P.exc y P.rows i*x i)≤zh fx.length (fun i=>if fx.getD i 9=1 then P.exc y P.rows i else 0)+P.adQ fx y P.rows fx.length:=by
  unfold Pb.adQ
  rw[← lh]
  refine jA fun i hi=>?_
  by_cases h1:fx.getD i 9=1
  ·rw[if_pos h1,if_neg (by omega),h.one i hi h1]; grind
  ·rw[if_neg h1]
   by_cases h0:fx.getD i 9=0
   ·have a:=h.x0 i hi
    have b:=h.le_one hG hl hi
    by_cases hp:0<P.exc y P.rows i
    ·rw[if_pos ⟨h0,hp⟩]
     have:=Rat.mul_nonneg (show 0≤P.exc y P.rows i by grind) (show 0≤1-x i by grind)
     grind
    ·rw[if_neg fun h=>hp h.2]
     have:=Rat.mul_nonneg (show 0≤- P.exc y P.rows i by grind) a
     grind
   ·rw[if_neg fun h=>h0 h.1,h.out i hi h1 h0]; grind
 have t3:zh fx.length (fun i=>if fx.getD i 9=1 then P.exc y P.rows i else 0)=((P.accV fx fx.length:Int):Rat)-zh P.rows (fun r=>y r*zh fx.length fun i=>if fx.getD i 9=1 then P.cof r i else 0):=by
  have:zh P.rows (fun r=>y r*zh fx.length fun i=>if fx.getD i 9=1 then P.cof r i else 0)=zh fx.length fun i=>if fx.getD i 9=1 then (zh P.rows fun r=>y r*P.cof r i) else 0:=by
   rw[zt (g:=fun r=>zh fx.length fun i=>y r*(if fx.getD i 9=1 then P.cof r i else 0)) fun r _=>li.symm,fQ]
   refine zt fun i _=>?_
   by_cases h1:fx.getD i 9=1
   ·rw[if_pos h1]; exact zt fun r _=>by rw[if_pos h1]
   ·rw[if_neg h1]; exact zO fun r _=>by rw[if_neg h1]; grind
  rw[this,LJ,← uW]
  refine zt fun i _=>?_
  unfold Pb.exc
  split<;>grind
 have t4:zh P.rows (fun r=>y r*zh fx.length fun i=>P.cof r i*x i)-zh P.rows (fun r=>y r*zh fx.length fun i=>if fx.getD i 9=1 then P.cof r i else 0)≤zh P.rows (fun r=>y r*((P.relB fx r:Int):Rat)):=by
  rw[← uW]
  refine jA fun r hr=>?_
  have h1:((P.relB fx r:Int):Rat)=((P.bnd r:Int):Rat)-zh fx.length fun i=>if fx.getD i 9=1 then P.cof r i else 0:=NZ
  have h2:=h.row r hr
  rw[h1]
  clear t1 t2 t3 h1
  generalize zh fx.length (fun i=>P.cof r i*x i)=a at *
  generalize zh fx.length (fun i=>if fx.getD i 9=1 then P.cof r i else 0)=b at *
  have:=Rat.mul_nonneg (hy r hr) (show 0≤((P.bnd r:Int):Rat)-a by grind)
  grind
 unfold Pb.fpQ Pb.bdQ
 grind
abbrev Pb.Bst (P:Pb) (fx:List Int) (X Y:Nat→Rat) (v:Rat):Prop:=Opt (zK fx).length P.rows (P.lA fx) (P.lB fx) (P.lG fx) X Y v
variable {X Y:Nat→Rat} {v:Rat}
theorem adH (hB:P.Bst fx X Y v):P.Sol fx (bX fx X) where
 x0:=fun i _=>by
  unfold bX
  split
  ·grind
  ·split
   ·exact hB.x0 _
   ·grind
 one:=fun i _ h=>if_pos h
 out:=fun i _ h1 h0=>by unfold bX; rw[if_neg h1,if_neg h0]
 row:=fun r hr=>by
  rw[Jb (P.cof r)]
  have h1:=hB.row r hr
  rw[zt (g:=fun j=>P.cof r ((zK fx).getD j 0)*X j) fun j hj=>by rw[Te hj],NZ] at h1
  grind
theorem adI (hB:P.Bst fx X Y v):P.val fx.length (bX fx X)=((P.accV fx fx.length:Int):Rat)+v:=by
 unfold Pb.val
 rw[Jb P.vQ,LJ,← hB.vx,zt (n:=(zK fx).length) (f:=fun j=>P.lG fx j*X j) (g:=fun j=>P.vQ ((zK fx).getD j 0)*X j) fun j hj=>by rw[JV hj]]
theorem ai6 (hB:P.Bst fx X Y v):P.fpQ fx Y=((P.accV fx fx.length:Int):Rat)+v:=by
 have h0:P.adQ fx Y P.rows fx.length=0:=zO fun i hi=>by
  refine if_neg fun ⟨h0,hp⟩=>?_
  have hg:=ge h0 hi
  have hlt:=(List.getElem?_eq_some_iff.1 hg).1
  have hd:(zK fx).getD (r6 fx i) 0=i:=by rw[List.getD_eq_getElem?_getD,hg]; rfl
  have h1:=hB.col _ hlt
  rw[JV hlt,hd,zt (g:=fun r=>Y r*P.cof r i) fun r _=>by rw[Te hlt,hd]] at h1
  unfold Pb.exc at hp
  grind
 have h1:zh P.rows (fun r=>Y r*((P.relB fx r:Int):Rat))=v:=hB.vy
 unfold Pb.fpQ Pb.bdQ
 rw[h0,h1]
 grind
theorem RV (hf:P.fits (P.inL fx)) {r:Nat} (hr:r<P.rows):0≤P.lB fx r:=by
 have:=hf r hr
 unfold Pb.lB Pb.relB
 exact_mod_cast (by omega:0≤P.bnd r-((P.inL fx).map (P.coef r)).sum)
theorem aeo (hf:P.fits (P.inL fx)) (h:Inf (zK fx).length P.rows (P.lA fx) (P.lB fx) y):False:=by
 have:=xZ (n:=P.rows) (f:=fun i=>y i*P.lB fx i) fun r hr=>Rat.mul_nonneg (h.y0 r) (RV hf hr)
 have:=h.vy
 grind
theorem aep (hG:P.Good) (hl:fx.length=P.of.length) {ray:Nat→Rat} (h:Unb (zK fx).length P.rows (P.lA fx) (P.lB fx) (P.lG fx) x ray):False:=by
 have hz:∀ j,j<(zK fx).length→ray j=0:=fun j hj=>by
  obtain ⟨hlt,_⟩:=Yj hj
  obtain ⟨b,_,hr,_,e2⟩:=KJ (i:=(zK fx).getD j 0) hG (by omega)
  have h1:=h.rr b hr
  rw[yk hj,Te hj,e2] at h1
  have h2:0≤zh (zK fx).length (fun k=>if k=j then 0 else P.lA fx b k*ray k):=xZ fun k hk=>by
   split
   ·exact Rat.le_refl
   ·rw[Te hk]
    exact Rat.mul_nonneg (FE hG (by have:=(Yj hk).1; omega) hr).1 (h.r0 k)
  have h3:=h.r0 j
  grind
 have:=h.up
 rw[zO fun j hj=>by rw[hz j hj]; grind] at this
 grind
def kK (T:List Nat) (i:Nat):Rat:=if i∈T then 1 else 0
theorem SD {n:Nat} {g:Nat→Int}:∀ {T:List Nat},T.Nodup→(∀ j∈T,j<n)→zh n (fun i=>((g i:Int):Rat)*kK T i)=(((T.map g).sum:Int):Rat)
 | [],_,_=>by rw[zO fun i _=>by simp[kK]]; rfl
 | a::T,h,hn=>by
  obtain ⟨h1,h2⟩:=List.nodup_cons.1 h
  have ih:=SD (n:=n) (g:=g) h2 fun j hj=>hn j (by simp[hj])
  have ha:=hn a (by simp)
  rw[yk ha] at ih ⊢
  simp only[List.map_cons,List.sum_cons,Rat.intCast_add]
  rw[← ih]
  have e1:kK (a::T) a=1:=by simp[kK]
  have e2:kK T a=0:=by simp[kK,h1]
  rw[e1,e2,zt (f:=fun j=>if j=a then 0 else ((g j:Int):Rat)*kK (a::T) j) (g:=fun j=>if j=a then 0 else ((g j:Int):Rat)*kK T j) fun j _=>by
   by_cases e:j=a
   ·rw[if_pos e,if_pos e]
   ·rw[if_neg e,if_neg e]; simp[kK,e]]
  grind
structure Pb.Comp (P:Pb) (fx:List Int) (k:Nat) (T:List Nat):Prop where
 inc:T.Pairwise (·<·)
 lt:∀ j∈T,j<k
 one:∀ i,i<k→fx.getD i 9=1→i∈T
 out:∀ i∈T,fx.getD i 9≠-1
 fit:P.fits (T.map fun i:Nat=>P.at i)
theorem ag3 {T:List Nat} (hok:∀ i,i<fx.length→okX fx i) (h:P.Comp fx fx.length T):P.Sol fx (kK T) where
 x0:=fun i _=>by unfold kK; split<;>grind
 one:=fun i hi h1=>if_pos (h.one i hi h1)
 out:=fun i hi h1 h0=>by
  have:=hok i hi
  unfold okX at this
  exact if_neg fun hm=>h.out i hm (by omega)
 row:=fun r hr=>by
  have h1:=h.fit r hr
  rw[List.map_map] at h1
  have:=SD (g:=fun i=>P.coef r (P.at (i:Int))) (h.inc.imp fun h=>Nat.ne_of_lt h) h.lt
  unfold Pb.cof
  rw[this]
  exact_mod_cast h1
theorem ag4 {T:List Nat} (h:P.Comp fx fx.length T):P.val fx.length (kK T)=((((T.map fun i:Nat=>P.at i).map fun o=>o.v).sum:Int):Rat):=by
 unfold Pb.val
 rw[List.map_map]
 exact SD (g:=fun i=>(P.at (i:Int)).v) (h.inc.imp fun h=>Nat.ne_of_lt h) h.lt
end
end Go.Pb

namespace Go.Proofs.Ytfmcplfbnkoglaa
open Go Go.Am Go.Pb
noncomputable def S7 (fx:List Int) (k:Nat):St:={env:=[(19,clA fx),(20,iv fx.length),(21,iv k)],sto:=[]}
section
variable {P:Pb} {fx:List Int} {k:Nat}
theorem jw {x:Int} (hg:fx.getD k 9=x):okX fx k↔¬ x < -1∧¬ 1<x:=by unfold okX; rw[hg]; omega
theorem n8 (h:k<fx.length):fx.getD k 9=fx[k]:=by rw[List.getD_eq_getElem?_getD,List.getElem?_eq_getElem h]; rfl
theorem rP (h:P.fixE fx=0):P.chk=0∧fx.length=P.of.length∧okF fx:=by
 unfold Pb.fixE at h
 split at h
 ·rename_i h1; exact absurd h h1
 ·rename_i h1
  split at h
  ·cases h
  ·rename_i h2
   split at h
   ·rename_i h3; exact ⟨Decidable.not_not.1 h1,Decidable.not_not.1 h2,h3⟩
   ·cases h
theorem ahQ (h1:P.chk=0) (h2:fx.length=P.of.length) (h3:okF fx):P.fixE fx=0:=by
 unfold Pb.fixE; rw[if_neg fun h=>h h1,if_neg fun h=>h h2,if_pos h3]
theorem a8 (hn:P.cl.length≤1000) (hk:P.of.length≤1000000):zd Try.prog re [.agg (pbC P),clA fx] (iv (P.fixE fx)):=by
 refine zD T5 (by simp) ?_
 simp[g9]
 refine za (Sq hn hk) (by simp) (by simp) ?_
 unfold Pb.fixE
 by_cases c1:P.chk=0
 ·rw[if_neg fun h=>h c1]
  by_cases c2:fx.length=P.of.length
  ·have c2':(fx.length:Int)=P.of.length:=by omega
   rw[if_neg fun h=>h c2]
   simp[c1,c2']
   refine zl (S7 fx) (fun k=>∀ q,q<k→okX fx q) fx.length (by simp[S7,c2']) (fun q hq=>by omega) (fun k hk' hI=>?_) (fun hI=>?_)
   ·have e:(k:Int)<P.of.length:=by omega
    have w1:=zq (k:=k) (by omega)
    have hg:=n8 hk'
    by_cases d1:fx[k] < -1
    ·have hf:¬ okF fx:=fun h=>((jw hg).1 (h k hk')).1 d1
     simp[vc,S7,c2',e,hk',d1,hf,vC]
    ·by_cases d2:1<fx[k]
     ·have hf:¬ okF fx:=fun h=>((jw hg).1 (h k hk')).2 d2
      simp[vc,S7,c2',e,hk',d1,d2,hf,vC]
     ·simp[vc,S7,c2',e,hk',d1,d2,w1]
      exact fun q hq=>by
       by_cases eq:q=k
       ·subst eq; exact (jw hg).2 ⟨d1,d2⟩
       ·exact hI q (by omega)
   ·have hf:okF fx:=hI
    simp[vc,S7,c2',hf,lL,vC]
  ·have c2':¬ (fx.length:Int)=P.of.length:=by omega
   rw[if_pos c2]
   simp[c1,c2',vC]
 ·rw[if_pos c1]
  simp[c1,vC]
theorem au:P.accV fx (k+1)=if fx.getD k 9=1 then P.accV fx k+(P.at (k:Int)).v else P.accV fx k:=by
 unfold Pb.accV Pb.inK
 rw[r5]
 split
 ·simp
 ·rfl
theorem eR (hG:P.Good):∀ k,k≤P.of.length→0≤P.accV fx k∧P.accV fx k≤1000000*k
 | 0,_=>⟨Int.le_refl 0,Int.le_refl 0⟩
 | k+1,h=>by
  have ih:=eR hG k (by omega)
  have hv:=(xY (xv (hG.off _ (at_mem (i:=k) (by omega)))).1).2.1
  rw[au]
  split<;>omega
noncomputable def Mg (P:Pb) (fx:List Int) (k:Nat):St:={env:=[(2,.ptr 2 0),(4,.ptr 4 0),(5,iv (P.accV fx k)),(8,clA fx),(9,iv fx.length),(10,iv k)],sto:=[(2,.var (pbC P)),(4,.var zz)]}
theorem Uz (hG:P.Good) (hl:fx.length=P.of.length):zd Try.prog tX [.agg (pbC P),clA fx] (fq ((P.accV fx fx.length:Int):Rat)):=by
 have hb:=hG.k
 refine zD Uo (by simp) ?_
 simp[jP]
 refine zl (Mg P fx) (fun _=>True) fx.length (by simp[Mg]; rfl) trivial (fun k hk' _=>?_) (fun _=>?_)
 ·have e:(k:Int)<fx.length:=by omega
  have hko:k<P.of.length:=by omega
  have hko':(k:Int)<P.of.length:=by omega
  have w1:=zq (k:=k) (by omega)
  have hg:=n8 hk'
  have hs:=au (P:=P) (fx:=fx) (k:=k)
  have hv:=eR (fx:=fx) hG (k+1) (by omega)
  rw[hg] at hs
  by_cases d:fx[k]=1
  ·rw[if_pos d,uz hko] at hs
   have w2:IntKind.i64.wrap (P.accV fx k+P.of[k].v)=P.accV fx (k+1):=by rw[hs,wrap64]<;>omega
   simp[uf,Mg,e,hk',hko,hko',d,w1,w2]
  ·rw[if_neg d] at hs
   simp[uf,Mg,e,hk',d,w1,hs]
 ·have hv:=eR (fx:=fx) hG fx.length (by omega)
  simp[uf,Mg,my]
  refine za (yH (n:=P.accV fx fx.length) (by omega) (by omega)) (by simp) (by simp) ?_
  simp[gy]
end
def xP (P:Pb):Nat:=if P.chk=0 then P.rows else 0
def tI (P:Pb) (r:Nat):List Int:=P.of.map (P.coef r)
section
variable {P:Pb} {r n:Nat} {o:Of} {L:List Of}
theorem Jc (hn:P.cl.length≤1000) (hk:P.of.length≤1000000):zd Try.prog qn [.agg (pbC P)] (iv (xP P)):=by
 refine zD Rs (by simp) ?_
 simp[dh]
 refine za (Sq hn hk) (by simp) (by simp) ?_
 unfold xP
 by_cases c1:P.chk=0
 ·simp[c1]
  refine za (N5 hn) (by simp) (by simp) ?_
  simp[m7]
 ·simp[c1,m7]
theorem Jd (hn:P.cl.length≤1000) (hk:P.of.length≤1000000):zd Try.prog nQ [.agg (pbC P)] (iv (xP P)):=by
 refine zD MF (by simp) ?_
 simp[aN]
 refine za (X4 hn hk) (by simp) (by simp) ?_
 unfold xP
 by_cases c1:P.chk=0
 ·have w1:IntKind.i64.wrap ((P.cl.length:Int)+12)=(P.cl.length:Int)+12:=by rw[wrap64]<;>omega
  have e:((P.rows:Nat):Int)=(P.cl.length:Int)+12:=by unfold Pb.rows; omega
  simp[c1,w1,e,gz]
 ·simp[c1,gz]
noncomputable def Ms (P:Pb) (r:Int) (q k:Nat):St:={env:=[(1,iv r),(4,apc 32 1 (clR ((tI P q).take k))),(6,.ptr 6 0),(20,ofA P.of),(21,iv P.of.length),(22,iv k)],sto:=[(6,.var (pbC P))]}
noncomputable def Rc (P:Pb) (r:Int) (q k:Nat):St:={env:=[(1,iv r),(2,.ptr 2 0),(6,apc 41 1 (clR ((tI P q).take k))),(7,iv k)],sto:=[(2,.var (pbC P))]}
@[simp] theorem gB:(tI P r).length=P.of.length:=by simp[tI]
theorem Qk {k:Nat} (h:k<P.of.length):clR ((tI P r).take k)++[[iv (P.coef r P.of[k])]]=clR ((tI P r).take (k+1)):=by
 rw[mq (l:=tI P r) (o:=P.coef r P.of[k]) (by simp[tI,h])]
 simp[clR]
theorem N4 {k:Nat} (h:P.of.length≤k):(tI P r).take k=tI P r:=List.take_of_length_le (by rw[gB]; exact h)
def SZ (P:Pb) (r:Int):AV:=.tuple [if 0≤r∧r<xP P then clA (tI P r.toNat) else z8,iv (if 0≤r∧r<xP P then P.bnd r.toNat else 0)]
theorem af6 {r:Int} (hn:P.cl.length≤1000) (hk:P.of.length≤1000000):zd Try.prog kz [.agg (pbC P),iv r] (SZ P r):=by
 refine wT QN (by simp) ?_
 unfold SZ
 by_cases b1:r<0
 ·have hc:¬ (0≤r∧r<xP P):=by omega
  simp[kF,b1,hc,pK]
  exact AV.imp.refl
 ·simp[kF,b1]
  refine za (Jc hn hk) (by simp) (by simp) ?_
  by_cases b2:(xP P:Int)≤r
  ·have hc:¬ (0≤r∧r<xP P):=by omega
   simp[b2,hc,pK]
   exact AV.imp.refl
  ·have hc:0≤r∧r<xP P:=by omega
   obtain ⟨q,rfl⟩:∃ q:Nat,r=q:=⟨r.toNat,by omega⟩
   have hG:P.Good:=by
    refine t9 ?_
    unfold xP at hc
    split at hc
    ·assumption
    ·omega
   have hq:q<P.rows:=by
    unfold xP at hc
    split at hc<;>omega
   simp[b2,hc]
   refine zl (Ms P q q) (fun _=>True) P.of.length (by simp[Ms]) trivial (fun k hk' _=>?_) (fun _=>?_)
   ·have e:(k:Int)<P.of.length:=by omega
    have w1:=zq (k:=k) (by omega)
    have hm:P.of[k]∈P.of:=List.getElem_mem hk'
    have hs:=xY (xv (hG.off _ hm)).1
    simp[pW,Ms,e,hk']
    refine za (U0 (P:=P) (r:=q) hn hs.1 hq) (by simp) (by simp) ?_
    simp
    refine sP (by decide) rfl ?_ ?_ (by simp) ?_
    ·simp only[jr,gB,List.length_take]; omega
    ·simp only[jr,gB,List.length_take]; omega
    ·rw[Qk hk']
     simp[w1,Ms]
   ·simp[pW,Ms,jT,N4]
    refine za (Sl (P:=P) (r:=q) hn hq) (by simp) (by simp) ?_
    simp[pK]
    exact AV.imp_tuple2 (nK rU)
theorem aeL {r:Int} (hn:P.cl.length≤1000) (hk:P.of.length≤1000000):zd Try.prog aj5 [.agg (pbC P),iv r] (SZ P r):=by
 refine wT LF (by simp) ?_
 unfold SZ
 by_cases b1:r<0
 ·have hc:¬ (0≤r∧r<xP P):=by omega
  simp[er,b1,hc,lD]
  exact AV.imp.refl
 ·simp[er,b1]
  refine za (Jd hn hk) (by simp) (by simp) ?_
  by_cases b2:(xP P:Int)≤r
  ·have hc:¬ (0≤r∧r<xP P):=by omega
   simp[b2,hc,lD]
   exact AV.imp.refl
  ·have hc:0≤r∧r<xP P:=by omega
   obtain ⟨q,rfl⟩:∃ q:Nat,r=q:=⟨r.toNat,by omega⟩
   have hG:P.Good:=by
    refine t9 ?_
    unfold xP at hc
    split at hc
    ·assumption
    ·omega
   have hq:q<P.rows:=by
    unfold xP at hc
    split at hc<;>omega
   simp[b2,hc]
   refine zl (Rc P q q) (fun _=>True) P.of.length (by simp[Rc]) trivial (fun k hk' _=>?_) (fun _=>?_)
   ·have e:(k:Int)<P.of.length:=by omega
    have w1:=zq (k:=k) (by omega)
    have hm:P.of[k]∈P.of:=List.getElem_mem hk'
    have hs:=xY (xv (hG.off _ hm)).1
    obtain ⟨c,hc1,hk1⟩:=Yy (P:=P) (o:=P.of[k]) hn hs.1.1 hq
    have hc1:=hc1 hs.1.2
    subst hc1
    simp[qw,Rc,e,hk']
    refine za hk1 (by simp) (by simp) ?_
    simp
    refine sP (by decide) rfl ?_ ?_ (by simp) ?_
    ·simp only[jr,gB,List.length_take]; omega
    ·simp only[jr,gB,List.length_take]; omega
    ·rw[Qk hk']
     simp[w1,Rc]
   ·obtain ⟨z,hz,hz0⟩:∃ z:Of,[iv 0,iv 0,iv 0,iv 0,iv 0,iv 0,iv 0,iv 0]=oC z∧0≤z.b:=⟨oZ,KG,Int.le_refl 0⟩
    obtain ⟨c,_,hk1⟩:=Yy (P:=P) (o:=z) hn hz0 hq
    have key:∀ K:Exit→St→Prop,K (.exit 0) {env:=[(1,iv q),(2,.ptr 2 0),(6,apc 41 1 (clR (tI P q))),(7,iv P.of.length),(24,bv false)],sto:=[(2,.var (pbC P))]}→awp Try.prog qw (Rc P q q P.of.length) (ug K):=by
     intro K h
     simp[qw,Rc,N4]
     exact h
    refine key _ ?_
    simp[dj,hz]
    refine za hk1 (by simp) (by simp) ?_
    simp[lD]
    exact AV.imp_tuple2 (nK rU)
end
open Go.Dig
theorem Xn {m:Am.Mode} {a:List Nat} (ha:ok a) (hn:a.length<1099511627776):zd Try.prog gO [nl m a] (bv (decide (a=zf (val a)))):=by
 refine zD Cf (by simp) ?_
 simp[RB]
 refine za (yZ (m:=stm m) ha hn) (by simp[qN]) (by simp) ?_
 obtain ⟨h1,h2,h3,h4⟩:=Zi ha
 have:decide ((((zf (val a)).length:Nat):Int)=(a.length:Int))=decide (a=zf (val a)):=by
  by_cases h:(zf (val a)).length=a.length
  ·have:a=zf (val a):=by rw[← h4,h]; simp
   simp[← this]
  ·have:a≠zf (val a):=fun e=>h (congrArg List.length e.symm)
   have h':¬ (((zf (val a)).length:Nat):Int)=(a.length:Int):=by omega
   simp[this]
   omega
 simp[Qe]
 simpa using this
def TY (x y:Nat) (k:Nat):St :=
 {env:=[(0,nD x),(1,nD y),(6,.sl 20 1 0 (zf x).length),(7,z7 (bor x y k)),(22,iv (zf x).length),(23,iv k)],sto:=[(20,.arr 1 (zG (wx (zf x).length k (x-y))))]}
theorem Qq {m1 m2:Am.Mode} {a b:List Nat} (ha:ok a) (hb:ok b) (hna:a.length<1099511627776) (hnb:b.length<1099511627776) :
  zd Try.prog Z6 [nl m1 a,nl m2 b] (if val a<val b then .tuple [.list 0 .full [],bv false] else .tuple [nD (val a-val b),bv true]):=by
 refine wT ada (by simp) ?_
 simp[LY]
 refine za (yZ (m:=stm m1) ha hna) (by simp[qN]) (by simp) ?_
 simp
 refine za (yZ (m:=stm m2) hb hnb) (by simp[qN]) (by simp) ?_
 simp
 have lx:=we ha
 have ly:=we hb
 have key:=lV (m1:=.plain) (m2:=.plain) (zw (val a)) (zw (val b)) (by omega) (by omega)
 rw[zI,zI] at key
 refine za key (by simp) (by simp) ?_
 generalize val a=x at *
 generalize val b=y at *
 by_cases hlt:x<y
 ·simp[yQ,hlt,SS]
  exact AV.imp.refl
 ·have hle:y≤x:=by omega
  have hly:(zf y).length≤(zf x).length:=by
   apply Nat.le_of_not_lt
   intro h
   have:=fA h
   omega
  have hS:x-y<B^(zf x).length:=by
   have:=zE.1 (Nat.le_refl (zf x).length)
   omega
  have hc:¬ yQ x y<0:=by
   simp only[yQ,hlt,if_false]
   split<;>omega
  simp[hc,hlt,eMk]
  refine ⟨by omega,by omega,?_⟩
  refine zl (TY x y) (fun _=>True) (zf x).length (by simp[TY,dU,k8]) trivial (fun k hk _=>?_) (fun _=>?_)
  ·have e:(k:Int)<(zf x).length:=by omega
   have hak:=xC (zw x) hk
   have hb1:=UG (x:=x) (y:=y) (k:=k)
   have hfl:=fu (n:=(zf x).length) (k:=k) (S:=x-y) (by omega)
   have hfk:k<(wx (zf x).length k (x-y)).length:=by omega
   have hset:=fw (n:=(zf x).length) (k:=k) (S:=x-y) (by omega)
   have hsd:=fP (k:=k) hle
   have hbs:=dS (x:=x) (y:=y) (k:=k)
   rw[← pZ hk] at hsd hbs
   obtain ⟨d,hd⟩:∃ d,(x-y)/B^k%B=d:=⟨_,rfl⟩
   rw[hd] at hset hsd
   have hset':(zG (wx (zf x).length k (x-y))).set k [uv d]=zG (wx (zf x).length (k+1) (x-y)):=by rw[xc,hset]
   have e1:IntKind.u64.wrap (((zf x)[k]:Nat):Int)=((zf x)[k]:Nat):=w64 (by rw[z5] at hak; omega)
   rw[z5] at hak
   by_cases hkb:k<(zf y).length
   ·have e2:(k:Int)<(zf y).length:=by omega
    have hbk:=xC (zw y) hkb
    rw[z5] at hbk
    rw[← pZ hkb] at hsd hbs
    have e3:IntKind.u64.wrap (((zf y)[k]:Nat):Int)=((zf y)[k]:Nat):=w64 (by omega)
    have e5:=aaA (((zf x)[k]:Nat)-(bor x y k:Nat):Int) ((zf y)[k]:Nat)
    have e6:=Q9 (((zf x)[k]:Nat)-(bor x y k:Nat)-((zf y)[k]:Nat):Int)
    have e7:=Q7 (u:=(((zf x)[k]:Nat)-(bor x y k:Nat)-((zf y)[k]:Nat):Int)) (by omega) (by omega)
    have e8:(((zf x)[k]:Nat)-(bor x y k:Nat)-((zf y)[k]:Nat):Int)%4294967296=(d:Int):=by omega
    rw[e8] at e6
    have e9:(if (((zf x)[k]:Nat)-(bor x y k:Nat)-((zf y)[k]:Nat):Int)<0 then (1:Int) else 0)=(bor x y (k+1):Int):=by
     rw[hbs]
     split<;>split<;>omega
    rw[e9] at e7
    simp[kX,TY,e,e2,hk,hkb,e1,e3,e5,e6,e7,ww,hfk,splice,hset',zq (show k<4611686018427387904 by omega)]
   ·have e2:¬ (k:Int)<(zf y).length:=by omega
    have hy0:y/B^k%B=0:=by rw[← Eg,List.getElem?_eq_none (by omega)]; rfl
    rw[hy0] at hsd hbs
    have e6:=Q9 (((zf x)[k]:Nat)-(bor x y k:Nat):Int)
    have e7:=Q7 (u:=(((zf x)[k]:Nat)-(bor x y k:Nat):Int)) (by omega) (by omega)
    have e8:(((zf x)[k]:Nat)-(bor x y k:Nat):Int)%4294967296=(d:Int):=by omega
    rw[e8] at e6
    have e9:(if (((zf x)[k]:Nat)-(bor x y k:Nat):Int)<0 then (1:Int) else 0)=(bor x y (k+1):Int):=by
     rw[hbs]
     split<;>split<;>omega
    rw[e9] at e7
    simp[kX,TY,e,e2,hk,e1,e6,e7,ww,hfk,splice,hset',zq (show k<4611686018427387904 by omega)]
  ·have htk:(zG (zu (zf x).length (x-y))).take (zf x).length=zG (zu (zf x).length (x-y)):=List.take_of_length_le (by rw[List.length_map,zy]; exact Nat.le_refl _)
   have hle2:(zf x).length≤(zu (zf x).length (x-y)).length:=by rw[zy]; exact Nat.le_refl _
   have key:=yZ (m:=.plain) (a:=zu (zf x).length (x-y)) yt (by rw[zy]; omega)
   rw[yh hS] at key
   simp[kX,TY,aZ,UP,xa,s7,htk,hle2]
   refine za key (by simp) (by simp) ?_
   simp[SS]
   exact AV.imp.refl
def TT (m1 m2:Am.Mode) (a b:List Nat) (i k:Nat):St :=
 {env:=[(0,nl m1 a),(1,nl m2 b),(5,.sl 15 1 0 (a.length+b.length)),(17,iv a.length),(18,iv i),(6,iv i),(7,z7 (x6 a b i k).2),(22,iv b.length),(23,iv k)],sto:=[(15,.arr 1 (zG (x6 a b i k).1))]}
def ZO (m1 m2:Am.Mode) (a b:List Nat) (i:Nat):St :=
 {env:=[(0,nl m1 a),(1,nl m2 b),(5,.sl 15 1 0 (a.length+b.length)),(17,iv a.length),(18,iv i)],sto:=[(15,.arr 1 (zG (s8 a b i)))]}
theorem r4 {m1 m2:Am.Mode} {a b:List Nat} (ha:ok a) (hb:ok b) (hna:a.length<1099511627776) (hnb:b.length<1099511627776) (hs:a.length+b.length<1099511627776) (f1:stm m1=m1) (f2:stm m2=m2) :
  zd Try.prog ql [nl m1 a,nl m2 b] (nD (val a*val b)):=by
 refine wT ac9 (by simp) ?_
 have w:IntKind.i64.wrap ((a.length:Int)+b.length)=(a.length:Int)+b.length:=wrap64 (by omega) (by omega)
 have e1:((a.length:Int)+b.length).toNat=a.length+b.length:=by omega
 simp[LX,w,eMk,e1]
 refine ⟨by omega,by omega,by omega,?_⟩
 refine zl (ZO m1 m2 a b) (fun _=>True) a.length (by simp[ZO,s8]) trivial (fun i hi _=>?_) (fun _=>?_)
 ·have hO:=Zq ha hb i (by omega)
  have ei:(i:Int)<a.length:=by omega
  simp[d8,ZO,ei]
  refine zl (TT m1 m2 a b i) (fun _=>True) b.length (by simp[TT,EC]) trivial (fun k hk _=>?_) (fun _=>?_)
  ·have hI:=fD ha hb hi hO k (by omega)
   have ek:(k:Int)<b.length:=by omega
   have hst:=R4 (a:=a) (b:=b) (i:=i) (k:=k)
   have hlen:=hI.len
   have hik:i+k<(x6 a b i k).1.length:=by omega
   have eik:((i:Int)+k)<(x6 a b i k).1.length:=by omega
   have wik:IntKind.i64.wrap ((i:Int)+k)=((i+k:Nat):Int):=by rw[wrap64]<;>omega
   have hbd:=fC (vV ha i) (vV hb k) (vV hI.ok (i+k)) hI.lt
   have g1:=xC ha hi
   have g2:=xC hb hk
   have g3:=xC hI.ok hik
   have g4:=hI.lt
   simp only[mY] at hst
   have q1:a.getD i 0=a[i]:=by simp[hi]
   have q2:b.getD k 0=b[k]:=by simp[hk]
   have q3:(x6 a b i k).1.getD (i+k) 0=(x6 a b i k).1[i+k]:=by simp[hik]
   rw[q1,q2,q3] at hst hbd
   obtain ⟨t,ht⟩:∃ t,a[i]*b[k]+(x6 a b i k).1[i+k]+(x6 a b i k).2=t:=⟨_,rfl⟩
   obtain ⟨p,hp⟩:∃ p,a[i]*b[k]=p:=⟨_,rfl⟩
   rw[ht] at hst hbd
   rw[hp] at ht
   obtain ⟨d,hd⟩:∃ d,t%B=d:=⟨_,rfl⟩
   obtain ⟨q,hq⟩:∃ q,t/B=q:=⟨_,rfl⟩
   rw[hd,hq] at hst
   have f1:IntKind.u32.wrap (t:Int)=(d:Int):=by rw[w32,hd]
   have f2:(t:Int).fdiv (2^min 32 IntKind.u64.bits)=(q:Int):=by rw[c6,hq]
   have hBB:B*B=18446744073709551616:=by decide
   rw[hBB] at hbd
   rw[z5] at g1 g2 g3 g4
   have u1:IntKind.u64.wrap ((a[i]:Nat):Int)=(a[i]:Nat):=w64 (by omega)
   have u2:IntKind.u64.wrap ((b[k]:Nat):Int)=(b[k]:Nat):=w64 (by omega)
   have u3:IntKind.u64.wrap (((x6 a b i k).1[i+k]:Nat):Int)=((x6 a b i k).1[i+k]:Nat):=w64 (by omega)
   have u4:IntKind.u64.wrap ((a[i]:Int)*(b[k]:Int))=(p:Int):=by
    rw[show (a[i]:Int)*(b[k]:Int)=((a[i]*b[k]:Nat):Int) by simp,hp]; exact w64 (by omega)
   have u5:IntKind.u64.wrap ((p:Int)+((x6 a b i k).1[i+k]:Nat))=(p:Int)+((x6 a b i k).1[i+k]:Nat):=by rw[vL]<;>omega
   have u6:IntKind.u64.wrap ((p:Int)+((x6 a b i k).1[i+k]:Nat)+((x6 a b i k).2:Nat))=(t:Int):=by rw[vL]<;>omega
   have hset:(zG (x6 a b i k).1).set (i+k) [uv d]=zG (x6 a b i (k+1)).1:=by rw[xc,hst]
   have hq2:(x6 a b i (k+1)).2=q:=by rw[hst]
   have en:((i:Int)+k).toNat=i+k:=by omega
   have e0:(0:Int)≤(i:Int)+k:=by omega
   have elt:(i:Int)+k<(a.length:Int)+b.length:=by omega
   simp only[Int.natCast_add] at wik
   simp[d7,TT,ek,hi,hk,ei,wik,en,e0,elt,hik,u1,u2,u3,u4,u5,u6,ww,splice,f1,f2,hset,hq2,zq (show k<4611686018427387904 by omega)]
  ·have hI:=fD ha hb hi hO b.length (Nat.le_refl _)
   have hlen:=hI.len
   have hik:i+b.length<(x6 a b i b.length).1.length:=by omega
   have wik:IntKind.i64.wrap ((i:Int)+b.length)=(i:Int)+b.length:=by rw[wrap64]<;>omega
   have en:((i:Int)+b.length).toNat=i+b.length:=by omega
   have e0:(0:Int)≤(i:Int)+b.length:=by omega
   have hset:(zG (x6 a b i b.length).1).set (i+b.length) [uv (x6 a b i b.length).2]=zG (s8 a b (i+1)):=by rw[R5]; exact xc
   have g4:=hI.lt
   rw[z5] at g4
   have f1:IntKind.u32.wrap ((x6 a b i b.length).2:Int)=((x6 a b i b.length).2:Int):=IntWalk.u32_in _ (by omega)
   simp[d7,TT,ZO,UM,UN,wik,en,e0,hik,f1,splice,hset,ei,zq (show i<4611686018427387904 by omega)]
 ·obtain ⟨h1,h2,h3⟩:=abW ha hb
  have htk:(zG (s8 a b a.length)).take (a.length+b.length)=zG (s8 a b a.length):=List.take_of_length_le (by rw[List.length_map,h2]; exact Nat.le_refl _)
  have hle2:a.length+b.length≤(s8 a b a.length).length:=by rw[h2]; exact Nat.le_refl _
  have key:=yZ (m:=.plain) h1 (by rw[h2]; omega)
  rw[h3] at key
  simp[d8,ZO,UO,xa,XF f1,XF f2,s7,htk,hle2]
  refine za key (by simp) (by simp) ?_
  simp[KW]
  exact AV.imp.refl
theorem vR {m:Am.Mode} {a:List Nat} {i:Nat} (ha:ok a) (_hn:a.length<1099511627776) (_hi:i<1099511627776):zd Try.prog xN [nl m a,iv i] (z7 (a.getD i 0)):=by
 refine zD Ck (by simp) ?_
 by_cases h:i<a.length
 ·have hg:a.getD i 0=a[i]:=by simp[h]
  have hB:=xC ha h
  rw[hg]
  generalize ha2:a[i]=x at *
  rw[z5] at hB
  have w:IntKind.u64.wrap (x:Int)=x:=w64 (by omega)
  have h':(i:Int)<a.length:=by omega
  simp[aJ,h,h',ha2,w,ZD]
 ·have hg:a.getD i 0=0:=by simp[List.getD,List.getElem?_eq_none (Nat.le_of_not_lt h)]
  have h':¬ (i:Int)<a.length:=by omega
  rw[hg]
  simp[aJ,h',ZD]
theorem Qv {m:Am.Mode} {a:List Nat} (ha:ok a) (hn:a.length<1099511627776):zd Try.prog gP [nl m a] (bv (decide (a=zf (val a)))):=by
 refine zD Cj (by simp) ?_
 rcases Nat.eq_zero_or_pos a.length with h | h
 ·rw[List.length_eq_zero_iff] at h
  subst h
  simp[aI,ZC,val,yd]
 ·obtain ⟨k,hk⟩:∃ k,a.length=k+1:=⟨a.length-1,by omega⟩
  have hl:(a.length:Int)=(k:Int)+1:=by omega
  have w:IntKind.i64.wrap (k:Int)=(k:Int):=by rw[wrap64]<;>omega
  have hkl:k<a.length:=by omega
  have hne:¬ a.length=0:=by omega
  have hnil:¬ a=[]:=fun e=>by subst e; simp at h
  have hv:(a=zf (val a))↔a[k]≠0:=by
   constructor
   ·intro e h0
    have h1:=fo (x:=val a) (by rw[← e]; exact h)
    simp only[← e,hk,Nat.add_sub_cancel] at h1
    exact h1 h0
   ·intro h0
    refine (Kc ha fun _=>?_).symm
    simp only[hk,Nat.add_sub_cancel]
    exact h0
  have hd:decide (a=zf (val a))=!decide (a[k]=0):=by
   by_cases h0:a[k]=0
   ·have:¬ a=zf (val a):=fun e=>hv.1 e h0
    simp[this,h0]
   ·have:a=zf (val a):=hv.2 h0
    rw[decide_eq_true this,decide_eq_false h0]; rfl
  rw[hd]
  generalize ha2:a[k]=x at *
  have hk0:¬ ((k:Int)+1=0):=by omega
  have p1:(k:Int)<(k:Int)+1:=by omega
  simp[aI,ZC,hl,w,hkl,ha2,hk0,p1]
def ZR (m:Am.Mode) (a:List Nat) (k:Nat):St:={env:=[(0,nl (if k=0 then m else .plain) (a.take (a.length-k)))],sto:=[]}
theorem nc {m:Am.Mode} {a:List Nat} (ha:ok a) (hn:a.length<1099511627776):zd Try.prog tY [nl m a] (nD (val a)):=by
 obtain ⟨h1,h2,h3,h4⟩:=Zi ha
 refine wT aaw (by simp) ?_
 simp[PA]
 generalize hT:(zf (val a)).length=T at h1 h2 h3 h4
 refine zl (ZR m a) (fun _=>True) (a.length-T) (by simp[ZR]) trivial (fun k hk _=>?_) (fun _=>?_)
 ·obtain ⟨c,hc⟩:∃ c,a.take (a.length-k)=c:=⟨_,rfl⟩
  obtain ⟨L,hL⟩:∃ L,a.length-k=L+1:=⟨a.length-k-1,by omega⟩
  have hL2:a.length-(k+1)=L:=by omega
  have hcl:c.length=L+1:=by rw[← hc]; simp; omega
  have hLl:L<c.length:=by omega
  have hz:c[L]=0:=by
   have:=h2 L (by omega) (by omega)
   subst hc
   simpa using this
  have hc2:a.take L=c.take L:=by rw[← hc,List.take_take]; congr 1; omega
  have hcz:(c.length:Int)=(L:Int)+1:=by omega
  have w:IntKind.i64.wrap (L:Int)=(L:Int):=by rw[wrap64]<;>omega
  have hg:∃ r,zG (c.take L)=r:=⟨_,rfl⟩
  have hst:ZR m a (k+1)={env:=[(0,.list 1 .plain (List.take L (zG c)))],sto:=[]}:=by
   rw[ZR,hL2,hc2]; simp[List.map_take]
  obtain ⟨m',hst0⟩:∃ m',ZR m a k={env:=[(0,nl m' c)],sto:=[]}:=⟨_,by rw[ZR,hc]⟩
  have p3:(L:Int)<(L:Int)+1:=by omega
  have p1:(0:Int)<(L:Int)+1:=by omega
  have p2:(L:Int)≤(L:Int)+1:=by omega
  rw[hst0]
  simp[lq,hcl,w,hz,hst,p1,p2,p3]
 ·have e:a.length-(a.length-T)=T:=by omega
  obtain ⟨m',hst⟩:∃ m',ZR m a (a.length-T)={env:=[(0,nl m' (zf (val a)))],sto:=[]}:=⟨_,by rw[ZR,e,h4]⟩
  rw[hst]
  clear hst
  generalize hcE:zf (val a)=c at *
  rcases T with _ | L
  ·have hc0:c=[]:=List.length_eq_zero_iff.1 hT
   subst hc0
   simp[lq,eo,X3]
   rw[nD,hcE]
   exact AV.imp.refl
  ·have hLl:L<c.length:=by omega
   have hcz:(c.length:Int)=(L:Int)+1:=by omega
   have w:IntKind.i64.wrap (L:Int)=(L:Int):=by rw[wrap64]<;>omega
   have hz:¬ c[L]=0:=by
    have:=fo (x:=val a) (by rw[hcE]; omega)
    simp only[hcE,hT,Nat.add_sub_cancel] at this
    exact this
   have p1:(0:Int)<(L:Int)+1:=by omega
   simp[lq,hT,w,hz,p1,eo,X3]
   rw[nD,hcE]
   exact ⟨by omega,by omega,by omega,AV.imp.refl⟩
theorem gf {x:Nat} (h:x<18446744073709551616):zd Try.prog th [z7 x] (nD x):=by
 have hq2:x/B<B:=by rw[z5]; omega
 have e1:=Nat.mod_add_div x B
 have hm2:x%B<B:=Nat.mod_lt _ zU
 have t1:(x:Int).tmod 4294967296=((x%B:Nat):Int):=by
  rw[z5,show (4294967296:Int)=((4294967296:Nat):Int) from rfl,← Int.ofNat_tmod]
 have t2:IntKind.u64.wrap ((x:Int)/4294967296)=((x/B:Nat):Int):=by
  rw[show (x:Int)/4294967296=((x/B:Nat):Int) by rw[z5]; omega]
  exact w64 (Nat.lt_of_le_of_lt (Nat.div_le_self _ _) h)
 obtain ⟨d0,h0⟩:∃ d,x%B=d:=⟨_,rfl⟩
 obtain ⟨d1,h1⟩:∃ q,x/B=q:=⟨_,rfl⟩
 rw[h0] at t1 e1 hm2
 rw[h1] at t2 e1 hq2
 have hok:ok [d0,d1]:=by
  intro d hd
  simp at hd
  rcases hd with rfl | rfl
  ·exact hm2
  ·exact hq2
 have hv:val [d0,d1]=x:=by
  simp only[val,Nat.mul_zero,Nat.add_zero]
  exact e1
 have key:=nc (m:=.full) (a:=[d0,d1]) hok (by simp)
 rw[hv] at key
 rw[z5] at hm2 hq2
 have f1:IntKind.u32.wrap (d0:Int)=d0:=IntWalk.u32_in _ (by omega)
 have f2:IntKind.u32.wrap (d1:Int)=d1:=IntWalk.u32_in _ (by omega)
 refine zD ME (by simp) ?_
 simp[aH,uS,rO,t1,t2,f1,f2,uh]
 refine za key (by simp) (by simp) ?_
 simp[ZB]
theorem sm {a:List Nat} (ha:ok a) (i:Nat):a.getD i 0=val a/B^i%B:=by
 rcases Nat.lt_or_ge i a.length with h | h
 ·rw[← mS ha h]; simp[h]
 ·have h1:val a<B^i:=yC ha h
  rw[Nat.div_eq_of_lt h1,Nat.zero_mod]
  simp[List.getD,List.getElem?_eq_none h]
theorem fJ (x j:Nat):x/B^j=B*(x/B^(j+1))+x/B^j%B:=by
 rw[Nat.pow_succ,← Nat.div_div_eq_div_mul]
 exact (Nat.div_add_mod _ _).symm
theorem PF {x y j:Nat} (h:x/B^(j+1)=y/B^(j+1)) (hlt:x/B^j%B<y/B^j%B):x<y:=by
 have h1:=fJ x j
 have h2:=fJ y j
 rw[h] at h1
 apply Nat.lt_of_not_le
 intro hle
 have h3:y/B^j≤x/B^j:=Nat.div_le_div_right hle
 generalize x/B^j%B=p at *
 generalize y/B^j%B=q at *
 omega
theorem cmp_eq {x y j:Nat} (h:x/B^(j+1)=y/B^(j+1)) (he:x/B^j%B=y/B^j%B):x/B^j=y/B^j:=by
 rw[fJ x j,fJ y j,h,he]
def S3 (m1 m2:Am.Mode) (a b:List Nat) (M k:Nat):St:={env:=[(0,nl m1 a),(1,nl m2 b),(5,iv ((M:Int)-1-k))],sto:=[]}
theorem L9 {m1 m2:Am.Mode} {a b:List Nat} (ha:ok a) (hb:ok b) (hna:a.length<1099511627776) (hnb:b.length<1099511627776) (f1:stm m1=m1) (f2:stm m2=m2) :
  zd Try.prog Z9 [nl m1 a,nl m2 b] (iv (yQ (val a) (val b))):=by
 refine zD adk (by simp) ?_
 obtain ⟨M,hM⟩:∃ M,max a.length b.length=M:=⟨_,rfl⟩
 have hMz:max (a.length:Int) (b.length:Int)=(M:Int):=by omega
 have w0:IntKind.i64.wrap ((M:Int)-1)=(M:Int)-1:=by rw[wrap64]<;>omega
 simp[L5,hMz,w0]
 refine zl (S3 m1 m2 a b M) (fun k=>val a/B^(M-k)=val b/B^(M-k)) M (by simp[S3]) ?_ (fun k hk hi=>?_) (fun hi=>?_)
 ·rw[Nat.sub_zero,Nat.div_eq_of_lt (yC ha (by omega)),Nat.div_eq_of_lt (yC hb (by omega))]
 ·obtain ⟨j,hj⟩:∃ j,M-1-k=j:=⟨_,rfl⟩
  have hj2:M-k=j+1:=by omega
  have hj3:M-(k+1)=j:=by omega
  have hjz:(M:Int)-1-k=(j:Int):=by omega
  have d1:=vR (m:=m1) (i:=j) ha hna (by omega)
  have d2:=vR (m:=m2) (i:=j) hb hnb (by omega)
  rw[hj2] at hi
  rw[sm ha] at d1
  rw[sm hb] at d2
  have c1:=fun h=>PF (x:=val a) (y:=val b) (j:=j) hi h
  have c2:=fun h=>PF (x:=val b) (y:=val a) (j:=j) hi.symm h
  have c3:=fun h=>cmp_eq (x:=val a) (y:=val b) (j:=j) hi h
  generalize val a/B^j%B=p at *
  generalize val b/B^j%B=q at *
  have e0:(0:Int)≤(j:Int):=by omega
  have w1:IntKind.i64.wrap ((j:Int)-1)=(j:Int)-1:=by rw[wrap64]<;>omega
  have hst:S3 m1 m2 a b M (k+1)={env:=[(0,nl m1 a),(1,nl m2 b),(5,iv ((j:Int)-1))],sto:=[]}:=by
   rw[S3,show (M:Int)-1-((k+1:Nat):Int)=(j:Int)-1 by omega]
  rw[S3,hjz]
  simp[cb]
  refine za d1 (by simp[f1]) (by simp) ?_
  simp
  refine za d2 (by simp[f2]) (by simp) ?_
  by_cases h:p<q
  ·have hc:yQ (val a) (val b)=-1:=by simp[yQ,c1 h]
   simp[h,Yw,hc]
  ·simp[h]
   refine za d1 (by simp[f1]) (by simp) ?_
   simp
   refine za d2 (by simp[f2]) (by simp) ?_
   by_cases h2:q<p
   ·have hc:yQ (val a) (val b)=1:=by
     have:¬ val a<val b:=by have:=c2 h2; omega
     simp[yQ,c2 h2,this]
    simp[h2,Yw,hc]
   ·have he:=c3 (by omega)
    simp[h2,w1,hst,hj3,he]
 ·have hxy:val a=val b:=by simpa using hi
  have hc:yQ (val a) (val b)=0:=by simp[yQ,hxy]
  have e0:¬ (0:Int)≤(M:Int)-1-M:=by omega
  have e1:¬ (M:Int)≤(M:Int)-1:=by omega
  simp[cb,S3,e1,UR,Yw,hc]
def cry (x y k:Nat):Nat:=(x%B^k+y%B^k)/B^k
theorem C2 {x y:Nat}:cry x y 0=0:=by simp[cry,Nat.mod_one]
theorem adS {x y k:Nat}:cry x y k≤1:=by
 unfold cry
 have h1:=Nat.mod_lt x (vg k)
 have h2:=Nat.mod_lt y (vg k)
 have:(x%B^k+y%B^k)/B^k<2:=Nat.div_lt_of_lt_mul (by omega)
 omega
theorem Ff {x y k:Nat}:(x+y)/B^k%B=(x/B^k%B+y/B^k%B+cry x y k)%B∧cry x y (k+1)=(x/B^k%B+y/B^k%B+cry x y k)/B:=by
 have m1:x%B^(k+1)=x%B^k+B^k*(x/B^k%B):=by rw[Nat.pow_succ,Nat.mod_mul]
 have m2:y%B^(k+1)=y%B^k+B^k*(y/B^k%B):=by rw[Nat.pow_succ,Nat.mod_mul]
 have d1:=Nat.mod_add_div x (B^(k+1))
 have d2:=Nat.mod_add_div y (B^(k+1))
 have hs:x+y=(x%B^k+y%B^k)+B^k*(x/B^k%B+y/B^k%B)+B^(k+1)*(x/B^(k+1)+y/B^(k+1)):=by
  rw[Nat.mul_add,Nat.mul_add]
  omega
 constructor
 ·rw[hs,fk]
  unfold cry
  congr 1
  omega
 ·unfold cry
  rw[m1,m2,show x%B^k+B^k*(x/B^k%B)+(y%B^k+B^k*(y/B^k%B))=(x%B^k+y%B^k)+B^k*(x/B^k%B+y/B^k%B) by rw[Nat.mul_add]; omega,fj]
  congr 1
  omega
theorem j8 {m:Am.Mode} {l:Nat} {a:List Nat} (h:stm m=m):dg l (nl m a)=nl m a:=by
 cases m with
 | plain=>simp
 | full=>simp
 | own d=>simp at h
def S1 (m1 m2:Am.Mode) (a b:List Nat) (k:Nat):St :=
 {env:=[(0,nl m1 a),(1,nl m2 b),(5,wo 1 32 (zG (zu k (val a+val b)))),(6,z7 (cry (val a) (val b) k)),(7,iv k)],sto:=[]}
theorem jo {m1 m2:Am.Mode} {a b:List Nat} (ha:ok a) (hb:ok b) (hna:a.length<1099511627775) (hnb:b.length<1099511627775) (f1:stm m1=m1) (f2:stm m2=m2) :
  zd Try.prog qo [nl m1 a,nl m2 b] (nD (val a+val b)):=by
 refine zD adi (by simp) ?_
 obtain ⟨M,hM⟩:∃ M,max a.length b.length=M:=⟨_,rfl⟩
 have hMz:max (a.length:Int) (b.length:Int)=(M:Int):=by omega
 have hxM:val a<B^M:=yC ha (by omega)
 have hyM:val b<B^M:=yC hb (by omega)
 simp[L3]
 refine zl (S1 m1 m2 a b) (fun _=>True) (M+1) (by simp[S1,C2,zu]) trivial (fun k hk _=>?_) (fun _=>?_)
 ·have d1:=vR (m:=m1) (i:=k) ha (by omega) (by omega)
  have d2:=vR (m:=m2) (i:=k) hb (by omega) (by omega)
  rw[sm ha] at d1
  rw[sm hb] at d2
  obtain ⟨g1,g2⟩:=Ff (x:=val a) (y:=val b) (k:=k)
  have hsucc:=se (n:=k) (x:=val a+val b)
  have hpB:val a/B^k%B<B:=Nat.mod_lt _ zU
  have hqB:val b/B^k%B<B:=Nat.mod_lt _ zU
  have hc:=adS (x:=val a) (y:=val b) (k:=k)
  have hdl:=zy (n:=k) (x:=val a+val b)
  rw[g1] at hsucc
  have hst:S1 m1 m2 a b (k+1)={env:=[(0,nl m1 a),(1,nl m2 b),(5,wo 1 32 (zG (zu (k+1) (val a+val b)))),(6,z7 (cry (val a) (val b) (k+1))),(7,iv ((k:Int)+1))],sto:=[]}:=by
   rw[S1]; rfl
  rw[hsucc,g2] at hst
  rw[S1]
  clear g1 g2 hsucc
  generalize val a/B^k%B=p at *
  generalize val b/B^k%B=q at *
  generalize cry (val a) (val b) k=c at *
  generalize zu k (val a+val b)=D at *
  obtain ⟨t,ht⟩:∃ t,p+q+c=t:=⟨_,rfl⟩
  obtain ⟨d,hd⟩:∃ d,t%B=d:=⟨_,rfl⟩
  obtain ⟨e,he⟩:∃ e,t/B=e:=⟨_,rfl⟩
  rw[ht,hd,he] at hst
  have hdB:d<B:=by rw[← hd]; exact Nat.mod_lt _ zU
  have heB:e≤t:=by rw[← he]; exact Nat.div_le_self _ _
  rw[z5] at hpB hqB hdB
  have t1:(t:Int).tmod 4294967296=(d:Int):=by
   rw[← hd,z5,show (4294967296:Int)=((4294967296:Nat):Int) from rfl,← Int.ofNat_tmod]
  have t2:IntKind.u64.wrap ((t:Int)/4294967296)=(e:Int):=by
   rw[show (t:Int)/4294967296=(e:Int) by rw[← he,z5]; omega]
   exact w64 (by omega)
  clear hd he
  have w1:IntKind.u64.wrap ((p:Int)+q)=(p:Int)+q:=vL (by omega) (by omega)
  have w2:IntKind.u64.wrap ((p:Int)+q+c)=(t:Int):=by rw[vL]<;>omega
  have w3:IntKind.u32.wrap (d:Int)=d:=IntWalk.u32_in _ (by omega)
  have w4:IntKind.i64.wrap ((k:Int)+1)=(k:Int)+1:=wrap64 (by omega) (by omega)
  have hkM:(k:Int)≤(M:Int):=by omega
  simp[ca,hMz,hkM]
  refine za d1 (by simp[f1]) (by simp) ?_
  simp
  refine za d2 (by simp[f2]) (by simp) ?_
  simp[w1,w2,uS,rO,t1,t2,w3,w4,hdl,hst,j8 f1,j8 f2]
  omega
 ·have hlt:val a+val b<B^(M+1):=by
   rw[Nat.pow_succ]
   have:B^M*2≤B^M*B:=Nat.mul_le_mul_left _ (by decide)
   omega
  have kt:=nc (m:=.plain) (a:=zu (M+1) (val a+val b)) yt (by rw[zy]; omega)
  rw[yh hlt] at kt
  have hne:¬ zu (M+1) (val a+val b)=[]:=fun h=>by
   have:=congrArg List.length h
   rw[zy] at this
   simp at this
  have hkM:¬ (M:Int)+1≤(M:Int):=by omega
  simp[ca,S1,hMz,hkM,UQ,K1]
  refine za kt (by simp[hne]) (.inl rfl) ?_
  simp
theorem cC {f:FuncId} {x x' r:AV} (h:zd Try.prog f [x'] r) (hy:AV.imp x x'):zd Try.prog f [x] r:=fun I vs w h1 h2 h3 =>
 h I vs w h1 h2 fun i a hi=>by
  match i,hi with
  | 0,hi=>simp at hi; subst hi; exact hy _ _ _ (h3 0 x rfl)
  | i+1,hi=>simp at hi
theorem QH {x y k p q c:Nat} (h:y≤x) (hp:x/B^k%B=p) (hq:y/B^k%B=q) (hc:bor x y k=c) (_hpB:p<B) (_hqB:q<B) (hc1:c≤1) :
  ∃ s,4294967296+p-q-c=s∧s<8589934592∧q+c≤4294967296+p∧(x-y)/B^k%B=s%B∧bor x y (k+1)=1-s/B∧s/B≤1:=by
 have h1:=fP (k:=k) h
 have h2:=dS (x:=x) (y:=y) (k:=k)
 rw[hp,hq,hc] at h1 h2
 have hdB:(x-y)/B^k%B<B:=Nat.mod_lt _ zU
 generalize (x-y)/B^k%B=d at *
 rw[z5] at *
 refine ⟨_,rfl,by omega,by omega,by omega,?_,by omega⟩
 rw[h2]
 split<;>omega
def Rd (m1 m2:Am.Mode) (a b:List Nat) (k:Nat):St :=
 {env:=[(0,nl m1 a),(1,nl m2 b),(6,wo 1 35 (zG (zu k (val a-val b)))),(7,z7 (bor (val a) (val b) k)),(8,iv k)],sto:=[]}
theorem Rl {m1 m2:Am.Mode} {a b:List Nat} (ha:ok a) (hb:ok b) (hna:a.length<1099511627775) (hnb:b.length<1099511627775) (f1:stm m1=m1) (f2:stm m2=m2) :
  zd Try.prog eQ [nl m1 a,nl m2 b] (.tuple [nD (val a-val b),bv (decide (val b≤val a))]):=by
 have kc:=L9 (m1:=m1) (m2:=m2) ha hb (by omega) (by omega) f1 f2
 refine wT adn (by simp) ?_
 simp[L8]
 refine za kc (by simp[f1,f2]) (by simp) ?_
 by_cases hlt:val a<val b
 ·have hc1:yQ (val a) (val b)=-1:=by simp[yQ,hlt]
  have hd:decide (val b≤val a)=false:=by simp; omega
  have h0:val a-val b=0:=by omega
  simp[hc1,SU]
  rw[hd,h0]
  exact AV.imp_tuple2 sC
 ·have hc1:¬ yQ (val a) (val b)<0:=by simp only[yQ,if_neg hlt]; split<;>omega
  have hle:val b≤val a:=by omega
  have hd:decide (val b≤val a)=true:=by simp[hle]
  rw[hd]
  simp[hc1]
  refine zl (Rd m1 m2 a b) (fun _=>True) a.length (by simp[Rd,dU,zu]) trivial (fun k hk _=>?_) (fun _=>?_)
  ·have d1:=vR (m:=m1) (i:=k) ha (by omega) (by omega)
   have d2:=vR (m:=m2) (i:=k) hb (by omega) (by omega)
   rw[sm ha] at d1
   rw[sm hb] at d2
   have hpB:val a/B^k%B<B:=Nat.mod_lt _ zU
   have hqB:val b/B^k%B<B:=Nat.mod_lt _ zU
   have hc:=UG (x:=val a) (y:=val b) (k:=k)
   obtain ⟨s,g0,gs,gle,g1,g2,g3⟩:=QH (k:=k) hle rfl rfl rfl hpB hqB hc
   have hsucc:=se (n:=k) (x:=val a-val b)
   have hdl:=zy (n:=k) (x:=val a-val b)
   rw[g1] at hsucc
   have hst:Rd m1 m2 a b (k+1)={env:=[(0,nl m1 a),(1,nl m2 b),(6,wo 1 35 (zG (zu (k+1) (val a-val b)))),(7,z7 (bor (val a) (val b) (k+1))),(8,iv ((k:Int)+1))],sto:=[]}:=by
    rw[Rd]; rfl
   rw[hsucc,g2] at hst
   rw[Rd]
   clear g1 g2 hsucc
   generalize val a/B^k%B=p at *
   generalize val b/B^k%B=q at *
   generalize bor (val a) (val b) k=c at *
   generalize zu k (val a-val b)=D at *
   obtain ⟨d,hd⟩:∃ d,s%B=d:=⟨_,rfl⟩
   obtain ⟨e,he⟩:∃ e,s/B=e:=⟨_,rfl⟩
   rw[hd,he] at hst
   rw[he] at g3
   have hdB:d<B:=by rw[← hd]; exact Nat.mod_lt _ zU
   rw[z5] at hpB hqB hdB
   have t1:(s:Int).tmod 4294967296=(d:Int):=by
    rw[← hd,z5,show (4294967296:Int)=((4294967296:Nat):Int) from rfl,← Int.ofNat_tmod]
   have t2:IntKind.u64.wrap ((s:Int)/4294967296)=(e:Int):=by
    rw[show (s:Int)/4294967296=(e:Int) by rw[← he,z5]; omega]
    exact w64 (by omega)
   clear hd he
   have w1:IntKind.u64.wrap ((4294967296:Int)+p)=(4294967296:Int)+p:=vL (by omega) (by omega)
   have w2:IntKind.u64.wrap ((4294967296:Int)+p-q)=(4294967296:Int)+p-q:=vL (by omega) (by omega)
   have w2':IntKind.u64.wrap ((4294967296:Int)+p-q-c)=(s:Int):=by rw[vL]<;>omega
   have w3:IntKind.u32.wrap (d:Int)=d:=IntWalk.u32_in _ (by omega)
   have w5:IntKind.u64.wrap (1-(e:Int))=((1-e:Nat):Int):=by rw[vL]<;>omega
   have w4:IntKind.i64.wrap ((k:Int)+1)=(k:Int)+1:=wrap64 (by omega) (by omega)
   have hkM:(k:Int)<(a.length:Int):=by omega
   simp[ce,hkM]
   refine za d1 (by simp[f1]) (by simp) ?_
   simp[w1]
   refine za d2 (by simp[f2]) (by simp) ?_
   simp[w2,w2',w5,uS,rO,t1,t2,w3,w4,hdl,hst,j8 f1,j8 f2]
   omega
  ·have hlt2:val a-val b<B^a.length:=Nat.lt_of_le_of_lt (Nat.sub_le _ _) (vm ha)
   have kt:=nc (m:=.plain) (a:=zu a.length (val a-val b)) yt (by rw[zy]; omega)
   rw[yh hlt2] at kt
   simp[ce,Rd,UU,SU]
   refine za (cC kt XK) (by simp) (.inl rfl) ?_
   simp
   exact AV.imp.refl
def cs (x d k:Nat):Nat:=x%B^k*d/B^k
theorem abl {x d:Nat}:cs x d 0=0:=by simp[cs,Nat.mod_one]
theorem afl {x d k:Nat} (hd:d<B):cs x d k<B:=by
 unfold cs
 apply Nat.div_lt_of_lt_mul
 have h1:=Nat.mod_lt x (vg k)
 exact Nat.mul_lt_mul_of_lt_of_lt h1 hd
theorem Ls {x d k:Nat}:x*d/B^k%B=(x/B^k%B*d+cs x d k)%B∧cs x d (k+1)=(x/B^k%B*d+cs x d k)/B:=by
 have m1:x%B^(k+1)=x%B^k+B^k*(x/B^k%B):=by rw[Nat.pow_succ,Nat.mod_mul]
 have d1:=Nat.mod_add_div x (B^(k+1))
 have hs:x*d=(x%B^k*d)+B^k*(x/B^k%B*d)+B^(k+1)*(x/B^(k+1)*d):=by
  have h:x*d=(x%B^k+B^k*(x/B^k%B)+B^(k+1)*(x/B^(k+1)))*d:=by rw[← m1,d1]
  rw[h,Nat.add_mul,Nat.add_mul,Nat.mul_assoc,Nat.mul_assoc]
 constructor
 ·rw[hs,fk]
  unfold cs
  congr 1
  omega
 ·unfold cs
  rw[m1,Nat.add_mul,Nat.mul_assoc,fj]
  congr 1
  omega
def Re (m1:Am.Mode) (a:List Nat) (d k:Nat):St :=
 {env:=[(0,nl m1 a),(1,z7 d),(5,wo 1 27 (zG (zu k (val a*d)))),(6,z7 (cs (val a) d k)),(7,iv k)],sto:=[]}
theorem Dy {m1:Am.Mode} {a:List Nat} {d:Nat} (ha:ok a) (hna:a.length<1099511627775) (hd:d<B) (f1:stm m1=m1) :
  zd Try.prog al [nl m1 a,z7 d] (nD (val a*d)):=by
 refine zD Cl (by simp) ?_
 simp[RH]
 refine zl (Re m1 a d) (fun _=>True) (a.length+1) (by simp[Re,abl,zu]) trivial (fun k hk _=>?_) (fun _=>?_)
 ·have d1:=vR (m:=m1) (i:=k) ha (by omega) (by omega)
  rw[sm ha] at d1
  obtain ⟨g1,g2⟩:=Ls (x:=val a) (d:=d) (k:=k)
  have hsucc:=se (n:=k) (x:=val a*d)
  have hpB:val a/B^k%B<B:=Nat.mod_lt _ zU
  have hc:=afl (x:=val a) (k:=k) hd
  have hdl:=zy (n:=k) (x:=val a*d)
  rw[g1] at hsucc
  have hst:Re m1 a d (k+1)={env:=[(0,nl m1 a),(1,z7 d),(5,wo 1 27 (zG (zu (k+1) (val a*d)))),(6,z7 (cs (val a) d (k+1))),(7,iv ((k:Int)+1))],sto:=[]}:=by
   rw[Re]; rfl
  rw[hsucc,g2] at hst
  rw[Re]
  clear g1 g2 hsucc
  generalize val a/B^k%B=p at *
  generalize cs (val a) d k=c at *
  generalize zu k (val a*d)=D at *
  have hm:=fC hpB hd hc zU
  obtain ⟨pd,hpd⟩:∃ pd,p*d=pd:=⟨_,rfl⟩
  rw[hpd] at hst hm
  obtain ⟨t,ht⟩:∃ t,pd+c=t:=⟨_,rfl⟩
  obtain ⟨y,hy⟩:∃ y,t%B=y:=⟨_,rfl⟩
  obtain ⟨e,he⟩:∃ e,t/B=e:=⟨_,rfl⟩
  rw[ht,hy,he] at hst
  have hBB:B*B=18446744073709551616:=by decide
  rw[hBB] at hm
  have hyB:y<B:=by rw[← hy]; exact Nat.mod_lt _ zU
  have heB:e≤t:=by rw[← he]; exact Nat.div_le_self _ _
  rw[z5] at hpB hyB
  have t1:(t:Int).tmod 4294967296=(y:Int):=by
   rw[← hy,z5,show (4294967296:Int)=((4294967296:Nat):Int) from rfl,← Int.ofNat_tmod]
  have t2:IntKind.u64.wrap ((t:Int)/4294967296)=(e:Int):=by
   rw[show (t:Int)/4294967296=(e:Int) by rw[← he,z5]; omega]
   exact w64 (by omega)
  clear hy he
  have w1:IntKind.u64.wrap ((p:Int)*d)=(pd:Int):=by
   rw[show (p:Int)*(d:Int)=((p*d:Nat):Int) by simp,hpd]; exact w64 (by omega)
  have w2:IntKind.u64.wrap ((pd:Int)+c)=(t:Int):=by rw[vL]<;>omega
  have w3:IntKind.u32.wrap (y:Int)=y:=IntWalk.u32_in _ (by omega)
  have w4:IntKind.i64.wrap ((k:Int)+1)=(k:Int)+1:=wrap64 (by omega) (by omega)
  have hkM:(k:Int)≤(a.length:Int):=by omega
  have hkM2:k≤a.length:=by omega
  simp[jU,hkM]
  refine za d1 (by simp[f1]) (by simp) ?_
  simp[w1,w2,uS,rO,t1,t2,w3,w4,hdl,hst,j8 f1]
  omega
 ·have hlt:val a*d<B^(a.length+1):=by
   rw[Nat.pow_succ]
   exact Nat.mul_lt_mul_of_lt_of_lt (vm ha) hd
  have kt:=nc (m:=.plain) (a:=zu (a.length+1) (val a*d)) yt (by rw[zy]; omega)
  rw[yh hlt] at kt
  have hkM:¬ (a.length:Int)+1≤(a.length:Int):=by omega
  simp[jU,Re,hkM,aK,Qh]
  refine za (cC kt XK) (by simp) (.inl rfl) ?_
  simp
def YG (m1:Am.Mode) (a:List Nat) (n k:Nat):St :=
 {env:=[(0,nl m1 a),(1,iv n),(5,wo 1 14 (zG (List.replicate k 0))),(6,iv k)],sto:=[]}
theorem DC {m1:Am.Mode} {a:List Nat} {n:Nat} (ha:ok a) (hna:a.length<137438953472) (hn:n<137438953472) (f1:stm m1=m1) :
  zd Try.prog am [nl m1 a,iv n] (nD (val a*B^n)):=by
 refine zD Cm (by simp) ?_
 simp[RI]
 refine zl (YG m1 a n) (fun _=>True) n (by simp[YG]) trivial (fun k hk _=>?_) (fun _=>?_)
 ·have hst:YG m1 a n (k+1)={env:=[(0,nl m1 a),(1,iv n),(5,wo 1 14 (zG (List.replicate k 0++[0]))),(6,iv ((k:Int)+1))],sto:=[]}:=by
   rw[YG,List.replicate_succ']; rfl
  have hl:(List.replicate k 0).length=k:=List.length_replicate
  rw[YG]
  generalize List.replicate k 0=D at *
  have w4:IntKind.i64.wrap ((k:Int)+1)=(k:Int)+1:=wrap64 (by omega) (by omega)
  have hkn:(k:Int)<(n:Int):=by omega
  simp[jV,hkn,w4,hl,hst,j8 f1]
  exact ⟨by omega,by omega,rfl⟩
 ·have hl:(List.replicate n 0).length=n:=List.length_replicate
  have hv:val (List.replicate n 0++a)=val a*B^n:=by rw[val_append,YM,hl,Nat.zero_add,Nat.mul_comm]
  have kt:=nc (m:=.plain) (a:=List.replicate n 0++a) (Zu.2 ⟨NL n,ha⟩) (by rw[List.length_append,hl]; omega)
  rw[hv] at kt
  rw[YG]
  generalize List.replicate n 0=D at *
  simp[jV,aM]
  refine Qz (by simp) (.inr rfl) (by simp) (by simp) (by simp; omega) (by simp; omega) fun t ht=>?_
  simp
  refine za kt (by simp) (.inl rfl) ?_
  simp[Qi]
theorem Zf {f:FuncId} {x x' y r:AV} (h:zd Try.prog f [x',y] r) (hy:AV.imp x x'):zd Try.prog f [x,y] r:=fun I vs w h1 h2 h3 =>
 h I vs w h1 h2 fun i a hi=>by
  match i,hi with
  | 0,hi=>simp at hi; subst hi; exact hy _ _ _ (h3 0 x rfl)
  | 1,hi=>exact h3 1 a hi
  | i+2,hi=>simp at hi
def Ui (m1 m2:Am.Mode) (a b:List Nat) (k:Nat):St :=
 {env:=[(0,nl m1 a),(1,nl m2 b),(5,if k=0 then .list 0 .full [] else nD (val a*val (b.take k))),(6,iv k)],sto:=[]}
theorem ED {a b:List Nat} {k:Nat} (hk:k<b.length):val a*val (b.take (k+1))=val a*val (b.take k)+val a*b[k]*B^k:=by
 rw[xE hk,Nat.mul_add,Nat.mul_comm (B^k),Nat.mul_assoc]
theorem dw {m1 m2:Am.Mode} {a b:List Nat} (ha:ok a) (hb:ok b) (hs:a.length+b.length<68719476736) (f1:stm m1=m1) (_f2:stm m2=m2) :
  zd Try.prog mD [nl m1 a,nl m2 b] (nD (val a*val b)):=by
 refine wT adm (by simp) ?_
 simp[L7]
 refine zl (Ui m1 m2 a b) (fun _=>True) b.length (by simp[Ui]) trivial (fun k hk _=>?_) (fun _=>?_)
 ·have hbk:=xC hb hk
  have hg:∃ x,b[k]=x:=⟨_,rfl⟩
  have hsucc:=ED (a:=a) hk
  have haB:=vm ha
  have hbB:val (b.take k)<B^k:=yC (ut hb k) (by simp; omega)
  generalize hx:b[k]=x at *
  have k1:=Dy (m1:=m1) (d:=x) ha (by omega) hbk f1
  have hl1:(zf (val a*x)).length≤a.length+1:=zE.2 (by rw[Nat.pow_succ]; exact Nat.mul_lt_mul_of_lt_of_lt haB hbk)
  have k2:=DC (m1:=.plain) (n:=k) (zw (val a*x)) (by omega) (by omega) rfl
  rw[zI] at k2
  have hl2:(zf (val a*x*B^k)).length≤a.length+1+k:=zE.2 (by
   rw[Nat.pow_add,Nat.pow_succ]
   exact Nat.mul_lt_mul_of_pos_right (Nat.mul_lt_mul_of_lt_of_lt haB hbk) (vg k))
  have hl3:(zf (val a*val (b.take k))).length≤a.length+k:=zE.2 (by
   rw[Nat.pow_add]; exact Nat.mul_lt_mul_of_lt_of_lt haB hbB)
  have k3:=jo (m1:=.plain) (m2:=.plain) (zw (val a*val (b.take k))) (zw (val a*x*B^k)) (by omega) (by omega) rfl rfl
  rw[zI,zI] at k3
  rw[← hsucc] at k3
  rw[z5] at hbk
  have w1:IntKind.u64.wrap (x:Int)=x:=w64 (by omega)
  have w4:IntKind.i64.wrap ((k:Int)+1)=(k:Int)+1:=wrap64 (by omega) (by omega)
  have hkb:(k:Int)<(b.length:Int):=by omega
  obtain ⟨o,ho⟩:∃ o,(if k=0 then AV.list 0 .full [] else nD (val a*val (b.take k)))=o:=⟨_,rfl⟩
  simp[kY,hkb,hk,Ui,hx,w1]
  refine za k1 (by simp[f1]) (by simp) ?_
  simp
  refine za k2 (by simp) (by simp) ?_
  rcases Nat.eq_zero_or_pos k with h0 | h0
  ·subst h0
   have e0:nl .plain (zf (val a*val (b.take 0)))=nD 0:=by simp[val]
   rw[e0] at k3
   simp
   refine za (Zf k3 (sC (sz:=0))) (by simp) (by simp) ?_
   have w0:IntKind.i64.wrap 1=1:=by decide
   simp[w0,Ui]
  ·have hk0:¬ k=0:=by omega
   simp[hk0]
   refine za k3 (by simp) (by simp) ?_
   simp[w4,Ui]
 ·rcases Nat.eq_zero_or_pos b.length with h0 | h0
  ·have hb0:b=[]:=List.length_eq_zero_iff.1 h0
   subst hb0
   simp[kY,Ui,cd,ST,val]
   exact sC
  ·have hk0:¬ b.length=0:=by omega
   have hbn:¬ b=[]:=fun e=>by subst e; simp at h0
   simp[kY,Ui,cd,ST,hk0]
   exact AV.imp.refl
theorem lI (q:Nat):B^q=2^(32*q):=by rw[Nat.pow_mul]; rfl
theorem Fp {x i:Nat}:x/B^(i/32)%B/2^(i%32)%2=x/2^i%2:=by
 have hi:2^i=B^(i/32)*2^(i%32):=by rw[lI,← Nat.pow_add]; congr 1; omega
 rw[hi,← Nat.div_div_eq_div_mul]
 generalize x/B^(i/32)=y
 have hr:i%32<32:=Nat.mod_lt _ (by omega)
 generalize i%32=r at *
 have hB:B=2^r*2^(32-r):=by
  rw[← Nat.pow_add,Nat.add_sub_cancel' (by omega)]; rfl
 rw[hB,Nat.mod_mul_right_div_self]
 exact Nat.mod_mod_of_dvd _ ⟨2^(31-r),by rw[show 32-r=(31-r)+1 by omega,Nat.pow_succ,Nat.mul_comm]⟩
theorem Sk {m:Am.Mode} {a:List Nat} {i:Nat} (ha:ok a) (hn:a.length<1099511627776) (hi:i<35184372088832) (f1:stm m=m):zd Try.prog Z8 [nl m a,iv i] (z7 (val a/2^i%2)):=by
 have d1:=vR (m:=m) (i:=i/32) ha hn (by omega)
 rw[sm ha] at d1
 have hp:=Fp (x:=val a) (i:=i)
 have hpB:val a/B^(i/32)%B<B:=Nat.mod_lt _ zU
 rw[← hp]
 clear hp
 generalize val a/B^(i/32)%B=p at *
 have q1:IntKind.i64.wrap ((i:Int)/32)=((i/32:Nat):Int):=by rw[wrap64]<;>omega
 have q2:(i:Int).tmod 32=((i%32:Nat):Int):=by
  rw[show (32:Int)=((32:Nat):Int) from rfl,← Int.ofNat_tmod]
 have hr:i%32<32:=Nat.mod_lt _ (by omega)
 obtain ⟨q,hq⟩:∃ q,i/32=q:=⟨_,rfl⟩
 obtain ⟨r,hr2⟩:∃ r,i%32=r:=⟨_,rfl⟩
 rw[hq] at q1 d1
 rw[hr2] at q2 hr
 rw[hr2]
 clear hq hr2
 have hP:0<2^r:=Nat.pow_pos (by omega)
 have hPB:=gr hr
 have hmin:min r IntKind.u64.bits=r:=by
  have:IntKind.u64.bits=64:=rfl
  omega
 obtain ⟨P,hPe⟩:∃ P,2^r=P:=⟨_,rfl⟩
 rw[hPe] at hP hPB
 rw[hPe]
 have u1:IntKind.u64.wrap ((2:Int)^r)=(P:Int):=by
  rw[show (2:Int)^r=((2^r:Nat):Int) by simp,hPe]; exact w64 (by rw[z5] at hPB; omega)
 have hne:¬ P=0:=by omega
 have u2:IntKind.u64.wrap ((p:Int)/(P:Int))=((p/P:Nat):Int):=by
  rw[← Int.natCast_ediv]; exact w64 (Nat.lt_of_le_of_lt (Nat.div_le_self _ _) (by rw[z5] at hpB; omega))
 obtain ⟨z,hz⟩:∃ z,p/P=z:=⟨_,rfl⟩
 rw[hz] at u2
 rw[hz]
 have u3:(z:Int).tmod 2=((z%2:Nat):Int):=by
  rw[show (2:Int)=((2:Nat):Int) from rfl,← Int.ofNat_tmod]
 clear hz hPe
 refine zD adj (by simp) ?_
 simp[L4,uS,q1]
 refine za d1 (by simp[f1]) (by simp) ?_
 simp[uS,rO,vI,q2,hmin,u1,hne,u2,u3,K3]
def bl (x:Nat):Nat:=if x=0 then 0 else Nat.log2 x+1
theorem aaB (x:Nat):x<2^bl x:=by
 unfold bl
 split
 ·subst x; decide
 ·exact Nat.lt_log2_self
theorem adJ {x:Nat} (h:0<bl x):x/2^(bl x-1)%2=1:=by
 unfold bl at *
 split at h
 ·exact absurd h (Nat.lt_irrefl _)
 ·rename_i h0
  rw[if_neg h0,Nat.add_sub_cancel]
  have h1:=Nat.log2_self_le h0
  have h2:x<2^(Nat.log2 x+1):=Nat.lt_log2_self
  have h3:x/2^Nat.log2 x=1:=by
   rw[Nat.div_eq_iff (Nat.pow_pos (by omega))]
   rw[Nat.pow_succ] at h2
   omega
  rw[h3]
theorem Jn {x n:Nat} (h:x<2^n):bl x≤n:=by
 unfold bl
 split
 ·omega
 ·rename_i h0
  exact (Nat.log2_lt h0).2 h
def stB (m:Am.Mode) (a:List Nat) (k:Nat):St:={env:=[(0,nl m a),(3,iv ((32*a.length-k:Nat):Int))],sto:=[]}
theorem Po {m:Am.Mode} {a:List Nat} (ha:ok a) (hn:a.length<137438953472) (f1:stm m=m):zd Try.prog dP [nl m a] (iv (bl (val a))):=by
 refine zD aau (by simp) ?_
 have hlt:val a<2^(32*a.length):=by rw[← lI]; exact vm ha
 have hle:=Jn hlt
 have w0:IntKind.i64.wrap (32*(a.length:Int))=((32*a.length:Nat):Int):=by rw[wrap64]<;>omega
 simp[Py,w0]
 refine zl (stB m a) (fun _=>True) (32*a.length-bl (val a)) (by simp[stB]) trivial (fun k hk _=>?_) (fun _=>?_)
 ·obtain ⟨j,hj⟩:∃ j,32*a.length-k=j+1:=⟨32*a.length-k-1,by omega⟩
  have hj2:32*a.length-(k+1)=j:=by omega
  have hb:=Sk (m:=m) (i:=j) ha (by omega) (by omega) f1
  have hz:val a/2^j%2=0:=by
   rw[Nat.div_eq_of_lt]
   exact Nat.lt_of_lt_of_le (aaB _) (Nat.pow_le_pow_right (by omega) (by omega))
  rw[hz] at hb
  have hst:stB m a (k+1)={env:=[(0,nl m a),(3,iv j)],sto:=[]}:=by rw[stB,hj2]
  have hst0:stB m a k={env:=[(0,nl m a),(3,iv ((j:Int)+1))],sto:=[]}:=by rw[stB,hj]; rfl
  have w1:IntKind.i64.wrap (j:Int)=(j:Int):=by rw[wrap64]<;>omega
  have p1:(0:Int)<(j:Int)+1:=by omega
  rw[hst0]
  simp[ln,p1,w1]
  refine za hb (by simp[f1]) (by simp) ?_
  simp[w1,hst]
 ·have e:32*a.length-(32*a.length-bl (val a))=bl (val a):=by omega
  have ht:=fun h=>adJ (x:=val a) h
  have hb:=fun i h=>Sk (m:=m) (i:=i) ha (by omega) h f1
  rw[stB,e]
  generalize bl (val a)=L at *
  rcases L with _ | j
  ·simp[ln,eg,X2]
  ·have hb:=hb j (by omega)
   have ht:=ht (by omega)
   rw[Nat.add_sub_cancel] at ht
   rw[ht] at hb
   have w1:IntKind.i64.wrap (j:Int)=(j:Int):=by rw[wrap64]<;>omega
   have p1:(0:Int)<(j:Int)+1:=by omega
   simp[ln,p1,w1]
   refine za hb (by simp[f1]) (by simp) ?_
   simp[eg,X2]
theorem JS {Y r:Nat} (hr:r<32):(Y%B+Y/B%B*B)/2^r%B=Y/2^r%B:=by
 have h1:Y%B+Y/B%B*B=Y%(2^r*2^(64-r)):=by
  have:2^r*2^(64-r)=B*B:=by
   rw[← Nat.pow_add,Nat.add_sub_cancel' (by omega)]; rfl
  rw[this,Nat.mod_mul,Nat.mul_comm]
 rw[h1,Nat.mod_mul_right_div_self]
 refine Nat.mod_mod_of_dvd _ ⟨2^(32-r),?_⟩
 rw[show 64-r=32+(32-r) by omega,Nat.pow_add]; rfl
theorem JR {x k t:Nat}:x/2^k/B^t%B=(x/B^(k/32+t)%B+x/B^(k/32+t+1)%B*B)/2^(k%32)%B:=by
 have h1:x/B^(k/32+t+1)=x/B^(k/32+t)/B:=by rw[Nat.pow_succ,Nat.div_div_eq_div_mul]
 rw[h1,JS (Nat.mod_lt _ (by omega)),Nat.div_div_eq_div_mul,Nat.div_div_eq_div_mul]
 have:2^k*B^t=B^(k/32+t)*2^(k%32):=by
  rw[lI,lI,← Nat.pow_add,← Nat.pow_add]; congr 1; omega
 rw[this]
def stH (m:Am.Mode) (a:List Nat) (k t:Nat):St :=
 {env:=[(0,nl m a),(1,iv k),(5,wo 1 34 (zG (zu t (val a/2^k)))),(6,iv ((k/32+t:Nat):Int))],sto:=[]}
theorem Bz {m:Am.Mode} {a:List Nat} {k:Nat} (ha:ok a) (hn:a.length<137438953472) (hk:k<35184372088832) (f1:stm m=m):zd Try.prog Xo [nl m a,iv k] (nD (val a/2^k)):=by
 refine zD aav (by simp) ?_
 have q0:IntKind.i64.wrap ((k:Int)/32)=((k/32:Nat):Int):=by rw[wrap64]<;>omega
 have q2:(k:Int).tmod 32=((k%32:Nat):Int):=by
  rw[show (32:Int)=((32:Nat):Int) from rfl,← Int.ofNat_tmod]
 simp[Pz,uS,q0]
 refine zl (stH m a k) (fun _=>True) (a.length-k/32) (by simp[stH,zu]) trivial (fun t ht _=>?_) (fun _=>?_)
 ·have d1:=vR (m:=m) (i:=k/32+t) ha (by omega) (by omega)
  have d2:=vR (m:=m) (i:=k/32+t+1) ha (by omega) (by omega)
  rw[sm ha] at d1 d2
  have hd:=JR (x:=val a) (k:=k) (t:=t)
  have hsucc:=se (n:=t) (x:=val a/2^k)
  have hdl:=zy (n:=t) (x:=val a/2^k)
  rw[hd] at hsucc
  have hst:stH m a k (t+1)={env:=[(0,nl m a),(1,iv k),(5,wo 1 34 (zG (zu (t+1) (val a/2^k)))),(6,iv ((k/32+t:Nat)+1:Int))],sto:=[]}:=by
   rw[stH]; rfl
  rw[hsucc] at hst
  rw[stH]
  clear hd hsucc
  have hpB:val a/B^(k/32+t)%B<B:=Nat.mod_lt _ zU
  have hqB:val a/B^(k/32+t+1)%B<B:=Nat.mod_lt _ zU
  generalize val a/B^(k/32+t)%B=p at *
  generalize val a/B^(k/32+t+1)%B=q at *
  generalize zu t (val a/2^k)=D at *
  have hr:k%32<32:=Nat.mod_lt _ (by omega)
  obtain ⟨i,hi⟩:∃ i,k/32+t=i:=⟨_,rfl⟩
  obtain ⟨r,hr2⟩:∃ r,k%32=r:=⟨_,rfl⟩
  have hil:i<a.length:=by omega
  rw[hi] at d1 d2 hst
  rw[hi]
  rw[hr2] at hst q2 hr
  have htb:t<a.length:=by omega
  clear hi hr2 ht q0
  have hP:0<2^r:=Nat.pow_pos (by omega)
  have hPB:=gr hr
  have hmin:min r IntKind.u64.bits=r:=by
   have:IntKind.u64.bits=64:=rfl
   omega
  obtain ⟨P,hPe⟩:∃ P,2^r=P:=⟨_,rfl⟩
  rw[hPe] at hP hPB hst
  have u1:IntKind.u64.wrap ((2:Int)^r)=(P:Int):=by
   rw[show (2:Int)^r=((2^r:Nat):Int) by simp,hPe]; exact w64 (by rw[z5] at hPB; omega)
  have hne:¬ P=0:=by omega
  clear hPe
  have hs:=Sb hqB hpB
  obtain ⟨s,hse⟩:∃ s,p+q*B=s:=⟨_,rfl⟩
  have hsB:s<18446744073709551616:=by rw[← hse,Nat.add_comm]; exact hs
  rw[hse] at hst
  obtain ⟨qb,hqb⟩:∃ qb,q*B=qb:=⟨_,rfl⟩
  rw[hqb] at hse
  have w1:IntKind.u64.wrap ((q:Int)*4294967296)=(qb:Int):=by
   rw[show (q:Int)*4294967296=((q*B:Nat):Int) by rw[z5]; simp,hqb]; exact w64 (by omega)
  have w2:IntKind.u64.wrap ((p:Int)+qb)=(s:Int):=by rw[vL]<;>omega
  have u2:IntKind.u64.wrap ((s:Int)/(P:Int))=((s/P:Nat):Int):=by
   rw[← Int.natCast_ediv]; exact w64 (Nat.lt_of_le_of_lt (Nat.div_le_self _ _) hsB)
  obtain ⟨z,hz⟩:∃ z,s/P=z:=⟨_,rfl⟩
  rw[hz] at u2 hst
  obtain ⟨d,hd⟩:∃ d,z%B=d:=⟨_,rfl⟩
  rw[hd] at hst
  have u3:(z:Int).tmod 4294967296=(d:Int):=by
   rw[← hd,z5,show (4294967296:Int)=((4294967296:Nat):Int) from rfl,← Int.ofNat_tmod]
  have hdB:d<B:=by rw[← hd]; exact Nat.mod_lt _ zU
  clear hz hd hqb hs
  rw[z5] at hdB
  have w3:IntKind.u32.wrap (d:Int)=d:=IntWalk.u32_in _ (by omega)
  have w4:IntKind.i64.wrap ((i:Int)+1)=(i:Int)+1:=wrap64 (by omega) (by omega)
  have hil':(i:Int)<(a.length:Int):=by omega
  simp[eh,hil']
  refine za d1 (by simp[f1]) (by simp) ?_
  simp[w4]
  refine za d2 (by simp[f1]) (by simp) ?_
  simp[uS,rO,vI,w1,w2,q2,hmin,u1,hne,u2,u3,w3,w4,hst,j8 f1]
  omega
 ·have hlt:val a/2^k<B^(a.length-k/32):=by
   apply Nat.div_lt_of_lt_mul
   have h1:=vm ha
   have h2:B^a.length≤2^k*B^(a.length-k/32):=by
    rw[lI,lI,← Nat.pow_add]
    exact Nat.pow_le_pow_right (by omega) (by omega)
   exact Nat.lt_of_lt_of_le h1 h2
  have kt:=nc (m:=.plain) (a:=zu (a.length-k/32) (val a/2^k)) yt (by rw[zy]; omega)
  rw[yh hlt] at kt
  rw[stH]
  generalize val a/2^k=y at *
  have hge:¬ ((k/32+(a.length-k/32):Nat):Int)<(a.length:Int):=by omega
  generalize k/32+(a.length-k/32)=i at *
  generalize a.length-k/32=n at *
  have hge':¬ i<a.length:=by omega
  simp[eh,hge',YX,NU]
  refine za (cC kt XK) (by simp) (.inl rfl) ?_
  simp
end Go.Proofs.Ytfmcplfbnkoglaa
