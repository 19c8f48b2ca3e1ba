/- What the proof rests on, part 10: WQ WS WT WU WC WD WV PT PT2 PT3 PT4 VF X0 MR PB Q0 VE WW WX WY VG VH VI VJ VK VL VM RFx YS WZ VA VB VD VN Q1 Q2 Q3 Q4 Q5 Q6 Q7 PD QD PE QGp QA QB. -/
import Derived.Test.YtpnliopaifpimaaGreatP9
set_option maxRecDepth 100000
set_option maxHeartbeats 4000000
namespace Go.Wr
def p9 (l:List UInt8):List Nd × Rd:=zB zP (zr 65536 (0,l)).1 (zr 65536 (0,l)).2
def sV (l:List UInt8):Nat:=(endR' (p9 l).2)
where endR' (q:Rd):Nat:=if q.1=0∧q.2≠[] then 3 else q.1
def jD (l:List UInt8):List Nd:=if sV l=0 then (p9 l).1 else []
end Go.Wr
namespace Go.Proofs.YtpnliopaifpimaaGreat
open Go Go.Am Go.Wr Go.Dig
abbrev adl (N:Nd):List AV:=[iv N.K,iv N.O,iv N.U,iv N.I,.list 3 .plain (wW N.P)]
abbrev lf (T:List Nd):List (List AV):=T.map adl
theorem EW {q:Rd}:(pK q).1=sV.endR' q:=by
 unfold pK sV.endR'
 split<;>rfl
theorem agG:yv Tryz.prog qR=true:=by kernel_rfl
theorem adu:yv Tryz.prog uF=true:=by kernel_rfl
theorem agF:yv Tryz.prog tk=true:=by kernel_rfl
noncomputable def Mm (n:Nat) (q:Rd) (k:Nat) (b:ByteArray):St :=
 {env:=[(4,.ptr 1005 0),(5,iv n),(6,yq 5 28 (lf (zB zP k q).1)),(7,iv k)],sto:=[(1005,rdE b (zB zP k q).2.1)]}
theorem K3 {l:List UInt8} (hl:l.length≤1099511627776):ze Tryz.prog xD [sv l] (.tuple [.list 5 .plain (lf (jD l)),iv (sV l)]):=by
 refine wN Tb (by simp) ?_
 simp[fA,agG]
 refine zT (ak5 (ρ:=[]) (B:=1000) rfl sD ?_)
 simp[pc]
 have hm0:yG (0,l) (str l):=⟨fun _=>rfl,by rw[yE]; exact hl⟩
 refine zT (jT (b:=str l) (q:=(0,l)) (most:=65536) (by simp[lk]) hm0 (by decide) fun b1 hb1=>?_)
 unfold jD sV p9
 have hn:=(wP (most:=65536) (s:=((0,l):Rd))).1
 generalize zr 65536 (0,l)=r at *
 obtain ⟨n,q⟩:=r
 simp only at hb1 hn ⊢
 have wn:IntKind.i64.wrap (n:Int)=(n:Int):=by rw[wrap64]<;>omega
 simp[pt,wn]
 obtain ⟨L,g1,g2,g3,g4⟩:=aC (f:=zP) (s:=q) n
 rw[g4]
 refine gm (Mm n q) (fun k b'=>yG (zB zP k q).2 b') L b1 (St.imp_of (by simp[Mm,zB,nr])) hb1 (fun k b' hk hi=>?_) (fun b' hi=>?_)
 ·have hq:=g2 k hk
  have hse:zB zP (k+1) q=((zB zP k q).1++[(zP (zB zP k q).2).1],(zP (zB zP k q).2).2):=by rw[zB,if_neg (fun hne=>hne hq)]
  have hst:∀ b2,Mm n q (k+1) b2={env:=[(4,.ptr 1005 0),(5,iv n),(6,yq 5 28 (lf (zB zP k q).1++[adl (zP (zB zP k q).2).1])),(7,iv ((k:Int)+1))],sto:=[(1005,rdE b2 (zP (zB zP k q).2).2.1)]}:=fun b2=>by
   rw[Mm,hse]; simp
  have hI:yG (zB zP (k+1) q).2=yG (zP (zB zP k q).2).2:=by rw[hse]
  have hlen:=gR (f:=zP) (k:=k) (s:=q)
  have w1:=zl (k:=k) (by omega)
  rw[Mm]
  obtain ⟨Q,hQ⟩:∃ Q,zB zP k q=Q:=⟨_,rfl⟩
  rw[hQ] at hst hI hi hlen hq ⊢
  obtain ⟨A,q1⟩:=Q
  simp only at hst hI hi hlen hq ⊢
  have hk':(k:Int)<n:=by omega
  simp[ve,hk']
  refine zb (cV (b:=b') (e:=q1.1)) (by simp) (.inr rfl) ?_
  simp[hq,adu]
  refine zT (ajB (n:=1005) (B:=2000) (b:=b') (q:=q1) rfl ?_ ?_ JR (by omega) (by simp[lk,hq]) hi fun b2 hb2=>?_)
  ·exact xW.2 ⟨⟨by omega,rfl⟩,sD⟩
  ·simp[qP,nH,Ut,ZW,k7,gG]
  generalize zP q1=r at *
  obtain ⟨N,q2⟩:=r
  simp only at hst hI hb2 ⊢
  simp[-cellsOf,eQ,pt,xH,vF,w1,hst]
  exact ⟨by omega,by omega,b2,St.imp.refl,by rw[hI]; exact hb2⟩
 ·rw[Mm]
  have hlen:=gR (f:=zP) (k:=L) (s:=q)
  obtain ⟨Q,hQ⟩:∃ Q,zB zP L q=Q:=⟨_,rfl⟩
  rw[hQ] at g3 hi hlen ⊢
  obtain ⟨A,q1⟩:=Q
  simp only at g3 hi hlen ⊢
  have key:∀ KK:Exit→St→Prop,KK (.exit 0) {env:=[(4,.ptr 1005 0),(5,iv n),(6,yq 5 28 (lf A)),(7,iv L),(21,bv false)],sto:=[(1005,rdE b' q1.1)]}→awp Tryz.prog ve {env:=[(4,.ptr 1005 0),(5,iv n),(6,yq 5 28 (lf A)),(7,iv L)],sto:=[(1005,rdE b' q1.1)]} (uK KK):=by
   intro KK h
   by_cases hLv:L<n
   ·have hLv':(L:Int)<n:=by omega
    have hq:¬ q1.1=0:=g3.resolve_left (by omega)
    simp[ve,hLv']
    refine zb (cV (b:=b') (e:=q1.1)) (by simp) (.inr rfl) ?_
    simp[hq]
    exact h
   ·have hLv':¬ (L:Int)<n:=by omega
    simp[ve,hLv']
    exact h
  refine key _ ?_
  simp[kF,agF]
  refine zT (akY (b:=b') (q:=q1) (by simp[lk]) hi fun b3=>?_)
  rw[EW]
  generalize sV.endR' q1=e at *
  by_cases he:e=0
  ·simp[he,pt,nN]
   exact ZU (zW lP (zW AV.imp.refl ut))
  ·simp[he,pt,nN]
   exact ZU (zW (AV.imp_nil rfl) (zW AV.imp.refl ut))
end Go.Proofs.YtpnliopaifpimaaGreat

namespace Go.Wr
structure Nz where
 K:Int
 O:Int
 U:Int
 I:Int
 P:List Fr
def wG (x:Fr):Prop:=Go.Dig.ok x.2.1∧Go.Dig.ok x.2.2∧x.2.1.length<17179869184∧x.2.2.length<17179869184
def vFr (x:Fr):Bool:=Go.Proofs.YtpnliopaifpimaaGreat.vfr x.1 x.2.1 x.2.2
def rg (x:Int):Bool:=decide (0≤x)&&decide (x≤65536)
end Go.Wr
namespace Go.Proofs.YtpnliopaifpimaaGreat
open Go Go.Am Go.Wr Go.Dig
abbrev zc (N:Nz):List AV:=[iv N.K,iv N.O,iv N.U,iv N.I,.list 3 .plain (wW N.P)]
noncomputable def ofZ (N:Nz):AV:=if N.K=1 then .iface x8 (.agg (zc N)) else if N.K=2 then .iface xU (.agg (zc N)) else if N.K=3 then .iface xm (.agg (zc N)) else .iface tn (.agg [])
theorem J9 {N:Nz}:ze Tryz.prog se [.agg (zc N)] (ofZ N):=by
 refine zn Mv (by simp) ?_
 unfold ofZ
 by_cases h1:N.K=1
 ·simp[qu,h1,qH]
 ·by_cases h2:N.K=2
  ·simp[qu,h2,qH]
  ·by_cases h3:N.K=3
   ·simp[qu,h3,qH]
   ·simp[qu,h1,h2,h3,qH]
def plN (N:Nz):Bool:=decide (N.O=0)&&decide (N.U=0)&&decide (N.I=0)
theorem Dq {N:Nz}:ze Tryz.prog rX [.agg (zc N)] (bv (plN N)):=by
 refine zn Sf (by simp) ?_
 unfold plN
 by_cases h1:N.O=0<;>by_cases h2:N.U=0<;>simp[eE,h1,h2,eK]
theorem alj {N:Nz}:ze Tryz.prog yR [.agg (zc N)] (bv (plN N&&decide (N.P=[]))):=by
 refine zn na (by simp) ?_
 simp[uB]
 refine zb (Dq (N:=N)) (by simp) (by simp) ?_
 cases plN N<;>simp[uC]
theorem alm:ze Tryz.prog xi [.agg []] (bv false):=by
 refine zn mG (by simp) ?_
 simp[tP,tW]
noncomputable def pR (N:Nz) (k:Nat):St:={env:=[(1,.ptr 1 0),(14,.list 1 .full [[iv N.O],[iv N.U],[iv N.I]]),(15,iv 3),(16,iv k)],sto:=[(1,.var (zc N))]}
theorem pG {x:Int} (h:rg x=true):¬ x<0∧¬ 65536<x:=by
 unfold rg at h
 simp at h
 omega
theorem RO {x:Int} (h:¬ rg x=true):x<0∨(¬ x<0∧65536<x):=by
 unfold rg at h
 simp at h
 omega
theorem alk {N:Nz}:ze Tryz.prog y9 [.agg (zc N)] (bv (rg N.O&&rg N.U&&rg N.I&&decide (N.P=[]))):=by
 refine zn mv (by simp) ?_
 simp[tq,xH]
 have w0:=zl (k:=0) (by omega)
 have w1:=zl (k:=1) (by omega)
 have w2:=zl (k:=2) (by omega)
 simp at w0 w1 w2
 by_cases h0:rg N.O=true
 ·obtain ⟨a0,b0⟩:=pG h0
  by_cases h1:rg N.U=true
  ·obtain ⟨a1,b1⟩:=pG h1
   by_cases h2:rg N.I=true
   ·obtain ⟨a2,b2⟩:=pG h2
    refine yo (pR N) 3 (by simp[pR]) (fun k hk=>?_) ?_
    ·have:k=0∨k=1∨k=2:=by omega
     rcases this with rfl | rfl | rfl<;>simp[zJ,pR,a0,b0,a1,b1,a2,b2,w0,w1,w2]
    ·simp[zJ,v8,pR,h0,h1,h2,z4]
   ·refine yo (pR N) 2 (by simp[pR]) (fun k hk=>?_) ?_
    ·have:k=0∨k=1:=by omega
     rcases this with rfl | rfl<;>simp[zJ,pR,a0,b0,a1,b1,w0,w1]
    ·rcases RO h2 with h | ⟨h,h'⟩
     ·simp[zJ,pR,h,h0,h1,h2,z4]
     ·simp[zJ,pR,h,h',h0,h1,h2,z4]
  ·refine yo (pR N) 1 (by simp[pR]) (fun k hk=>?_) ?_
   ·have:k=0:=by omega
    subst this
    simp[zJ,pR,a0,b0,w0]
   ·rcases RO h1 with h | ⟨h,h'⟩
    ·simp[zJ,pR,h,h0,h1,z4]
    ·simp[zJ,pR,h,h',h0,h1,z4]
 ·refine yo (pR N) 0 (by simp[pR]) (fun k hk=>absurd hk (Nat.not_lt_zero k)) ?_
  rcases RO h0 with h | ⟨h,h'⟩
  ·simp[zJ,pR,h,h0,z4]
  ·simp[zJ,pR,h,h',h0,z4]
end Go.Proofs.YtpnliopaifpimaaGreat

namespace Go.Wr
theorem lD {α:Type} {p:α→Bool}:∀ {P:List α},∃ (L:Nat) (hL:L≤P.length),(∀ k (hk:k<L),p (P[k]'(by omega))=true)∧((L=P.length∧P.all p=true)∨(∃ h:L<P.length,p P[L]=false∧P.all p=false))
 | []=>⟨0,Nat.le_refl _,fun k hk=>absurd hk (Nat.not_lt_zero k),.inl ⟨rfl,rfl⟩⟩
 | x::P=>by
  by_cases hx:p x=true
  ·obtain ⟨L,h1,h2,h3⟩:=lD (p:=p) (P:=P)
   refine ⟨L+1,by simp; omega,fun k hk=>?_,?_⟩
   ·cases k with
    | zero=>simpa using hx
    | succ k=>simpa using h2 k (by omega)
   ·rcases h3 with ⟨h3,h4⟩ | ⟨h,h3,h4⟩
    ·exact .inl ⟨by simp[h3],by simp only[List.all_cons,hx,h4]; rfl⟩
    ·exact .inr ⟨by simp; omega,by simpa using h3,by simp only[List.all_cons,h4,Bool.and_false]⟩
  ·exact ⟨0,Nat.zero_le _,fun k hk=>absurd hk (Nat.not_lt_zero k),.inr ⟨by simp,by simpa using hx,by simp[hx]⟩⟩
end Go.Wr
namespace Go.Proofs.YtpnliopaifpimaaGreat
open Go Go.Am Go.Wr Go.Dig
noncomputable def GL (P:List Fr) (k:Nat):St:={env:=[(18,.list 3 .plain (wW P)),(19,iv P.length),(20,iv k)],sto:=[]}
theorem ali {N:Nz} (hP:∀ x∈N.P,wG x):ze Tryz.prog xh [.agg (zc N)] (bv (plN N&&decide (N.P.length≤40)&&N.P.all vFr)):=by
 refine zn mF (by simp) ?_
 simp[tO]
 refine zb (Dq (N:=N)) (by simp) (by simp) ?_
 cases hp:plN N
 ·simp[yH]
 by_cases hl:N.P.length≤40
 ·have hl':¬ (40:Int)<N.P.length:=by omega
  simp[hl',hl]
  obtain ⟨L,h1,h2,h3⟩:=lD (p:=vFr) (P:=N.P)
  generalize N.P=P at *
  refine yo (GL P) L (by simp[GL]) (fun k hk=>?_) ?_
  ·have hv:=h2 k hk
   have hkP:k<P.length:=by omega
   have hok:=hP _ (List.getElem_mem hkP)
   have w1:=zl (k:=k) (by omega)
   rw[GL]
   generalize hx:P[k]=x at hv hok
   have kl:=dj (s:=x.1) (m1:=.plain) (m2:=.plain) hok.1 hok.2.1 hok.2.2.1 hok.2.2.2 rfl rfl
   rw[show vfr x.1 x.2.1 x.2.2=true from hv] at kl
   simp[yT,hkP,hx]
   refine zb kl (by simp) (by simp) ?_
   simp[GL,w1]
  ·rw[GL]
   rcases h3 with ⟨h3,h4⟩ | ⟨hLP,h3,h4⟩
   ·subst h3
    simp[yT,uA,yH]
    simpa using h4
   ·have hok:=hP _ (List.getElem_mem hLP)
    generalize hx:P[L]=x at h3 hok
    have kl:=dj (s:=x.1) (m1:=.plain) (m2:=.plain) hok.1 hok.2.1 hok.2.2.1 hok.2.2.2 rfl rfl
    rw[show vfr x.1 x.2.1 x.2.2=false from h3] at kl
    rw[h4]
    simp[yT,hLP,hx]
    refine zb kl (by simp) (by simp) ?_
    simp[yH]
 ·have hl':(40:Int)<N.P.length:=by omega
  simp[hl',hl,yH]
def okZ (N:Nz):Bool:=if N.K=1 then plN N&&decide (N.P.length≤40)&&N.P.all vFr else if N.K=2 then rg N.O&&rg N.U&&rg N.I&&decide (N.P=[]) else if N.K=3 then plN N&&decide (N.P=[]) else false
theorem RM {x:Int}:ze Tryz.prog qh [iv x] (bv (rg x)):=by
 refine zn MB (by simp) ?_
 unfold rg
 by_cases h:0≤x<;>simp[ZK,h,Z2]
theorem Ph {N:Nz} (h:plN N=true):N.O=0∧N.U=0∧N.I=0:=by
 unfold plN at h
 simp at h
 exact ⟨h.1.1,h.1.2,h.2⟩
noncomputable def GN (N:Nz) (k:Nat):St:={env:=[(1,.ptr 1 0),(3,iv k)],sto:=[(1,.var (zc N))]}
theorem FH {N:Nz} {KK:Exit→St→Prop} (hP:∀ x∈N.P,wG x) (hl:N.P.length≤40) (h1:N.P.all vFr=true→KK (.exit 0) {env:=[(1,.ptr 1 0),(3,iv N.P.length),(69,bv false)],sto:=[(1,.var (zc N))]})
  (h2:N.P.all vFr=false→KK .ret {env:=[(2,bv false)],sto:=[]}):awp Tryz.prog (.loop tT) {env:=[(1,.ptr 1 0),(3,iv 0)],sto:=[(1,.var (zc N))]} KK:=by
 obtain ⟨K,O,U,I,P⟩:=N
 dsimp only at hP hl h1 h2 ⊢
 obtain ⟨L,g1,g2,g3⟩:=lD (p:=vFr) (P:=P)
 refine yo (GN ⟨K,O,U,I,P⟩) L (by simp[GN]) (fun k hk=>?_) ?_
 ·have hv:=g2 k hk
  have hkP:k<P.length:=by omega
  have hok:=hP _ (List.getElem_mem hkP)
  have w1:=zl (k:=k) (by omega)
  rw[GN]
  generalize hx:P[k]=x at hv hok
  have kl:=Xq (s:=x.1) (m1:=.plain) (m2:=.plain) hok.1 hok.2.1 hok.2.2.1 hok.2.2.2 rfl rfl
  rw[show vfr x.1 x.2.1 x.2.2=true from hv] at kl
  simp[tT,hkP,hx]
  refine zb kl (by simp) (by simp) ?_
  simp[GN,w1]
 ·rw[GN]
  rcases g3 with ⟨g3,g4⟩ | ⟨hLP,g3,g4⟩
  ·subst g3
   simp[tT]
   exact h1 g4
  ·have hok:=hP _ (List.getElem_mem hLP)
   generalize hx:P[L]=x at g3 hok
   have kl:=Xq (s:=x.1) (m1:=.plain) (m2:=.plain) hok.1 hok.2.1 hok.2.2.1 hok.2.2.2 rfl rfl
   rw[show vfr x.1 x.2.1 x.2.2=false from g3] at kl
   simp[tT,hLP,hx]
   refine zb kl (by simp) (by simp) ?_
   simp
   exact h2 g4
theorem Re {N:Nz} (hP:∀ x∈N.P,wG x):ze Tryz.prog n7 [.agg (zc N)] (bv (okZ N)):=by
 refine zn MA (by simp) ?_
 by_cases k1:N.K<1
 ·have:okZ N=false:=by unfold okZ; rw[if_neg (by omega),if_neg (by omega),if_neg (by omega)]
  simp[mb,k1,this,yb]
 by_cases k3:3<N.K
 ·have:okZ N=false:=by unfold okZ; rw[if_neg (by omega),if_neg (by omega),if_neg (by omega)]
  simp[mb,k1,k3,this,yb]
 simp[mb,k1,k3]
 refine zb (RM (x:=N.O)) (by simp) (by simp) ?_
 have hpl:plN N=true→rg N.O=true∧rg N.U=true∧rg N.I=true:=fun h=>by
  obtain ⟨h1,h2,h3⟩:=Ph h
  rw[h1,h2,h3]
  decide
 have bad:(rg N.O&&rg N.U&&rg N.I)=false→okZ N=false:=fun h=>by
  have hp:plN N=false:=by
   cases hp:plN N with
   | false=>rfl
   | true=>obtain ⟨a,b,c⟩:=hpl hp; rw[a,b,c] at h; cases h
  unfold okZ
  rw[hp,h]
  simp
 cases h1:rg N.O with
 | false=>simp[bad (by rw[h1]; rfl),yb]
 | true =>
 simp
 refine zb (RM (x:=N.U)) (by simp) (by simp) ?_
 cases h2:rg N.U with
 | false=>simp[bad (by rw[h1,h2]; rfl),yb]
 | true =>
 simp
 refine zb (RM (x:=N.I)) (by simp) (by simp) ?_
 cases h3:rg N.I with
 | false=>simp[bad (by rw[h1,h2,h3]; rfl),yb]
 | true =>
 by_cases hl:40<N.P.length
 ·have hl':(40:Int)<N.P.length:=by omega
  have hne:¬ N.P=[]:=fun e=>by rw[e] at hl; simp at hl
  have:okZ N=false:=by
   unfold okZ
   rw[decide_eq_false (show ¬ N.P.length≤40 by omega),decide_eq_false hne]
   simp
  simp[hl',this,yb]
 ·have hl':¬ (40:Int)<N.P.length:=by omega
  have hk:N.K=1∨N.K=2∨N.K=3:=by omega
  have loop:=FH (N:=N) (KK:=wj 0 (qM Tryz.prog tS (NQ yb (bv (okZ N))))) hP (by omega)
  rcases hk with hk | hk | hk
  ·by_cases q1:N.O=0
   ·by_cases q2:N.U=0
    ·by_cases q3:N.I=0
     ·have hz:okZ N=N.P.all vFr:=by unfold okZ plN; rw[if_pos hk]; simp[q1,q2,q3]; intro _; omega
      obtain ⟨K,O,U,I,P⟩:=N
      simp only at hk q1 q2 q3 hl'
      subst hk q1 q2 q3
      simp[hl']
      refine loop (fun h=>?_) (fun h=>?_)
      ·rw[hz,h]; simp[tS,yb]
      ·rw[hz,h]; simp[yb]
     ·have hz:okZ N=false:=by unfold okZ plN; rw[if_pos hk]; simp[q3]
      simp[hl',hk,q1,q2,q3,hz,yb]
    ·have hz:okZ N=false:=by unfold okZ plN; rw[if_pos hk]; simp[q2]
     simp[hl',hk,q1,q2,hz,yb]
   ·have hz:okZ N=false:=by unfold okZ plN; rw[if_pos hk]; simp[q1]
    simp[hl',hk,q1,hz,yb]
  ·have hz:okZ N=decide (N.P=[]):=by unfold okZ; rw[if_neg (by omega),if_pos hk,h1,h2,h3]; rfl
   by_cases hp:N.P=[]
   ·obtain ⟨K,O,U,I,P⟩:=N
    simp only at hk hp hl' h1 h2 h3
    subst hk hp
    simp
    refine loop (fun h=>?_) (fun h=>?_)
    ·rw[hz]; simp[tS,yb]
    ·simp at h
   ·have hp':(0:Int)<N.P.length:=by have:=List.length_pos_iff.2 hp; omega
    have hp2:=List.length_pos_iff.2 hp
    rw[hz,decide_eq_false hp]
    simp[hl',hk,hp2,yb]
  ·have hz:okZ N=(plN N&&decide (N.P=[])):=by unfold okZ; rw[if_neg (by omega),if_neg (by omega),if_pos hk]
   by_cases q1:N.O=0
   ·by_cases q2:N.U=0
    ·by_cases q3:N.I=0
     ·by_cases hp:N.P=[]
      ·obtain ⟨K,O,U,I,P⟩:=N
       simp only at hk hp hl' q1 q2 q3
       subst hk hp q1 q2 q3
       simp
       refine loop (fun h=>?_) (fun h=>?_)
       ·rw[hz]; simp[tS,yb,plN]
       ·simp at h
      ·have hp':(0:Int)<N.P.length:=by have:=List.length_pos_iff.2 hp; omega
       have hp2:=List.length_pos_iff.2 hp
       rw[hz,decide_eq_false hp]
       simp[hl',hk,q1,q2,q3,hp2,yb]
     ·have hz:okZ N=false:=by rw[hz]; unfold plN; simp[q3]
      simp[hl',hk,q1,q2,q3,hz,yb]
    ·have hz:okZ N=false:=by rw[hz]; unfold plN; simp[q2]
     simp[hl',hk,q1,q2,hz,yb]
   ·have hz:okZ N=false:=by rw[hz]; unfold plN; simp[q1]
    simp[hl',hk,q1,hz,yb]
theorem s6 {P:Program} {t:TypeId} {ox oy:Operand} {a b:List UInt8} {K:AV→Option zg→Prop} (h:a.length+b.length≤9223372036854775807):yj P .add t ox oy [sv a,sv b] K=K (sv (a++b)) none:=by
 rw[Aa (by simp only[yE]; omega),ahn]
theorem rm (x:Nat):x<18446744073709551616→ze Tryz.prog xJ [zS x] (sv (enc x)):=by
 induction x using Nat.strongRecOn with
 | _ x ih =>
  intro h
  have e1:=w8 (n:=x)
  by_cases hx:x<128
  ·have hy:x%256=x:=by omega
   have hg:(x:Int)<128:=by omega
   have hr:[[ub x]]=pV [UInt8.ofNat x]:=by simp[hy]
   rw[ZP hx]
   refine zn Tf (by simp) ?_
   simp[dY,hg,e1,hy,xH]
   rw[hr,Kb]
   simp[cQ]
  ·have hg:¬ (x:Int)<128:=by omega
   obtain ⟨c,hc⟩:∃ c,x%128+128=c:=⟨_,rfl⟩
   obtain ⟨q,hq⟩:∃ q,x/128=q:=⟨_,rfl⟩
   obtain ⟨r,hr0⟩:∃ r,x%128=r:=⟨_,rfl⟩
   have t1:(x:Int).tmod 128=(r:Int):=by rw[Int.tmod_eq_emod_of_nonneg (by omega)]; omega
   have t2:(x:Int).tdiv 128=(q:Int):=by rw[Int.tdiv_eq_ediv_of_nonneg (by omega)]; omega
   have e3:IntKind.u64.wrap (r:Int)=(r:Int):=w64 (by omega)
   have e4:IntKind.u64.wrap (q:Int)=(q:Int):=w64 (by omega)
   have e5:=w8 (n:=c)
   have e6:IntKind.u64.wrap ((r:Int)+128)=(c:Int):=by rw[va]<;>omega
   have hy:c%256=c:=by omega
   have hr:[[ub c]]=pV [UInt8.ofNat c]:=by simp[hy]
   have k:=ih q (by omega) (by omega)
   have hl:=ur (x:=q) (by omega)
   rw[QP hx,hc,hq]
   refine zn Tf (by simp) ?_
   simp[dY,hg,tJ,t1,e6,e5,hy,xH]
   rw[hr,Kb]
   simp[sy,t2,e4]
   refine zb k (by simp) (by simp) ?_
   simp
   rw[s6 (by simp; omega)]
   simp[cQ]
end Go.Proofs.YtpnliopaifpimaaGreat

namespace Go.Wr
def mB (a:List Nat):List UInt8:=enc a.length++a.flatMap enc
def mC (s:Bool) (a c:List Nat):List UInt8:=enc (if s=true then 1 else 0)++mB a++mB c
end Go.Wr
namespace Go.Proofs.YtpnliopaifpimaaGreat
open Go Go.Am Go.Wr Go.Dig
theorem Ra:∀ {a:List Nat},(∀ d∈a,d<18446744073709551616)→(a.flatMap enc).length≤10*a.length
 | [],_=>by simp
 | d::a,h=>by
  have h1:=ur (h d (by simp))
  have h2:=Ra (a:=a) fun d hd=>h d (by simp[hd])
  simp only[List.flatMap_cons,List.length_append,List.length_cons]
  omega
theorem aiU {a:List Nat} (ha:ok a):∀ d∈a,d<18446744073709551616:=fun d hd=>by
 have:=ha d hd
 rw[yc] at this
 omega
theorem gx {a:List Nat} (ha:ok a) (hn:a.length<18446744073709551616):(mB a).length≤10*a.length+10:=by
 have h1:=ur hn
 have h2:=Ra (aiU ha)
 unfold mB
 rw[List.length_append]
 omega
theorem LA {a:List Nat} {k:Nat} (h:k<a.length):(a.take (k+1)).flatMap enc=(a.take k).flatMap enc++enc a[k]:=by
 rw[List.take_succ_eq_append_getElem h,List.flatMap_append]
 simp
theorem take_len {a:List Nat} {k:Nat} (ha:ok a) (h:k≤a.length):((a.take k).flatMap enc).length≤10*k:=by
 have:=Ra (a:=a.take k) fun d hd=>aiU ha d (List.mem_of_mem_take hd)
 rw[List.length_take,Nat.min_eq_left h] at this
 exact this
def Ml (m:Am.Mode) (a:List Nat) (k:Nat):St:={env:=[(3,sv (enc a.length++(a.take k).flatMap enc)),(10,nl m a),(11,iv a.length),(12,iv k)],sto:=[]}
theorem Yz {m:Am.Mode} {a:List Nat} (ha:ok a) (hn:a.length<1099511627776):ze Tryz.prog m6 [nl m a] (sv (mB a)):=by
 have w0:IntKind.u64.wrap (a.length:Int)=(a.length:Int):=w64 (by omega)
 have hl:=ur (x:=a.length) (by omega)
 refine zn L1 (by simp) ?_
 simp[XF,w0]
 refine zb (nU (x:=a.length) (by omega)) (by simp) (by simp) ?_
 simp
 refine yo (Ml m a) a.length (by simp[Ml]) (fun k hk=>?_) ?_
 ·have hst:Ml m a (k+1)={env:=[(3,sv (enc a.length++((a.take k).flatMap enc++enc a[k]))),(10,nl m a),(11,iv a.length),(12,iv ((k:Int)+1))],sto:=[]}:=by
   rw[Ml,LA hk]; rfl
  have hx:=xK ha hk
  rw[yc] at hx
  have ht:=take_len ha (Nat.le_of_lt hk)
  have w1:=zl (k:=k) (by omega)
  have w2:IntKind.u64.wrap (a[k]:Int)=(a[k]:Int):=w64 (by omega)
  have hlx:=ur (x:=a[k]) (by omega)
  have e:=nU (x:=a[k]) (by omega)
  rw[Ml]
  generalize (a.take k).flatMap enc=L at *
  generalize ex:a[k]=x at *
  simp[lK,hk,ex,w2]
  refine zb e (by simp) (by simp) ?_
  simp
  rw[s6 (by simp; omega)]
  simp[w1,hst]
 ·rw[Ml]
  simp[lK,cm,XK,mB]
theorem aiB {s:Bool} {m1 m2:Am.Mode} {a c:List Nat} (ha:ok a) (hc:ok c) (hna:a.length<1099511627776) (hnc:c.length<1099511627776) (f1:stm m1=m1) (f2:stm m2=m2) :
  ze Tryz.prog jp [.agg [bv s,nl m1 a,nl m2 c]] (sv (mC s a c)):=by
 have l1:=gx ha (by omega)
 have l2:=gx hc (by omega)
 refine zn PO (by simp) ?_
 simp[bT]
 refine zb (nU (x:=0) (by omega)) (by simp) (by simp) ?_
 cases s with
 | true =>
  simp
  refine zb (nU (x:=1) (by omega)) (by simp) (by simp) ?_
  have l3:=ur (x:=1) (by omega)
  simp
  refine zb (Yz (m:=m1) ha hna) (by simp[f1]) (by simp) ?_
  simp
  rw[s6 (by omega)]
  simp
  refine zb (Yz (m:=m2) hc hnc) (by simp[f2]) (by simp) ?_
  simp
  rw[s6 (by simp; omega)]
  simp[jR,mC]
 | false =>
  have l3:=ur (x:=0) (by omega)
  simp
  refine zb (Yz (m:=m1) ha hna) (by simp[f1]) (by simp) ?_
  simp
  rw[s6 (by omega)]
  simp
  refine zb (Yz (m:=m2) hc hnc) (by simp[f2]) (by simp) ?_
  simp
  rw[s6 (by simp; omega)]
  simp[jR,mC]
def N7 (m:Am.Mode) (a:List Nat) (k:Nat):St:={env:=[(0,nl m a),(3,sv (enc a.length++(a.take k).flatMap enc)),(4,iv k)],sto:=[]}
theorem az {m:Am.Mode} {a:List Nat} (ha:ok a) (hn:a.length<1099511627776):ze Tryz.prog n5 [nl m a] (sv (mB a)):=by
 have w0:IntKind.u64.wrap (a.length:Int)=(a.length:Int):=w64 (by omega)
 have hl:=ur (x:=a.length) (by omega)
 refine zn Mx (by simp) ?_
 simp[ZG,w0]
 refine zb (rm a.length (by omega)) (by simp) (by simp) ?_
 simp
 refine yo (N7 m a) a.length (by simp[N7]) (fun k hk=>?_) ?_
 ·have hst:N7 m a (k+1)={env:=[(0,nl m a),(3,sv (enc a.length++((a.take k).flatMap enc++enc a[k]))),(4,iv ((k:Int)+1))],sto:=[]}:=by
   rw[N7,LA hk]; rfl
  have hx:=xK ha hk
  rw[yc] at hx
  have ht:=take_len ha (Nat.le_of_lt hk)
  have w1:=zl (k:=k) (by omega)
  have w2:IntKind.u64.wrap (a[k]:Int)=(a[k]:Int):=w64 (by omega)
  have hlx:=ur (x:=a[k]) (by omega)
  have e:=rm a[k] (by omega)
  rw[N7]
  generalize (a.take k).flatMap enc=L at *
  generalize ex:a[k]=x at *
  simp[mA,hk,ex,w2]
  refine zb e (by simp) (by simp) ?_
  simp
  rw[s6 (by simp; omega)]
  simp[w1,hst]
 ·rw[N7]
  simp[mA,eG,Z1,mB]
theorem ag1 {s:Bool} {m1 m2:Am.Mode} {a c:List Nat} (ha:ok a) (hc:ok c) (hna:a.length<1099511627776) (hnc:c.length<1099511627776) (f1:stm m1=m1) (f2:stm m2=m2) :
  ze Tryz.prog lA [.agg [bv s,nl m1 a,nl m2 c]] (sv (mC s a c)):=by
 have l1:=gx ha (by omega)
 have l2:=gx hc (by omega)
 have l3:=ur (x:=if s=true then 1 else 0) (by split<;>omega)
 have u:=rm (if s=true then 1 else 0) (by split<;>omega)
 refine zn R3 (by simp) ?_
 cases s with
 | true =>
  simp at u l3
  simp[lF]
  refine zb u (by simp) (by simp) ?_
  simp
  refine zb (az (m:=m1) ha hna) (by simp[f1]) (by simp) ?_
  simp
  rw[s6 (by omega)]
  simp
  refine zb (az (m:=m2) hc hnc) (by simp[f2]) (by simp) ?_
  simp
  rw[s6 (by simp; omega)]
  simp[lU,mC]
 | false =>
  simp at u l3
  simp[lF]
  refine zb u (by simp) (by simp) ?_
  simp
  refine zb (az (m:=m1) ha hna) (by simp[f1]) (by simp) ?_
  simp
  rw[s6 (by omega)]
  simp
  refine zb (az (m:=m2) hc hnc) (by simp[f2]) (by simp) ?_
  simp
  rw[s6 (by simp; omega)]
  simp[lU,mC]
end Go.Proofs.YtpnliopaifpimaaGreat

set_option maxRecDepth 20000
namespace Go.Wr
def encZ (N:Nz):List UInt8:=if N.K=1 then enc N.P.length++N.P.flatMap (fun x=>mC x.1 x.2.1 x.2.2) else if N.K=2 then enc N.O.toNat++enc N.U.toNat++enc N.I.toNat else []
end Go.Wr
namespace Go.Proofs.YtpnliopaifpimaaGreat
open Go Go.Am Go.Wr Go.Dig
theorem aks : uN Tryz.prog x8 "saleroom/prooftree.wellFormed" = some xh := by kernel_rfl
theorem aku : uN Tryz.prog xU "saleroom/prooftree.wellFormed" = some y9 := by kernel_rfl
theorem akt : uN Tryz.prog xm "saleroom/prooftree.wellFormed" = some yR := by kernel_rfl
theorem akv : uN Tryz.prog tn "saleroom/prooftree.wellFormed" = some xi := by kernel_rfl
theorem akN:yv Tryz.prog xh=true:=by kernel_rfl
theorem akP:yv Tryz.prog y9=true:=by kernel_rfl
theorem akO:yv Tryz.prog yR=true:=by kernel_rfl
theorem akQ:yv Tryz.prog xi=true:=by kernel_rfl
def tY (name:String) (x:AV) (ys:List AV) (σ:Nat→Option zg) (K:AV→Option zg→Prop):Prop :=
 match x with | .iface t r=>(match uN Tryz.prog t name with | some f=>yv Tryz.prog f=true∧wK Tryz.prog f σ (r::ys) K | none=>False) | _=>False
theorem nK {xs:List Opd} {x:Opd} {d:Option Nat} {n:String} {os:List zi} {s:St} {KS:St→Prop} :
  zm Tryz.prog (⟨d,.callm n,x::xs,none⟩::os) s KS=tY n (ev s x) (xs.map (ev s)) (lk s.sto) (xZ Tryz.prog os s d KS):=by
 rw[te]; rfl
theorem mo {σ:Nat→Option zg} {N:Nz}:yY (vM σ) [.agg (zc N)]=some [.agg (zc N)]:=by simp
theorem ae4 {N : Nz} {σ : Nat → Option zg} {K : AV → Option zg → Prop} (hP : ∀ x ∈ N.P, wG x) (h : K (bv (okZ N)) none) : tY "saleroom/prooftree.wellFormed" (ofZ N) [] σ K := by
 unfold ofZ
 unfold okZ at h
 split at h
 ·rename_i hk
  simp only[hk,if_true]
  simp only[tY,aks,akN]
  exact ⟨trivial,zb (ali hP) mo (.inl rfl) h⟩
 ·rename_i hk
  simp only[hk,if_false]
  split at h
  ·rename_i hk
   simp only[hk,if_true]
   simp only[tY,aku,akP]
   exact ⟨trivial,zb alk mo (.inl rfl) h⟩
  ·rename_i hk
   simp only[hk,if_false]
   split at h
   ·rename_i hk
    simp only[hk,if_true]
    simp only[tY,akt,akO]
    exact ⟨trivial,zb alj mo (.inl rfl) h⟩
   ·rename_i hk
    simp only[hk,if_false]
    simp only[tY,akv,akQ]
    exact ⟨trivial,zb alm (by simp) (.inl rfl) h⟩
theorem ais {N:Nz}:ze Tryz.prog xw [.agg (zc N)] (sv []):=by
 refine zn mW (by simp) ?_
 simp[t7,sb,str]
theorem ait {N:Nz} (h1:rg N.O=true) (h2:rg N.U=true) (h3:rg N.I=true):ze Tryz.prog xN [.agg (zc N)] (sv (enc N.O.toNat++enc N.U.toNat++enc N.I.toNat)):=by
 obtain ⟨K,O,U,I,P⟩:=N
 simp only at h1 h2 h3 ⊢
 have c:∀ {x:Int},rg x=true→∃ n:Nat,x=n∧n≤65536:=fun {x} h=>by
  have:=pG h
  exact ⟨x.toNat,by omega,by omega⟩
 obtain ⟨o,rfl,ho⟩:=c h1
 obtain ⟨u,rfl,hu⟩:=c h2
 obtain ⟨i,rfl,hi⟩:=c h3
 have w:∀ {n:Nat},n≤65536→IntKind.u64.wrap (n:Int)=n:=fun h=>w64 (by omega)
 have l1:=ur (x:=o) (by omega)
 have l2:=ur (x:=u) (by omega)
 have l3:=ur (x:=i) (by omega)
 refine zn jf (by simp) ?_
 simp[sM,w ho]
 refine zb (nU (x:=o) (by omega)) (by simp) (by simp) ?_
 simp[w hu]
 refine zb (nU (x:=u) (by omega)) (by simp) (by simp) ?_
 simp
 rw[s6 (by omega)]
 simp[w hi]
 refine zb (nU (x:=i) (by omega)) (by simp) (by simp) ?_
 simp
 rw[s6 (by simp; omega)]
 simp[sO]
end Go.Proofs.YtpnliopaifpimaaGreat

namespace Go.Tr
structure Nt where
 m:Nat
 K:Nat→Int
 O:Nat→Int
 U:Nat→Int
 I:Nat→Int
 n:Nat→Nat
 v:Nat→Prop
def rng (x:Int):Prop:=0≤x∧x≤65536
instance (x:Int):Decidable (rng x):=by unfold rng; exact inferInstance
section
variable (T:Nt)
def okN (i:Nat):Prop :=
 (T.K i=1∧T.O i=0∧T.U i=0∧T.I i=0∧T.n i≤40∧T.v i)∨(T.K i=2∧rng (T.O i)∧rng (T.U i)∧rng (T.I i)∧T.n i=0)∨(T.K i=3∧T.O i=0∧T.U i=0∧T.I i=0∧T.n i=0)
def kid (k i:Nat):Nat:=if T.K k=2 then (if T.U k=i then 1 else 0)+(if T.I k=i then 1 else 0) else 0
def cnt:Nat→Nat→Nat
 | 0,_=>0
 | k+1,i=>cnt k i+kid T k i
def par:Nat→Nat→Int
 | 0,_=>-1
 | k+1,i=>if kid T k i=0 then par k i else k
def aW (i:Nat):Prop:=T.K i=2→(i:Int)<T.U i∧T.U i<T.m∧(i:Int)<T.I i∧T.I i<T.m∧T.U i≠T.I i
structure yK:Prop where
 one:1≤T.m
 most:T.m≤65536
 ok:∀ i,i<T.m→okN T i
 br:∀ i,i<T.m→aW T i
 par1:∀ i,1≤i→i<T.m→cnt T T.m i=1
end
section
variable {T:Nt} {i j k l:Nat}
theorem TK (h:kid T k i≠0):T.K k=2∧(T.U k=i∨T.I k=i):=by
 unfold kid at h
 split at h
 ·rename_i h1
  refine ⟨h1,?_⟩
  by_cases h2:T.U k=i
  ·exact .inl h2
  ·by_cases h3:T.I k=i
   ·exact .inr h3
   ·rw[if_neg h2,if_neg h3] at h; exact absurd rfl h
 ·exact absurd rfl h
theorem Ki (h:T.K k=2) (hu:T.U k=i):1≤kid T k i:=by unfold kid; rw[if_pos h,if_pos hu]; omega
theorem Kh (h:T.K k=2) (hu:T.I k=i):1≤kid T k i:=by unfold kid; rw[if_pos h,if_pos hu]; omega
theorem cnt_mono:∀ {d:Nat},cnt T k i≤cnt T (k+d) i
 | 0=>Nat.le_refl _
 | d+1=>by
  have:=@cnt_mono d
  show _≤cnt T (k+d) i+_
  omega
theorem aie (h:k≤l):cnt T k i≤cnt T l i:=by
 obtain ⟨d,rfl⟩:∃ d,l=k+d:=⟨l-k,by omega⟩
 exact cnt_mono
theorem Ud (h:k<l):cnt T k i+kid T k i≤cnt T l i:=aie (T:=T) (i:=i) (k:=k+1) h
theorem cD (h:yK T) (hk:k<T.m) (h0:kid T k i≠0):k<i∧i<T.m:=by
 obtain ⟨h1,h2⟩:=TK h0
 obtain ⟨a,b,c,d,_⟩:=h.br k hk h1
 rcases h2 with e | e<;>omega
theorem Gh:∀ k,cnt T k i=0→par T k i=-1
 | 0,_=>rfl
 | k+1,h=>by
  have h1:cnt T k i+kid T k i=0:=h
  simp only[par]
  rw[if_pos (by omega),Gh k (by omega)]
theorem Rz:∀ k,cnt T k i≠0→∃ j:Nat,par T k i=j∧j<k∧kid T j i≠0
 | 0,h=>absurd rfl h
 | k+1,h=>by
  have h1:cnt T k i+kid T k i≠0:=h
  simp only[par]
  by_cases h0:kid T k i=0
  ·rw[if_pos h0]
   obtain ⟨j,h2,h3,h4⟩:=Rz k (by omega)
   exact ⟨j,h2,by omega,h4⟩
  ·rw[if_neg h0]
   exact ⟨k,rfl,by omega,h0⟩
theorem xv (h:yK T) (h1:1≤i) (hi:i<T.m):∃ j:Nat,par T T.m i=j∧j<i∧kid T j i=1∧∀ k,k<T.m→k≠j→kid T k i=0:=by
 have hc:=h.par1 i h1 hi
 obtain ⟨j,h2,h3,h4⟩:=Rz (T:=T) (i:=i) T.m (by omega)
 have hle:∀ a b,a<b→b<T.m→kid T a i+kid T b i≤1:=fun a b hab hb=>by
  have q1:=Ud (T:=T) (i:=i) hab
  have q2:=Ud (T:=T) (i:=i) hb
  omega
 have hs:kid T j i≤1:=by have:=Ud (T:=T) (i:=i) h3; omega
 refine ⟨j,h2,(cD h h3 h4).1,by omega,fun k hk hne=>?_⟩
 by_cases hlt:k<j
 ·have:=hle k j hlt h3; omega
 ·have:=hle j k (by omega) hk; omega
theorem abI (h:yK T) (hj:j<T.m) (hk:kid T j i=1):T.K j=2∧((T.U j=i∧T.I j≠i)∨(T.I j=i∧T.U j≠i)):=by
 obtain ⟨h1,h2⟩:=TK (T:=T) (k:=j) (i:=i) (by omega)
 refine ⟨h1,?_⟩
 have hne:=(h.br j hj h1).2.2.2.2
 rcases h2 with e | e
 ·exact .inl ⟨e,fun e2=>hne (by omega)⟩
 ·exact .inr ⟨e,fun e2=>hne (by omega)⟩
def Uf (T:Nt):Nat→Nat→Nat
 | 0,_=>1
 | f+1,i=>if i=0 then 1 else Uf T f (par T T.m i).toNat+1
def dep (T:Nt) (i:Nat):Nat:=Uf T i i
theorem B1 (h:yK T):∀ f i,i<T.m→i≤f→Uf T f i=Uf T i i:=by
 intro f
 induction f using Nat.strongRecOn with
 | ind f ih =>
  intro i hi hif
  cases f with
  | zero =>
   have:i=0:=by omega
   subst this; rfl
  | succ f =>
   by_cases h0:i=0
   ·subst h0; simp[Uf]
   ·obtain ⟨j,h1,h2,_,_⟩:=xv h (by omega) hi
    obtain ⟨e,rfl⟩:∃ e,i=e+1:=⟨i-1,by omega⟩
    simp only[Uf,if_neg h0,h1,Int.toNat_natCast]
    rw[ih f (by omega) j (by omega) (by omega)]
    by_cases hfe:e=f
    ·subst hfe
     rw[ih e (by omega) j (by omega) (by omega)]
    ·rw[ih e (by omega) j (by omega) (by omega)]
theorem S7:dep T 0=1:=rfl
theorem TA (h:yK T) (h1:1≤i) (hi:i<T.m):dep T i=dep T (par T T.m i).toNat+1:=by
 obtain ⟨j,h2,h3,_,_⟩:=xv h h1 hi
 unfold dep
 rw[h2,Int.toNat_natCast,← B1 h (i-1) j (by omega) (by omega)]
 obtain ⟨e,rfl⟩:∃ e,i=e+1:=⟨i-1,by omega⟩
 simp only[Uf]
 rw[if_neg (by omega),h2,Int.toNat_natCast,Nat.add_sub_cancel]
end
def put (g:Nat→Int) (n:Nat) (o s:Int):Nat→Int:=fun x=>if o<n∧(x:Int)=o then s else g x
def fxS (T:Nt) (n:Nat):Nat→Nat→(Nat→Int)→Nat→Int
 | 0,_,g=>g
 | f+1,i,g=>if i=0 then g else fxS T n f (par T T.m i).toNat (put g n (T.O (par T T.m i).toNat) (if T.U (par T T.m i).toNat=i then -1 else 1))
def fx (T:Nt) (n i:Nat):Nat→Int:=fxS T n i i fun _=>0
section
variable {T:Nt} {n i j f:Nat} {g:Nat→Int}
theorem Jz (h:yK T):∀ f i g,i<T.m→i≤f→fxS T n f i g=fxS T n i i g:=by
 intro f
 induction f using Nat.strongRecOn with
 | ind f ih =>
  intro i g hi hif
  cases f with
  | zero =>
   have:i=0:=by omega
   subst this; rfl
  | succ f =>
   by_cases h0:i=0
   ·subst h0; simp[fxS]
   ·obtain ⟨j,h1,h2,_,_⟩:=xv h (by omega) hi
    obtain ⟨e,rfl⟩:∃ e,i=e+1:=⟨i-1,by omega⟩
    simp only[fxS,if_neg h0,h1,Int.toNat_natCast]
    rw[ih f (by omega) j _ (by omega) (by omega)]
    by_cases hfe:e=f
    ·subst hfe
     rw[ih e (by omega) j _ (by omega) (by omega)]
    ·rw[ih e (by omega) j _ (by omega) (by omega)]
theorem E1 (x:Nat):∀ f i,(∀ g,fxS T n f i g x=g x)∨∃ s:Int,(s=1∨s=-1)∧∀ g,fxS T n f i g x=s
 | 0,_=>.inl fun _=>rfl
 | f+1,i=>by
  by_cases h0:i=0
  ·exact .inl fun g=>by simp only[fxS,if_pos h0]
  ·simp only[fxS,if_neg h0]
   rcases E1 x f (par T T.m i).toNat with h | ⟨s,hs,h⟩
   ·by_cases h1:T.O (par T T.m i).toNat<n∧(x:Int)=T.O (par T T.m i).toNat
    ·refine .inr ⟨if T.U (par T T.m i).toNat=i then -1 else 1,?_,fun g=>?_⟩
     ·split
      ·exact .inr rfl
      ·exact .inl rfl
     ·rw[h]
      unfold put
      rw[if_pos h1]
    ·refine .inl fun g=>?_
     rw[h]
     unfold put
     rw[if_neg h1]
   ·exact .inr ⟨s,hs,fun g=>h _⟩
theorem JA (h:yK T) (h1:1≤i) (hi:i<T.m) (hp:par T T.m i=j) (hz:∀ o:Nat,T.O j=o→fx T n j o=0) (x:Nat) :
  fx T n i x=if T.O j<n∧(x:Int)=T.O j then (if T.U j=i then -1 else 1) else fx T n j x:=by
 obtain ⟨j',h2,h3,_,_⟩:=xv h h1 hi
 have hj:j'=j:=by omega
 subst hj
 have e1:fx T n i x=fxS T n j' j' (put (fun _=>0) n (T.O j') (if T.U j'=i then -1 else 1)) x:=by
  unfold fx
  obtain ⟨e,rfl⟩:∃ e,i=e+1:=⟨i-1,by omega⟩
  simp only[fxS]
  rw[if_neg (by omega),h2,Int.toNat_natCast,Jz h e j' _ (by omega) (by omega)]
 rw[e1]
 rcases E1 (T:=T) (n:=n) x j' j' with hs | ⟨s,hs,hg⟩
 ·rw[hs]
  unfold put fx
  rw[hs]
 ·rw[hg]
  have hne:¬ (T.O j'<n∧(x:Int)=T.O j'):=fun hc=>by
   have:=hz x hc.2.symm
   unfold fx at this
   rw[hg] at this
   omega
  rw[if_neg hne]
  unfold fx
  rw[hg]
theorem amO:fx T n 0=fun _=>0:=rfl
theorem way (h:yK T) (S:Nat→Prop) (hb:∀ i,i<T.m→T.K i=2→0≤T.O i∧T.O i<n∧fx T n i (T.O i).toNat=0):∀ d i,i<T.m→T.m-i≤d→(∀ x,fx T n i x=1→S x)→(∀ x,fx T n i x=-1→¬ S x) →
  ∃ k,k<T.m∧T.K k≠2∧(∀ x,fx T n k x=1→S x)∧∀ x,fx T n k x=-1→¬ S x:=by
 intro d
 induction d with
 | zero=>intro i hi hd; omega
 | succ d ih =>
  intro i hi hd h1 h2
  by_cases hk:T.K i=2
  ·obtain ⟨b1,b2,b3,b4,b5⟩:=h.br i hi hk
   obtain ⟨o0,o1,o2⟩:=hb i hi hk
   obtain ⟨o,ho⟩:∃ o:Nat,T.O i=o:=⟨(T.O i).toNat,by omega⟩
   rw[ho,Int.toNat_natCast] at o2
   have hz:∀ q:Nat,T.O i=q→fx T n i q=0:=fun q hq=>by
    have:q=o:=by omega
    subst this; exact o2
   have hpar:∀ c:Nat,c<T.m→(T.U i=c∨T.I i=c)→i<c∧par T T.m c=i:=fun c hc hs=>by
    have hkid:kid T i c≠0:=by
     rcases hs with e | e
     ·have:=Ki hk e; omega
     ·have:=Kh hk e; omega
    have hlt:=(cD h hi hkid).1
    obtain ⟨j,q1,q2,q3,q4⟩:=xv h (by omega) hc
    by_cases e:i=j
    ·subst e; exact ⟨hlt,q1⟩
    ·exact absurd (q4 i hi e) hkid
   by_cases hS:S o
   ·obtain ⟨c,hc⟩:∃ c:Nat,T.I i=c:=⟨(T.I i).toNat,by omega⟩
    obtain ⟨p1,p2⟩:=hpar c (by omega) (.inr hc)
    have hu:¬ T.U i=c:=fun e=>b5 (by omega)
    have hch:=fun x=>JA (n:=n) h (i:=c) (by omega) (by omega) p2 hz x
    refine ih c (by omega) (by omega) (fun x hx=>?_) (fun x hx=>?_)
    ·rw[hch x] at hx
     split at hx
     ·rename_i e
      have:x=o:=by omega
      subst this; exact hS
     ·exact h1 x hx
    ·rw[hch x,if_neg hu] at hx
     split at hx
     ·omega
     ·exact h2 x hx
   ·obtain ⟨c,hc⟩:∃ c:Nat,T.U i=c:=⟨(T.U i).toNat,by omega⟩
    obtain ⟨p1,p2⟩:=hpar c (by omega) (.inl hc)
    have hch:=fun x=>JA (n:=n) h (i:=c) (by omega) (by omega) p2 hz x
    refine ih c (by omega) (by omega) (fun x hx=>?_) (fun x hx=>?_)
    ·rw[hch x,if_pos hc] at hx
     split at hx
     ·omega
     ·exact h1 x hx
    ·rw[hch x] at hx
     split at hx
     ·rename_i e
      have:x=o:=by omega
      subst this; exact hS
     ·exact h2 x hx
  ·exact ⟨i,hi,hk,h1,h2⟩
end
section
variable {T:Nt} {i j k l u v:Nat}
theorem af (h:T.K i≠2) (k:Nat):kid T i k=0:=by unfold kid; rw[if_neg h]
theorem AJ (h:T.K i=2) (hu:T.U i=u) (hv:T.I i=v) (k:Nat):kid T i k=(if u=k then 1 else 0)+(if v=k then 1 else 0):=by
 unfold kid
 rw[if_pos h,hu,hv]
 congr 1
 ·by_cases e:u=k
  ·rw[if_pos e,if_pos (by omega)]
  ·rw[if_neg e,if_neg (by omega)]
 ·by_cases e:v=k
  ·rw[if_pos e,if_pos (by omega)]
  ·rw[if_neg e,if_neg (by omega)]
theorem T7 (h:yK T) (hi:i<T.m) (hk:T.K i=2):∃ u v:Nat,T.U i=u∧T.I i=v∧i<u∧u<T.m∧i<v∧v<T.m∧u≠v∧cnt T i u=0∧cnt T i v=0:=by
 obtain ⟨a,b,c,d,e⟩:=h.br i hi hk
 obtain ⟨u,hu⟩:∃ u:Nat,T.U i=u:=⟨(T.U i).toNat,by omega⟩
 obtain ⟨v,hv⟩:∃ v:Nat,T.I i=v:=⟨(T.I i).toNat,by omega⟩
 refine ⟨u,v,hu,hv,by omega,by omega,by omega,by omega,by omega,?_,?_⟩
 ·have h1:=Ud (T:=T) (i:=u) hi
  have h2:=Ki hk hu
  have h3:=h.par1 u (by omega) (by omega)
  omega
 ·have h1:=Ud (T:=T) (i:=v) hi
  have h2:=Kh hk hv
  have h3:=h.par1 v (by omega) (by omega)
  omega
structure Pre (T:Nt) (i:Nat):Prop where
 ok:∀ j,j<i→okN T j
 br:∀ j,j<i→aW T j
 one:∀ k,cnt T i k≤1
theorem adU:Pre T 0:=⟨fun j hj=>absurd hj (Nat.not_lt_zero j),fun j hj=>absurd hj (Nat.not_lt_zero j),fun _=>Nat.zero_le _⟩
theorem adR (h:Pre T i) (ho:okN T i) (hk:T.K i≠2):Pre T (i+1):=by
 refine ⟨fun j hj=>?_,fun j hj=>?_,fun k=>?_⟩
 ·by_cases e:j=i
  ·subst e; exact ho
  ·exact h.ok j (by omega)
 ·by_cases e:j=i
  ·subst e; exact fun h2=>absurd h2 hk
  ·exact h.br j (by omega)
 ·show cnt T i k+kid T i k≤1
  rw[af hk]
  exact h.one k
theorem CH (h:Pre T i) (ho:okN T i) (hk:T.K i=2) (hu:T.U i=u) (hv:T.I i=v) (u1:i<u) (u2:u<T.m) (v1:i<v) (v2:v<T.m) (hne:u≠v) (cu:cnt T i u=0) (cv:cnt T i v=0):Pre T (i+1):=by
 refine ⟨fun j hj=>?_,fun j hj=>?_,fun k=>?_⟩
 ·by_cases e:j=i
  ·subst e; exact ho
  ·exact h.ok j (by omega)
 ·by_cases e:j=i
  ·subst e; exact fun _=>⟨by omega,by omega,by omega,by omega,by omega⟩
  ·exact h.br j (by omega)
 ·show cnt T i k+kid T i k≤1
  rw[AJ hk hu hv]
  have:=h.one k
  by_cases e:u=k
  ·subst e
   rw[if_pos rfl,if_neg (by omega)]; omega
  ·rw[if_neg e]
   by_cases e2:v=k
   ·subst e2; rw[if_pos rfl]; omega
   ·rw[if_neg e2]; omega
theorem adT (h:Pre T T.m) (h1:1≤T.m) (h2:T.m≤65536) (h3:∀ k,1≤k→k<T.m→cnt T T.m k≠0):yK T :=
 ⟨h1,h2,h.ok,h.br,fun k hk hk2=>by have:=h3 k hk hk2; have:=h.one k; omega⟩
theorem LF (hk:T.K i≠2):cnt T (i+1)=cnt T i:=by
 funext k
 show cnt T i k+kid T i k=_
 rw[af hk,Nat.add_zero]
theorem QK (hk:T.K i=2) (hu:T.U i=u) (hv:T.I i=v) (hne:u≠v) (k:Nat):cnt T (i+1) k=if k=v then cnt T i v+1 else if k=u then cnt T i u+1 else cnt T i k:=by
 show cnt T i k+kid T i k=_
 rw[AJ hk hu hv]
 by_cases e:k=v
 ·subst e; rw[if_pos rfl,if_pos rfl,if_neg hne,Nat.zero_add]
 ·rw[if_neg e]
  by_cases e2:k=u
  ·subst e2; rw[if_pos rfl,if_pos rfl,if_neg (by omega)]
  ·rw[if_neg e2,if_neg (by omega),if_neg (by omega)]; rfl
theorem Cz (hi:i<T.m) (hk:T.K i=2) (h:∀ u:Nat,T.U i=u→i<u→u<T.m→cnt T i u≠0):¬ yK T:=fun ht=>by
 obtain ⟨u,v,hu,hv,a,b,_,_,_,c,_⟩:=T7 ht hi hk
 exact h u hu a b c
theorem Cy (hi:i<T.m) (hk:T.K i=2) (hu:T.U i=u) (h:∀ v:Nat,T.I i=v→i<v→v<T.m→v≠u→cnt T i v≠0):¬ yK T:=fun ht=>by
 obtain ⟨u',v,hu',hv,a,b,a2,b2,hne,c,d⟩:=T7 ht hi hk
 exact h v hv a2 b2 (by omega) d
theorem Ux (h1:1≤k) (h2:k<T.m) (h:cnt T T.m k≠1):¬ yK T:=fun ht=>h (ht.par1 k h1 h2)
end
section
variable {T:Nt} {i j k u v:Nat}
theorem ZN:1≤dep T i:=by
 unfold dep
 cases i with
 | zero=>exact Nat.le_refl _
 | succ i=>simp only[Uf]; split<;>omega
theorem afK (h:yK T) (h1:1≤i) (hi:i<T.m):2≤dep T i:=by
 rw[TA h h1 hi]
 have:=ZN (T:=T) (i:=(par T T.m i).toNat)
 omega
theorem K5 (h:yK T):∀ i,i<T.m→dep T i≤i+1:=by
 intro i
 induction i using Nat.strongRecOn with
 | ind i ih =>
  intro hi
  by_cases h0:i=0
  ·subst h0; exact Nat.le_refl _
  ·obtain ⟨j,h1,h2,_⟩:=xv h (i:=i) (by omega) hi
   rw[TA h (by omega) hi,h1,Int.toNat_natCast]
   have:=ih j h2 (by omega)
   omega
def anc (T:Nt) (i:Nat):Nat→Nat
 | 0=>i
 | j+1=>(par T T.m (anc T i j)).toNat
theorem P0 (h:yK T) (hi:i<T.m):∀ j,j<dep T i→anc T i j<T.m∧dep T (anc T i j)+j=dep T i
 | 0,_=>⟨hi,rfl⟩
 | j+1,hj=>by
  obtain ⟨h1,h2⟩:=P0 h hi j (by omega)
  have h3:1≤anc T i j:=by
   apply Classical.byContradiction
   intro h0
   have e:anc T i j=0:=by omega
   rw[e,S7] at h2
   omega
  obtain ⟨p,p1,p2,_⟩:=xv h h3 h1
  have h4:=TA h h3 h1
  show (par T T.m (anc T i j)).toNat<T.m∧dep T (par T T.m (anc T i j)).toNat+(j+1)=dep T i
  rw[p1,Int.toNat_natCast] at h4 ⊢
  exact ⟨by omega,by omega⟩
theorem ZB (h:yK T) (hi:i<T.m) (hj:j+1<dep T i):1≤anc T i j∧anc T i j<T.m:=by
 obtain ⟨h1,h2⟩:=P0 h hi j (by omega)
 refine ⟨?_,h1⟩
 apply Classical.byContradiction
 intro h0
 have e:anc T i j=0:=by omega
 rw[e,S7] at h2
 omega
theorem Yi (h:yK T) (hi:i<T.m) (hj:j+1=dep T i):anc T i j=0:=by
 obtain ⟨h1,h2⟩:=P0 h hi j (by omega)
 apply Classical.byContradiction
 intro h0
 have:=afK h (i:=anc T i j) (by omega) h1
 omega
def rR (T:Nt) (i k:Nat):Int:=if k<i then dep T k else if par T T.m k<i then (dep T k:Int)-1 else 0
theorem UB (h:yK T) (hi:i<T.m) (h0:kid T i k≠0):par T T.m k=i:=by
 obtain ⟨h1,h2⟩:=cD h hi h0
 obtain ⟨j,q1,q2,q3,q4⟩:=xv h (i:=k) (by omega) h2
 by_cases e:i=j
 ·subst e; exact q1
 ·exact absurd (q4 i hi e) h0
theorem Gi (h:yK T):par T T.m 0=-1:=by
 apply Classical.byContradiction
 intro hne
 have hc:cnt T T.m 0≠0:=fun h0=>hne (Gh _ h0)
 obtain ⟨j,h1,h2,h3⟩:=Rz _ hc
 have:=cD h h2 h3
 omega
theorem B2 (h:yK T) (hk:k<T.m):rR T 0 k=0:=by
 unfold rR
 rw[if_neg (by omega)]
 by_cases h0:k=0
 ·subst h0
  rw[Gi h,if_pos (by omega),S7]
  rfl
 ·obtain ⟨j,h1,_⟩:=xv h (i:=k) (by omega) hk
  rw[h1,if_neg (by omega)]
theorem afJ (h:yK T) (hi:i<T.m):rR T i i=(dep T i:Int)-1:=by
 unfold rR
 rw[if_neg (by omega),if_pos]
 by_cases h0:i=0
 ·subst h0; rw[Gi h]; omega
 ·obtain ⟨j,h1,h2,_⟩:=xv h (i:=i) (by omega) hi
  rw[h1]; omega
theorem B3 (h:yK T) (hi:i<T.m) (h0:kid T i k≠0):dep T k=dep T i+1:=by
 have hp:=UB h hi h0
 have hl:=cD h hi h0
 rw[TA h (by omega) hl.2,hp,Int.toNat_natCast]
theorem Na (h:yK T) (hi:i<T.m) (hK:T.K i≠2) (hk:k<T.m):rR T (i+1) k=if k=i then (dep T i:Int) else rR T i k:=by
 unfold rR
 by_cases e:k=i
 ·subst e; rw[if_pos (by omega),if_pos rfl]
 ·rw[if_neg e]
  by_cases e2:k<i
  ·rw[if_pos (by omega),if_pos e2]
  ·rw[if_neg (by omega),if_neg e2]
   by_cases e3:par T T.m k<i
   ·rw[if_pos (by omega),if_pos e3]
   ·rw[if_neg e3,if_neg]
    intro e4
    obtain ⟨j,q1,q2,q3,_⟩:=xv h (i:=k) (by omega) hk
    have:j=i:=by omega
    subst this
    have:=af hK k
    omega
theorem S6 (h:yK T) (hi:i<T.m) (hK:T.K i=2) (hu:T.U i=u) (hv:T.I i=v) (hk:k<T.m):rR T (i+1) k=if k=v then (dep T i:Int) else if k=u then (dep T i:Int) else if k=i then (dep T i:Int) else rR T i k:=by
 have hpk:∀ x,x=u∨x=v→i<x∧par T T.m x=i∧dep T x=dep T i+1:=fun x hx=>by
  have h0:kid T i x≠0:=by
   rcases hx with rfl | rfl
   ·have:=Ki hK hu; omega
   ·have:=Kh hK hv; omega
  exact ⟨(cD h hi h0).1,UB h hi h0,B3 h hi h0⟩
 have hc:∀ x,x=u∨x=v→rR T (i+1) x=dep T i:=fun x hx=>by
  obtain ⟨a,b,c⟩:=hpk x hx
  unfold rR
  rw[if_neg (by omega),b,if_pos (by omega),c]
  omega
 by_cases e:k=v
 ·rw[if_pos e]; exact hc k (.inr e)
 ·rw[if_neg e]
  by_cases e2:k=u
  ·rw[if_pos e2]; exact hc k (.inl e2)
  ·rw[if_neg e2]
   unfold rR
   by_cases e3:k=i
   ·subst e3; rw[if_pos (by omega),if_pos rfl]
   ·rw[if_neg e3]
    by_cases e4:k<i
    ·rw[if_pos (by omega),if_pos e4]
    ·rw[if_neg (by omega),if_neg e4]
     by_cases e5:par T T.m k<i
     ·rw[if_pos (by omega),if_pos e5]
     ·rw[if_neg e5,if_neg]
      intro e6
      obtain ⟨j,q1,q2,q3,_⟩:=xv h (i:=k) (by omega) hk
      have:j=i:=by omega
      subst this
      have h0:=TK (T:=T) (k:=j) (i:=k) (by omega)
      rcases h0.2 with a | a<;>omega
def mst (T:Nt):Nat→Nat
 | 0=>0
 | i+1=>max (mst T i) (dep T i)
def lvs (T:Nt):Nat→Nat
 | 0=>0
 | i+1=>if T.K i=2 then lvs T i else lvs T i+1
theorem JT:∀ i,lvs T i≤i
 | 0=>Nat.le_refl _
 | i+1=>by
  have:=JT i
  simp only[lvs]
  split<;>omega
theorem J0 (h:yK T):∀ i,i≤T.m→mst T i≤i+1
 | 0,_=>Nat.zero_le _
 | i+1,hi=>by
  have h1:=J0 h i (by omega)
  have h2:=K5 h i (by omega)
  simp only[mst]
  omega
end
end Go.Tr

set_option maxRecDepth 20000
namespace Go.Wr
def ntZ (T:List Nz):Go.Tr.Nt where
 m:=T.length
 K:=fun i=>(T.getD i ⟨0,0,0,0,[]⟩).K
 O:=fun i=>(T.getD i ⟨0,0,0,0,[]⟩).O
 U:=fun i=>(T.getD i ⟨0,0,0,0,[]⟩).U
 I:=fun i=>(T.getD i ⟨0,0,0,0,[]⟩).I
 n:=fun i=>(T.getD i ⟨0,0,0,0,[]⟩).P.length
 v:=fun i=>(T.getD i ⟨0,0,0,0,[]⟩).P.all vFr=true
section
variable {T:List Nz} {i:Nat}
theorem ZT (h:i<T.length):T.getD i ⟨0,0,0,0,[]⟩=T[i]:=by simp[h]
theorem ew:(ntZ T).m=T.length:=rfl
theorem YV (h:i<T.length):(ntZ T).K i=T[i].K:=by show (T.getD i _).K=_; rw[ZT h]
theorem adm (h:i<T.length):(ntZ T).O i=T[i].O:=by show (T.getD i _).O=_; rw[ZT h]
theorem Uy (h:i<T.length):(ntZ T).U i=T[i].U:=by show (T.getD i _).U=_; rw[ZT h]
theorem Rw (h:i<T.length):(ntZ T).I i=T[i].I:=by show (T.getD i _).I=_; rw[ZT h]
end
end Go.Wr
namespace Go.Proofs.YtpnliopaifpimaaGreat
open Go Go.Am Go.Wr Go.Dig
theorem Gx {x:Int}:rg x=true↔Go.Tr.rng x:=by unfold rg Go.Tr.rng; simp
theorem Pd {T:List Nz} {i:Nat} (h:i<T.length):Go.Tr.okN (ntZ T) i↔okZ T[i]=true:=by
 unfold Go.Tr.okN
 have hn:(ntZ T).n i=T[i].P.length:=by show (T.getD i _).P.length=_; rw[ZT h]
 have hv:(ntZ T).v i↔T[i].P.all vFr=true:=by show (T.getD i _).P.all vFr=true↔_; rw[ZT h]
 rw[YV h,adm h,Uy h,Rw h,hn,hv,← Gx,← Gx,← Gx]
 generalize T[i]=N
 unfold okZ plN
 by_cases h1:N.K=1
 ·simp[h1,and_assoc]
 ·by_cases h2:N.K=2
  ·simp[h2,and_assoc]
  ·by_cases h3:N.K=3
   ·simp[h3,and_assoc]
   ·simp[h1,h2,h3]
theorem akl : uN Tryz.prog x8 "saleroom/prooftree.next" = some wz := by kernel_rfl
theorem akn : uN Tryz.prog xU "saleroom/prooftree.next" = some we := by kernel_rfl
theorem akm : uN Tryz.prog xm "saleroom/prooftree.next" = some xP := by kernel_rfl
theorem ako : uN Tryz.prog tn "saleroom/prooftree.next" = some wA := by kernel_rfl
theorem akG:yv Tryz.prog wz=true:=by kernel_rfl
theorem akI:yv Tryz.prog we=true:=by kernel_rfl
theorem akH:yv Tryz.prog xP=true:=by kernel_rfl
theorem akJ:yv Tryz.prog wA=true:=by kernel_rfl
def Kj (N:Nz):AV:=if N.K=2 then .list 1 .full [[iv N.U],[iv N.I]] else td
theorem agt {N:Nz}:ze Tryz.prog wz [.agg (zc N)] td:=by
 refine zn gU (by simp) ?_
 simp[qj,qF]
theorem agu {N:Nz}:ze Tryz.prog xP [.agg (zc N)] td:=by
 refine zn jh (by simp) ?_
 simp[sN,sP]
theorem agw:ze Tryz.prog wA [.agg []] td:=by
 refine zn gV (by simp) ?_
 simp[qk,qG]
theorem agv {N:Nz}:ze Tryz.prog we [.agg (zc N)] (.list 1 .full [[iv N.U],[iv N.I]]):=by
 refine zn j6 (by simp) ?_
 simp[rV,rW]
theorem A9 {N : Nz} {σ : Nat → Option zg} {K : AV → Option zg → Prop} (h : K (Kj N) none) : tY "saleroom/prooftree.next" (ofZ N) [] σ K := by
 unfold ofZ
 unfold Kj at h
 by_cases h1:N.K=1
 ·rw[if_neg (by omega)] at h
  simp only[h1,if_true]
  simp only[tY,akl,akG]
  exact ⟨trivial,zb agt mo (.inl rfl) h⟩
 ·simp only[h1,if_false]
  by_cases h2:N.K=2
  ·rw[if_pos h2] at h
   simp only[h2,if_true]
   simp only[tY,akn,akI]
   exact ⟨trivial,zb agv mo (.inl rfl) h⟩
  ·rw[if_neg h2] at h
   simp only[h2,if_false]
   by_cases h3:N.K=3
   ·simp only[h3,if_true]
    simp only[tY,akm,akH]
    exact ⟨trivial,zb agu mo (.inl rfl) h⟩
   ·simp only[h3,if_false]
    simp only[tY,ako,akJ]
    exact ⟨trivial,zb agw (by simp) (.inl rfl) h⟩
open Go.LP
section
variable {K:Nat} {p q:Rat}
theorem UR:ze Tryz.prog gc [fq q] (iv (pj q)):=by rw[← re]; exact aaZ
theorem rC {n:Int} (h1:-9223372036854775808≤n) (h2:n<9223372036854775808):ze Tryz.prog xz [iv n] (fq n):=by rw[← re]; exact Ju h1 h2
theorem aa0:ze Tryz.prog dG [fq q] (iv (pj q)):=by rw[← re]; exact Lt
variable (hK:K≤137438953472) (hp:sz K p) (hq:sz K q)
include hK hp
include hq
theorem afc:ze Tryz.prog dk [fq p,fq q] (fq (p*q)):=by simp only[← re]; exact ac5 hK hp hq
theorem DW:ze Tryz.prog l8 [fq p,fq q] (fq (p+q)):=by simp only[← re]; exact Ky hK hp hq
theorem alf:ze Tryz.prog Tm [fq p,fq q] (fq (p-q)):=by simp only[← re]; exact aeM hK hp hq
theorem Cx:ze Tryz.prog dm [fq p,fq q] (fq (p*q)):=by simp only[← re]; exact ac6 hK hp hq
theorem L6:ze Tryz.prog nY [fq p,fq q] (fq (p+q)):=by simp only[← re]; exact KA hK hp hq
theorem afl:ze Tryz.prog Zw [fq p,fq q] (fq (p-q)):=by simp only[← re]; exact G0 hK hp hq
theorem ajP:ze Tryz.prog Tk [fq p,fq q] (iv (eo p q)):=by simp only[← re]; exact acj hK hp hq
theorem ajQ:ze Tryz.prog Tp [fq p,fq q] (iv (eo p q)):=by simp only[← re]; exact ack hK hp hq
end
noncomputable def fZ (f:Nat→Rat) (k n:Nat):List (List AV):=(List.range n).map fun j=>if j<k then fr (f j) else zz
noncomputable def fR (f:Nat→Rat) (n:Nat):List (List AV):=(List.range n).map fun j=>fr (f j)
noncomputable abbrev fL (f:Nat→Rat) (n:Nat):AV:=.list 3 .plain (fR f n)
@[simp] theorem Ak {f:Nat→Rat} {n:Nat}:(fR f n).length=n:=by simp[fR]
@[simp] theorem aiu {f:Nat→Rat} {k n:Nat}:(fZ f k n).length=n:=by simp[fZ]
theorem Jl {f:Nat→Rat} {n i:Nat} (h:i<n):(fR f n)[i]?=some (fr (f i)):=by simp[fR,h]
theorem Jo {f:Nat→Rat} {k n i:Nat} (h:i<n) (hk:i<k):(fZ f k n)[i]?=some (fr (f i)):=by simp[fZ,h,hk]
theorem Nj {f:Nat→Rat} {k n i:Nat} (h:i<n) (hk:¬ i<k):(fZ f k n)[i]?=some zz:=by simp[fZ,h,hk]
@[simp] theorem afX {f:Nat→Rat} {n i:Nat} {h:i<(fR f n).length}:(fR f n)[i]=fr (f i):=by simp[fR]
@[simp] theorem amL {f:Nat→Rat} {n k:Nat} {h:k<(fZ f k n).length}:(fZ f k n)[k]=zz:=by simp[fZ]
theorem rS {f g:Nat→Rat} {n:Nat} (h:∀ i,i<n→f i=g i):fR f n=fR g n:=by
 unfold fR
 exact List.map_congr_left fun i hi=>by rw[h i (by simpa using hi)]
theorem Jn {f:Nat→Rat} {n i:Nat} {x:Rat}:(fR f n).set i (fr x)=fR (upd f i x) n:=by
 apply List.ext_getElem?
 intro j
 rw[List.getElem?_set]
 by_cases hij:i=j
 ·subst hij
  rw[if_pos rfl,Ak]
  by_cases hi:i<n
  ·rw[if_pos hi,Jl hi]; simp[upd]
  ·rw[if_neg hi]; simp[fR,hi]
 ·rw[if_neg hij]
  by_cases hj:j<n
  ·rw[Jl hj,Jl hj]; simp[upd,Ne.symm hij]
  ·simp[fR,hj]
theorem Al {f:Nat→Rat} {k n:Nat} (hk:k<n):(fZ f k n).set k (fr (f k))=fZ f (k+1) n:=by
 apply List.ext_getElem?
 intro j
 rw[List.getElem?_set]
 by_cases hij:k=j
 ·subst hij
  rw[if_pos rfl,aiu,if_pos hk,Jo hk (by omega)]
 ·rw[if_neg hij]
  by_cases hj:j<n
  ·by_cases hjk:j<k
   ·rw[Jo hj hjk,Jo hj (by omega)]
   ·rw[Nj hj hjk,Nj hj (by omega)]
  ·simp[fZ,hj]
theorem EY {f:Nat→Rat} {n:Nat}:List.replicate n zz=fZ f 0 n:=by
 apply List.ext_getElem?
 intro j
 by_cases h:j<n
 ·rw[Nj h (by omega)]; simp[h]
 ·simp[fZ,h]
theorem EX {f:Nat→Rat} {n:Nat}:fZ f n n=fR f n:=by
 unfold fZ fR
 exact List.map_congr_left fun i hi=>by rw[if_pos (by simpa using hi)]
theorem afY {f:Nat→Rat} {n:Nat}:fR f (n+1)=fR f n++[fr (f n)]:=by simp[fR,List.range_succ]
theorem afZ {f:Nat→Rat}:fR f 0=[]:=rfl
theorem Aj {f:Nat→Rat} {n:Nat} {g:List AV→Bool} (h:∀ q,g (fr q)=true):(fR f n).all g=true :=
 List.all_eq_true.2 fun r hr=>by
  obtain ⟨j,_,rfl⟩:=List.mem_map.1 hr
  exact h _
theorem Jm {f:Nat→Rat} {n:Nat} {g:List AV→List AV} (h:∀ q,g (fr q)=fr q):(fR f n).map g=fR f n :=
 tL fun r hr=>by
  obtain ⟨j,_,rfl⟩:=List.mem_map.1 hr
  exact h _
@[simp] theorem anY {f:Nat→Rat} {n:Nat}:wE (fR f n)=true:=Aj fun _=>Ck
@[simp] theorem anZ {f:Nat→Rat} {n:Nat}:zZ (fR f n)=fR f n:=Jm fun _=>Rf
@[simp] theorem anX {f:Nat→Rat} {n l:Nat}:yN l (fR f n)=fR f n:=Jm fun _=>aj2
@[simp] theorem anl {f:Nat→Rat} {n l:Nat} {e:zg}:((fR f n).map fun r=>r.map (frz l e))=fR f n:=Jm fun _=>aix
@[simp] theorem anm {f:Nat→Rat} {n M:Nat}:((fR f n).all fun r=>r.all (Am.low M))=true:=Aj fun _=>aiz
theorem aV {k:Nat}:∀ {rows:List (List AV)},(∀ r∈rows,wQ k r=false)→tp k rows=false
 | [],_=>rfl
 | r::rows,h=>by simp[tp,h r (by simp),aV (rows:=rows) fun r hr=>h r (by simp[hr])]
@[simp] theorem ano {f:Nat→Rat} {n k:Nat}:tp k (fR f n)=false:=aV fun r hr=>by
 obtain ⟨j,_,rfl⟩:=List.mem_map.1 hr
 exact aiA
@[simp] theorem ann {f:Nat→Rat} {n:Nat}:(fR f n=[])=(n=0):=by
 rw[← List.length_eq_zero_iff,Ak]
@[simp] theorem amK {f:Nat→Rat} {n:Nat}:(fR f n).take n=fR f n:=List.take_of_length_le (by simp)
@[simp] theorem ank {f:Nat→Rat} {n k:Nat}:((fR f n).any fun r=>r.any (l0 k))=false :=
 List.any_eq_false.2 fun r hr=>by
  obtain ⟨j,_,rfl⟩:=List.mem_map.1 hr
  simp
theorem Ls {q:Rat}:pj q=0↔q=0:=by
 unfold pj; split
 ·simp[*]
 ·rename_i h; split<;>simp[h]
theorem GF {q:Rat}:pj q<0↔q<0:=by
 unfold pj; split
 ·rename_i h; subst h; simp
 ·split<;>simp[*]
theorem Y9 {q:Rat}:0<pj q↔0<q:=by
 unfold pj; split
 ·rename_i h; subst h; simp
 ·rename_i h
  split
  ·rename_i h2; simp; grind
  ·rename_i h2; simp; grind
theorem EN {p q:Rat}:eo p q<0↔p<q:=by
 unfold eo; split
 ·simp[*]
 ·split<;>simp[*]
def mR (g:Nat→List AV) (n:Nat):List (List AV):=(List.range n).map g
section
variable {g h:Nat→List AV} {n i:Nat}
@[simp] theorem Q8:(mR g n).length=n:=by simp[mR]
theorem JW (hi:i<n):(mR g n)[i]?=some (g i):=by simp[mR,hi]
@[simp] theorem NA {hi:i<(mR g n).length}:(mR g n)[i]=g i:=by simp[mR]
theorem cF (e:∀ i,i<n→g i=h i):mR g n=mR h n:=List.map_congr_left fun i hi=>e i (by simpa using hi)
theorem AX {x:List AV}:(mR g n).set i x=mR (upd g i x) n:=by
 apply List.ext_getElem?
 intro j
 rw[List.getElem?_set]
 by_cases hij:i=j
 ·subst hij
  rw[if_pos rfl,Q8]
  by_cases hi:i<n
  ·rw[if_pos hi,JW hi]; simp[upd]
  ·rw[if_neg hi]; simp[mR,hi]
 ·rw[if_neg hij]
  by_cases hj:j<n
  ·rw[JW hj,JW hj]; simp[upd,Ne.symm hij]
  ·simp[mR,hj]
theorem JV {f:List AV→Bool} (h:∀ i,f (g i)=true):(mR g n).all f=true :=
 List.all_eq_true.2 fun r hr=>by
  obtain ⟨j,_,rfl⟩:=List.mem_map.1 hr
  exact h _
theorem ZX {f:List AV→List AV} (h:∀ i,f (g i)=g i):(mR g n).map f=mR g n :=
 tL fun r hr=>by
  obtain ⟨j,_,rfl⟩:=List.mem_map.1 hr
  exact h _
theorem AW {k:Nat} (h:∀ i,wQ k (g i)=false):tp k (mR g n)=false:=aV fun r hr=>by
 obtain ⟨j,_,rfl⟩:=List.mem_map.1 hr
 exact h _
end
end Go.Proofs.YtpnliopaifpimaaGreat

namespace Go.Pb
structure Of where
 b:Int
 w:Nat→Int
 v:Int
structure Pb where
 sup:Nat→Int
 opn:Nat→Int
 cls:Nat→Int
 cl:List Int
 of:List Of
def sY {α:Type} (f:α→Int) (l:List α) (k:Nat):Int:=((l.take k).map f).sum
section
variable {α:Type} {f g:α→Int} {l:List α} {k:Nat} {o:α}
theorem UE:sY f l 0=0:=rfl
theorem dh (h:l[k]?=some o):l.take (k+1)=l.take k++[o]:=by rw[List.take_add_one,h]; rfl
theorem aq (h:l[k]?=some o):sY f l (k+1)=sY f l k+f o:=by
 unfold sY
 rw[dh h,List.map_append,List.sum_append]
 simp
theorem YY:sY f l l.length=(l.map f).sum:=by simp[sY]
theorem jO {a b:Int} (h:∀ o∈l,a≤f o∧f o≤b):∀ k,k≤l.length→a*k≤sY f l k∧sY f l k≤b*k
 | 0,_=>by simp[sY]
 | k+1,hk=>by
  have hk':k<l.length:=by omega
  have hg:l[k]?=some l[k]:=by simp[hk']
  obtain ⟨h1,h2⟩:=jO h k (by omega)
  obtain ⟨h3,h4⟩:=h l[k] (List.getElem_mem hk')
  rw[aq hg,Int.natCast_add,Int.mul_add,Int.mul_add]
  omega
theorem abu {a b:Int} (h:∀ o∈l,a≤f o∧f o≤b):a*l.length≤(l.map f).sum∧(l.map f).sum≤b*l.length:=by
 have:=jO h l.length (Nat.le_refl _)
 rwa [YY] at this
end
def okB (w:Nat→Int):Prop:=∀ j,j<6→0≤w j∧w j≤4
instance (w:Nat→Int):Decidable (okB w):=by unfold okB; exact inferInstance
def fm (w:Nat→Int):Prop:=∀ j,j<6→w j=0
instance (w:Nat→Int):Decidable (fm w):=by unfold fm; exact inferInstance
def eqB (w u:Nat→Int):Prop:=∀ j,j<6→w j=u j
instance (w u:Nat→Int):Decidable (eqB w u):=by unfold eqB; exact inferInstance
def leB (w u:Nat→Int):Prop:=∀ j,j<6→w j≤u j
instance (w u:Nat→Int):Decidable (leB w u):=by unfold leB; exact inferInstance
def Pb.clOf (P:Pb) (b:Int):Int:=P.cl.getD b.toNat 0
def Pb.rows (P:Pb):Nat:=P.cl.length+12
def Pb.coef (P:Pb) (r:Nat) (o:Of):Int :=
 if r<P.cl.length then (if o.b=r then 1 else 0)
 else if r<P.cl.length+6 then o.w (r-P.cl.length)
 else if P.cls (r-P.cl.length-6)=0∨P.cls (r-P.cl.length-6)=P.clOf o.b then 0 else o.w (r-P.cl.length-6)
def Pb.bnd (P:Pb) (r:Nat):Int :=
 if r<P.cl.length then 1 else if r<P.cl.length+6 then P.sup (r-P.cl.length) else P.opn (r-P.cl.length-6)
def Pb.fits (P:Pb) (l:List Of):Prop:=∀ r,r<P.rows→(l.map (P.coef r)).sum≤P.bnd r
instance (P:Pb) (l:List Of):Decidable (P.fits l):=by unfold Pb.fits; exact inferInstance
def Pb.okC (P:Pb) (j:Nat):Prop:=0≤P.cls j∧P.cls j≤4∧0≤P.opn j∧P.opn j≤P.sup j∧(P.cls j=0→P.opn j=P.sup j)
instance (P:Pb) (j:Nat):Decidable (P.okC j):=by unfold Pb.okC; exact inferInstance
def Pb.okCs (P:Pb):Prop:=∀ j,j<6→P.okC j
instance (P:Pb):Decidable P.okCs:=Nat.decidableBallLT 6 fun j _=>P.okC j
def jN (c:Int):Prop:=0≤c∧c≤4
instance (c:Int):Decidable (jN c):=by unfold jN; exact inferInstance
def Pb.frameE (P:Pb):Int :=
 if ¬ okB P.sup then 4 else if ¬ P.okCs then 4 else if 8<P.cl.length∨160<P.of.length then 3 else if ∀ c∈P.cl,jN c then 0 else 4
def pL (n:Nat) (o:Of):Int:=if o.b<0∨(n:Int)≤o.b then 6 else if o.v<1∨1000000<o.v then 4 else if okB o.w then 0 else 4
def Pb.offE (P:Pb) (o:Of):Int:=if pL P.cl.length o≠0 then pL P.cl.length o else if fm o.w then 4 else if P.fits [o] then 0 else 14
def mn (o o':Of):Prop:=o.b=o'.b∧eqB o.w o'.w
instance (o o':Of):Decidable (mn o o'):=by unfold mn; exact inferInstance
def Pb.offI (P:Pb) (i:Nat) (o:Of):Int:=if P.offE o≠0 then P.offE o else if ∃ o'∈P.of.take i,mn o' o then 7 else 0
def Pb.chkL (P:Pb):Nat→Int
 | 0=>0
 | i+1=>if P.chkL i=0 then (match P.of[i]? with | some o=>P.offI i o | none=>0) else P.chkL i
def Pb.chk (P:Pb):Int:=if P.frameE=0 then P.chkL P.of.length else P.frameE
section
variable {P:Pb}
theorem MQ {i:Nat} (h:P.chkL i≠0):∀ d,P.chkL (i+d)=P.chkL i
 | 0=>rfl
 | d+1=>by
  have:=MQ h d
  rw[← Nat.add_assoc,Pb.chkL,this,if_neg h]
theorem eR {i k:Nat} {o:Of} (h0:P.chkL i=0) (hi:P.of[i]?=some o) (he:P.offI i o≠0) (hk:i<k):P.chkL k=P.offI i o:=by
 have h1:P.chkL (i+1)=P.offI i o:=by rw[Pb.chkL,if_pos h0,hi]
 have h2:=MQ (P:=P) (i:=i+1) (by rw[h1]; exact he) (k-(i+1))
 rw[show i+1+(k-(i+1))=k by omega] at h2
 rw[h2,h1]
theorem MP {i:Nat} {o:Of} (h0:P.chkL i=0) (hi:P.of[i]?=some o) (he:P.offI i o=0):P.chkL (i+1)=0:=by rw[Pb.chkL,if_pos h0,hi]; exact he
theorem BN {k:Nat} (h:P.chkL k=0):∀ i o,i<k→P.of[i]?=some o→P.offI i o=0:=by
 induction k with
 | zero=>intro i o hi; omega
 | succ k ih =>
  have hk:P.chkL k=0:=by
   rw[Pb.chkL] at h
   split at h
   ·rename_i h0; exact h0
   ·exact h
  intro i o hi ho
  by_cases e:i=k
  ·subst e
   rw[Pb.chkL,if_pos hk,ho] at h
   exact h
  ·exact ih hk i o (by omega) ho
structure Pb.Good (P:Pb):Prop where
 sup:okB P.sup
 set:P.okCs
 n:P.cl.length≤8
 k:P.of.length≤160
 cl:∀ c∈P.cl,jN c
 off:∀ o∈P.of,P.offE o=0
 new:∀ (i l:Nat) o o',l<i→P.of[i]?=some o→P.of[l]?=some o'→¬ mn o' o
theorem uo (h:P.chk=0):P.Good:=by
 unfold Pb.chk at h
 split at h
 ·rename_i hf
  unfold Pb.frameE at hf
  split at hf
  ·cases hf
  ·rename_i h1
   split at hf
   ·cases hf
   ·rename_i h2
    split at hf
    ·cases hf
    ·rename_i h3
     split at hf
     ·rename_i h4
      have hz:=BN h
      refine ⟨Decidable.not_not.1 h1,Decidable.not_not.1 h2,by omega,by omega,h4,fun o ho=>?_,fun i l o o' hl hi hlo hs=>?_⟩
      ·obtain ⟨i,hi,rfl⟩:=List.getElem_of_mem ho
       have:=hz i P.of[i] hi (by simp[hi])
       unfold Pb.offI at this
       split at this
       ·exact this
       ·rename_i h5; exact Decidable.not_not.1 h5
      ·have hi':i<P.of.length:=(List.getElem?_eq_some_iff.1 hi).1
       have:=hz i o hi' hi
       unfold Pb.offI at this
       split at this
       ·rename_i h5; exact h5 this
       ·rw[if_pos ⟨o',List.mem_of_getElem? (i:=l) (by rw[List.getElem?_take,if_pos hl]; exact hlo),hs⟩] at this
        cases this
     ·cases hf
 ·rename_i hf; exact absurd h hf
theorem vj {o:Of} (h:P.offE o=0):pL P.cl.length o=0∧¬ fm o.w∧P.fits [o]:=by
 unfold Pb.offE at h
 split at h
 ·rename_i h1; exact absurd h h1
 ·rename_i h1
  split at h
  ·cases h
  ·rename_i h2
   split at h
   ·rename_i h3; exact ⟨Decidable.not_not.1 h1,h2,h3⟩
   ·cases h
theorem uc {n:Nat} {o:Of} (h:pL n o=0):(0≤o.b∧o.b<n)∧(1≤o.v∧o.v≤1000000)∧okB o.w:=by
 unfold pL at h
 split at h
 ·cases h
 ·rename_i h1
  split at h
  ·cases h
  ·rename_i h2
   split at h
   ·rename_i h3; exact ⟨by omega,by omega,h3⟩
   ·cases h
theorem me {r:Nat} {o:Of} (hw:okB o.w) (hr:r<P.rows):0≤P.coef r o∧P.coef r o≤4:=by
 unfold Pb.rows at hr
 unfold Pb.coef
 split
 ·split<;>omega
 ·split
  ·exact hw _ (by omega)
  ·split
   ·omega
   ·exact hw _ (by omega)
end
end Go.Pb

namespace Go.Proofs.YtpnliopaifpimaaGreat
open Go Go.Am Go.Pb
def bI (w:Nat→Int):List Int:=[w 0,w 1,w 2,w 3,w 4,w 5]
@[irreducible] def bC (w:Nat→Int):List AV:=(bI w).map iv
theorem tX (w:Nat→Int):bC w=[iv (w 0),iv (w 1),iv (w 2),iv (w 3),iv (w 4),iv (w 5)]:=by unfold bC; rfl
section
variable {w u:Nat→Int} {k l a b M:Nat} {e:zg}
@[simp] theorem ah2:(bC w).length=6:=by rw[tX]; rfl
@[simp] theorem ajO:(bC w).all rf=true:=by rw[tX]; rfl
theorem ah3 {x:AV} (h:x∈bC w):∃ n,x=iv n:=by
 unfold bC at h
 obtain ⟨n,_,rfl⟩:=List.mem_map.1 h
 exact ⟨n,rfl⟩
@[simp] theorem alo:(∀ x,x∈bC w→rf x=true)=True:=eq_true fun x h=>by obtain ⟨n,rfl⟩:=ah3 h; rfl
@[simp] theorem ab3:(bC w).map strip=bC w:=by rw[tX]; rfl
@[simp] theorem anP:(bC w).map (dg l)=bC w:=by rw[tX]; simp
@[simp] theorem am5:wQ k (bC w)=false:=by rw[tX]; simp
theorem KC (h:k<6):(bC w)[k]?=some (iv (w k)):=by
 rw[tX]
 match k,h with
 | 0,_=>rfl
 | 1,_=>rfl
 | 2,_=>rfl
 | 3,_=>rfl
 | 4,_=>rfl
 | 5,_=>rfl
 | n+6,h=>omega
@[simp] theorem amF {h:k<(bC w).length}:(bC w)[k]=iv (w k):=by
 have h2:k<6:=by simpa using h
 have:=KC (w:=w) h2
 rw[List.getElem?_eq_getElem h] at this
 exact Option.some.inj this
@[simp] theorem alv:zK (bC w) 0 (some 6)=some (.agg (bC w)):=by rw[rD ah2 ajO,ab3]
theorem Uo (h:k<6):zK (bC w) k none=some (iv (w k)):=by
 simp[zK,KC h]
theorem RA (h:k<6):tB (bC w) k none=some (iv (w k)):=by
 simp[tB,KC h]
@[simp] theorem kZ:cC 6 (bC w)=true:=by unfold bC; rw[QX]; rfl
@[simp] theorem ami:YP (bC w)=bI w:=by unfold bC; exact Uq _
theorem L8:(bI w=bI u)↔eqB w u:=by
 unfold bI eqB
 constructor
 ·intro h j hj
  simp only[List.cons.injEq,and_true] at h
  obtain ⟨h0,h1,h2,h3,h4,h5⟩:=h
  match j,hj with
  | 0,_=>exact h0
  | 1,_=>exact h1
  | 2,_=>exact h2
  | 3,_=>exact h3
  | 4,_=>exact h4
  | 5,_=>exact h5
  | n+6,h=>omega
 ·intro h
  rw[h 0 (by omega),h 1 (by omega),h 2 (by omega),h 3 (by omega),h 4 (by omega),h 5 (by omega)]
end
@[irreducible] def oC (o:Of):List AV:=iv o.b::(bC o.w++[iv o.v])
theorem p6 (o:Of):oC o=[iv o.b,iv (o.w 0),iv (o.w 1),iv (o.w 2),iv (o.w 3),iv (o.w 4),iv (o.w 5),iv o.v]:=by unfold oC; rw[tX]; rfl
section
variable {o:Of} {k l:Nat}
@[simp] theorem aiS:(oC o).length=8:=by rw[p6]; rfl
@[simp] theorem afd:(oC o).all rf=true:=by rw[p6]; rfl
@[simp] theorem alF:(∀ x,x∈oC o→rf x=true)=True:=eq_true fun x h=>List.all_eq_true.1 afd x h
@[simp] theorem ado:(oC o).map strip=oC o:=by rw[p6]; rfl
@[simp] theorem aoi:(oC o).map (dg l)=oC o:=by rw[p6]; simp
@[simp] theorem anD:wQ k (oC o)=false:=by rw[p6]; simp
@[simp] theorem amp:(oC o)[0]?=some (iv o.b):=by rw[p6]; rfl
@[simp] theorem amq:(oC o)[7]?=some (iv o.v):=by rw[p6]; rfl
@[simp] theorem aog {h:0<(oC o).length}:(oC o)[0]=iv o.b:=by have:=amp (o:=o); rw[List.getElem?_eq_getElem h] at this; exact Option.some.inj this
@[simp] theorem aoh {h:7<(oC o).length}:(oC o)[7]=iv o.v:=by have:=amq (o:=o); rw[List.getElem?_eq_getElem h] at this; exact Option.some.inj this
theorem aaa (h:k<6):(oC o)[1+k]?=some (iv (o.w k)):=by
 rw[p6]
 match k,h with
 | 0,_=>rfl
 | 1,_=>rfl
 | 2,_=>rfl
 | 3,_=>rfl
 | 4,_=>rfl
 | 5,_=>rfl
 | n+6,h=>omega
@[simp] theorem alB:zK (oC o) 0 (some 8)=some (.agg (oC o)):=by rw[rD aiS afd,ado]
@[simp] theorem aj5:zK (oC o) 0 none=some (iv o.b):=by simp[zK]
@[simp] theorem aj6:zK (oC o) 7 none=some (iv o.v):=by simp[zK]
@[simp] theorem aj8:zK (oC o) 1 (some 6)=some (.agg (bC o.w)):=by rw[p6,tX]; rfl
theorem YM (h:k<6):zK (oC o) (1+k) none=some (iv (o.w k)):=by simp[zK,aaa h]
end
def clR (l:List Int):List (List AV):=l.map fun c=>[iv c]
abbrev clA (l:List Int):AV:=.list 1 .plain (clR l)
def ofR (l:List Of):List (List AV):=l.map oC
abbrev ofA (l:List Of):AV:=.list 8 .plain (ofR l)
section
variable {l:List Int} {L:List Of} {k:Nat} {c:Int} {o:Of}
@[simp] theorem kR:(clR l).length=l.length:=by simp[clR]
@[simp] theorem am6:wE (clR l)=true:=by simp[clR,wE]
@[simp] theorem am7:zZ (clR l)=clR l:=by simp[clR,zZ]
@[simp] theorem pE:(ofR L).length=L.length:=by simp[ofR]
@[simp] theorem anE:wE (ofR L)=true:=by simp[ofR,wE]
@[simp] theorem anF:zZ (ofR L)=ofR L:=by simp[ofR,zZ]
end
@[irreducible] def pbX (P:Pb) (c o:AV):List AV:=bC P.sup++bC P.opn++bC P.cls++[c,o]
theorem xL (P:Pb) (c o:AV):pbX P c o=[iv (P.sup 0),iv (P.sup 1),iv (P.sup 2),iv (P.sup 3),iv (P.sup 4),iv (P.sup 5),iv (P.opn 0),iv (P.opn 1),iv (P.opn 2),iv (P.opn 3),iv (P.opn 4),iv (P.opn 5),
  iv (P.cls 0),iv (P.cls 1),iv (P.cls 2),iv (P.cls 3),iv (P.cls 4),iv (P.cls 5),c,o]:=by unfold pbX; rw[tX,tX,tX]; rfl
abbrev pbC (P:Pb):List AV:=pbX P (clA P.cl) (ofA P.of)
section
variable {P:Pb} {c o:AV} {k l:Nat}
@[simp] theorem agP:(pbX P c o).length=20:=by rw[xL]; rfl
theorem ai0 (hc:rf c=true) (ho:rf o=true):(pbX P c o).all rf=true:=by rw[xL]; simp[hc,ho]
@[simp] theorem aau:(pbC P).all rf=true:=ai0 rfl rfl
@[simp] theorem akV:(∀ x,x∈pbC P→rf x=true)=True:=eq_true fun x h=>List.all_eq_true.1 aau x h
@[simp] theorem aav:(pbX P c o).map strip=pbX P (strip c) (strip o):=by rw[xL,xL]; rfl
@[simp] theorem anG:(pbX P c o).map (dg l)=pbX P (dg l c) (dg l o):=by rw[xL,xL]; simp
@[simp] theorem amX:wQ k (pbX P c o)=(zV k c||zV k o):=by rw[xL]; simp[wQ]
@[simp] theorem aka:zK (pbC P) 0 (some 20)=some (.agg (pbC P)):=by rw[rD agP aau,aav]; rfl
@[simp] theorem akb:zK (pbX P c o) 0 (some 6)=some (.agg (bC P.sup)):=by rw[xL,tX]; rfl
@[simp] theorem aj9:zK (pbX P c o) 6 (some 6)=some (.agg (bC P.opn)):=by rw[xL,tX]; rfl
@[simp] theorem aj4:zK (pbX P c o) 12 (some 6)=some (.agg (bC P.cls)):=by rw[xL,tX]; rfl
@[simp] theorem aiY:(pbX P c o)[18]?=some c:=by rw[xL]; rfl
@[simp] theorem aiZ:(pbX P c o)[19]?=some o:=by rw[xL]; rfl
@[simp] theorem alt:zK (pbX P c o) 18 none=some c:=by rw[xL]; rfl
@[simp] theorem alu:zK (pbX P c o) 19 none=some o:=by rw[xL]; rfl
@[simp] theorem amV {h:18<(pbX P c o).length}:(pbX P c o)[18]=c:=by have:=aiY (P:=P) (c:=c) (o:=o); rw[List.getElem?_eq_getElem h] at this; exact Option.some.inj this
@[simp] theorem amW {h:19<(pbX P c o).length}:(pbX P c o)[19]=o:=by have:=aiZ (P:=P) (c:=c) (o:=o); rw[List.getElem?_eq_getElem h] at this; exact Option.some.inj this
theorem vw (h:k<6):zK (pbX P c o) k none=some (iv (P.sup k)):=by
 rw[xL]
 match k,h with
 | 0,_=>rfl
 | 1,_=>rfl
 | 2,_=>rfl
 | 3,_=>rfl
 | 4,_=>rfl
 | 5,_=>rfl
 | n+6,h=>omega
theorem yL (h:k<6):zK (pbX P c o) (6+k) none=some (iv (P.opn k)):=by
 rw[xL]
 match k,h with
 | 0,_=>rfl
 | 1,_=>rfl
 | 2,_=>rfl
 | 3,_=>rfl
 | 4,_=>rfl
 | 5,_=>rfl
 | n+6,h=>omega
theorem yy (h:k<6):zK (pbX P c o) (12+k) none=some (iv (P.cls k)):=by
 rw[xL]
 match k,h with
 | 0,_=>rfl
 | 1,_=>rfl
 | 2,_=>rfl
 | 3,_=>rfl
 | 4,_=>rfl
 | 5,_=>rfl
 | n+6,h=>omega
theorem adM (h:k<6):(pbX P c o)[k]?=some (iv (P.sup k)):=by have:=vw (P:=P) (c:=c) (o:=o) h; simpa [zK] using this
theorem adL (h:k<6):(pbX P c o)[6+k]?=some (iv (P.opn k)):=by have:=yL (P:=P) (c:=c) (o:=o) h; simpa [zK] using this
theorem RB (h:k<6):(pbX P c o)[12+k]?=some (iv (P.cls k)):=by have:=yy (P:=P) (c:=c) (o:=o) h; simpa [zK] using this
@[simp] theorem alK {x:AV}:splice (pbX P c o) 18 [x]=pbX P x o:=by rw[xL,xL]; rfl
@[simp] theorem alL {x:AV}:splice (pbX P c o) 19 [x]=pbX P c x:=by rw[xL,xL]; rfl
end
open Go.Dig Go.LP
def zR (f:Nat→Int) (n:Nat):List (List AV):=mR (fun i=>[iv (f i)]) n
section
variable {f g:Nat→Int} {n i k:Nat} {e:zg}
@[simp] theorem anN:(zR f n).length=n:=Q8
@[simp] theorem am3 {hi:i<(zR f n).length}:(zR f n)[i]=[iv (f i)]:=NA
theorem j5 {x:Int}:(zR f n).set i [iv x]=zR (upd f i x) n:=by
 unfold zR
 rw[AX]
 exact cF fun j _=>by unfold upd; split<;>rfl
theorem R9 (h:∀ i,i<n→f i=g i):zR f n=zR g n:=cF fun i hi=>by rw[h i hi]
theorem PU:List.replicate n [iv 0]=zR (fun _=>0) n:=by
 unfold zR mR
 apply List.ext_getElem
 ·simp
 ·intro i h1 h2
  simp
@[simp] theorem anM:((zR f n).map fun r=>r.map (frz k e))=zR f n:=ZX fun _=>rfl
@[simp] theorem aom:yN k (zR f n)=zR f n:=ZX fun _=>by simp
@[simp] theorem anO:tp k (zR f n)=false:=AW fun _=>by simp
@[simp] theorem aon:wE (zR f n)=true:=JV fun _=>by simp
@[simp] theorem aoo:zZ (zR f n)=zR f n:=ZX fun _=>by simp
theorem ajC:zR f n=clR ((List.range n).map f):=by unfold zR mR clR; rw[List.map_map]; rfl
end
end Go.Proofs.YtpnliopaifpimaaGreat

set_option maxRecDepth 20000
namespace Go.Proofs.YtpnliopaifpimaaGreat
open Go Go.Am Go.Wr Go.Dig
abbrev uq (x:Fr):List UInt8:=mC x.1 x.2.1 x.2.2
theorem S9 {x:Fr} (h:wG x):(uq x).length≤400000000000:=by
 obtain ⟨h1,h2,h3,h4⟩:=h
 have e1:=gx h1 (by omega)
 have e2:=gx h2 (by omega)
 have e3:=ur (x:=if x.1=true then 1 else 0) (by split<;>omega)
 show (mC x.1 x.2.1 x.2.2).length≤_
 unfold mC
 simp only[List.length_append]
 omega
theorem Ui {P:List Fr} (hP:∀ x∈P,wG x):∀ k,k≤P.length→((P.take k).flatMap uq).length≤k*400000000000
 | 0,_=>by simp
 | k+1,h=>by
  have:=Ui hP k (by omega)
  have h2:=S9 (hP _ (List.getElem_mem (show k<P.length by omega)))
  rw[List.take_succ_eq_append_getElem (by omega),List.flatMap_append,List.length_append]
  have e:([P[k]].flatMap uq)=uq P[k]:=by simp
  rw[e]
  omega
noncomputable def N2 (P:List Fr) (k:Nat):St:={env:=[(3,sv (enc P.length++(P.take k).flatMap uq)),(14,.list 3 .plain (wW P)),(15,iv P.length),(16,iv k)],sto:=[]}
theorem air {N:Nz} (hP:∀ x∈N.P,wG x) (hl:N.P.length≤40):ze Tryz.prog x4 [.agg (zc N)] (sv (enc N.P.length++N.P.flatMap uq)):=by
 obtain ⟨K,O,U,I,P⟩:=N
 simp only at hP hl ⊢
 have w0:IntKind.u64.wrap (P.length:Int)=(P.length:Int):=w64 (by omega)
 have hll:=ur (x:=P.length) (by omega)
 refine zn j0 (by simp) ?_
 simp[ru,w0]
 refine zb (nU (x:=P.length) (by omega)) (by simp) (by simp) ?_
 simp
 refine yo (N2 P) P.length (by simp[N2]) (fun k hk=>?_) ?_
 ·have ht:=Ui hP k (Nat.le_of_lt hk)
  have hx:=hP _ (List.getElem_mem hk)
  have hxl:=S9 hx
  have hst:N2 P (k+1)={env:=[(3,sv (enc P.length++((P.take k).flatMap uq++uq P[k]))),(14,.list 3 .plain (wW P)),(15,iv P.length),(16,iv ((k:Int)+1))],sto:=[]}:=by
   rw[N2,List.take_succ_eq_append_getElem hk,List.flatMap_append]
   simp
  have w1:=zl (k:=k) (by omega)
  rw[N2]
  generalize (P.take k).flatMap uq=L at *
  generalize he:P[k]=x at *
  have kl:=aiB (s:=x.1) (m1:=.plain) (m2:=.plain) hx.1 hx.2.1 (by have:=hx.2.2.1; omega) (by have:=hx.2.2.2; omega) rfl rfl
  simp[wR,hk,he]
  refine zb kl (by simp) (by simp) ?_
  have hxl':(mC x.1 x.2.1 x.2.2).length≤400000000000:=hxl
  simp
  rw[s6 (by simp; omega)]
  simp[w1,hst]
 ·rw[N2]
  simp[wR,t6,rE]
end Go.Proofs.YtpnliopaifpimaaGreat

set_option maxRecDepth 20000
namespace Go.Proofs.YtpnliopaifpimaaGreat
open Go Go.Am Go.Wr Go.Dig
theorem aki : uN Tryz.prog x8 "saleroom/prooftree.encode" = some x4 := by kernel_rfl
theorem akk : uN Tryz.prog xU "saleroom/prooftree.encode" = some xN := by kernel_rfl
theorem akj : uN Tryz.prog xm "saleroom/prooftree.encode" = some xw := by kernel_rfl
theorem akD:yv Tryz.prog x4=true:=by kernel_rfl
theorem akF:yv Tryz.prog xN=true:=by kernel_rfl
theorem akE:yv Tryz.prog xw=true:=by kernel_rfl
theorem aj0 {N : Nz} {σ : Nat → Option zg} {K : AV → Option zg → Prop} (hP : ∀ x ∈ N.P, wG x) (hz : okZ N = true) (h : K (sv (encZ N)) none) : tY "saleroom/prooftree.encode" (ofZ N) [] σ K := by
 unfold ofZ
 unfold okZ at hz
 unfold encZ at h
 split at hz
 ·rename_i hk
  simp only[hk,if_true] at h ⊢
  simp only[tY,aki,akD]
  simp only[Bool.and_eq_true,decide_eq_true_eq] at hz
  exact ⟨trivial,zb (air hP hz.1.2) mo (.inl rfl) h⟩
 ·rename_i hk
  simp only[hk,if_false] at h ⊢
  split at hz
  ·rename_i hk
   simp only[hk,if_true] at h ⊢
   simp only[tY,akk,akF]
   simp only[Bool.and_eq_true,decide_eq_true_eq] at hz
   exact ⟨trivial,zb (ait hz.1.1.1 hz.1.1.2 hz.1.2) mo (.inl rfl) h⟩
  ·rename_i hk
   simp only[hk,if_false] at h ⊢
   split at hz
   ·rename_i hk
    simp only[hk,if_true]
    simp only[tY,akj,akE]
    exact ⟨trivial,zb ais mo (.inl rfl) h⟩
   ·cases hz
end Go.Proofs.YtpnliopaifpimaaGreat

set_option maxRecDepth 20000
namespace Go.Wr
abbrev xd (N:Nz):List UInt8:=enc N.K.toNat++encZ N
def sA (T:List Nz):List UInt8:=enc T.length++T.flatMap xd
end Go.Wr
namespace Go.Proofs.YtpnliopaifpimaaGreat
open Go Go.Am Go.Wr Go.Dig
theorem Sv {d l:Nat} {rows:List (List AV)} {b:List UInt8} {s:St} {K:St→Prop}:xb 1 1 s (some d) K [.list 1 (.own l) rows,sv b] =
  (rows.length+b.length≤140737488355328∧rows.length+b.length≤9223372036854775807∧lk s.sto l=none∧K ((s.dg l).put (some d) (.list 1 (.own l) (rows++pV b)))):=by
 simp[xb,xn,str]
theorem Su {d by_:Nat} {b:List UInt8} {s:St} {K:St→Prop}:xb 0 by_ s (some d) K [sv b] =
  (lk s.sto (s.base+d)=none∧K ((s.dg (s.base+d)).put (some d) (.list 1 (.own (s.base+d)) (pV b)))):=by
 simp[xb,str]
theorem SF {sz by_:Nat} {a:Opd} {d:Option Nat} {os:List zi} {s:St} {KS:St→Prop}:zm Tryz.prog (⟨d,.append sz by_,[a],none⟩::os) s KS=xb sz by_ s d (Zh Tryz.prog os KS) [ev s a]:=propext Iff.rfl
theorem B4 {l:Nat} {N:Nz}:dg l (ofZ N)=ofZ N:=by
 unfold ofZ
 split
 ·rfl
 ·split
  ·rfl
  ·split<;>rfl
theorem Gv {k:Nat} {N:Nz}:zV k (ofZ N)=false:=by
 unfold ofZ
 split
 ·simp[zV]
 ·split
  ·simp[zV]
  ·split<;>simp[zV]
abbrev zL (T:List Nz):List (List AV):=T.map zc
def cZ (T:List Nz) (k:Nat):St:={env:=[(4,.list 1 (.own 15) (pV (enc T.length++(T.take k).flatMap xd))),(16,.list 5 .plain (zL T)),(17,iv T.length),(18,iv k)],sto:=[]}
theorem Sx {T:List Nz} {k:Nat} {KK:Exit→St→Prop} (hk:k<T.length) (hP:∀ N∈T,∀ x∈N.P,wG x) (hl:T.length≤65536) (hz:okZ T[k]=true) (hb:(sA T).length≤1000000000000) :
  awp Tryz.prog vf (cZ T k) (aI (cZ T) (k+1) KK):=by
 have hx:=hP _ (List.getElem_mem hk)
 have hpre:(enc T.length++(T.take (k+1)).flatMap xd).length≤1000000000000:=by
  have e:T.flatMap xd=(T.take (k+1)).flatMap xd++(T.drop (k+1)).flatMap xd:=by rw[← List.flatMap_append,List.take_append_drop]
  unfold sA at hb
  rw[e] at hb
  simp only[List.length_append] at hb ⊢
  omega
 have e2:(T.take (k+1)).flatMap xd=(T.take k).flatMap xd++xd T[k]:=by
  rw[List.take_succ_eq_append_getElem hk,List.flatMap_append]
  simp
 have hst:cZ T (k+1)={env:=[(4,.list 1 (.own 15) (pV (enc T.length++((T.take k).flatMap xd++xd T[k])))),(16,.list 5 .plain (zL T)),(17,iv T.length),(18,iv ((k:Int)+1))],sto:=[]}:=by
  rw[cZ,e2]; rfl
 rw[e2] at hpre
 have w1:=zl (k:=k) (by omega)
 rw[cZ]
 generalize (T.take k).flatMap xd=L at *
 generalize he:T[k]=N at *
 have hK:∃ c:Nat,N.K=c∧c≤3:=by
  unfold okZ at hz
  by_cases h1:N.K=1
  ·exact ⟨1,h1,by omega⟩
  ·by_cases h2:N.K=2
   ·exact ⟨2,h2,by omega⟩
   ·by_cases h3:N.K=3
    ·exact ⟨3,h3,by omega⟩
    ·rw[if_neg h1,if_neg h2,if_neg h3] at hz; cases hz
 obtain ⟨c,hc,hc3⟩:=hK
 have wc:IntKind.u64.wrap (c:Int)=(c:Int):=w64 (by omega)
 have hcn:N.K.toNat=c:=by omega
 have hN:xd N=enc c++encZ N:=by show enc N.K.toNat++encZ N=_; rw[hcn]
 rw[hN] at hst hpre
 simp only[List.length_append] at hpre
 simp[vf,hk,he]
 refine zb (J9 (N:=N)) (by simp) (by simp) ?_
 simp[-te,nK]
 refine ae4 hx ?_
 rw[hz]
 simp[-te,hc,wc]
 refine zb (nU (x:=c) (by omega)) (by simp) (by simp) ?_
 simp[-te,nK,YW,Sv,B4,Gv,-List.map_append]
 refine ⟨by omega,by omega,?_⟩
 refine aj0 hx hz ?_
 simp[-te,YW,Sv,B4,w1,hst]
 omega
theorem Ag {T:List Nz} (hP:∀ N∈T,∀ x∈N.P,wG x) (hl:T.length≤65536) (hok:∀ N∈T,okZ N=true) (hb:(sA T).length≤1000000000000):ze Tryz.prog wh [.list 5 .plain (zL T)] (.tuple [sv (sA T),iv 0]):=by
 have hl':¬ (65536:Int)<T.length:=by omega
 have w0:IntKind.u64.wrap (T.length:Int)=(T.length:Int):=w64 (by omega)
 refine zn fV (by simp) ?_
 simp[nA,hl',w0]
 refine zb (nU (x:=T.length) (by omega)) (by simp) (by simp) ?_
 simp[SF,Su]
 refine yo (cZ T) T.length (by simp[cZ]) (fun k hk=>?_) ?_
 ·exact Sx hk hP hl (hok _ (List.getElem_mem hk)) hb
 ·rw[cZ]
  simp[vf,kG,Kb,nO,sA,-List.map_append]
theorem aj1 {T:List Nz} (hP:∀ N∈T,∀ x∈N.P,wG x) (hl:T.length≤65536) (hok:T.all okZ=false) (hb:(sA T).length≤1000000000000):ze Tryz.prog wh [.list 5 .plain (zL T)] (.tuple [sv [],iv 2]):=by
 have hl':¬ (65536:Int)<T.length:=by omega
 have w0:IntKind.u64.wrap (T.length:Int)=(T.length:Int):=w64 (by omega)
 obtain ⟨L,g1,g2,g3⟩:=lD (p:=okZ) (P:=T)
 rcases g3 with ⟨_,g3⟩ | ⟨hL,g3,_⟩
 ·rw[g3] at hok; cases hok
 refine zn fV (by simp) ?_
 simp[nA,hl',w0]
 refine zb (nU (x:=T.length) (by omega)) (by simp) (by simp) ?_
 simp[SF,Su]
 refine yo (cZ T) L (by simp[cZ]) (fun k hk=>?_) ?_
 ·exact Sx (by omega) hP hl (g2 k hk) hb
 ·have hx:=hP _ (List.getElem_mem hL)
  rw[cZ]
  generalize (T.take L).flatMap xd=B at *
  generalize he:T[L]=N at *
  simp[vf,hL,he]
  refine zb (J9 (N:=N)) (by simp) (by simp) ?_
  simp[-te,nK]
  refine ae4 hx ?_
  rw[g3]
  simp[nO,str]
end Go.Proofs.YtpnliopaifpimaaGreat

set_option maxRecDepth 20000
namespace Go.Proofs.YtpnliopaifpimaaGreat
open Go Go.Am Go.Wr Go.Dig Go.Tr Go.LP
def N6 (T:List Nz) (f:Nat→Int) (i:Nat):St:={env:=[(0,.list 5 .plain (zL T)),(3,.sl 21 1 0 T.length),(22,.list 5 .plain (zL T)),(23,iv T.length),(24,iv i)],sto:=[(21,.arr 1 (zR f T.length))]}
def lW (T:List Nz) (i:Nat) (u v:Int) (f:Nat→Int) (q:Nat):St:={env:=[(0,.list 5 .plain (zL T)),(3,.sl 21 1 0 T.length),(22,.list 5 .plain (zL T)),(23,iv T.length),(24,iv i),(4,iv i),(35,.list 1 .full [[iv u],[iv v]]),(36,iv 2),(37,iv q)],sto:=[(21,.arr 1 (zR f T.length))]}
def ae (T:List Nz) (i:Nat) (f:Nat→Int) (x:Int):Prop:=∃ u:Nat,x=u∧i<u∧u<T.length∧f u=0
theorem FP {T:List Nz} {i:Nat} {a b:Int} {f:Nat→Int} {KK:Exit→St→Prop} (hT:T.length≤65536) (hi:i<T.length) (hf:∀ k,0≤f k)
  (bad:(¬ ae T i f a∨∃ u:Nat,a=u∧ae T i f a∧¬ ae T i (upd f u 1) b)→KK .ret {env:=[(2,bv false)],sto:=[]})
  (good:∀ u v:Nat,a=u→b=v→ae T i f a→ae T i (upd f u 1) b→KK (.exit 2) {env:=[(0,.list 5 .plain (zL T)),(3,.sl 21 1 0 T.length),(22,.list 5 .plain (zL T)),(23,iv T.length),(24,iv i),(4,iv i),(35,.list 1 .full [[iv a],[iv b]]),(36,iv 2),(37,iv 2),(38,bv false)],sto:=[(21,.arr 1 (zR (upd (upd f u 1) v 1) T.length))]}) :
  awp Tryz.prog (.loop ya) (lW T i a b f 0) KK:=by
 have w0:=zl (k:=0) (by omega)
 have w1:=zl (k:=1) (by omega)
 simp at w0 w1
 have no:∀ {g:Nat→Int} {x:Int},(∀ k,0≤g k)→¬ ae T i g x→x≤i∨(¬ x≤i∧(T.length:Int)≤x)∨∃ u:Nat,x=u∧¬ (u:Int)≤i∧¬ (T.length:Int)≤u∧0<g u∧u<T.length∧(u:Int)<T.length:=fun {g x} hg h=>by
  by_cases d1:x≤i
  ·exact .inl d1
  ·by_cases d2:(T.length:Int)≤x
   ·exact .inr (.inl ⟨d1,d2⟩)
   ·obtain ⟨u,rfl⟩:∃ u:Nat,x=u:=⟨x.toNat,by omega⟩
    have d3:0<g u:=by
     have h0:=hg u
     by_cases e:g u=0
     ·exact absurd ⟨u,rfl,by omega,by omega,e⟩ h
     ·omega
    exact .inr (.inr ⟨u,rfl,d1,d2,d3,by omega,by omega⟩)
 have q0:∀ (v:Int) (st1:Nat→St) (K2:Exit→St→Prop) (u:Nat),i<u→u<T.length→f u=0→st1 1=lW T i u v (upd f u 1) 1→awp Tryz.prog ya (lW T i u v f 0) (aI st1 1 K2):=fun v st1 K2 u u1 u2 u3 hs=>by
  have u1':¬ (u:Int)≤i:=by omega
  have u2':¬ (T.length:Int)≤u:=by omega
  have u2'':(u:Int)<T.length:=by omega
  have wu:IntKind.i64.wrap 1=1:=by decide
  simp[ya,lW,u1',u2',u2,u2'',u3,w0,hs,splice,j5]
 by_cases c1:ae T i f a
 ·have c1':=c1
  obtain ⟨u,rfl,u1,u2,u3⟩:=c1
  have hf':∀ k,0≤upd f u 1 k:=fun k=>by unfold upd; split; decide; exact hf k
  by_cases c2:ae T i (upd f u 1) b
  ·have c2':=c2
   obtain ⟨v,rfl,v1,v2,v3⟩:=c2
   refine yo (fun q=>lW T i u v (if q=0 then f else if q=1 then upd f u 1 else upd (upd f u 1) v 1) q) 2 (by simp) (fun k hk=>?_) ?_
   ·have:k=0∨k=1:=by omega
    rcases this with rfl | rfl
    ·exact q0 _ _ _ u u1 u2 u3 (by simp)
    ·have v1':¬ (v:Int)≤i:=by omega
     have v2':¬ (T.length:Int)≤v:=by omega
     have v2'':(v:Int)<T.length:=by omega
     simp[ya,lW,v1',v2',v2,v2'',v3,w0,w1,splice,j5]
   ·simp[ya,lW]
    exact good u v rfl rfl c1' c2'
  ·refine yo (fun q=>lW T i u b (if q=0 then f else upd f u 1) q) 1 (by simp) (fun k hk=>?_) ?_
   ·have:k=0:=by omega
    subst this
    exact q0 _ _ _ u u1 u2 u3 (by simp)
   ·have fin:=bad (.inr ⟨u,rfl,c1',c2⟩)
    rcases no hf' c2 with d | ⟨d,d'⟩ | ⟨v,rfl,v1,v2,v3,v4,v5⟩
    ·simp[ya,lW,d]
     exact fin
    ·simp[ya,lW,d,d']
     exact fin
    ·simp[ya,lW,v1,v2,v3,v4,v5]
     exact fin
 ·refine yo (fun q=>lW T i a b f q) 0 rfl (fun k hk=>absurd hk (Nat.not_lt_zero k)) ?_
  have fin:=bad (.inl c1)
  rcases no hf c1 with d | ⟨d,d'⟩ | ⟨v,rfl,v1,v2,v3,v4,v5⟩
  ·simp[ya,lW,d]
   exact fin
  ·simp[ya,lW,d,d']
   exact fin
  ·simp[ya,lW,v1,v2,v3,v4,v5]
   exact fin
end Go.Proofs.YtpnliopaifpimaaGreat

set_option maxRecDepth 20000
namespace Go.Proofs.YtpnliopaifpimaaGreat
open Go Go.Am Go.Wr Go.Dig Go.Tr Go.LP
noncomputable def vN (T:List Nz):Bool:=@decide (yK (ntZ T)) (Classical.propDecidable _)
theorem vO {T:List Nz}:vN T=true↔yK (ntZ T):=by unfold vN; exact @decide_eq_true_iff _ (Classical.propDecidable _)
theorem tM {T:List Nz} (h:¬ yK (ntZ T)):vN T=false:=by
 cases e:vN T with
 | false=>rfl
 | true=>exact absurd (vO.1 e) h
abbrev cR4 (T:List Nz) (i:Nat):Nat→Int:=fun k=>(cnt (ntZ T) i k:Nat)
def GP (T:List Nz) (f:Nat→Int) (k:Nat):St:={env:=[(66,.sl 21 1 1 (T.length-1)),(67,iv (T.length-1:Nat)),(68,iv k)],sto:=[(21,.arr 1 (zR f T.length))]}
theorem FQ {T:List Nz} {i:Nat} {KK:Exit→St→Prop} (hT:T.length≤65536) (hi:i<T.length) (hP:∀ N∈T,∀ x∈N.P,wG x) (hI:Pre (ntZ T) i)
  (bad:vN T=false→KK .ret {env:=[(2,bv false)],sto:=[]}):awp Tryz.prog tv (N6 T (cR4 T i) i) (stepW (fun i=>N6 T (cR4 T i) i) (fun i=>Pre (ntZ T) i) (i+1) KK):=by
 have hx:=hP _ (List.getElem_mem hi)
 have w1:=zl (k:=i) (by omega)
 have hok:=Pd hi
 have hK:=YV hi
 have hU:=Uy hi
 have hIn:=Rw hi
 generalize he:T[i]=N at *
 have hi2:(i:Int)<T.length:=by omega
 simp[tv,N6,hi,he]
 refine zb (J9 (N:=N)) (by simp) (by simp) ?_
 simp[-te,nK,Gv]
 refine ae4 hx ?_
 cases hz:okZ N with
 | false =>
  simp
  exact bad (tM fun h=>by have:=hok.1 (h.ok i hi); rw[hz] at this; cases this)
 | true =>
  simp[-te,nK]
  refine A9 ?_
  unfold Kj
  by_cases hk:N.K=2
  ·rw[if_pos hk]
   rw[hk] at hK
   simp
   refine FP (a:=N.U) (b:=N.I) (f:=cR4 T i) hT hi (fun k=>Int.natCast_nonneg _) (fun h=>?_) (fun u v hu hv hu2 hv2=>?_)
   ·simp
    refine bad (tM ?_)
    rcases h with h | ⟨u,hu,h1,h2⟩
    ·exact Cz hi hK fun u hu a b c=>h ⟨u,by omega,a,b,by show ((cnt (ntZ T) i u:Nat):Int)=0; omega⟩
    ·refine Cy (u:=u) hi hK (by omega) fun v hv a b hne c=>h2 ⟨v,by omega,a,b,?_⟩
     unfold upd
     rw[if_neg hne]
     show ((cnt (ntZ T) i v:Nat):Int)=0
     omega
   ·obtain ⟨u',hu',u1,u2,u3⟩:=hu2
    obtain ⟨v',hv',v1,v2,v3⟩:=hv2
    have e1:u'=u:=by omega
    have e2:v'=v:=by omega
    subst e1 e2
    have hne:u'≠v':=by
     intro e
     subst e
     unfold upd at v3
     rw[if_pos rfl] at v3
     cases v3
    have cu:cnt (ntZ T) i u'=0:=by have:((cnt (ntZ T) i u':Nat):Int)=0:=u3; omega
    have cv:cnt (ntZ T) i v'=0:=by
     unfold upd at v3
     rw[if_neg fun e=>hne e.symm] at v3
     have:((cnt (ntZ T) i v':Nat):Int)=0:=v3
     omega
    have hpre:=CH hI (hok.2 hz) hK (by omega) (by omega) u1 u2 v1 v2 hne cu cv
    have hf:upd (upd (cR4 T i) u' 1) v' 1=cR4 T (i+1):=by
     funext k
     show _=((cnt (ntZ T) (i+1) k:Nat):Int)
     rw[QK hK (by omega) (by omega) hne k,cu,cv]
     unfold upd
     split
     ·rfl
     ·split
      ·rfl
      ·rfl
    simp[qt,w1,hf,hpre]
  ·rw[if_neg hk]
   simp
   refine yo (fun _=>{env:=[(0,.list 5 .plain (zL T)),(3,.sl 21 1 0 T.length),(22,.list 5 .plain (zL T)),(23,iv T.length),(24,iv i),(4,iv i),(35,td),(36,iv 0),(37,iv 0)],sto:=[(21,.arr 1 (zR (cR4 T i) T.length))]}) 0 (by simp) (fun k hk=>absurd hk (Nat.not_lt_zero k)) ?_
   have hK2:(ntZ T).K i≠2:=by rw[hK]; exact hk
   have hpre:=adR hI (hok.2 hz) hK2
   have hf:cR4 T i=cR4 T (i+1):=by
    funext k
    show ((cnt (ntZ T) i k:Nat):Int)=((cnt (ntZ T) (i+1) k:Nat):Int)
    rw[LF hK2]
   simp[ya,qt,w1,hf,hpre]
theorem Rn {T:List Nz} (hP:∀ N∈T,∀ x∈N.P,wG x) (hT:T.length<4611686018427387904):ze Tryz.prog uV [.list 5 .plain (zL T)] (bv (vN T)):=by
 refine zn Te (by simp) ?_
 by_cases h1:T.length<1
 ·have h1':(T.length:Int)<1:=by omega
  have hb:=tM fun h:yK (ntZ T)=>by have:=h.one; rw[ew] at this; omega
  simp[ry,h1',hb,vn]
 have h1':¬ (T.length:Int)<1:=by omega
 by_cases h2:65536<T.length
 ·have h2':(65536:Int)<T.length:=by omega
  have hb:=tM fun h:yK (ntZ T)=>by have:=h.most; rw[ew] at this; omega
  simp[ry,h1',h2',hb,vn]
 have h2':¬ (65536:Int)<T.length:=by omega
 simp[ry,h1',h2',eMk]
 refine ⟨by omega,by omega,?_⟩
 rw[PU,show (fun _=>(0:Int))=cR4 T 0 from rfl]
 refine zw (fun i=>N6 T (cR4 T i) i) (fun i=>Pre (ntZ T) i) T.length (by simp[N6]) adU (fun i hi hI=>FQ (by omega) hi hP hI fun h=>?_) (fun hI=>?_)
 ·simp[h,vn]
 ·have e0:1≤T.length:=by omega
  have e1:((T.length-1:Nat):Int)=(T.length:Int)-1:=by omega
  simp[tv,kL,N6]
  refine ⟨by omega,?_⟩
  refine zw (GP T (cR4 T T.length)) (fun k=>∀ j,1≤j→j<k+1→cnt (ntZ T) T.length j≠0) (T.length-1) (by simp[GP]) (fun j h1 h2=>by omega) (fun k hk hJ=>?_) (fun hJ=>?_)
  ·have w1:=zl (k:=k) (by omega)
   have hk1:1+k<T.length:=by omega
   have hk2:(k:Int)<((T.length-1:Nat):Int):=by omega
   obtain ⟨c,hc⟩:∃ c,cnt (ntZ T) T.length (1+k)=c:=⟨_,rfl⟩
   by_cases h0:c=0
   ·subst h0
    have hb:=tM (T:=T) (Ux (k:=1+k) (by omega) (by show 1+k<T.length; omega) (by show cnt (ntZ T) T.length (1+k)≠1; omega))
    simp[tw,GP,hk2,hk1,hc,hb,vn]
   ·have h0':¬ (c:Int)=0:=by omega
    simp[tw,GP,hk2,hk1,hc,h0,w1]
    intro j a b
    by_cases e:j=1+k
    ·subst e; omega
    ·exact hJ j a (by omega)
  ·have hb:vN T=true:=vO.2 (adT hI e0 (by show T.length≤65536; omega) fun k a b=>hJ k a (by have:k<T.length:=b; omega))
   simp[tw,GP,kK,hb,vn]
end Go.Proofs.YtpnliopaifpimaaGreat

set_option maxRecDepth 20000
namespace Go.Proofs.YtpnliopaifpimaaGreat
open Go Go.Am Go.Wr Go.Dig Go.Tr Go.LP
def UY (T:List Nz) (i k:Nat):St:={env:=[(0,.list 5 .plain (zL T)),(1,iv i),(6,iv (cnt (ntZ T) k i:Nat)),(7,iv (par (ntZ T) k i)),(8,iv k)],sto:=[]}
theorem UC {T:List Nz} {i:Nat} (hT:T.length≤65536):ze Tryz.prog rq [.list 5 .plain (zL T),iv i] (.tuple [iv (cnt (ntZ T) T.length i:Nat),iv (par (ntZ T) T.length i)]):=by
 refine zn PN (by simp) ?_
 simp[bS]
 refine zw (UY T i) (fun k=>cnt (ntZ T) k i≤2*k) T.length (by simp[UY,cnt,par]) (by simp[cnt]) (fun k hk hI=>?_) (fun _=>?_)
 ·have w1:=zl (k:=k) (by omega)
  have hk2:(k:Int)<T.length:=by omega
  have hK:=YV hk
  have hU:=Uy hk
  have hIn:=Rw hk
  have e1:cnt (ntZ T) (k+1) i=cnt (ntZ T) k i+kid (ntZ T) k i:=rfl
  have e2:par (ntZ T) (k+1) i=if kid (ntZ T) k i=0 then par (ntZ T) k i else k:=rfl
  have e3:kid (ntZ T) k i=if (ntZ T).K k=2 then (if (ntZ T).U k=i then 1 else 0)+(if (ntZ T).I k=i then 1 else 0) else 0:=rfl
  rw[hK,hU,hIn] at e3
  have hI2:cnt (ntZ T) (k+1) i≤2*(k+1):=by
   rw[e1,e3]
   split
   ·split<;>split<;>omega
   ·omega
  have wc:=zl (k:=cnt (ntZ T) k i) (by omega)
  have wc2:IntKind.i64.wrap ((cnt (ntZ T) k i:Int)+1+1)=(cnt (ntZ T) k i:Int)+2:=by rw[wrap64]<;>omega
  rw[e3] at e1 e2
  generalize he:T[k]=N at *
  by_cases h1:N.K=2
  ·by_cases h2:N.U=i
   ·by_cases h3:N.I=i
    ·simp[h1,h2,h3] at e1 e2
     simp[wm,UY,hk,hk2,he,h1,h2,h3,w1,wc,wc2,e1,e2]
     omega
    ·simp[h1,h2,h3] at e1 e2
     simp[wm,UY,hk,hk2,he,h1,h2,h3,w1,wc,e1,e2]
     omega
   ·by_cases h3:N.I=i
    ·simp[h1,h2,h3] at e1 e2
     simp[wm,UY,hk,hk2,he,h1,h2,h3,w1,wc,e1,e2]
     omega
    ·simp[h1,h2,h3] at e1 e2
     simp[wm,UY,hk,hk2,he,h1,h2,h3,w1,e1,e2]
     omega
  ·simp[h1] at e1 e2
   simp[wm,UY,hk,hk2,he,h1,w1,e1,e2]
   omega
 ·simp[wm,fE,UY,aw]
end Go.Proofs.YtpnliopaifpimaaGreat

set_option maxRecDepth 20000
namespace Go.Proofs.YtpnliopaifpimaaGreat
open Go Go.Am Go.Wr Go.Dig Go.Tr Go.LP
def Xk (T:List Nz) (k:Nat):St:={env:=[(0,.list 5 .plain (zL T)),(3,iv k)],sto:=[]}
def Mc (T:List Nz) (k:Nat):St:={env:=[(0,.list 5 .plain (zL T)),(4,iv ((k+1:Nat):Int))],sto:=[]}
theorem CT {T:List Nz} {i:Nat} {KK:Exit→St→Prop} (hT:T.length≤65536) (hi:i<T.length) (hP:∀ N∈T,∀ x∈N.P,wG x) (hI:∀ j,j<i→okN (ntZ T) j∧aW (ntZ T) j)
  (bad:vN T=false→KK .ret {env:=[(2,bv false)],sto:=[]}):awp Tryz.prog rz (Xk T i) (stepW (Xk T) (fun i=>∀ j,j<i→okN (ntZ T) j∧aW (ntZ T) j) (i+1) KK):=by
 have hx:=hP _ (List.getElem_mem hi)
 have w1:=zl (k:=i) (by omega)
 have hok:=Pd hi
 have hK:=YV hi
 have hU:=Uy hi
 have hIn:=Rw hi
 have hbr:aW (ntZ T) i↔((ntZ T).K i=2→(i:Int)<(ntZ T).U i∧(ntZ T).U i<T.length∧(i:Int)<(ntZ T).I i∧(ntZ T).I i<T.length∧(ntZ T).U i≠(ntZ T).I i):=Iff.rfl
 rw[hK,hU,hIn] at hbr
 generalize he:T[i]=N at *
 have hi2:(i:Int)<T.length:=by omega
 have kf:=Re (N:=N) hx
 simp[rz,Xk,hi,hi2,he]
 refine zb kf (by simp) (by simp) ?_
 cases hz:okZ N with
 | false =>
  simp
  exact bad (tM fun h=>by have:=hok.1 (h.ok i hi); rw[hz] at this; cases this)
 | true =>
  have next:aW (ntZ T) i→∀ j,j<i+1→okN (ntZ T) j∧aW (ntZ T) j:=fun h j hj=>by
   by_cases e:j=i
   ·subst e; exact ⟨hok.2 hz,h⟩
   ·exact hI j (by omega)
  have no:¬ aW (ntZ T) i→KK .ret {env:=[(2,bv false)],sto:=[]}:=fun h=>bad (tM fun ht=>h (ht.br i hi))
  by_cases hk:N.K=2
  ·by_cases b1:N.U≤i
   ·have:=no fun h=>by have:=hbr.1 h hk; omega
    simp[hi,hi2,he,hk,b1]
    exact this
   ·by_cases b2:N.I≤i
    ·have:=no fun h=>by have:=hbr.1 h hk; omega
     simp[hi,hi2,he,hk,b1,b2]
     exact this
    ·by_cases b3:(T.length:Int)≤N.U
     ·have:=no fun h=>by have:=hbr.1 h hk; omega
      simp[hi,hi2,he,hk,b1,b2,b3]
      exact this
     ·by_cases b4:(T.length:Int)≤N.I
      ·have:=no fun h=>by have:=hbr.1 h hk; omega
       simp[hi,hi2,he,hk,b1,b2,b3,b4]
       exact this
      ·by_cases b5:N.U=N.I
       ·have:=no fun h=>by have:=hbr.1 h hk; omega
        rw[b5] at b1 b3
        simp[hi,hi2,he,hk,b1,b3,b5]
        exact this
       ·have hb:=next (hbr.2 fun _=>⟨by omega,by omega,by omega,by omega,b5⟩)
        simp[hi,hi2,he,hk,b1,b2,b3,b4,b5,w1,Xk]
        exact hb
  ·have hb:=next (hbr.2 fun h=>absurd h hk)
   simp[hi,hi2,he,hk,w1,Xk]
   exact hb
theorem NU {T:List Nz} (hP:∀ N∈T,∀ x∈N.P,wG x) (hT:T.length<4611686018427387904):ze Tryz.prog nn [.list 5 .plain (zL T)] (bv (vN T)):=by
 refine zn Fa (by simp) ?_
 by_cases h1:T.length<1
 ·have h1':(T.length:Int)<1:=by omega
  have hb:=tM fun h:yK (ntZ T)=>by have:=h.one; rw[ew] at this; omega
  simp[jB,h1',hb,qJ]
 have h1':¬ (T.length:Int)<1:=by omega
 by_cases h2:65536<T.length
 ·have h2':(65536:Int)<T.length:=by omega
  have hb:=tM fun h:yK (ntZ T)=>by have:=h.most; rw[ew] at this; omega
  simp[jB,h1',h2',hb,qJ]
 have h2':¬ (65536:Int)<T.length:=by omega
 simp[jB,h1',h2']
 refine zw (Xk T) (fun i=>∀ j,j<i→okN (ntZ T) j∧aW (ntZ T) j) T.length (by simp[Xk]) (fun j hj=>absurd hj (Nat.not_lt_zero j)) (fun i hi hI=>CT (by omega) hi hP hI fun h=>?_) (fun hI=>?_)
 ·simp[h,qJ]
 ·have key:∀ K:Exit→St→Prop,K (.exit 0) {env:=[(0,.list 5 .plain (zL T)),(3,iv T.length),(18,bv false)],sto:=[]}→awp Tryz.prog rz (Xk T T.length) (uK K):=by
   intro K h
   simp[rz,Xk]
   exact h
  refine key _ ?_
  simp[bR]
  refine zw (Mc T) (fun k=>∀ j,1≤j→j<k+1→cnt (ntZ T) T.length j=1) (T.length-1) (by simp[Mc]) (fun j h1 h2=>by omega) (fun k hk hJ=>?_) (fun hJ=>?_)
  ·have w1:=zl (k:=k+1) (by omega)
   have hk1:((k+1:Nat):Int)<T.length:=by omega
   have kp:=UC (T:=T) (i:=k+1) (by omega)
   have hno:cnt (ntZ T) T.length (k+1)≠1→vN T=false:=fun h=>tM (T:=T) (Ux (k:=k+1) (by omega) (by show k+1<T.length; omega) h)
   have hJ2:cnt (ntZ T) T.length (k+1)=1→∀ j,1≤j→j<k+1+1→cnt (ntZ T) T.length j=1:=fun h j a b=>by
    by_cases e:j=k+1
    ·subst e; exact h
    ·exact hJ j a (by omega)
   have hst:Mc T (k+1)={env:=[(0,.list 5 .plain (zL T)),(4,iv (((k+1:Nat):Int)+1))],sto:=[]}:=by rw[Mc]; rfl
   rw[Mc]
   generalize k+1=q at *
   obtain ⟨c,hc⟩:∃ c,cnt (ntZ T) T.length q=c:=⟨_,rfl⟩
   rw[hc] at kp hno hJ2
   simp[jC,hk1]
   refine zb kp (by simp) (by simp) ?_
   by_cases h0:c=1
   ·subst h0
    simp[w1,hst]
    exact hJ2 rfl
   ·have h0':¬ (c:Int)=1:=by omega
    rw[hno h0]
    simp[h0',qJ]
  ·have hb:vN T=true:=vO.2 ⟨by show 1≤T.length; omega,by show T.length≤65536; omega,fun i hi=>(hI i hi).1,fun i hi=>(hI i hi).2,fun k a b=>hJ k a (by have:k<T.length:=b; omega)⟩
   have e1:((T.length-1+1:Nat):Int)=T.length:=by omega
   rw[Mc,e1]
   simp[jC,bQ,hb,qJ]
end Go.Proofs.YtpnliopaifpimaaGreat

set_option maxRecDepth 20000
namespace Go.Proofs.YtpnliopaifpimaaGreat
open Go Go.Am Go.Wr Go.Dig Go.Tr Go.LP
noncomputable def dx (T:List Nz):Nat:=if vN T=true then lvs (ntZ T) T.length else 0
def GQ (T:List Nz) (k:Nat):St:={env:=[(3,iv (lvs (ntZ T) k)),(9,.list 5 .plain (zL T)),(10,iv T.length),(11,iv k)],sto:=[]}
def c6 (T:List Nz) (k:Nat):St:={env:=[(0,.list 5 .plain (zL T)),(3,iv (lvs (ntZ T) k)),(4,iv k)],sto:=[]}
theorem De {T:List Nz} {k:Nat} (hk:k<T.length) (h:T[k].K=2):lvs (ntZ T) (k+1)=lvs (ntZ T) k:=by simp only[lvs]; rw[YV hk,if_pos h]
theorem Dd {T:List Nz} {k:Nat} (hk:k<T.length) (h:¬ T[k].K=2):lvs (ntZ T) (k+1)=lvs (ntZ T) k+1:=by simp only[lvs]; rw[YV hk,if_neg h]
theorem JM {T:List Nz} (hP:∀ N∈T,∀ x∈N.P,wG x) (hT:T.length<4611686018427387904):ze Tryz.prog rp [.list 5 .plain (zL T)] (iv (dx T)):=by
 refine zn Tc (by simp) ?_
 simp[fB]
 refine zb (Rn hP hT) (by simp) (by simp) ?_
 unfold dx
 cases hb:vN T with
 | false=>simp[nP]
 | true =>
  have ht:=(vO.1 hb).most
  rw[ew] at ht
  simp
  refine yo (GQ T) T.length (by simp[GQ,lvs]) (fun k hk=>?_) ?_
  ·have w1:=zl (k:=k) (by omega)
   have hl:=JT (T:=ntZ T) k
   have wc:=zl (k:=lvs (ntZ T) k) (by omega)
   by_cases h:T[k].K=2
   ·have e:=De hk h
    simp[tu,GQ,hk,h,w1,e]
   ·have e:=Dd hk h
    simp[tu,GQ,hk,h,w1,wc,e]
  ·simp[tu,kH,GQ,nP]
theorem aaK {T:List Nz} (hP:∀ N∈T,∀ x∈N.P,wG x) (hT:T.length<4611686018427387904):ze Tryz.prog gl [.list 5 .plain (zL T)] (iv (dx T)):=by
 have kt:=NU hP hT
 refine zn Mz (by simp) ?_
 simp[ZJ]
 unfold dx
 cases hb:vN T with
 | false =>
  rw[hb] at kt
  refine yo (c6 T) 0 (by simp[c6,lvs]) (fun k hk=>absurd hk (Nat.not_lt_zero k)) ?_
  by_cases h0:T.length=0
  ·simp[vR,r8,c6,h0,ml,lvs]
  ·have h0':0<T.length:=by omega
   simp[vR,c6,h0']
   refine zb kt (by simp) (by simp) ?_
   simp[r8,ml,lvs]
 | true =>
  rw[hb] at kt
  have ht:=(vO.1 hb).most
  rw[ew] at ht
  refine yo (c6 T) T.length (by simp[c6,lvs]) (fun k hk=>?_) ?_
  ·have w1:=zl (k:=k) (by omega)
   have hl:=JT (T:=ntZ T) k
   have wc:=zl (k:=lvs (ntZ T) k) (by omega)
   have hk2:(k:Int)<T.length:=by omega
   by_cases h:T[k].K=2
   ·have e:=De hk h
    simp[vR,c6,hk2]
    refine zb kt (by simp) (by simp) ?_
    simp[hk,hk2,h,w1,e,c6]
   ·have e:=Dd hk h
    simp[vR,c6,hk2]
    refine zb kt (by simp) (by simp) ?_
    simp[hk,hk2,h,w1,wc,e,c6]
  ·simp[vR,r8,c6,ml]
end Go.Proofs.YtpnliopaifpimaaGreat

set_option maxRecDepth 20000
namespace Go.Proofs.YtpnliopaifpimaaGreat
open Go Go.Am Go.Wr Go.Dig Go.Tr Go.LP
noncomputable def fG (T:List Nz):Nat:=if vN T=true then mst (ntZ T) T.length else 0
noncomputable def RT (T:List Nz) (i:Nat):St:={env:=[(3,.sl 14 1 0 T.length),(4,iv (mst (ntZ T) i)),(15,.list 5 .plain (zL T)),(16,iv T.length),(17,iv i)],sto:=[(14,.arr 1 (zR (rR (ntZ T) i) T.length))]}
def GM (T:List Nz) (i:Nat) (M:Int) (u v:Int) (f:Nat→Int) (q:Nat):St:={env:=[(3,.sl 14 1 0 T.length),(4,iv M),(15,.list 5 .plain (zL T)),(16,iv T.length),(17,iv i),(5,iv i),(36,.list 1 .full [[iv u],[iv v]]),(37,iv 2),(38,iv q)],sto:=[(14,.arr 1 (zR f T.length))]}
theorem Nb {T:List Nz} (hP:∀ N∈T,∀ x∈N.P,wG x) (hT:T.length<4611686018427387904):ze Tryz.prog tN [.list 5 .plain (zL T)] (iv (fG T)):=by
 refine zn Se (by simp) ?_
 simp[eD]
 refine zb (Rn hP hT) (by simp) (by simp) ?_
 unfold fG
 cases hb:vN T with
 | false=>simp[mD]
 | true =>
  have hTr:=vO.1 hb
  have ht:=hTr.most
  rw[ew] at ht
  simp[eMk]
  refine ⟨by omega,by omega,?_⟩
  have e0:zR (fun _=>0) T.length=zR (rR (ntZ T) 0) T.length:=R9 fun k hk=>(B2 hTr hk).symm
  rw[PU,e0]
  refine zw (RT T) (fun _=>True) T.length (by simp[RT,mst]) trivial (fun i hi _=>?_) (fun _=>?_)
  ·have w1:=zl (k:=i) (by omega)
   have hi2:(i:Int)<T.length:=by omega
   have hK:=YV hi
   have hU:=Uy hi
   have hIn:=Rw hi
   have hat:=afJ hTr (i:=i) hi
   have hdl:=K5 hTr i hi
   have hml:=J0 hTr i (Nat.le_of_lt hi)
   have hpos:=ZN (T:=ntZ T) (i:=i)
   have hm:mst (ntZ T) (i+1)=max (mst (ntZ T) i) (dep (ntZ T) i):=rfl
   have wd:IntKind.i64.wrap (dep (ntZ T) i:Int)=dep (ntZ T) i:=by rw[wrap64]<;>omega
   have uu:upd (rR (ntZ T) i) i (dep (ntZ T) i:Int) i=dep (ntZ T) i:=by simp[upd]
   have hleaf:¬ (ntZ T).K i=2→zR (upd (rR (ntZ T) i) i (dep (ntZ T) i)) T.length=zR (rR (ntZ T) (i+1)) T.length:=fun h=>R9 fun k hk=>by
    rw[Na hTr hi h hk]; rfl
   have hbranch:∀ u v:Nat,(ntZ T).K i=2→(ntZ T).U i=u→(ntZ T).I i=v→zR (upd (upd (upd (rR (ntZ T) i) i (dep (ntZ T) i)) u (dep (ntZ T) i)) v (dep (ntZ T) i)) T.length=zR (rR (ntZ T) (i+1)) T.length:=fun u v h a b=>R9 fun k hk=>by
    rw[S6 hTr hi h a b hk]; rfl
   have hkids:(ntZ T).K i=2→∃ u v:Nat,(ntZ T).U i=u∧(ntZ T).I i=v∧i<u∧u<T.length∧i<v∧v<T.length:=fun h=>by
    obtain ⟨u,v,a,b,c,d,e,f,_⟩:=T7 hTr hi h
    exact ⟨u,v,a,b,c,d,e,f⟩
   obtain ⟨d,hd⟩:∃ d,dep (ntZ T) i=d:=⟨_,rfl⟩
   obtain ⟨M,hM⟩:∃ M,mst (ntZ T) i=M:=⟨_,rfl⟩
   rw[hd] at hat hdl hpos hm wd hleaf hbranch
   rw[hM] at hml hm
   obtain ⟨f,hf⟩:∃ f,rR (ntZ T) i=f:=⟨_,rfl⟩
   rw[hf] at hat hleaf hbranch
   have hmx:max (M:Int) (d:Int)=((max M d:Nat):Int):=by omega
   generalize he:T[i]=N at *
   have hst:RT T i={env:=[(3,.sl 14 1 0 T.length),(4,iv M),(15,.list 5 .plain (zL T)),(16,iv T.length),(17,iv i)],sto:=[(14,.arr 1 (zR f T.length))]}:=by rw[RT,hM,hf]
   have hst2:RT T (i+1)={env:=[(3,.sl 14 1 0 T.length),(4,iv (max M d:Nat)),(15,.list 5 .plain (zL T)),(16,iv T.length),(17,iv ((i:Int)+1))],sto:=[(14,.arr 1 (zR (rR (ntZ T) (i+1)) T.length))]}:=by rw[RT,hm]; rfl
   rw[hst]
   have ud:upd f i (d:Int) i=d:=by simp[upd]
   simp[qT,hi,hi2,he,hat,wd,splice,j5,ud,hmx]
   refine zb (J9 (N:=N)) (by simp) (by simp) ?_
   simp[-te,nK]
   refine A9 ?_
   unfold Kj
   by_cases hk:N.K=2
   ·rw[if_pos hk]
    rw[hk] at hK
    obtain ⟨u,v,hu,hv,u1,u2,v1,v2⟩:=hkids hK
    have hb2:=hbranch u v hK hu hv
    rw[hU] at hu
    rw[hIn] at hv
    rw[hu,hv]
    have u2':(u:Int)<T.length:=by omega
    have v2':(v:Int)<T.length:=by omega
    have k0:=zl (k:=0) (by omega)
    have k1:=zl (k:=1) (by omega)
    simp at k0 k1
    generalize hg:upd f i (d:Int)=g at *
    have ug:upd g u (d:Int) i=d:=by unfold upd; rw[if_neg (by omega)]; exact ud
    simp
    refine yo (fun q=>GM T i (max M d:Nat) u v (if q=0 then g else if q=1 then upd g u d else upd (upd g u d) v d) q) 2 (by simp[GM]) (fun q hq=>?_) ?_
    ·have:q=0∨q=1:=by omega
     rcases this with rfl | rfl
     ·simp[vD,GM,u2,u2',hi,hi2,k0,ud,splice,j5]
     ·simp[vD,GM,v2,v2',hi,hi2,k1,ug,splice,j5]
    ·simp[vD,GM,qS,w1,hb2,hst2]
   ·rw[if_neg hk]
    have hK2:¬ (ntZ T).K i=2:=by rw[hK]; exact hk
    have hl:=hleaf hK2
    generalize hg:upd f i (d:Int)=g at *
    simp
    refine yo (fun _=>{env:=[(3,.sl 14 1 0 T.length),(4,iv (max M d:Nat)),(15,.list 5 .plain (zL T)),(16,iv T.length),(17,iv i),(5,iv i),(36,td),(37,iv 0),(38,iv 0)],sto:=[(14,.arr 1 (zR g T.length))]}) 0 (by simp) (fun k hk=>absurd hk (Nat.not_lt_zero k)) ?_
    simp[vD,qS,w1,hl,hst2]
  ·simp[qT,jy,RT,mD]
end Go.Proofs.YtpnliopaifpimaaGreat

set_option maxRecDepth 20000
namespace Go.Proofs.YtpnliopaifpimaaGreat
open Go Go.Am Go.Wr Go.Dig Go.Tr Go.LP
def Zn (T:List Nz) (i:Nat):St:={env:=[(0,.list 5 .plain (zL T)),(3,iv (mst (ntZ T) i)),(4,iv i)],sto:=[]}
def Ma (T:List Nz) (M:Int) (i q:Nat):St:={env:=[(0,.list 5 .plain (zL T)),(3,iv M),(4,iv i),(5,iv ((q+1:Nat):Int)),(6,iv (anc (ntZ T) i q))],sto:=[]}
theorem adZ {T:List Nz} (hP:∀ N∈T,∀ x∈N.P,wG x) (hT:T.length<4611686018427387904):ze Tryz.prog f5 [.list 5 .plain (zL T)] (iv (fG T)):=by
 have kt:=NU hP hT
 refine zn LZ (by simp) ?_
 simp[XC]
 unfold fG
 cases hb:vN T with
 | false =>
  rw[hb] at kt
  refine yo (Zn T) 0 (by simp[Zn,mst]) (fun k hk=>absurd hk (Nat.not_lt_zero k)) ?_
  by_cases h0:T.length=0
  ·simp[sx,qX,Zn,h0,lj,mst]
  ·have h0':0<T.length:=by omega
   simp[sx,Zn,h0']
   refine zb kt (by simp) (by simp) ?_
   simp[qX,lj,mst]
 | true =>
  rw[hb] at kt
  have hTr:=vO.1 hb
  have ht:=hTr.most
  rw[ew] at ht
  refine zw (Zn T) (fun _=>True) T.length (by simp[Zn,mst]) trivial (fun i hi _=>?_) (fun _=>?_)
  ·have w1:=zl (k:=i) (by omega)
   have hi2:(i:Int)<T.length:=by omega
   have hdl:=K5 hTr i hi
   have hml:=J0 hTr i (Nat.le_of_lt hi)
   have hpos:=ZN (T:=ntZ T) (i:=i)
   have hm:mst (ntZ T) (i+1)=max (mst (ntZ T) i) (dep (ntZ T) i):=rfl
   obtain ⟨d,hd⟩:∃ d,dep (ntZ T) i=d:=⟨_,rfl⟩
   obtain ⟨M,hM⟩:∃ M,mst (ntZ T) i=M:=⟨_,rfl⟩
   rw[hd] at hdl hpos hm
   rw[hM] at hml hm
   have hmx:max (M:Int) (d:Int)=((max M d:Nat):Int):=by omega
   have hst2:Zn T (i+1)={env:=[(0,.list 5 .plain (zL T)),(3,iv (max M d:Nat)),(4,iv ((i:Int)+1))],sto:=[]}:=by rw[Zn,hm]; rfl
   rw[Zn,hM]
   simp[sx,hi2]
   refine zb kt (by simp) (by simp) ?_
   simp
   refine yo (Ma T M i) (d-1) (by simp[Ma,anc]) (fun q hq=>?_) ?_
   ·obtain ⟨p1,p2⟩:=ZB (j:=q) hTr hi (by omega)
    have kp:=UC (T:=T) (i:=anc (ntZ T) i q) (by omega)
    have hp:par (ntZ T) T.length (anc (ntZ T) i q)=(anc (ntZ T) i (q+1):Nat):=by
     obtain ⟨j,h1,_⟩:=xv hTr p1 p2
     have h1':par (ntZ T) T.length (anc (ntZ T) i q)=j:=h1
     show _=(((par (ntZ T) T.length (anc (ntZ T) i q)).toNat:Nat):Int)
     rw[h1']; rfl
    rw[hp] at kp
    have w2:=zl (k:=q+1) (by omega)
    have hst:Ma T M i (q+1)={env:=[(0,.list 5 .plain (zL T)),(3,iv M),(4,iv i),(5,iv (((q+1:Nat):Int)+1)),(6,iv (anc (ntZ T) i (q+1)))],sto:=[]}:=by rw[Ma]; rfl
    rw[Ma]
    generalize hA:anc (ntZ T) i q=A at *
    generalize hA2:anc (ntZ T) i (q+1)=A2 at *
    have hA0:0<A:=by omega
    generalize q+1=q1 at *
    simp[lI,hA0]
    refine zb kp (by simp) (by simp) ?_
    simp[w2,hst]
   ·have h0:=Yi (j:=d-1) hTr hi (by omega)
    have e1:d-1+1=d:=by omega
    rw[Ma,h0,e1]
    simp[lI,ce,cf,w1,hmx,hst2]
  ·simp[sx,qX,Zn,lj]
structure RF where
 s:Bool
 a:List Nat
 c:List Nat
def RF.fine (x:RF):Prop:=ok x.a∧ok x.c∧x.a.length<17179869184∧x.c.length<17179869184
def RF.v (x:RF):Bool:=vfr x.s x.a x.c
def RF.of (q:Rat):RF:=⟨decide (q.num<0),zh q.num.natAbs,zh q.den⟩
noncomputable def h0 (x:RF):AV:=Classical.choose (lc (bv x.s))
noncomputable def h1 (x:RF):AV:=Classical.choose (lc (nl .plain x.a))
noncomputable def h2 (x:RF):AV:=Classical.choose (lc (nl .plain x.c))
theorem jJ (x:RF):h0 x=bv x.s:=Classical.choose_spec (lc _)
theorem eZ (x:RF):h1 x=nl .plain x.a:=Classical.choose_spec (lc _)
theorem da (x:RF):h2 x=nl .plain x.c:=Classical.choose_spec (lc _)
noncomputable def hr (x:RF):List AV:=[h0 x,h1 x,h2 x]
@[simp] theorem amT (x:RF):[h0 x,h1 x,h2 x]=hr x:=rfl
noncomputable abbrev hq (x:RF):AV:=.agg (hr x)
theorem akc (q:Rat):h0 (RF.of q)=f0 q:=by rw[jJ,eU]; rfl
theorem akd (q:Rat):h1 (RF.of q)=f1 q:=by rw[eZ,eV]; rfl
theorem ake (q:Rat):h2 (RF.of q)=f2 q:=by rw[da,eW]; rfl
theorem Kc (q:Rat):hr (RF.of q)=fr q:=by unfold hr fr; rw[akc,akd,ake]
theorem mh (x:RF):hr x=[bv x.s,nl .plain x.a,nl .plain x.c]:=by unfold hr; rw[jJ,eZ,da]
section
variable {x:RF} {l k a b M:Nat} {e:zg}
@[simp] theorem an4:rf (h0 x)=true:=by rw[jJ]; rfl
@[simp] theorem ame:strip (h0 x)=h0 x:=by rw[jJ]; rfl
@[simp] theorem an3:dg l (h0 x)=h0 x:=by rw[jJ]; simp
@[simp] theorem anq:frz l e (h0 x)=h0 x:=by rw[jJ]; rfl
@[simp] theorem anr:Am.low M (h0 x)=true:=by rw[jJ]; rfl
@[simp] theorem amP:zV k (h0 x)=false:=by rw[jJ]; rfl
@[simp] theorem ans:l0 k (h0 x)=false:=by rw[jJ]; rfl
@[simp] theorem an6:rf (h1 x)=true:=by rw[eZ]; rfl
@[simp] theorem amf:strip (h1 x)=h1 x:=by rw[eZ]; rfl
@[simp] theorem an5:dg l (h1 x)=h1 x:=by rw[eZ]; simp
@[simp] theorem ant:frz l e (h1 x)=h1 x:=by rw[eZ]; rfl
@[simp] theorem anu:Am.low M (h1 x)=true:=by rw[eZ]; rfl
@[simp] theorem amQ:zV k (h1 x)=false:=by rw[eZ]; rfl
@[simp] theorem anv:l0 k (h1 x)=false:=by rw[eZ]; rfl
@[simp] theorem an8:rf (h2 x)=true:=by rw[da]; rfl
@[simp] theorem amg:strip (h2 x)=h2 x:=by rw[da]; rfl
@[simp] theorem an7:dg l (h2 x)=h2 x:=by rw[da]; simp
@[simp] theorem anw:frz l e (h2 x)=h2 x:=by rw[da]; rfl
@[simp] theorem anx:Am.low M (h2 x)=true:=by rw[da]; rfl
@[simp] theorem amR:zV k (h2 x)=false:=by rw[da]; rfl
@[simp] theorem anz:l0 k (h2 x)=false:=by rw[da]; rfl
@[simp] theorem aiJ:(hr x).length=3:=by simp[mh]
@[simp] theorem akf:(hr x).all rf=true:=by rw[mh]; simp
@[simp] theorem acS:(hr x).map strip=hr x:=by rw[mh]; simp
@[simp] theorem aoe:(hr x).map (dg l)=hr x:=by rw[mh]; simp
@[simp] theorem anB:wQ k (hr x)=false:=by rw[mh]; simp
@[simp] theorem alz:zK (hr x) 0 (some 3)=some (hq x):=by rw[rD aiJ akf,acS]
@[simp] theorem ajH {y:AV}:zK (y::hr x) 1 (some 3)=some (hq x):=by
 simp only[zK,hr,List.length_cons,List.length_nil,List.drop_succ_cons,List.drop_zero,List.take]
 simp
@[simp] theorem alP {y z w:AV}:splice [y,z,w] 0 (hr x)=hr x:=by rw[mh]; simp[splice]
end
theorem af7 {x:RF} (h:x.fine):ze Tryz.prog l9 [hq x] (bv x.v):=by
 unfold hq; rw[mh]; exact dj h.1 h.2.1 h.2.2.1 h.2.2.2 rfl rfl
theorem acQ {x:RF} (h:x.fine):ze Tryz.prog fp [hq x] (bv x.v):=by
 unfold hq; rw[mh]; exact Xq h.1 h.2.1 h.2.2.1 h.2.2.2 rfl rfl
noncomputable def hR (f:Nat→RF) (n:Nat):List (List AV):=mR (fun j=>hr (f j)) n
noncomputable abbrev hL (f:Nat→RF) (n:Nat):AV:=.list 3 .plain (hR f n)
section
variable {f:Nat→RF} {n i k:Nat}
@[simp] theorem anA:(hR f n).length=n:=Q8
@[simp] theorem amS {hi:i<(hR f n).length}:(hR f n)[i]=hr (f i):=NA
@[simp] theorem an9:wE (hR f n)=true:=JV fun _=>by simp
@[simp] theorem aoa:zZ (hR f n)=hR f n:=ZX fun _=>by simp
theorem ae8 {g:Nat→Rat} (h:∀ j,j<n→f j=RF.of (g j)):hR f n=fR g n:=cF fun j hj=>by rw[h j hj,Kc]
end
@[simp] theorem aos {x:RF}:(hr x)[0]?=some (h0 x):=rfl
@[simp] theorem aot {x:RF}:(hr x)[1]?=some (h1 x):=rfl
@[simp] theorem aou {x:RF}:(hr x)[2]?=some (h2 x):=rfl
@[simp] theorem aoc {x:RF} {h:1<(hr x).length}:(hr x)[1]=h1 x:=rfl
@[simp] theorem aod {x:RF} {h:2<(hr x).length}:(hr x)[2]=h2 x:=rfl
def GJ (x:RF) (D:Nat):Prop:=x.a.length≤D∧x.c.length≤D
noncomputable def PD (s t:Bool) (a c a' c':List Nat) (k:Nat):St :=
 {env:=[(2,.ptr 2 0),(3,.ptr 3 0),(5,iv k)],sto:=[(2,.var [bv s,nl .plain a,nl .plain c]),(3,.var [bv t,nl .plain a',nl .plain c'])]}
noncomputable def PE (s t:Bool) (a c a' c':List Nat) (k:Nat):St :=
 {env:=[(2,.ptr 2 0),(3,.ptr 3 0),(6,iv k)],sto:=[(2,.var [bv s,nl .plain a,nl .plain c]),(3,.var [bv t,nl .plain a',nl .plain c'])]}
theorem Q0 {a b:List Nat} (hl:a.length=b.length) (h:∀ j,j<a.length→a[j]?=b[j]?):a=b:=by
 apply List.ext_getElem?
 intro j
 by_cases hj:j<a.length
 ·exact h j hj
 ·rw[List.getElem?_eq_none (by omega),List.getElem?_eq_none (by omega)]
theorem aef {s t:Bool} {a c a' c':List Nat} (hn:a.length<4611686018427387904) (hm:c.length<4611686018427387904) :
  ze Tryz.prog SW [.agg [bv s,nl .plain a,nl .plain c],.agg [bv t,nl .plain a',nl .plain c']] (bv (decide (s=t∧a=a'∧c=c'))):=by
 refine zn aeU (by simp) ?_
 by_cases e1:s=t
 rotate_left
 ·have e1':(s == t)=false:=by simp[e1]
  rw[decide_eq_false fun h=>e1 h.1]
  simp[dS,wV rn,e1',lT]
 subst e1
 by_cases e2:a.length=a'.length
 rotate_left
 ·have e2':¬ (a.length:Int)=a'.length:=by omega
  rw[decide_eq_false fun h=>e2 (by rw[h.2.1])]
  simp[dS,wV rn,e2',lT]
 have e2':(a.length:Int)=a'.length:=by omega
 by_cases e3:c.length=c'.length
 rotate_left
 ·have e3':¬ (c.length:Int)=c'.length:=by omega
  rw[decide_eq_false fun h=>e3 (by rw[h.2.2])]
  simp[dS,wV rn,e2,e3',lT]
 have e3':(c.length:Int)=c'.length:=by omega
 simp[dS,wV rn,e2,e3]
 refine zw (PD s s a c a' c') (fun k=>∀ j,j<k→a[j]?=a'[j]?) a.length (by simp[PD]) (fun j hj=>by omega) (fun k hk hI=>?_) (fun hI0=>?_)
 ·have e:(k:Int)<a.length:=by omega
  have w:=zl (k:=k) (by omega)
  have hk':k<a'.length:=by omega
  have e':(k:Int)<a'.length:=by omega
  by_cases h:a[k]=a'[k]
  ·have h':(a[k]:Int)=a'[k]:=by rw[h]
   simp[gZ,PD,e,hk,hk',e',h,w]
   intro j hj
   by_cases ej:j=k
   ·subst ej; simp[hk,hk',h]
   ·exact hI j (by omega)
  ·have h':¬ (a[k]:Int)=a'[k]:=by omega
   rw[decide_eq_false (p:=a=a') fun h2=>h (by simp only[h2])]
   simp[gZ,PD,e,hk,hk',e',h',lT]
 ·have hae:=Q0 e2 hI0
  subst hae
  simp[gZ,PD,Sn]
  refine zw (PE s s a c a c') (fun k=>∀ j,j<k→c[j]?=c'[j]?) c.length (by simp[PE]) (fun j hj=>by omega) (fun k hk hI=>?_) (fun hI1=>?_)
  ·have e:(k:Int)<c.length:=by omega
   have w:=zl (k:=k) (by omega)
   have hk':k<c'.length:=by omega
   have e':(k:Int)<c'.length:=by omega
   by_cases h:c[k]=c'[k]
   ·have h':(c[k]:Int)=c'[k]:=by rw[h]
    simp[g9,PE,e,hk,hk',e',h,w]
    intro j hj
    by_cases ej:j=k
    ·subst ej; simp[hk,hk',h]
    ·exact hI j (by omega)
   ·have h':¬ (c[k]:Int)=c'[k]:=by omega
    rw[decide_eq_false (p:=c=c') fun h2=>h (by simp only[h2])]
    simp[g9,PE,e,hk,hk',e',h',lT]
  ·have hce:=Q0 e3 hI1
   subst hce
   simp[g9,PE,Sm,lT]
theorem ajD:ze Tryz.prog xz [iv 0] (fq 0):=rC (n:=0) (by decide) (by decide)
@[simp] theorem aop {q:Rat}:(fr q)[0]?=some (f0 q):=rfl
@[simp] theorem an0 {q:Rat} {h:0<(fr q).length}:(fr q)[0]=f0 q:=rfl
@[simp] theorem aoq {q:Rat}:(fr q)[1]?=some (f1 q):=rfl
@[simp] theorem aor {q:Rat}:(fr q)[2]?=some (f2 q):=rfl
@[simp] theorem an1 {q:Rat} {h:1<(fr q).length}:(fr q)[1]=f1 q:=rfl
@[simp] theorem an2 {q:Rat} {h:2<(fr q).length}:(fr q)[2]=f2 q:=rfl
end Go.Proofs.YtpnliopaifpimaaGreat

set_option maxRecDepth 20000
namespace Go.Proofs.YtpnliopaifpimaaGreat
open Go Go.Am Go.Wr Go.Dig
noncomputable def N8 (N:Nz) (a:AV) (i:AV) (B:List UInt8) (k:Nat):St:={env:=[(0,a),(4,sv (B++(N.P.take k).flatMap uq)),(5,i),(6,.ptr 6 0),(7,iv k)],sto:=[(6,.var (zc N))]}
theorem ag2 {N:Nz} {T:List Nz} {m:Nat} {B:List UInt8} {KK:Exit→St→Prop} (hP:∀ x∈N.P,wG x) (hl:N.P.length≤40) (hB:B.length≤2000000000000)
  (h:KK (.exit 2) {env:=[(0,.list 5 .plain (zL T)),(4,sv (B++N.P.flatMap uq)),(5,iv m),(6,.ptr 6 0),(7,iv N.P.length),(67,bv false)],sto:=[(6,.var (zc N))]}) :
  awp Tryz.prog (.loop r7) {env:=[(0,.list 5 .plain (zL T)),(4,sv B),(5,iv m),(6,.ptr 6 0),(7,iv 0)],sto:=[(6,.var (zc N))]} KK:=by
 obtain ⟨K,O,U,I,P⟩:=N
 dsimp only at hP hl h ⊢
 refine yo (N8 ⟨K,O,U,I,P⟩ (.list 5 .plain (zL T)) (iv m) B) P.length (by simp[N8]) (fun k hk=>?_) ?_
 ·have ht:=Ui hP k (Nat.le_of_lt hk)
  have hx:=hP _ (List.getElem_mem hk)
  have hxl:=S9 hx
  have hst:N8 ⟨K,O,U,I,P⟩ (.list 5 .plain (zL T)) (iv m) B (k+1)={env:=[(0,.list 5 .plain (zL T)),(4,sv (B++((P.take k).flatMap uq++uq P[k]))),(5,iv m),(6,.ptr 6 0),(7,iv ((k:Int)+1))],sto:=[(6,.var (zc ⟨K,O,U,I,P⟩))]}:=by
   rw[N8,List.take_succ_eq_append_getElem hk,List.flatMap_append]
   simp
  have w1:=zl (k:=k) (by omega)
  rw[N8]
  dsimp only
  generalize (P.take k).flatMap uq=L at *
  generalize he:P[k]=x at *
  have kl:=ag1 (s:=x.1) (m1:=.plain) (m2:=.plain) hx.1 hx.2.1 (by have:=hx.2.2.1; omega) (by have:=hx.2.2.2; omega) rfl rfl
  have hxl':(mC x.1 x.2.1 x.2.2).length≤400000000000:=hxl
  simp[r7,hk,he]
  refine zb kl (by simp) (by simp) ?_
  simp
  rw[s6 (by simp; omega)]
  simp[w1,hst]
 ·rw[N8]
  simp[r7]
  exact h
end Go.Proofs.YtpnliopaifpimaaGreat

set_option maxRecDepth 20000
namespace Go.Proofs.YtpnliopaifpimaaGreat
open Go Go.Am Go.Wr Go.Dig
def c7 (T:List Nz) (k:Nat):St:={env:=[(0,.list 5 .plain (zL T)),(4,sv (enc T.length++(T.take k).flatMap xd)),(5,iv k)],sto:=[]}
theorem UO {T:List Nz} {k:Nat} {KK:Exit→St→Prop} (hk:k<T.length) (hP:∀ N∈T,∀ x∈N.P,wG x) (hl:T.length≤65536) (hz:okZ T[k]=true) (hb:(sA T).length≤1000000000000) :
  awp Tryz.prog wF (c7 T k) (aI (c7 T) (k+1) KK):=by
 have hx:=hP _ (List.getElem_mem hk)
 have hpre:(enc T.length++(T.take (k+1)).flatMap xd).length≤1000000000000:=by
  have e:T.flatMap xd=(T.take (k+1)).flatMap xd++(T.drop (k+1)).flatMap xd:=by rw[← List.flatMap_append,List.take_append_drop]
  unfold sA at hb
  rw[e] at hb
  simp only[List.length_append] at hb ⊢
  omega
 have e2:(T.take (k+1)).flatMap xd=(T.take k).flatMap xd++xd T[k]:=by
  rw[List.take_succ_eq_append_getElem hk,List.flatMap_append]
  simp
 have hst:c7 T (k+1)={env:=[(0,.list 5 .plain (zL T)),(4,sv (enc T.length++((T.take k).flatMap xd++xd T[k]))),(5,iv ((k:Int)+1))],sto:=[]}:=by
  rw[c7,e2]; rfl
 rw[e2] at hpre
 have w1:=zl (k:=k) (by omega)
 rw[c7]
 rw[← List.append_assoc] at hst hpre
 generalize enc T.length++(T.take k).flatMap xd=L at *
 generalize he:T[k]=N at *
 have kf:=Re (N:=N) hx
 rw[hz] at kf
 by_cases h1:N.K=1
 ·have hN:xd N=enc 1++(enc N.P.length++N.P.flatMap uq):=by show enc N.K.toNat++encZ N=_; rw[h1]; unfold encZ; rw[if_pos h1]; rfl
  rw[hN] at hst hpre
  simp only[List.length_append] at hpre
  have hl40:N.P.length≤40:=by unfold okZ at hz; rw[if_pos h1] at hz; simp at hz; exact hz.1.2
  have wl:IntKind.u64.wrap (N.P.length:Int)=(N.P.length:Int):=w64 (by omega)
  have k1:IntKind.u64.wrap 1=1:=by decide
  simp[wF,hk,he]
  refine zb kf (by simp) (by simp) ?_
  simp[h1,k1]
  refine zb (rm 1 (by omega)) (by simp) (by simp) ?_
  simp
  rw[s6 (by omega)]
  simp[wl]
  refine zb (rm N.P.length (by omega)) (by simp) (by simp) ?_
  simp
  rw[s6 (by simp; omega)]
  simp
  rw[← h1]
  refine ag2 (N:=N) (T:=T) (m:=k) hx hl40 (by simp; omega) ?_
  simp[r6,w1,hst]
 ·by_cases h2:N.K=2
  ·have hN:xd N=enc 2++(enc N.O.toNat++enc N.U.toNat++enc N.I.toNat):=by show enc N.K.toNat++encZ N=_; rw[h2]; unfold encZ; rw[if_neg h1,if_pos h2]; rfl
   rw[hN] at hst hpre
   simp only[List.length_append] at hpre
   have hr:rg N.O=true∧rg N.U=true∧rg N.I=true:=by unfold okZ at hz; rw[if_neg h1,if_pos h2] at hz; simp at hz; exact ⟨hz.1.1.1,hz.1.1.2,hz.1.2⟩
   have k2:IntKind.u64.wrap 2=2:=by decide
   have c:∀ {x:Int},rg x=true→IntKind.u64.wrap x=((x.toNat:Nat):Int)∧x.toNat≤65536:=fun {x} h=>by
    have:=pG h
    exact ⟨by rw[va]<;>omega,by omega⟩
   obtain ⟨wo,ho⟩:=c hr.1
   obtain ⟨wu,hu⟩:=c hr.2.1
   obtain ⟨wi,hi⟩:=c hr.2.2
   simp[wF,r6,hk,he]
   refine zb kf (by simp) (by simp) ?_
   simp[h2,k2]
   refine zb (rm 2 (by omega)) (by simp) (by simp) ?_
   simp
   rw[s6 (by omega)]
   simp[wo]
   refine zb (rm N.O.toNat (by omega)) (by simp) (by simp) ?_
   simp
   rw[s6 (by simp; omega)]
   simp[wu]
   refine zb (rm N.U.toNat (by omega)) (by simp) (by simp) ?_
   simp
   rw[s6 (by simp; omega)]
   simp[wi]
   refine zb (rm N.I.toNat (by omega)) (by simp) (by simp) ?_
   simp
   rw[s6 (by simp; omega)]
   simp[w1,hst]
  ·have h3:N.K=3:=by
    unfold okZ at hz
    rw[if_neg h1,if_neg h2] at hz
    split at hz
    ·assumption
    ·cases hz
   have hN:xd N=enc 3:=by show enc N.K.toNat++encZ N=_; rw[h3]; unfold encZ; rw[if_neg h1,if_neg h2]; simp
   rw[hN] at hst hpre
   simp only[List.length_append] at hpre
   have k3:IntKind.u64.wrap 3=3:=by decide
   simp[wF,r6,hk,he]
   refine zb kf (by simp) (by simp) ?_
   simp[h3,k3]
   refine zb (rm 3 (by omega)) (by simp) (by simp) ?_
   simp
   rw[s6 (by omega)]
   simp[w1,hst]
theorem akX {T:List Nz} (hP:∀ N∈T,∀ x∈N.P,wG x) (hl:T.length≤65536) (hok:∀ N∈T,okZ N=true) (hb:(sA T).length≤1000000000000):ze Tryz.prog n6 [.list 5 .plain (zL T)] (.tuple [sv (sA T),iv 0]):=by
 have hl':¬ (65536:Int)<T.length:=by omega
 have w0:IntKind.u64.wrap (T.length:Int)=(T.length:Int):=w64 (by omega)
 refine zn Ya (by simp) ?_
 simp[gp,hl',w0]
 refine zb (rm T.length (by omega)) (by simp) (by simp) ?_
 simp
 refine yo (c7 T) T.length (by simp[c7]) (fun k hk=>?_) ?_
 ·exact UO hk hP hl (hok _ (List.getElem_mem hk)) hb
 ·rw[c7]
  simp[wF,eJ,gN,sA]
theorem ajJ {T:List Nz} (hP:∀ N∈T,∀ x∈N.P,wG x) (hl:T.length≤65536) (hok:T.all okZ=false) (hb:(sA T).length≤1000000000000):ze Tryz.prog n6 [.list 5 .plain (zL T)] (.tuple [sv [],iv 2]):=by
 have hl':¬ (65536:Int)<T.length:=by omega
 have w0:IntKind.u64.wrap (T.length:Int)=(T.length:Int):=w64 (by omega)
 obtain ⟨L,g1,g2,g3⟩:=lD (p:=okZ) (P:=T)
 rcases g3 with ⟨_,g3⟩ | ⟨hL,g3,_⟩
 ·rw[g3] at hok; cases hok
 refine zn Ya (by simp) ?_
 simp[gp,hl',w0]
 refine zb (rm T.length (by omega)) (by simp) (by simp) ?_
 simp
 refine yo (c7 T) L (by simp[c7]) (fun k hk=>?_) ?_
 ·exact UO (by omega) hP hl (g2 k hk) hb
 ·have hx:=hP _ (List.getElem_mem hL)
  rw[c7]
  generalize (T.take L).flatMap xd=B at *
  generalize he:T[L]=N at *
  have kf:=Re (N:=N) hx
  rw[g3] at kf
  simp[wF,hL,he]
  refine zb kf (by simp) (by simp) ?_
  simp[gN,str]
end Go.Proofs.YtpnliopaifpimaaGreat

namespace Go.Wr
open Go.Dig Go.Proofs.YtpnliopaifpimaaGreat
theorem K8 {a:List Nat} {l:List UInt8} (ha:ok a) (hl:a.length≤2000):xc (0,mB a++l)=(a,(0,l)):=by
 unfold xc mB
 rw[List.append_assoc,sJ hl (by omega)]
 exact J7 (by omega) fun d hd=>by have:=ha d hd; rw[yc] at this; omega
theorem At {x:Fr} {l:List UInt8} (h:wG x) (h1:x.2.1.length≤2000) (h2:x.2.2.length≤2000) (hv:vFr x=true):zE (0,uq x++l)=(x,(0,l)):=by
 obtain ⟨g,a,c⟩:=x
 obtain ⟨o1,o2,_,_⟩:=h
 have e0:uq (g,a,c)++l=enc (if g=true then 1 else 0)++(mB a++(mB c++l)):=by
  show mC g a c++l=_
  unfold mC
  simp only[List.append_assoc]
 have e1:=sJ (most:=1) (n:=if g=true then 1 else 0) (l:=mB a++(mB c++l)) (by split<;>omega) (by split<;>omega)
 have hg:decide ((if g=true then 1 else 0)=1)=g:=by cases g<;>rfl
 rw[e0]
 unfold zE
 simp only[e1,K8 o1 h1,K8 o2 h2,hg,if_true]
 rw[if_pos (show vfr g a c=true from hv)]
def R6 (N:Nz):Nd:=⟨N.K.toNat,N.O.toNat,N.U.toNat,N.I.toNat,N.P⟩
theorem DH {l:List UInt8}:∀ {P:List Fr},(∀ x∈P,wG x∧x.2.1.length≤2000∧x.2.2.length≤2000∧vFr x=true)→∀ k (hk:k≤P.length),zB zE k (0,P.flatMap uq++l)=(P.take k,(0,(P.drop k).flatMap uq++l))
 | P,_,0,_=>rfl
 | P,h,k+1,hk=>by
  obtain ⟨a1,a2,a3,a4⟩:=h _ (List.getElem_mem (show k<P.length by omega))
  have e:(P.drop k).flatMap uq++l=uq P[k]++((P.drop (k+1)).flatMap uq++l):=by
   rw[List.drop_eq_getElem_cons (show k<P.length by omega)]
   simp only[List.flatMap_cons,List.append_assoc]
  rw[zB,DH h k (by omega),e,At a1 a2 a3 a4,if_neg (by simp),List.take_succ_eq_append_getElem (by omega)]
def Ny (N:Nz):Prop:=∀ x∈N.P,wG x∧x.2.1.length≤2000∧x.2.2.length≤2000
theorem adj {N:Nz} {l:List UInt8} (h:Ny N) (hz:okZ N=true):zP (0,xd N++l)=(R6 N,(0,l)):=by
 obtain ⟨K,O,U,I,P⟩:=N
 have hz0:=hz
 unfold okZ at hz
 dsimp only at hz
 by_cases h1:K=1
 ·subst h1
  simp only[if_true,Bool.and_eq_true,decide_eq_true_eq] at hz
  obtain ⟨⟨z1,z2⟩,z3⟩:=hz
  obtain ⟨rfl,rfl,rfl⟩:=Ph z1
  have e:xd ⟨1,0,0,0,P⟩++l=enc 1++(enc P.length++(P.flatMap uq++l)):=by
   show (enc 1++encZ ⟨1,0,0,0,P⟩)++l=_
   unfold encZ
   simp only[if_true,List.append_assoc]
  have u1:=sJ (most:=3) (n:=1) (l:=enc P.length++(P.flatMap uq++l)) (by omega) (by omega)
  have u2:=sJ (most:=40) (n:=P.length) (l:=P.flatMap uq++l) z2 (by omega)
  have u3:=DH (l:=l) (P:=P) (fun x hx=>by
   obtain ⟨a,b,c⟩:=h x hx
   exact ⟨a,b,c,List.all_eq_true.1 z3 x hx⟩) P.length (Nat.le_refl _)
  rw[List.take_length,List.drop_length] at u3
  rw[e]
  unfold zP
  simp only[u1,u2,u3]
  rfl
 ·by_cases h2:K=2
  ·subst h2
   rw[if_neg h1,if_pos rfl] at hz
   simp only[Bool.and_eq_true,decide_eq_true_eq] at hz
   obtain ⟨⟨⟨r1,r2⟩,r3⟩,rfl⟩:=hz
   have c:∀ {x:Int},rg x=true→x.toNat≤65536:=fun {x} h=>by have:=pG h; omega
   have e:xd ⟨2,O,U,I,[]⟩++l=enc 2++(enc O.toNat++(enc U.toNat++(enc I.toNat++l))):=by
    show (enc 2++encZ ⟨2,O,U,I,[]⟩)++l=_
    unfold encZ
    simp
   have u1:=sJ (most:=3) (n:=2) (l:=enc O.toNat++(enc U.toNat++(enc I.toNat++l))) (by omega) (by omega)
   have u2:=sJ (most:=65536) (n:=O.toNat) (l:=enc U.toNat++(enc I.toNat++l)) (c r1) (by have:=c r1; omega)
   have u3:=sJ (most:=65536) (n:=U.toNat) (l:=enc I.toNat++l) (c r2) (by have:=c r2; omega)
   have u4:=sJ (most:=65536) (n:=I.toNat) (l:=l) (c r3) (by have:=c r3; omega)
   rw[e]
   unfold zP
   simp only[u1,u2,u3,u4]
   rfl
  ·by_cases h3:K=3
   ·subst h3
    rw[if_neg h1,if_neg h2,if_pos rfl] at hz
    simp only[Bool.and_eq_true,decide_eq_true_eq] at hz
    obtain ⟨z1,rfl⟩:=hz
    obtain ⟨rfl,rfl,rfl⟩:=Ph z1
    have e:xd ⟨3,0,0,0,[]⟩++l=enc 3++l:=by
     show (enc 3++encZ ⟨3,0,0,0,[]⟩)++l=_
     unfold encZ
     simp
    have u1:=sJ (most:=3) (n:=3) (l:=l) (by omega) (by omega)
    rw[e]
    unfold zP
    simp only[u1]
    rfl
   ·rw[if_neg h1,if_neg h2,if_neg h3] at hz; cases hz
theorem GD {l:List UInt8}:∀ {T:List Nz},(∀ N∈T,Ny N∧okZ N=true)→∀ k (hk:k≤T.length),zB zP k (0,T.flatMap xd++l)=((T.take k).map R6,(0,(T.drop k).flatMap xd++l))
 | T,_,0,_=>rfl
 | T,h,k+1,hk=>by
  obtain ⟨a1,a2⟩:=h _ (List.getElem_mem (show k<T.length by omega))
  have e:(T.drop k).flatMap xd++l=xd T[k]++((T.drop (k+1)).flatMap xd++l):=by
   rw[List.drop_eq_getElem_cons (show k<T.length by omega)]
   simp only[List.flatMap_cons,List.append_assoc]
  rw[zB,GD h k (by omega),e,adj a1 a2,if_neg (by simp),List.take_succ_eq_append_getElem (by omega),List.map_append]
  rfl
theorem K0 {T:List Nz} (h:∀ N∈T,Ny N∧okZ N=true) (hl:T.length≤65536):sV (sA T)=0∧jD (sA T)=T.map R6:=by
 have u:=sJ (most:=65536) (n:=T.length) (l:=T.flatMap xd) hl (by omega)
 have v:=GD (l:=[]) h T.length (Nat.le_refl _)
 rw[List.append_nil,List.take_length,List.drop_length] at v
 have t:p9 (sA T)=(T.map R6,(0,[])):=by
  unfold p9 sA
  simp only[u,v]
  rfl
 have e:sV (sA T)=0:=by unfold sV; rw[t]; rfl
 exact ⟨e,by unfold jD; rw[e,t]; rfl⟩
def pP (N:Nd):Nz:=⟨N.K,N.O,N.U,N.I,N.P⟩
end Go.Wr

set_option maxRecDepth 20000
namespace Go.Proofs.YtpnliopaifpimaaGreat
open Go Go.Am Go.Wr Go.Dig Go.Tr Go.LP
def GV (P:List Fr) (k:Nat):St:={env:=[(0,.list 3 .plain (wW P)),(1,.list 3 .plain (wW P)),(5,iv k)],sto:=[]}
theorem CV {P:List Fr} (hl:P.length<4611686018427387904) (hP:∀ x∈P,wG x):ze Tryz.prog dF [.list 3 .plain (wW P),.list 3 .plain (wW P)] (bv true):=by
 refine zn G5 (by simp) ?_
 simp[X3]
 refine yo (GV P) P.length (by simp[GV]) (fun k hk=>?_) ?_
 ·have w1:=zl (k:=k) (by omega)
  have hx:=hP _ (List.getElem_mem hk)
  generalize he:P[k]=x at *
  have ks:=aef (s:=x.1) (t:=x.1) (a:=x.2.1) (c:=x.2.2) (a':=x.2.1) (c':=x.2.2) (by have:=hx.2.2.1; omega) (by have:=hx.2.2.2; omega)
  simp at ks
  simp[jw,GV,hk,he]
  refine zb ks (by simp) (by simp) ?_
  simp[w1,GV]
 ·simp[jw,bK,GV,UJ]
def GW (T:List Nz) (k:Nat):St:={env:=[(0,.list 5 .plain (zL T)),(1,.list 5 .plain (zL T)),(5,iv k)],sto:=[]}
theorem aaQ {T:List Nz} (hl:T.length<4611686018427387904) (hP:∀ N∈T,N.P.length<4611686018427387904∧∀ x∈N.P,wG x):ze Tryz.prog nk [.list 5 .plain (zL T),.list 5 .plain (zL T)] (bv true):=by
 refine zn G9 (by simp) ?_
 simp[Ub]
 refine yo (GW T) T.length (by simp[GW]) (fun k hk=>?_) ?_
 ·have w1:=zl (k:=k) (by omega)
  have hx:=hP _ (List.getElem_mem hk)
  generalize he:T[k]=N at *
  simp[jA,GW,hk,he]
  refine zb (CV hx.1 hx.2) (by simp) (by simp) ?_
  simp[w1,GW]
 ·simp[jA,bP,GW,UN]
theorem Dj {T:List Nd}:lf T=zL (T.map pP):=by
 unfold lf zL
 rw[List.map_map]
 rfl
theorem akC {N:Nz} (h:okZ N=true):pP (R6 N)=N:=by
 obtain ⟨K,O,U,I,P⟩:=N
 unfold okZ at h
 dsimp only at h
 unfold pP R6
 dsimp only
 have c:∀ {x:Int},0≤x→((x.toNat:Nat):Int)=x:=fun {x} h=>by omega
 have key:0≤K∧0≤O∧0≤U∧0≤I:=by
  by_cases h1:K=1
  ·rw[if_pos h1] at h
   simp only[Bool.and_eq_true] at h
   obtain ⟨a,b,c⟩:=Ph h.1.1
   simp only at a b c
   omega
  ·rw[if_neg h1] at h
   by_cases h2:K=2
   ·rw[if_pos h2] at h
    simp only[Bool.and_eq_true] at h
    have:=pG h.1.1.1
    have:=pG h.1.1.2
    have:=pG h.1.2
    omega
   ·rw[if_neg h2] at h
    split at h
    ·simp only[Bool.and_eq_true] at h
     obtain ⟨a,b,c⟩:=Ph h.1
     simp only at a b c
     omega
    ·cases h
 obtain ⟨k1,k2,k3,k4⟩:=key
 rw[c k1,c k2,c k3,c k4]
theorem alG {T:List Nz} (h:∀ N∈T,okZ N=true):(T.map R6).map pP=T:=by
 rw[List.map_map]
 conv=>rhs; rw[← List.map_id T]
 exact List.map_congr_left fun N hN=>akC (h N hN)
open Go.Pb
def NX (w:Nat→Int) (k:Nat):St:={env:=[(5,.agg (bC w)),(6,iv k)],sto:=[]}
theorem KE {w:Nat→Int}:ze Tryz.prog nW [.agg (bC w)] (iv (if okB w then 0 else 4)):=by
 refine zn Mt (by simp) ?_
 simp[ZD]
 refine zw (NX w) (fun i=>∀ j,j<i→0≤w j∧w j≤4) 6 (by simp[NX]) (fun j hj=>by omega) (fun i hi hI=>?_) (fun hI=>?_)
 ·have e:(i:Int)<6:=by omega
  have w1:=zl (k:=i) (by omega)
  by_cases c1:w i<0
  ·rw[if_neg fun h=>by have:=h i hi; omega]
   simp[tQ,NX,e,RA hi,c1,mj]
  ·by_cases c2:4<w i
   ·rw[if_neg fun h=>by have:=h i hi; omega]
    simp[tQ,NX,e,RA hi,c1,c2,mj]
   ·simp[tQ,NX,e,RA hi,c1,c2,w1]
    exact fun j hj=>by
     by_cases e:j=i
     ·subst e; omega
     ·exact hI j (by omega)
 ·rw[if_pos (show okB w from hI)]
  simp[tQ,NX,eB,mj]
section
variable {P:Pb} {r n:Nat} {o:Of}
theorem KW (h:0≤o.b∧o.b<P.cl.length):∃ b:Nat,o.b=b∧b<P.cl.length∧P.cl[b]?=some (P.clOf o.b):=by
 refine ⟨o.b.toNat,by omega,by omega,?_⟩
 unfold Pb.clOf
 have h2:o.b.toNat<P.cl.length:=by omega
 rw[List.getD_eq_getElem?_getD,List.getElem?_eq_getElem h2]
 rfl
@[simp] theorem al1 {l:List Int} {b:Nat} {h:b<(clR l).length}:(clR l)[b]=[iv (l[b]'(by simpa using h))]:=by simp[clR]
theorem BW (hn:P.cl.length≤1000) (hb:0≤o.b∧o.b<P.cl.length) (hr:r<P.rows):ze Tryz.prog x7 [.agg (pbC P),iv r,.agg (oC o)] (iv (P.coef r o)):=by
 unfold Pb.rows at hr
 obtain ⟨n,hn'⟩:∃ n,P.cl.length=n:=⟨_,rfl⟩
 have w1:IntKind.i64.wrap ((r:Int)-n)=(r:Int)-n:=by rw[wrap64]<;>omega
 refine zn Z6 (by simp) ?_
 unfold Pb.coef
 rw[hn'] at hr hb hn ⊢
 by_cases h1:r<n
 ·rw[if_pos h1]
  have c1:((r:Int)-n)<0:=by omega
  by_cases h2:o.b=r
  ·rw[if_pos h2]
   simp[xo,hn',w1,c1,h2,xu]
  ·rw[if_neg h2]
   simp[xo,hn',w1,c1,h2,xu]
 ·rw[if_neg h1]
  have c1:¬ ((r:Int)-n)<0:=by omega
  obtain ⟨k,hk⟩:∃ k,r=n+k:=⟨r-n,by omega⟩
  have e1:(r:Int)-n=k:=by omega
  have e2:r-n=k:=by omega
  rw[e1] at w1 c1
  by_cases h2:k<6
  ·rw[if_pos (by omega),e2]
   have c2:(k:Int)<6:=by omega
   simp[xo,hn',e1,w1,c1,c2,aaa h2,xu]
  ·obtain ⟨j,hj0⟩:∃ j,k=6+j:=⟨k-6,by omega⟩
   rw[if_neg (by omega),e2,show k-6=j by omega]
   have c2:¬ (k:Int)<6:=by omega
   have hj:j<6:=by omega
   have hj':(j:Int)<6:=by omega
   have e3:(k:Int)-6=j:=by omega
   have w2:IntKind.i64.wrap (j:Int)=j:=by rw[wrap64]<;>omega
   obtain ⟨b,hb1,hb2,hb3⟩:=KW (P:=P) (o:=o) (by rw[hn']; exact hb)
   have hbn:(b:Int)<n:=by omega
   have hbn':b<n:=by omega
   have hc:P.cl[b]?=some (P.clOf (b:Int)):=by rw[← hb1]; exact hb3
   have hE:P.cl[b]=P.clOf (b:Int):=by rw[List.getElem?_eq_getElem hb2] at hc; exact Option.some.inj hc
   rw[hb1]
   by_cases h3:P.cls j=0
   ·rw[if_pos (.inl h3)]
    simp[xo,hn',e1,w1,c1,c2,e3,w2,hj',RB hj,h3,xu]
   ·by_cases h4:P.cls j=P.clOf (b:Int)
    ·rw[if_pos (.inr h4)]
     rw[h4] at h3
     simp[xo,hn',e1,w1,c1,c2,e3,w2,hj',RB hj,h3,hb1,hbn,hbn',hE,h4,xu]
    ·rw[if_neg (by intro h; exact h.elim h3 h4)]
     simp[xo,hn',e1,w1,c1,c2,e3,w2,hj',RB hj,h3,hb1,hbn,hbn',hE,h4,YM hj,xu]
end
section
variable {P:Pb} {r n:Nat} {o:Of} {L:List Of}
theorem aaM (hn:P.cl.length≤1000):ze Tryz.prog tm [.agg (pbC P)] (iv P.rows):=by
 refine zn Z8 (by simp) ?_
 have w1:IntKind.i64.wrap ((P.cl.length:Int)+12)=(P.cl.length:Int)+12:=by rw[wrap64]<;>omega
 have e:((P.rows:Nat):Int)=(P.cl.length:Int)+12:=by unfold Pb.rows; omega
 rw[e]
 simp[ku,w1,jc]
theorem Eu (hn:P.cl.length≤1000) (hr:r<P.rows):ze Tryz.prog uE [.agg (pbC P),iv r] (iv (P.bnd r)):=by
 unfold Pb.rows at hr
 obtain ⟨n,hn'⟩:∃ n,P.cl.length=n:=⟨_,rfl⟩
 have w1:IntKind.i64.wrap ((r:Int)-n)=(r:Int)-n:=by rw[wrap64]<;>omega
 refine zn Zs (by simp) ?_
 unfold Pb.bnd
 rw[hn'] at hr hn ⊢
 by_cases h1:r<n
 ·rw[if_pos h1]
  have c1:((r:Int)-n)<0:=by omega
  simp[uH,hn',w1,c1,uQ]
 ·rw[if_neg h1]
  have c1:¬ ((r:Int)-n)<0:=by omega
  obtain ⟨k,hk⟩:∃ k,r=n+k:=⟨r-n,by omega⟩
  have e1:(r:Int)-n=k:=by omega
  have e2:r-n=k:=by omega
  rw[e1] at w1 c1
  by_cases h2:k<6
  ·rw[if_pos (by omega),e2]
   have c2:(k:Int)<6:=by omega
   simp[uH,hn',e1,w1,c1,c2,adM h2,uQ]
  ·obtain ⟨j,hj0⟩:∃ j,k=6+j:=⟨k-6,by omega⟩
   rw[if_neg (by omega),e2,show k-6=j by omega]
   have c2:¬ (k:Int)<6:=by omega
   have hj:j<6:=by omega
   have hj':(j:Int)<6:=by omega
   have e3:(k:Int)-6=j:=by omega
   have w2:IntKind.i64.wrap (j:Int)=j:=by rw[wrap64]<;>omega
   simp[uH,hn',e1,w1,c1,c2,e3,w2,hj',adL hj,uQ]
end
def GO (P:Pb) (L:List Of) (r:Nat):St:={env:=[(1,ofA L),(2,.ptr 2 0),(5,.fn (.func x7) []),(11,iv P.rows),(12,iv r)],sto:=[(2,.var (pbC P))]}
def Pz (P:Pb) (L:List Of) (r k:Nat):St :=
 {env:=[(1,ofA L),(2,.ptr 2 0),(5,.fn (.func x7) []),(6,iv r),(7,iv (sY (P.coef r) L k)),(11,iv P.rows),(12,iv r),(15,ofA L),(16,iv L.length),(17,iv k)],sto:=[(2,.var (pbC P))]}
@[simp] theorem amr {l:List Of} {b:Nat} {h:b<(ofR l).length}:(ofR l)[b]=oC (l[b]'(by simpa using h)):=by simp[ofR]
section
variable {P:Pb} {r n:Nat} {o:Of} {L:List Of}
theorem Ap (hn:P.cl.length≤1000) (hL:L.length≤1000) (hb:∀ o∈L,0≤o.b∧o.b<P.cl.length) (hw:∀ o∈L,okB o.w):ze Tryz.prog tl [.agg (pbC P),ofA L] (bv (decide (P.fits L))):=by
 have hok:yv Tryz.prog x7=true:=by kernel_rfl
 have hR:P.rows≤1012:=by unfold Pb.rows; omega
 refine zn Z7 (by simp) ?_
 simp[km]
 refine zb (aaM hn) (by simp) (by simp) ?_
 simp
 refine zw (GO P L) (fun r=>∀ q,q<r→(L.map (P.coef q)).sum≤P.bnd q) P.rows (by simp[GO]) (fun q hq=>by omega) (fun r hr hI=>?_) (fun hI=>?_)
 ·have e:(r:Int)<P.rows:=by omega
  have w1:=zl (k:=r) (by omega)
  simp[so,GO,e]
  refine zw (Pz P L r) (fun _=>True) L.length (by simp[Pz,UE]) trivial (fun k hk _=>?_) (fun _=>?_)
  ·have e':(k:Int)<L.length:=by omega
   have hg:L[k]?=some L[k]:=by simp[hk]
   have hm:L[k]∈L:=List.getElem_mem hk
   have w2:=zl (k:=k) (by omega)
   obtain ⟨p1,p2⟩:=jO (f:=P.coef r) (fun o ho=>me (P:=P) (hw o ho) hr) k (by omega)
   obtain ⟨p3,p4⟩:=me (P:=P) (hw _ hm) hr
   have w3:IntKind.i64.wrap (sY (P.coef r) L k+P.coef r L[k])=sY (P.coef r) L k+P.coef r L[k]:=by rw[wrap64]<;>omega
   have hs:=aq (f:=P.coef r) hg
   simp[sm,Pz,e',hk,hok]
   refine zb (BW hn (hb _ hm) hr) (by simp) (by simp) ?_
   simp[w2,w3,hs,Pz]
  ·have hall:sY (P.coef r) L L.length=(L.map (P.coef r)).sum:=YY
   simp[sm,Pz,nu]
   refine zb (Eu hn hr) (by simp) (by simp) ?_
   by_cases hc:P.bnd r<(L.map (P.coef r)).sum
   ·have hf:¬ P.fits L:=fun h=>by have:=h r hr; omega
    simp[hall,hc,hf,qE]
   ·simp[hall,hc,nv,w1,GO]
    exact fun q hq=>by
     by_cases eq:q=r
     ·subst eq; omega
     ·exact hI q (by omega)
 ·have hf:P.fits L:=hI
  simp[so,GO,hf,nw,qE]
end
section
variable {P:Pb} {r n:Nat} {o:Of} {L:List Of}
theorem aev:ze Tryz.prog lw [iv n,.agg (oC o)] (iv (pL n o)):=by
 refine zn R2 (by simp) ?_
 unfold pL
 by_cases c1:o.b<0
 ·rw[if_pos (.inl c1)]
  simp[uj,c1,uy]
 ·by_cases c2:(n:Int)≤o.b
  ·rw[if_pos (.inr c2)]
   simp[uj,c1,c2,uy]
  ·rw[if_neg (by omega)]
   by_cases c3:o.v<1
   ·rw[if_pos (.inl c3)]
    simp[uj,c1,c2,c3,uy]
   ·by_cases c4:1000000<o.v
    ·rw[if_pos (.inr c4)]
     simp[uj,c1,c2,c3,c4,uy]
    ·rw[if_neg (by omega)]
     simp[uj,c1,c2,c3,c4]
     refine zb (KE (w:=o.w)) (by simp) (by simp) ?_
     simp[uy]
theorem JF {f:FuncId} {x y y' r:AV} (h:ze Tryz.prog f [x,y'] r) (hy:AV.imp y y'):ze Tryz.prog f [x,y] r:=fun I vs w h1 h2 h3 =>
 h I vs w h1 h2 fun i a hi=>by
  match i,hi with
  | 0,hi=>exact h3 0 a hi
  | 1,hi=>simp at hi; subst hi; exact hy _ _ _ (h3 1 y rfl)
  | i+2,hi=>simp at hi
theorem Et:[iv 0,iv 0,iv 0,iv 0,iv 0,iv 0]=bC (fun _=>0):=by rw[tX]
theorem agB (hn:P.cl.length≤1000):ze Tryz.prog rO [.agg (pbC P),.agg (oC o)] (iv (P.offE o)):=by
 have hk:kds Tryz.prog Op.maxDepth vz=some (List.replicate 6 (.i .i64)):=by kernel_rfl
 have hg:Tryz.prog.eqGuardType Tryz.prog.depth vz=false:=by kernel_rfl
 have hA:agT Tryz.prog vz=true:=by kernel_rfl
 have hz:decide (bI o.w=bI (fun _=>0))=decide (fm o.w):=by
  rw[decide_eq_decide,L8]
  exact Iff.rfl
 refine zn Zu (by simp) ?_
 simp[mM]
 refine zb (aev (n:=P.cl.length) (o:=o)) (by simp) (by simp) ?_
 unfold Pb.offE
 by_cases c1:pL P.cl.length o=0
 ·obtain ⟨hb,_,hw⟩:=uc c1
  rw[if_neg (fun h=>h c1)]
  simp[c1,Et]
  rw[ep hk hg hA kZ kZ]
  by_cases c2:fm o.w
  ·rw[if_pos c2]
   simp[hz,c2,wT]
  ·rw[if_neg c2]
   simp[hz,c2]
   have hf:=Ap (P:=P) (L:=[o]) hn (by simp) (fun x hx=>by rw[List.mem_singleton.1 hx]; exact hb) (fun x hx=>by rw[List.mem_singleton.1 hx]; exact hw)
   refine zb (JF hf (q9 (rows:=[oC o]))) (by simp) (by simp) ?_
   by_cases c3:P.fits [o]
   ·simp[c3,wT]
   ·simp[c3,wT]
 ·rw[if_pos c1]
  simp[c1,wT]
end
section
variable {P:Pb} {r n:Nat} {o:Of} {L:List Of}
def ln (P:Pb) (k:Nat):St:={env:=[(1,.ptr 1 0),(16,iv k)],sto:=[(1,.var (pbC P))]}
def T2 (P:Pb) (k:Nat):St:={env:=[(76,clA P.cl),(77,iv P.cl.length),(78,iv k)],sto:=[]}
theorem frC (P:Pb) (h:∀ i,(hi:i<P.cl.length)→jN P.cl[i]):∀ c∈P.cl,jN c:=fun c hc=>by
 obtain ⟨i,hi,rfl⟩:=List.getElem_of_mem hc
 exact h i hi
theorem af2:ze Tryz.prog rN [.agg (pbC P)] (iv P.frameE):=by
 refine zn Zt (by simp) ?_
 simp[mL]
 refine zb (KE (w:=P.sup)) (by simp) (by simp) ?_
 unfold Pb.frameE
 by_cases c1:okB P.sup
 ·rw[if_neg (fun h=>h c1)]
  simp[c1]
  refine zw (ln P) (fun r=>∀ q,q<r→P.okC q) 6 (by simp[ln]) (fun q hq=>by omega) (fun k hk hI=>?_) (fun hI=>?_)
  ·have e:(k:Int)<6:=by omega
   have w1:=zl (k:=k) (by omega)
   by_cases d:P.okC k
   ·have d':=d
    unfold Pb.okC at d'
    obtain ⟨d1,d2,d3,d4,d5⟩:=d'
    have b1:¬ P.cls k<0:=by omega
    have b2:¬ 4<P.cls k:=by omega
    have b3:¬ P.opn k<0:=by omega
    have b4:¬ P.sup k<P.opn k:=by omega
    have hx:∀ q,q<k+1→P.okC q:=fun q hq=>by
     by_cases eq:q=k
     ·subst eq; exact d
     ·exact hI q (by omega)
    by_cases b5:P.cls k=0
    ·have b6:=d5 b5
     rw[b5] at b1 b2
     rw[b6] at b3 b4
     simp[z8,ln,e,yL hk,yy hk,vw hk,b3,b5,b6,w1]
     exact hx
    ·simp[z8,ln,e,yL hk,yy hk,vw hk,b1,b2,b3,b4,b5,w1]
     exact hx
   ·rw[if_neg (show ¬ P.okCs from fun h=>d (h k hk))]
    by_cases b1:P.cls k<0
    ·simp[z8,ln,e,yL hk,yy hk,b1,yf]
    ·by_cases b2:4<P.cls k
     ·simp[z8,ln,e,yL hk,yy hk,b1,b2,yf]
     ·by_cases b3:P.opn k<0
      ·simp[z8,ln,e,yL hk,yy hk,b1,b2,b3,yf]
      ·by_cases b4:P.sup k<P.opn k
       ·simp[z8,ln,e,yL hk,yy hk,vw hk,b1,b2,b3,b4,yf]
       ·have b5:P.cls k=0∧¬ P.opn k=P.sup k:=by
         unfold Pb.okC at d
         by_cases b5:P.cls k=0
         ·exact ⟨b5,fun h=>d ⟨by omega,by omega,by omega,by omega,fun _=>h⟩⟩
         ·exact absurd (⟨by omega,by omega,by omega,by omega,fun h=>absurd h b5⟩) d
        simp[z8,ln,e,yL hk,yy hk,vw hk,b3,b4,b5,yf]
  ·have hs:P.okCs:=hI
   rw[if_pos hs]
   by_cases f1:8<P.cl.length
   ·have f1':(8:Int)<P.cl.length:=by omega
    rw[if_pos (.inl f1)]
    simp[z8,ln,vq,f1',yf]
   ·have f1':¬ (8:Int)<P.cl.length:=by omega
    by_cases f2:160<P.of.length
    ·have f2':(160:Int)<P.of.length:=by omega
     rw[if_pos (.inr f2)]
     simp[z8,ln,vq,f1',f2',yf]
    ·have f2':¬ (160:Int)<P.of.length:=by omega
     rw[if_neg (by omega)]
     simp[z8,ln,vq,f1',f2']
     refine zw (T2 P) (fun r=>∀ q,q<r→(hq:q<P.cl.length)→jN P.cl[q]) P.cl.length (by simp[T2]) (fun q hq=>by omega) (fun k hk hI=>?_) (fun hI=>?_)
     ·have e:(k:Int)<P.cl.length:=by omega
      have w1:=zl (k:=k) (by omega)
      by_cases d:jN P.cl[k]
      ·have d':=d
       unfold jN at d'
       have b1:¬ P.cl[k]<0:=by omega
       have b2:¬ 4<P.cl[k]:=by omega
       simp[x6,T2,e,hk,b1,b2,w1]
       exact fun q hq hl=>by
        by_cases eq:q=k
        ·subst eq; exact d
        ·exact hI q (by omega) hl
      ·rw[if_neg (fun h=>d (h _ (List.getElem_mem hk)))]
       unfold jN at d
       by_cases b1:P.cl[k]<0
       ·simp[x6,T2,e,hk,b1,yf]
       ·have b2:4<P.cl[k]:=by omega
        simp[x6,T2,e,hk,b1,b2,yf]
     ·have hc:=frC P fun i hi=>hI i hi hi
      rw[if_pos hc]
      simp[x6,T2,pX,yf]
 ·rw[if_pos c1]
  simp[c1,yf]
end
theorem amm {k:List Int} (h:k.length=7):∃ a b c d e f g,k=[a,b,c,d,e,f,g]:=by
 match k,h with
 | [a,b,c,d,e,f,g],_=>exact ⟨a,b,c,d,e,f,g,rfl⟩
theorem aiM (b:Bool) (a0 a1 a2 a3 a4 a5 a6:Int):zt Tryz.prog (Instr.checkKey b 10000 m7 (tK [a0,a1,a2,a3,a4,a5,a6]))=some ():=by kernel_rfl
theorem E9 {t:TypeId}:aoS Tryz.prog t m7 7 where
 kd:=Nv
 ag:=by kernel_rfl
 chk:=fun b k h=>by
  obtain ⟨a0,a1,a2,a3,a4,a5,a6,rfl⟩:=amm h
  exact aiM b a0 a1 a2 a3 a4 a5 a6
def et (o:Of):List Int:=o.b::bI o.w
theorem Rp {o:Of}:(et o).length=7:=rfl
theorem E8 {o u:Of}:et o=et u↔mn o u:=by
 unfold et mn
 rw[List.cons.injEq,L8]
def qc (L:List Of):nd:=L.map fun o=>(et o,.bool true)
theorem Pp {L:List Of}:ab 7 (qc L):=fun x hx=>by
 obtain ⟨o,_,rfl⟩:=List.mem_map.1 hx
 exact Rp
theorem Y8 {o:Of}:∀ {L:List Of},vH (et o) (qc L)=if ∃ u∈L,mn u o then some (.bool true) else none
 | []=>by simp[qc,vH]
 | u::L=>by
  have ih:=Y8 (o:=o) (L:=L)
  unfold qc at ih ⊢
  rw[List.map_cons,vH,ih]
  by_cases h:et o=et u
  ·rw[if_pos h,if_pos ⟨u,by simp,E8.1 h.symm⟩]
  ·rw[if_neg h]
   by_cases h2:∃ u∈L,mn u o
   ·obtain ⟨x,h3,h4⟩:=h2
    rw[if_pos ⟨x,h3,h4⟩,if_pos ⟨x,by simp[h3],h4⟩]
   ·rw[if_neg h2,if_neg]
    rintro ⟨x,h3,h4⟩
    rcases List.mem_cons.1 h3 with rfl | h3
    ·exact h (E8.2 h4).symm
    ·exact h2 ⟨x,h3,h4⟩
@[irreducible] def kC (o:Of):List AV:=(et o).map iv
theorem TJ (o:Of):kC o=[iv o.b,iv (o.w 0),iv (o.w 1),iv (o.w 2),iv (o.w 3),iv (o.w 4),iv (o.w 5)]:=by unfold kC; rfl
section
variable {o:Of} {k l:Nat}
@[simp] theorem aiL:(kC o).length=7:=by rw[TJ]; rfl
@[simp] theorem afa:(kC o).all rf=true:=by rw[TJ]; rfl
@[simp] theorem alE:(∀ x,x∈kC o→rf x=true)=True:=eq_true fun x h=>List.all_eq_true.1 afa x h
@[simp] theorem acV:(kC o).map strip=kC o:=by rw[TJ]; rfl
@[simp] theorem aof:(kC o).map (dg l)=kC o:=by rw[TJ]; simp
@[simp] theorem anC:wQ k (kC o)=false:=by rw[TJ]; simp
@[simp] theorem alA:zK (kC o) 0 (some 7)=some (.agg (kC o)):=by rw[rD aiL afa,acV]
@[simp] theorem aml:splice [AV.val (Value.int IntKind.i64 o.b),AV.val (Value.int IntKind.i64 0),AV.val (Value.int IntKind.i64 0),AV.val (Value.int IntKind.i64 0),AV.val (Value.int IntKind.i64 0),AV.val (Value.int IntKind.i64 0),AV.val (Value.int IntKind.i64 0)] 1 (bC o.w)=kC o:=by
 rw[TJ,tX]; rfl
end
noncomputable def boolT:TypeId:=match Tryz.prog.underlying xT with
 | some (.map _ e)=>e
 | _=>0
theorem ckM:Tryz.prog.underlying xT=some (.map m7 boolT):=by kernel_rfl
theorem ckZ:zt Tryz.prog (zeroValue boolT)=some (.bool false):=by kernel_rfl
theorem aiO {σ:Nat→Option zg} {K:AV→Option zg→Prop} {L:List Of} {o:Of} {c:Nat} (hs:σ 17=some (.map (nJ (qc L)) c)) :
  rc Tryz.prog xT false σ [.mp 17,.agg (kC o)] K=K (bv (decide (∃ u∈L,mn u o))) none:=by
 have e:kC o=(et o).map iv:=by unfold kC; rfl
 rw[e,Je E9 ckM ckZ hs Rp Pp,Y8]
 by_cases h:∃ u∈L,mn u o
 ·rw[if_pos h,decide_eq_true h]; rfl
 ·rw[if_neg h,decide_eq_false h]; rfl
theorem ak9 {s:St} {KS:St→Prop} {L:List Of} {o:Of} (hs:lk s.sto 17=some (.map (nJ (qc L)) (qc L).length)) (hn:¬ ∃ u∈L,mn u o) :
  qx Tryz.prog xT s none KS [.mp 17,.agg (kC o),.val (.bool true)]=KS {s with sto:=pt s.sto 17 (.map (nJ (qc (L++[o]))) (qc (L++[o])).length)}:=by
 have e:kC o=(et o).map iv:=by unfold kC; rfl
 have e2:gS (et o) (.bool true) (qc L)=qc (L++[o]):=by
  rw[UQ (by rw[Y8,if_neg hn])]
  simp[qc]
 rw[e,Jg E9 ckM hs Rp Pp rfl,e2]
 simp
section
variable {P:Pb} {r n:Nat} {o:Of} {L:List Of}
def Py (P:Pb) (k:Nat):St:={env:=[(3,.ptr 3 0),(5,.mp 17),(19,ofA P.of),(20,iv P.of.length),(21,iv k)],sto:=[(3,.var (pbC P)),(17,.map (nJ (qc (P.of.take k))) (qc (P.of.take k)).length)]}
theorem Av (h:P.frameE=0):P.cl.length≤1000∧P.of.length≤1000000:=by
 unfold Pb.frameE at h
 split at h
 ·cases h
 ·split at h
  ·cases h
  ·split at h
   ·cases h
   ·omega
theorem EM:ze Tryz.prog vy [.agg (pbC P)] (iv P.chk):=by
 refine zn PL (by simp) ?_
 simp[bL]
 refine zb (af2 (P:=P)) (by simp) (by simp) ?_
 unfold Pb.chk
 by_cases c1:P.frameE=0
 ·rw[if_pos c1]
  obtain ⟨hn,hk⟩:=Av c1
  simp[c1]
  refine zw (Py P) (fun k=>P.chkL k=0) P.of.length (by simp[Py,qc,nJ,sB]) rfl (fun k hk' hI=>?_) (fun hI=>?_)
  ·have e:(k:Int)<P.of.length:=by omega
   have hg:P.of[k]?=some P.of[k]:=by simp[hk']
   have w1:=zl (k:=k) (by omega)
   obtain ⟨o,ho⟩:∃ o,P.of[k]=o:=⟨_,rfl⟩
   rw[ho] at hg
   simp[nz,Py,e,hk',ho]
   refine zb (agB (P:=P) (o:=o) hn) (by simp) (by simp) ?_
   by_cases d:P.offE o=0
   ·simp[d]
    rw[aiO (L:=P.of.take k) (c:=(qc (P.of.take k)).length) (by simp)]
    by_cases d2:∃ u∈P.of.take k,mn u o
    ·have hi:P.offI k o=7:=by unfold Pb.offI; rw[if_neg (fun h=>h d),if_pos d2]
     rw[eR hI hg (by rw[hi]; decide) hk',hi]
     rw[decide_eq_true d2]
     simp[rF]
    ·have hi:P.offI k o=0:=by unfold Pb.offI; rw[if_neg (fun h=>h d),if_neg d2]
     have hx:=MP hI hg hi
     rw[decide_eq_false d2]
     simp
     rw[ak9 (L:=P.of.take k) (by simp) d2,← dh hg]
     simp[w1,hx,Py]
   ·have hi:P.offI k o=P.offE o:=by unfold Pb.offI; rw[if_pos d]
    rw[eR hI hg (by rw[hi]; exact d) hk',hi]
    simp[d,rF]
  ·rw[hI]
   simp[nz,Py,fw,rF]
 ·rw[if_neg c1]
  simp[c1,rF]
theorem P7 (_hn:P.cl.length≤1000) (_hk:P.of.length≤1000000):ze Tryz.prog vy [.agg (pbC P)] (iv P.chk):=EM
end
end Go.Proofs.YtpnliopaifpimaaGreat

namespace Go.Pb
def Pb.at (P:Pb) (i:Int):Of:=P.of.getD i.toNat ⟨0,fun _=>0,0⟩
def Pb.pick (P:Pb) (ch:List Int):List Of:=ch.map P.at
def prv (ch:List Int):Nat→Int
 | 0=>-1
 | k+1=>ch.getD k 0
def okI (n:Nat) (ch:List Int) (k:Nat):Prop:=prv ch k<ch.getD k 0∧ch.getD k 0<n
instance (n:Nat) (ch:List Int) (k:Nat):Decidable (okI n ch k):=inferInstanceAs (Decidable (prv ch k<ch.getD k 0∧ch.getD k 0<n))
def okP (n:Nat) (ch:List Int):Prop:=∀ k,k<ch.length→okI n ch k
instance (n:Nat) (ch:List Int):Decidable (okP n ch):=Nat.decidableBallLT ch.length fun k _=>okI n ch k
def Pb.feaE (P:Pb) (ch:List Int):Int:=if P.chk≠0 then P.chk else if ¬ okP P.of.length ch then 4 else if P.fits (P.pick ch) then 0 else 14
def Pb.valE (P:Pb) (ch:List Int):Int:=if okP P.of.length ch∧P.chk=0 then ((P.pick ch).map fun o=>o.v).sum else 0
section
variable {P:Pb} {n k:Nat} {ch:List Int}
theorem Pi (h:∀ q,q<k→okI n ch q):(k:Int)-1≤prv ch k:=by
 induction k with
 | zero=>simp[prv]
 | succ k ih =>
  have h1:=ih fun q hq=>h q (by omega)
  have h2:=(h k (by omega)).1
  simp only[prv]
  omega
theorem Z0 (h:okP n ch):ch.length≤n:=by
 cases e:ch.length with
 | zero=>omega
 | succ k =>
  have h1:=Pi (k:=k) (n:=n) (ch:=ch) fun q hq=>h q (by omega)
  have h2:=h k (by omega)
  unfold okI at h2
  omega
theorem TO (h:∀ q,q<k→okI n ch q) (hk:okI n ch k):∃ b:Nat,ch.getD k 0=b∧b<n:=by
 have h1:=Pi h
 have h2:=hk
 unfold okI at h2
 exact ⟨(ch.getD k 0).toNat,by omega,by omega⟩
theorem RD (h:okP P.of.length ch):∀ o∈P.pick ch,o∈P.of:=fun o ho=>by
 obtain ⟨i,hi,rfl⟩:=List.mem_map.1 ho
 obtain ⟨k,hk,rfl⟩:=List.getElem_of_mem hi
 obtain ⟨b,hb,hbn⟩:=TO (fun q hq=>h q (by omega)) (h k hk)
 have e:ch.getD k 0=ch[k]:=by rw[List.getD_eq_getElem?_getD,List.getElem?_eq_getElem hk]; rfl
 unfold Pb.at
 rw[← e,hb,Int.toNat_natCast,List.getD_eq_getElem?_getD,List.getElem?_eq_getElem hbn]
 exact List.getElem_mem hbn
theorem uw:(P.pick ch).length=ch.length:=by simp[Pb.pick]
end
def ints (l:List Nat):List Int:=l.map fun i:Nat=>(i:Int)
theorem amt {n:Nat} {l:List Nat} (h1:l.Pairwise (·<·)) (h2:∀ j∈l,j<n):okP n (ints l):=fun k hk=>by
 have hk':k<l.length:=by simpa [ints] using hk
 have e:∀ k,(hk:k<l.length)→(ints l).getD k 0=(l[k]:Int):=fun k hk=>by simp[ints,hk]
 refine ⟨?_,by rw[e k hk']; have:=h2 _ (List.getElem_mem hk'); omega⟩
 cases k with
 | zero=>rw[e 0 hk']; simp only[prv]; omega
 | succ k =>
  simp only[prv]
  rw[e _ hk',e k (by omega)]
  have:=List.pairwise_iff_getElem.1 h1 k (k+1) (by omega) hk' (by omega)
  omega
end Go.Pb

namespace Go.Proofs.YtpnliopaifpimaaGreat
open Go Go.Am Go.Pb
@[simp] theorem amG:clR []=[]:=rfl
@[simp] theorem amU:ofR []=[]:=rfl
@[simp] theorem alX {tok sz:Nat}:apc tok sz []=td:=P1 rfl
section
variable {P:Pb} {r n:Nat} {o:Of} {L:List Of} {ch:List Int}
theorem getD_lt {l:List Int} {k:Nat} (h:k<l.length):l.getD k 0=l[k]:=by rw[List.getD_eq_getElem?_getD,List.getElem?_eq_getElem h]; rfl
theorem DX {b:Nat} (h:b<P.of.length):P.at (b:Int)=P.of[b]:=by unfold Pb.at; rw[Int.toNat_natCast,List.getD_eq_getElem?_getD,List.getElem?_eq_getElem h]; rfl
theorem UD {k:Nat} (h:k<ch.length):P.pick (ch.take (k+1))=P.pick (ch.take k)++[P.at ch[k]]:=by
 unfold Pb.pick
 rw[dh (o:=ch[k]) (by simp[h]),List.map_append]
 rfl
theorem NE {L M:List Of}:ofR (L++M)=ofR L++ofR M:=by simp[ofR]
theorem n9 {tok sz by_:Nat} {s:St} {KS:St→Prop} {rows:List (List AV)} {m:Am.Mode} {x:List AV} (h0:0<sz) (h1:s.base+tok=tok) (h2:(rows.length+1)*by_≤140737488355328) (h3:rows.length+1≤9223372036854775807) (h4:lk s.sto tok=none)
  (hK:KS ((s.dg tok).put (some tok) (apc tok sz (rows++[x])))):xb sz by_ s (some tok) KS [apc tok sz rows,.list sz m [x]]:=by
 have e:∀ r:List (List AV),apc tok sz r=yq sz tok r:=fun r=>by
  unfold apc yq
  by_cases h:r=[]
  ·subst h; simp
  ·simp[h]
 rw[e,vF h0 h1]
 exact ⟨h2,h3,h4,by rw[← e]; exact hK⟩
end
end Go.Proofs.YtpnliopaifpimaaGreat

namespace Go.Pb
def numK (fx:List Int) (v:Int) (k:Nat):List Nat:=(List.range k).filter fun i=>decide (fx.getD i 9=v)
def Pb.inK (P:Pb) (fx:List Int) (k:Nat):List Of:=(numK fx 1 k).map fun i:Nat=>P.at i
def Pb.inL (P:Pb) (fx:List Int):List Of:=P.inK fx fx.length
def okX (fx:List Int) (i:Nat):Prop:=fx.getD i 9=-1∨fx.getD i 9=0∨fx.getD i 9=1
instance (fx:List Int) (i:Nat):Decidable (okX fx i):=inferInstanceAs (Decidable (_∨_∨_))
def okF (fx:List Int):Prop:=∀ i,i<fx.length→okX fx i
instance (fx:List Int):Decidable (okF fx):=Nat.decidableBallLT fx.length fun i _=>okX fx i
def Pb.relB (P:Pb) (fx:List Int) (r:Nat):Int:=P.bnd r-((P.inL fx).map (P.coef r)).sum
section
variable {P:Pb} {fx:List Int} {v:Int} {k i:Nat}
theorem fN:numK fx v 0=[]:=rfl
theorem numK_succ:numK fx v (k+1)=if fx.getD k 9=v then numK fx v k++[k] else numK fx v k:=by
 unfold numK
 rw[List.range_succ,List.filter_append]
 by_cases h:fx.getD k 9=v
 ·rw[if_pos h,List.filter_cons_of_pos (by simpa using h)]; rfl
 ·rw[if_neg h,List.filter_cons_of_neg (by simpa using h),List.filter_nil,List.append_nil]
theorem adn (h:i∈numK fx v k):i<k∧fx.getD i 9=v:=by
 unfold numK at h
 obtain ⟨h1,h2⟩:=List.mem_filter.1 h
 exact ⟨by simpa using h1,by simpa using h2⟩
theorem numK_len:(numK fx v k).length≤k:=by
 unfold numK
 have:=List.length_filter_le (fun i=>decide (fx.getD i 9=v)) (List.range k)
 rwa [List.length_range] at this
theorem agc:(P.inK fx k).length≤k:=by unfold Pb.inK; rw[List.length_map]; exact numK_len
theorem nt (h:i<P.of.length):P.at (i:Int)=P.of[i]:=by
 unfold Pb.at; rw[Int.toNat_natCast,List.getD_eq_getElem?_getD,List.getElem?_eq_getElem h]; rfl
theorem at_mem (h:i<P.of.length):P.at (i:Int)∈P.of:=by rw[nt h]; exact List.getElem_mem h
theorem agd (h:k≤P.of.length):∀ o∈P.inK fx k,o∈P.of:=fun o ho=>by
 obtain ⟨i,hi,rfl⟩:=List.mem_map.1 ho
 have:=(adn hi).1
 exact at_mem (by omega)
end
end Go.Pb

namespace Go.Proofs.YtpnliopaifpimaaGreat
open Go Go.Am Go.Pb
section
variable {P:Pb} {r n k:Nat} {o:Of} {L:List Of} {fx:List Int}
@[simp] theorem ajI:zK ((oC o).drop 7) 0 none=some (iv o.v):=by rw[p6]; rfl
@[simp] theorem alR {q:Rat} {a b c d:AV}:splice [a,b,c,d] 1 (fr q)=a::fr q:=by unfold fr; simp[splice,-TD]
@[simp] theorem alQ {q:Rat} {x a b c d:AV}:splice [a,b,c,d] 0 (x::fr q)=x::fr q:=by unfold fr; simp[splice,-TD]
@[simp] theorem alS {q:Rat} {x y:AV}:splice (x::fr q) 0 [y]=y::fr q:=by unfold fr; simp[splice,-TD]
@[simp] theorem alC {q:Rat} {x:AV} (h:rf x=true):zK (x::fr q) 0 (some 4)=some (.agg (strip x::fr q)):=by
 rw[rD (by simp) (by rw[List.all_cons,h,Ck]; rfl),List.map_cons,Rf]
@[simp] theorem alw {x:AV} {l:List AV}:zK (x::l) 0 none=some x:=rfl
@[simp] theorem alx {x y:AV} {l:List AV}:zK (x::y::l) 1 none=some y:=rfl
@[simp] theorem amj {l:List Nat}:(ints l).length=l.length:=by simp[ints]
@[simp] theorem amk:ints []=[]:=rfl
@[simp] theorem alD {l:List Nat} {k:Nat} {h:k<(ints l).length}:(ints l)[k]=((l[k]'(by simpa using h):Nat):Int):=by simp[ints]
end
def Mk (w:Nat→Int) (k:Nat):St:={env:=[(1,.ptr 1 0),(3,iv k)],sto:=[(1,.var (bC w))]}
theorem GA {w:Nat→Int}:ze Tryz.prog m4 [.agg (bC w)] (bv (decide (okB w))):=by
 refine zn LV (by simp) ?_
 simp[Xy]
 refine zw (Mk w) (fun i=>∀ j,j<i→0≤w j∧w j≤4) 6 (by simp[Mk]) (fun j hj=>by omega) (fun i hi hI=>?_) (fun hI=>?_)
 ·have e:(i:Int)<6:=by omega
  have w1:=zl (k:=i) (by omega)
  by_cases c1:w i<0
  ·have hf:¬ okB w:=fun h=>by have:=h i hi; omega
   simp[ss,Mk,e,Uo hi,c1,hf,lh]
  ·by_cases c2:4<w i
   ·have hf:¬ okB w:=fun h=>by have:=h i hi; omega
    simp[ss,Mk,e,Uo hi,c1,c2,hf,lh]
   ·simp[ss,Mk,e,Uo hi,c1,c2,w1]
    exact fun j hj=>by
     by_cases e:j=i
     ·subst e; omega
     ·exact hI j (by omega)
 ·have hf:okB w:=hI
  simp[ss,Mk,hf,dZ,lh]
section
variable {P:Pb} {r n:Nat} {o:Of}
theorem TV (hn:P.cl.length≤1000) (hb:0≤o.b) (hr:r<P.rows):∃ c,(o.b<P.cl.length→c=P.coef r o)∧ze Tryz.prog qg [.agg (pbC P),iv r,.agg (oC o)] (.tuple [iv c,iv (P.bnd r)]):=by
 unfold Pb.rows at hr
 unfold Pb.coef Pb.bnd
 obtain ⟨n,hn'⟩:∃ n,P.cl.length=n:=⟨_,rfl⟩
 rw[hn'] at hr hn ⊢
 by_cases h1:r<n
 ·refine ⟨if o.b=r then 1 else 0,fun _=>by rw[if_pos h1],?_⟩
  refine zn qN (by simp) ?_
  rw[if_pos h1]
  by_cases h2:o.b=r
  ·rw[if_pos h2]
   simp[uZ,hn',h1,h2,th]
  ·rw[if_neg h2]
   simp[uZ,hn',h1,h2,th]
 ·have w0:IntKind.i64.wrap ((n:Int)+6)=(n:Int)+6:=by rw[wrap64]<;>omega
  obtain ⟨k,hk⟩:∃ k,r=n+k:=⟨r-n,by omega⟩
  have e0:(r:Int)-n=k:=by omega
  have e2:r-n=k:=by omega
  have w1:IntKind.i64.wrap (k:Int)=k:=by rw[wrap64]<;>omega
  rw[if_neg h1,if_neg h1,e2]
  have c1:¬ (r:Int)<n:=by omega
  by_cases h2:k<6
  ·have c2:(r:Int)<(n:Int)+6:=by omega
   have h2':(k:Int)<6:=by omega
   refine ⟨o.w k,fun _=>by rw[if_pos (by omega)],?_⟩
   rw[if_pos (by omega)]
   refine zn qN (by simp) ?_
   simp[uZ,hn',w0,c1,c2,e0,w1,h2',YM h2,vw h2,th]
  ·obtain ⟨j,hj0⟩:∃ j,k=6+j:=⟨k-6,by omega⟩
   have hj:j<6:=by omega
   have hj':(j:Int)<6:=by omega
   have c2:¬ (r:Int)<(n:Int)+6:=by omega
   have e3:(k:Int)-6=j:=by omega
   have w2:IntKind.i64.wrap (j:Int)=j:=by rw[wrap64]<;>omega
   have hr6:¬ r<n+6:=by omega
   rw[if_neg hr6,if_neg hr6,show k-6=j by omega]
   by_cases h3:P.cls j=0
   ·refine ⟨0,fun _=>by rw[if_pos (.inl h3)],?_⟩
    refine zn qN (by simp) ?_
    simp[uZ,hn',w0,c1,c2,e0,w1,e3,w2,hj',yy hj,yL hj,h3,th]
   ·by_cases h5:o.b<n
    ·obtain ⟨b,hb1,hb2,hb3⟩:=KW (P:=P) (o:=o) (by rw[hn']; exact ⟨hb,h5⟩)
     have hbn:(b:Int)<n:=by omega
     have hbn':b<n:=by omega
     have hc:P.cl[b]?=some (P.clOf (b:Int)):=by rw[← hb1]; exact hb3
     have hE:P.cl[b]=P.clOf (b:Int):=by rw[List.getElem?_eq_getElem hb2] at hc; exact Option.some.inj hc
     rw[hb1]
     by_cases h4:P.cls j=P.clOf (b:Int)
     ·refine ⟨0,fun _=>by rw[if_pos (.inr h4)],?_⟩
      rw[h4] at h3
      refine zn qN (by simp) ?_
      simp[uZ,hn',w0,c1,c2,e0,w1,e3,w2,hj',yy hj,yL hj,h3,hb1,hbn,hbn',hE,h4,th]
     ·refine ⟨o.w j,fun _=>by rw[if_neg (fun h=>h.elim h3 h4)],?_⟩
      refine zn qN (by simp) ?_
      simp[uZ,hn',w0,c1,c2,e0,w1,e3,w2,hj',yy hj,yL hj,YM hj,h3,hb1,hbn,hbn',hE,h4,th]
    ·refine ⟨0,fun h=>absurd h h5,?_⟩
     refine zn qN (by simp) ?_
     simp[uZ,hn',w0,c1,c2,e0,w1,e3,w2,hj',yy hj,yL hj,h3,h5,th]
end
def oZ:Of:=⟨0,fun _=>0,0⟩
theorem Dl:[iv 0,iv 0,iv 0,iv 0,iv 0,iv 0,iv 0,iv 0]=oC oZ:=by rw[p6]; rfl
def GS (P:Pb) (L:List Of) (r:Nat):St:={env:=[(1,ofA L),(2,.ptr 2 0),(5,iv r)],sto:=[(2,.var (pbC P))]}
def Mb (P:Pb) (L:List Of) (r k:Nat):St:={env:=[(1,ofA L),(2,.ptr 2 0),(5,iv r),(6,iv (sY (P.coef r) L k)),(7,iv k)],sto:=[(2,.var (pbC P))]}
section
variable {P:Pb} {r n:Nat} {o:Of} {L:List Of}
theorem DG (hn:P.cl.length≤1000) (hL:L.length≤1000) (hb:∀ o∈L,0≤o.b∧o.b<P.cl.length) (hw:∀ o∈L,okB o.w):ze Tryz.prog jm [.agg (pbC P),ofA L] (bv (decide (P.fits L))):=by
 have hR:P.rows≤1012:=by unfold Pb.rows; omega
 have hRi:((P.rows:Nat):Int)=(P.cl.length:Int)+12:=by unfold Pb.rows; omega
 have w0:IntKind.i64.wrap ((P.cl.length:Int)+12)=(P.cl.length:Int)+12:=by rw[wrap64]<;>omega
 refine zn G8 (by simp) ?_
 simp[Ua]
 refine zw (GS P L) (fun r=>∀ q,q<r→(L.map (P.coef q)).sum≤P.bnd q) P.rows (by simp[GS]) (fun q hq=>by omega) (fun r hr hI=>?_) (fun hI=>?_)
 ·have e:(r:Int)<(P.cl.length:Int)+12:=by omega
  have w1:=zl (k:=r) (by omega)
  simp[jz,GS,e,w0]
  refine zw (Mb P L r) (fun _=>True) L.length (by simp[Mb,UE]) trivial (fun k hk _=>?_) (fun _=>?_)
  ·have e':(k:Int)<L.length:=by omega
   have hg:L[k]?=some L[k]:=by simp[hk]
   have hm:L[k]∈L:=List.getElem_mem hk
   have w2:=zl (k:=k) (by omega)
   obtain ⟨p1,p2⟩:=jO (f:=P.coef r) (fun o ho=>me (P:=P) (hw o ho) hr) k (by omega)
   obtain ⟨p3,p4⟩:=me (P:=P) (hw _ hm) hr
   have w3:IntKind.i64.wrap (sY (P.coef r) L k+P.coef r L[k])=sY (P.coef r) L k+P.coef r L[k]:=by rw[wrap64]<;>omega
   have hs:=aq (f:=P.coef r) hg
   obtain ⟨c,hc,hk'⟩:=TV (P:=P) (o:=L[k]) hn (hb _ hm).1 hr
   have hc:=hc (hb _ hm).2
   subst hc
   simp[pY,Mb,e',hk]
   refine zb hk' (by simp) (by simp) ?_
   simp[w2,w3,hs,Mb]
  ·have hall:sY (P.coef r) L L.length=(L.map (P.coef r)).sum:=YY
   obtain ⟨z,hz,hz0⟩:∃ z:Of,[iv 0,iv 0,iv 0,iv 0,iv 0,iv 0,iv 0,iv 0]=oC z∧0≤z.b:=⟨oZ,Dl,Int.le_refl 0⟩
   obtain ⟨c,_,hk'⟩:=TV (P:=P) (o:=z) hn hz0 hr
   have key:∀ K:Exit→St→Prop,K (.exit 2) {env:=[(1,ofA L),(2,.ptr 2 0),(5,iv r),(6,iv (sY (P.coef r) L L.length)),(7,iv L.length),(23,bv false)],sto:=[(2,.var (pbC P))]}→awp Tryz.prog pY (Mb P L r L.length) (uK K):=by
    intro K h
    simp[pY,Mb]
    exact h
   refine key _ ?_
   simp[bM,hz]
   refine zb hk' (by simp) (by simp) ?_
   by_cases hc:P.bnd r<(L.map (P.coef r)).sum
   ·have hf:¬ P.fits L:=fun h=>by have:=h r hr; omega
    simp[hall,hc,hf,cS]
   ·simp[hall,hc,bN,w1,GS]
    exact fun q hq=>by
     by_cases eq:q=r
     ·subst eq; omega
     ·exact hI q (by omega)
 ·have hf:P.fits L:=hI
  have e:¬ ((P.rows:Nat):Int)<(P.cl.length:Int)+12:=by omega
  simp[jz,GS,w0,e,hf,bO,cS]
end
end Go.Proofs.YtpnliopaifpimaaGreat
