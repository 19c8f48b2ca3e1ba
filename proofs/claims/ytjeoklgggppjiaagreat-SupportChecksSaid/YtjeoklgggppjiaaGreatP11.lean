/- What the proof rests on, part 11: QDp SP SQ RS SR GQ QV GF SS SL X13 Y0 ST SU QT SV SW SY SZ SS2. -/
import Derived.Test.YtjeoklgggppjiaaGreatP10
set_option maxRecDepth 100000
set_option maxHeartbeats 4000000
namespace Go.Proofs.YtjeoklgggppjiaaGreat
open Go Go.Am Go.Pb
section
variable {P:Pb} {r n:Nat} {o:Of} {L:List Of} {ch:List Int}
noncomputable def U9 (P:Pb) (ch:List Int) (k:Nat):St:={env:=[(2,.ptr 2 0),(6,apc 34 8 (ofR (P.pick (ch.take k)))),(7,iv (prv ch k)),(10,clA ch),(11,iv ch.length),(12,iv k)],sto:=[(2,.var (pbC P))]}
theorem Mu (hk:P.of.length≤1000000) (hl:ch.length<4611686018427387904):zd Tryz.prog sd [.agg (pbC P),clA ch] (.tuple [if okP P.of.length ch then ofA (P.pick ch) else dD,bv (decide (okP P.of.length ch))]):=by
 refine wN Th (by simp) ?_
 simp[gL]
 have h0:apc 34 8 (ofR (P.pick (ch.take 0)))=.list 0 .full []:=by rw[List.take_zero]; exact rc rfl
 refine zq (U9 P ch) (fun k=>∀ q,q<k→okI P.of.length ch q) ch.length (by simp[U9,prv,Pb.pick,ofR,apc]) (fun q hq=>by omega) (fun k hk' hI=>?_) (fun hI=>?_)
 ·have e:(k:Int)<ch.length:=by omega
  have w1:=zm (k:=k) (by omega)
  have hp:=Sq hI
  have hg:=getD_lt hk'
  by_cases d:okI P.of.length ch k
  ·have d':=d
   unfold okI at d'
   rw[hg] at d'
   obtain ⟨b,hb,hbn⟩:=Xc hI d
   rw[hg] at hb
   have hlen:=nX (n:=P.of.length) (ch:=ch.take (k+1)) (fun q hq=>by
    have hq:q<k+1:=by simp at hq; omega
    have e1:∀ j,j<k+1→(ch.take (k+1)).getD j 0=ch.getD j 0:=fun j hj=>by
     rw[List.getD_eq_getElem?_getD,List.getD_eq_getElem?_getD,List.getElem?_take,if_pos hj]
    have:=if hqk:q=k then hqk▸d else hI q (by omega)
    unfold okI at this ⊢
    rw[e1 q hq]
    cases q with
    | zero=>exact this
    | succ q=>simp only[prv] at this ⊢; rw[e1 q (by omega)]; exact this)
   have hkn:k+1≤P.of.length:=by simpa [List.length_take,Nat.min_eq_left (show k+1≤ch.length by omega)] using hlen
   rw[hb] at d'
   have b1:¬ (b:Int)≤prv ch k:=by omega
   have b2:(b:Int)<P.of.length:=by omega
   have b3:¬ (P.of.length:Int)≤b:=by omega
   have hat:P.of[b]=P.at ch[k]:=by rw[hb,Gh hbn]
   have hpr:prv ch (k+1)=b:=by simp only[prv]; rw[hg,hb]
   simp[wS,U9,e,hk',hb,b1,b2,b3,hbn]
   refine ua (by decide) rfl ?_ ?_ (by simp) ?_
   ·simp only[rg,xU,List.length_take]; omega
   ·simp only[rg,xU,List.length_take]; omega
   ·have hro:ofR (P.pick (ch.take k))++[oC P.of[b]]=ofR (P.pick (ch.take (k+1))):=by rw[Yc hk',RI,hat]; rfl
    rw[hro]
    simp[w1,hpr,U9]
    exact fun q hq=>by
     by_cases eq:q=k
     ·subst eq; exact d
     ·exact hI q (by omega)
  ·have hf:¬ okP P.of.length ch:=fun h=>d (h k hk')
   unfold okI at d
   rw[hg] at d
   by_cases b1:ch[k]≤prv ch k
   ·simp[wS,U9,e,hk',b1,hf,sH]
    exact AV.imp.refl
   ·have b2:(P.of.length:Int)≤ch[k]:=by omega
    simp[wS,U9,e,hk',b1,b2,hf,sH]
    exact AV.imp.refl
 ·have hf:okP P.of.length ch:=hI
  simp[wS,U9,hf,m6,sH]
  exact AV.imp_tuple2 (cx kW)
theorem GH (hn:P.cl.length≤1000) (hk:P.of.length≤1000000) (hl:ch.length<4611686018427387904):zd Tryz.prog rW [.agg (pbC P),clA ch] (iv (P.feaE ch)):=by
 refine zt YH (by simp) ?_
 simp[kJ]
 refine za (YY hn hk) (by simp) (by simp) ?_
 unfold Pb.feaE
 by_cases c1:P.chk=0
 ·rw[if_neg (fun h:P.chk≠0=>h c1)]
  simp[c1]
  refine za (Mu hk hl) (by simp) (by simp) ?_
  by_cases c2:okP P.of.length ch
  ·have hG:=xS c1
   have hm:=lE c2
   simp[c2]
   have hP:∀ o∈P.pick ch,P.offE o=0:=fun o ho=>hG.off o (hm o ho)
   refine za (E9 (P:=P) (L:=P.pick ch) hn (by rw[xU]; have:=nX c2; have:=hG.k; omega) (fun o ho=>(xI (y7 (hP o ho)).1).1) (fun o ho=>(xI (y7 (hP o ho)).1).2.2)) (by simp) (by simp) ?_
   by_cases c3:P.fits (P.pick ch)
   ·simp[c3,vt]
   ·simp[c3,vt]
  ·simp[c2,vt]
 ·rw[if_pos c1]
  simp[c1,vt]
def FS (L:List Of) (k:Nat):St:={env:=[(7,iv (vq (fun o=>o.v) L k)),(23,ofA L),(24,iv L.length),(25,iv k)],sto:=[]}
theorem aeO (hn:P.cl.length≤1000) (hk:P.of.length≤1000000) (hl:ch.length<4611686018427387904):zd Tryz.prog mc [.agg (pbC P),clA ch] (iv (P.valE ch)):=by
 refine zt S7 (by simp) ?_
 simp[et]
 refine za (Mu hk hl) (by simp) (by simp) ?_
 unfold Pb.valE
 by_cases c2:okP P.of.length ch
 ·simp[c2]
  refine za (YY hn hk) (by simp) (by simp) ?_
  by_cases c1:P.chk=0
  ·have hG:=xS c1
   have hm:=lE c2
   have hP:∀ o∈P.pick ch,0≤o.v∧o.v≤1000000:=fun o ho=>by have:=(xI (y7 (hG.off o (hm o ho))).1).2.1; omega
   have hl2:(P.pick ch).length≤160:=by rw[xU]; have:=nX c2; have:=hG.k; omega
   simp[c1]
   generalize P.pick ch=L at *
   refine zq (FS L) (fun _=>True) L.length (by simp[FS,eU]) trivial (fun k hk' _=>?_) (fun _=>?_)
   ·have e:(k:Int)<L.length:=by omega
    have hg:L[k]?=some L[k]:=by simp[hk']
    have w1:=zm (k:=k) (by omega)
    obtain ⟨p1,p2⟩:=pe (f:=fun o:Of=>o.v) hP k (by omega)
    have p3:=hP _ (List.getElem_mem hk')
    have w3:IntKind.i64.wrap (vq (fun o=>o.v) L k+L[k].v)=vq (fun o=>o.v) L k+L[k].v:=by rw[wrap64]<;>omega
    have hs:=kZ (f:=fun o:Of=>o.v) hg
    simp[qi,FS,e,hk',w1,w3,hs]
   ·have hall:vq (fun o=>o.v) L L.length=(L.map fun o=>o.v).sum:=fp
    simp[qi,FS,kK,hall,rR]
  ·simp[c1,rR]
 ·simp[c2,rR]
end
end Go.Proofs.YtjeoklgggppjiaaGreat

namespace Go.Pb
open Go.LP
def Pb.sA (P:Pb) (i j:Nat):Rat:=if i<P.of.length then (if j<P.rows then-P.cof j i else -1) else if j<P.rows then ((P.bnd j:Int):Rat) else 0
def Pb.sB (P:Pb) (V:Int) (i:Nat):Rat:=if i<P.of.length then-P.vQ i else (V:Rat)
def Pb.sG (P:Pb) (j:Nat):Rat:=if j<P.rows then 0 else -1
def Pb.costQ (P:Pb) (y:Nat→Rat) (i:Nat):Rat:=zh P.rows fun r=>y r*P.cof r i
def Pb.totQ (P:Pb) (y:Nat→Rat):Rat:=zh P.rows fun r=>y r*((P.bnd r:Int):Rat)
abbrev Pb.Sup (P:Pb) (V:Int) (X Y:Nat→Rat) (v:Rat):Prop:=Opt (P.rows+1) (P.of.length+1) P.sA (P.sB V) P.sG X Y v
section
variable {P:Pb} {V:Int} {X Y y x:Nat→Rat} {v:Rat} {i:Nat}
theorem Cx (hi:i<P.of.length):zh (P.rows+1) (fun j=>P.sA i j*X j)=- P.costQ X i-X P.rows:=by
 simp only[zh]
 have e:P.sA i P.rows=-1:=by unfold Pb.sA; rw[if_pos hi,if_neg (Nat.lt_irrefl _)]
 rw[e,zy (g:=fun r=>-(X r*P.cof r i)) fun r hr=>by
  unfold Pb.sA; rw[if_pos hi,if_pos hr]; grind,lN]
 unfold Pb.costQ
 grind
theorem J5:zh (P.rows+1) (fun j=>P.sA P.of.length j*X j)=P.totQ X:=by
 simp only[zh]
 have e:P.sA P.of.length P.rows=0:=by unfold Pb.sA; rw[if_neg (Nat.lt_irrefl _),if_neg (Nat.lt_irrefl _)]
 rw[e,zy (g:=fun r=>X r*((P.bnd r:Int):Rat)) fun r hr=>by
  unfold Pb.sA; rw[if_neg (Nat.lt_irrefl _),if_pos hr]; grind]
 unfold Pb.totQ
 grind
theorem Sy:zh (P.rows+1) (fun j=>P.sG j*X j)=- X P.rows:=by
 simp only[zh]
 have e:P.sG P.rows=-1:=if_neg (Nat.lt_irrefl _)
 rw[e,zS fun r hr=>by unfold Pb.sG; rw[if_pos hr]; grind]
 grind
theorem Cy (hi:i<P.of.length):P.sB V i=- P.vQ i:=if_pos hi
theorem J6:P.sB V P.of.length=(V:Rat):=if_neg (Nat.lt_irrefl _)
theorem Gb {z:Rat} (h1:∀ i,i<P.of.length→P.vQ i≤P.costQ y i+z) (h2:P.totQ y≤(V:Rat)) {m:Nat} (hm:m<P.of.length+1) :
  zh (P.rows+1) (fun j=>P.sA m j*(if j<P.rows then y j else z))≤P.sB V m:=by
 have hc:∀ i,P.costQ (fun j=>if j<P.rows then y j else z) i=P.costQ y i:=fun i=>zy fun r hr=>by
  show (if r<P.rows then y r else z)*_=_
  rw[if_pos hr]
 have ht:P.totQ (fun j=>if j<P.rows then y j else z)=P.totQ y:=zy fun r hr=>by
  show (if r<P.rows then y r else z)*_=_
  rw[if_pos hr]
 by_cases hm':m<P.of.length
 ·rw[Cx (X:=fun j=>if j<P.rows then y j else z) hm',hc,Cy hm',if_neg (Nat.lt_irrefl _)]
  have:=h1 m hm'
  grind
 ·have e:m=P.of.length:=by omega
  subst e
  rw[J5 (X:=fun j=>if j<P.rows then y j else z),ht,J6]
  exact h2
theorem agl (ho:P.Sup V X Y v) {z:Rat} (hy:∀ r,r<P.rows→0≤y r) (hz:0≤z) (h1:∀ i,i<P.of.length→P.vQ i≤P.costQ y i+z) (h2:P.totQ y≤(V:Rat)):X P.rows≤z:=by
 have h:=wQ (n:=P.rows+1) (m:=P.of.length+1) (A:=P.sA) (bb:=P.sB V) (gg:=P.sG) (x:=fun j=>if j<P.rows then y j else z) (y:=Y)
  (fun j _=>by
   by_cases e:j<P.rows
   ·rw[if_pos e]; exact hy j e
   ·rw[if_neg e]; exact hz)
  (fun i hi=>Gb h1 h2 hi) (fun i _=>ho.y0 i) ho.col
 rw[ho.vy,Sy (X:=fun j=>if j<P.rows then y j else z),if_neg (Nat.lt_irrefl _)] at h
 have h3:=ho.vx
 rw[Sy] at h3
 grind
theorem ak1 (ho:P.Sup V X Y v):v=- X P.rows:=by rw[← ho.vx,Sy]
theorem abv (ho:P.Sup V X Y v) (hi:i<P.of.length):P.vQ i≤P.costQ X i+X P.rows:=by
 have h:=ho.row i (by omega)
 rw[Cx hi,Cy hi] at h
 grind
theorem aef (ho:P.Sup V X Y v):P.totQ X≤(V:Rat):=by
 have h:=ho.row P.of.length (by omega)
 rw[J5,J6] at h
 exact h
theorem ahC (hG:P.Good) (hi:i<P.of.length):P.vQ i≤1000000∧0≤P.vQ i:=by
 have h:=(xI (y7 (hG.off _ (at_mem hi))).1).2.1
 unfold Pb.vQ
 constructor
 ·have h1:(P.at (i:Int)).v≤1000000:=by omega
  have h2:((1000000:Int):Rat)=1000000:=by decide
  rw[← h2]
  exact Rat.intCast_le_intCast.2 h1
 ·have:0≤(P.at (i:Int)).v:=by omega
  exact_mod_cast this
theorem F2 (hG:P.Good) (hV:0≤V) (h:Inf (P.rows+1) (P.of.length+1) P.sA (P.sB V) y):False:=by
 have h0:∀ i,P.costQ (fun _=>0) i=0:=fun i=>zS fun r _=>by grind
 have h0t:P.totQ (fun _=>0)=0:=zS fun r _=>by grind
 have hr:=fun m (hm:m<P.of.length+1)=>Gb (V:=V) (y:=fun _=>(0:Rat)) (z:=1000000) (fun i hi=>by rw[h0]; have:=(ahC hG hi).1; grind) (by rw[h0t]; exact_mod_cast hV) hm
 have hw:=wQ (n:=P.rows+1) (m:=P.of.length+1) (A:=P.sA) (bb:=P.sB V) (gg:=fun _=>0) (x:=fun j=>if j<P.rows then 0 else 1000000) (y:=y)
  (fun j _=>by split<;>decide) hr (fun i _=>h.y0 i) h.col
 rw[zS fun j _=>by grind] at hw
 have:=h.vy
 grind
theorem F3 {ray:Nat→Rat} (h:Unb (P.rows+1) (P.of.length+1) P.sA (P.sB V) P.sG x ray):False:=by
 have h1:=h.up
 rw[Sy] at h1
 have:=h.r0 P.rows
 grind
theorem B4 {fx:List Int} (h:P.Sol fx x) (hy:∀ r,r<P.rows→0≤y r):zh fx.length (fun i=>P.costQ y i*x i)≤P.totQ y:=by
 have:zh fx.length (fun i=>P.costQ y i*x i)=zh P.rows (fun r=>y r*zh fx.length fun i=>P.cof r i*x i):=by
  rw[zy (n:=P.rows) (g:=fun r=>zh fx.length fun i=>y r*(P.cof r i*x i)) fun r _=>fI.symm,YD]
  refine zy fun i _=>?_
  unfold Pb.costQ
  rw[← de]
  exact zy fun r _=>by grind
 rw[this]
 exact go fun r hr=>by
  have h1:=h.row r hr
  have:=Rat.mul_nonneg (hy r hr) (show 0≤((P.bnd r:Int):Rat)-zh fx.length (fun i=>P.cof r i*x i) by grind)
  grind
end
section
variable {P:Pb} {V:Int} {fx:List Int} {X Y X' Y' x:Nat→Rat} {v B:Rat} {T:List Nat}
theorem aa8 (hl:fx.length=P.of.length) (ho:P.Sup V X Y v) (h0:X P.rows=0) (h:P.Sol fx x):P.val fx.length x≤(V:Rat):=by
 have h1:=B4 h fun r _=>ho.x0 r
 have h2:=aef ho
 have h3:P.val fx.length x≤zh fx.length (fun i=>P.costQ X i*x i):=go fun i hi=>by
  have a:=abv ho (i:=i) (by omega)
  rw[h0] at a
  have:=Rat.mul_nonneg (show 0≤P.costQ X i-P.vQ i by grind) (h.x0 i hi)
  grind
 grind
end
end Go.Pb

namespace Go.Am
open Go.RowKit
section
variable {P:Program}
theorem C1 {f:FuncId} {fn:Func} {code:Code} {ac:zc} {ras:List zu} {args:List AV} {r:AV} {K:Exit→St→Prop} (hK0:∀ e s,K e s→(e=.normal∨e=.ret)∧∃ t,St.imp s t∧sI ras t=some r) (hf:P.funcs[f]?=some fn) (hb:fn.body=some code)
  (htr:ye P fn.ntmps code=some (bare ac)) (hres:yv (uC P) fn.results.toList=some ras) (hn:args.length≤fn.ntmps)
  (h:awp P ac {env:=ve 0 args,sto:=[]} K):zd P f args r:=by
 intro I vs w hI hs hR
 refine calls_of_wp hf hb ?_
 have hH:Holds {w0:=w,I0:=I,N:=fn.ntmps} {env:=ve 0 args,sto:=[]} {tmps:=vs++Array.replicate (fn.ntmps-vs.size) undef,defers:=[]} w:=by
  refine ⟨I,fun _=>none,fun _=>none,?_⟩
  refine
   {defers:=rfl
    size:=by simp; omega
    below:=Below.refl _ _
    env:=fun t x ht=>?_
    sto:=fun k en hk=>by simp[lk] at hk
    usto:=fun l sz rows hk=>by simp[lk] at hk
    bdom:=fun k b hk=>by cases hk
    binj:=fun k k' b hk=>by cases hk
    bnew:=fun k b hk=>by cases hk
    Isub:=hI
    I0sub:=fun _ _ h=>h
    Inew:=fun _ _ h=>.inl h
    spare:=fun l a len cap sz hl=>by cases hl
    ldis:=fun l l' b o o' len len' cap cap' sz sz' _ h1=>by cases h1}
  obtain ⟨d,t⟩:=t
  cases d with
  | succ d=>simp[St.look] at ht
  | zero=>?_
  obtain ⟨j,rfl,hj⟩:=bS _ _ _ _ ht
  have hlt:j<vs.size:=by
   have:=(List.getElem?_eq_some_iff.1 hj).1
   omega
  refine ⟨vs.getD j undef,?_,.base (hR j x hj)⟩
  simp only[z0.val]
  rw[Nat.zero_add,Array.getElem?_append_left hlt]
  simp[hlt]
 refine jS (F:={w0:=w,I0:=I,N:=fn.ntmps}) code ac htr hH h fun e s a' w' _ hK hH'=>?_
 obtain ⟨he,t,hst,hr⟩:=hK0 _ _ hK
 obtain ⟨I',β,lam,hI'⟩:=hst _ _ _ hH'
 obtain ⟨xs,hxs,rfl⟩:=MD hr
 have hJ:∀ b o,Seen I' β lam b o→(I b o∨w.heap.size≤b)∧b<w'.heap.size:=by
  intro b o hb
  rcases hb with hb | ⟨k,hb⟩ | ⟨l,p,cap,sz,hl,h0⟩
  ·exact ⟨hI'.Inew b o hb,hI'.Isub b o hb⟩
  ·exact ⟨.inr (hI'.bnew k b hb).1,(hI'.bnew k b hb).2.1⟩
  ·obtain ⟨g1,g2,_⟩:=hI'.ublock hl h0
   exact ⟨.inr g1,g2⟩
 obtain ⟨v,hrun,hRv⟩:=kj (fn:=fn) (rd:=UZ t) (Rel:=R0 (fun b o=>(I b o∨w.heap.size≤b)∧b<w'.heap.size) w') (fun rv ra x h1 h2=>by
   obtain ⟨v,g1,g2⟩:=JX hI' h1 h2
   exact ⟨v,g1,g2.mono hJ (fun _ _ _ _ h=>h)⟩) (fun xs vs _ h2 h3=>.tuple xs vs h2 h3) hres hxs
 have hpost:a'.defers=[]∧∃ v,(results fn a'.tmps).run P w'=.ok v w'∧∃ u,Ending.returned v=.returned u∧Below w.heap.size w w'∧R0 (fun b o=>(I b o∨w.heap.size≤b)∧b<w'.heap.size) w' (tup xs) u :=
  ⟨hI'.defers,v,hrun,v,rfl,hI'.below,hRv⟩
 rcases he with rfl | rfl
 ·exact hpost
 ·exact hpost
def aaz (ras:List zu) (r:AV):Exit→St→Prop:=fun e s=>(e=.normal∨e=.ret)∧∃ t,St.imp s t∧sI ras t=some r
theorem aaA {ras:List zu} {r:AV} {s:St}:aaz ras r .ret s=∃ t,St.imp s t∧sI ras t=some r:=by simp[aaz]
theorem ad8 {f:FuncId} {ac:zc} {ras:List zu} {N:Nat} {args:List AV} {r:AV} (ht:zj P f=some (bare ac,ras,N)) (hn:args.length≤N)
  (h:awp P ac ⟨ve 0 args,[],[],0⟩ (aaz ras r)):zd P f args r:=by
 unfold zj at ht
 split at ht
 ·rename_i fn hf
  split at ht
  ·rename_i c hb
   split at ht
   ·rename_i a r' ha hr
    simp only[Option.some.injEq,Prod.mk.injEq] at ht
    obtain ⟨rfl,rfl,rfl⟩:=ht
    exact C1 (fun _ _ h=>h) hf hb ha hr hn h
   ·cases ht
  ·cases ht
 ·cases ht
theorem Ev {f:FuncId} {fn:Func} {code:Code} {ac:zc} {n:Nat} {args:List AV} {s:St} {K:AV→St→Prop} (B:Nat) (hf:P.funcs[f]?=some fn) (hb:fn.body=some code)
  (htr:ye P fn.ntmps code=some (bare ac)) (hres:yv (uC P) fn.results.toList=some [.t n]) (hn:args.length≤fn.ntmps)
  (h:awp P ac {env:=ve 0 args,sto:=s.sto,out:=s.env::s.out,base:=B} fun e s'=>(e=.normal∨e=.ret)∧∃ sz m rows e0 o0,s'.get n=.list sz m rows∧s'.out=e0::o0∧K (.list sz m rows) {env:=e0,sto:=s'.sto,out:=o0,base:=s.base}):z5 P f args s K:=by
 intro F a w I β lam hI vs hs hR
 refine calls_of_wp hf hb ?_
 have hH:Holds {w0:=F.w0,I0:=F.I0,N:=fn.ntmps,outs:=a.tmps::F.outs} {env:=ve 0 args,sto:=s.sto,out:=s.env::s.out,base:=B} {tmps:=vs++Array.replicate (fn.ntmps-vs.size) undef,defers:=[]} w:=by
  refine ⟨I,β,lam,?_⟩
  refine {hI with defers:=rfl,size:=by simp; omega,env:=fun t x ht=>?_}
  obtain ⟨d,t⟩:=t
  cases d with
  | zero =>
   obtain ⟨j,rfl,hj⟩:=bS _ _ _ _ ht
   have hlt:j<vs.size:=by
    have:=(List.getElem?_eq_some_iff.1 hj).1
    omega
   refine ⟨vs.getD j undef,?_,hR j x hj⟩
   simp only[z0.val]
   rw[Nat.zero_add,Array.getElem?_append_left hlt]
   simp[hlt]
  | succ d =>
   cases d with
   | zero =>
    obtain ⟨v,h1,h2⟩:=hI.env (0,t) x ht
    exact ⟨v,h1,h2⟩
   | succ d =>
    obtain ⟨v,h1,h2⟩:=hI.env (d+1,t) x ht
    exact ⟨v,h1,h2⟩
 refine jS (F:={w0:=F.w0,I0:=F.I0,N:=fn.ntmps,outs:=a.tmps::F.outs}) code ac htr hH h fun e s' a' w' _ hK hH'=>?_
 obtain ⟨he,sz,m,rows,e0,o0,hg,hout,hK⟩:=hK
 obtain ⟨I',β',lam',hI'⟩:=hH'
 have hget:∀ n,R I' w' β' lam' (s'.get n) (a'.tmps.getD n undef):=fun n=>hI'.opd (.tmp n)
 obtain ⟨v,hrun,hRv⟩:=kj (P:=P) (w:=w') (tmps:=a'.tmps) (fn:=fn) (rd:=fun ra=>match ra with | .t n=>some (s'.get n) | .cell _ _=>none) (Rel:=fun x v=>match x with | .list sz m rows=>R I' w' β' lam' (.list sz m rows) v | _=>True) (fun rv ra x h1 h2=>by
   cases rv with
   | tmp t =>
    simp only[uC,Option.some.injEq] at h1
    subst h1
    simp only[Option.some.injEq] at h2
    subst h2
    refine ⟨_,rfl,?_⟩
    have h3:=hget t
    split
    ·rename_i e; rw[e] at h3; exact h3
    ·trivial
   | cell p t =>
    simp only[uC,Option.map_eq_some_iff] at h1
    obtain ⟨k,hk,rfl⟩:=h1
    cases h2) (fun xs vs h1 h2 h3=>trivial) hres (xs:=[s'.get n]) rfl
 simp only[tup,hg] at hRv
 have hpop:Inv F (St.look {env:=e0,sto:=s'.sto,out:=o0,base:=s.base}) (lk s'.sto) I' β' lam' a w':=by
  refine {hI' with defers:=hI.defers,size:=hI.size,env:=fun t x ht=>?_}
  have key:s'.look (t.1+1,t.2)=some x:=by
   obtain ⟨d,t⟩:=t
   simp only[St.look,hout] at ht ⊢
   cases d with
   | zero=>exact ht
   | succ d=>exact ht
  obtain ⟨v,h1,h2⟩:=hI'.env _ x key
  refine ⟨v,?_,h2⟩
  obtain ⟨d,t⟩:=t
  cases d with
  | zero=>exact h1
  | succ d=>exact h1
 have hpost:a'.defers=[]∧∃ v,(results fn a'.tmps).run P w'=.ok v w'∧∃ u,Ending.returned v=.returned u∧∃ r s' I' β' lam',K r s'∧Inv F s'.look (lk s'.sto) I' β' lam' a w'∧R I' w' β' lam' r u :=
  ⟨hI'.defers,v,hrun,v,rfl,.list sz m rows,_,I',β',lam',hK,hpop,hRv⟩
 rcases he with rfl | rfl
 ·exact hpost
 ·exact hpost
def aax (n base:Nat) (K:AV→St→Prop):Exit→St→Prop:=fun e s'=>(e=.normal∨e=.ret)∧∃ sz m rows e0 o0,s'.get n=.list sz m rows∧s'.out=e0::o0∧K (.list sz m rows) {env:=e0,sto:=s'.sto,out:=o0,base:=base}
theorem aay {n base:Nat} {K:AV→St→Prop} {s:St}:aax n base K .ret s=∃ sz m rows e0 o0,s.get n=.list sz m rows∧s.out=e0::o0∧K (.list sz m rows) {env:=e0,sto:=s.sto,out:=o0,base:=base}:=by simp[aax]
theorem ad7 {f:FuncId} {ac:zc} {n N:Nat} {args:List AV} {s:St} {K:AV→St→Prop} (B:Nat) (ht:zj P f=some (bare ac,[.t n],N)) (hn:args.length≤N)
  (h:awp P ac {env:=ve 0 args,sto:=s.sto,out:=s.env::s.out,base:=B} (aax n s.base K)):z5 P f args s K:=by
 unfold zj at ht
 split at ht
 ·rename_i fn hf
  split at ht
  ·rename_i c hb
   split at ht
   ·rename_i a r' ha hr
    simp only[Option.some.injEq,Prod.mk.injEq] at ht
    obtain ⟨rfl,rfl,rfl⟩:=ht
    exact Ev B hf hb ha hr hn h
   ·cases ht
  ·cases ht
 ·cases ht
def St.frozen (k:Nat) (en:ze) (s:St):St:={s with env:=s.env.map fun p=>(p.1,frz k en p.2),sto:=(del [k] s.sto).map fun p=>(p.1,v4 k en p.2),out:=s.out.map fun f=>f.map fun p=>(p.1,frz k en p.2)}
theorem GU {F:z0} {I:Nat→Nat→Prop} {w:World} {β:zV} {lam:z6} {a:Act} {s:St} {k:Nat} {en:ze} (hen:lk s.sto k=some en) (h:Inv F s.look (lk s.sto) I β lam a w) (hu:(s.frozen k en).unmet k=true) :
  ∃ I' β' lam',Inv F (s.frozen k en).look (lk (s.frozen k en).sto) I' β' lam' a w∧∀ x v,R I w β lam x v→zU k (frz k en x)=false→R I' w β' lam' (frz k en x) v:=by
 unfold St.frozen at hu ⊢
 obtain ⟨Q,hQe⟩:∃ Q:Prop,Q=∃ I' β' lam',Inv F (St.look {s with env:=s.env.map fun p=>(p.1,frz k en p.2),sto:=(del [k] s.sto).map fun p=>(p.1,v4 k en p.2),out:=s.out.map fun f=>f.map fun p=>(p.1,frz k en p.2)}) (lk (St.sto {s with env:=s.env.map fun p=>(p.1,frz k en p.2),sto:=(del [k] s.sto).map fun p=>(p.1,v4 k en p.2),out:=s.out.map fun f=>f.map fun p=>(p.1,frz k en p.2)})) I' β' lam' a w∧∀ x v,R I w β lam x v→zU k (frz k en x)=false→R I' w β' lam' (frz k en x) v:=⟨_,rfl⟩
 have hQ:=hQe.mpr
 rw[← hQe]
 have look:∀ t,(St.look {s with env:=s.env.map fun p=>(p.1,frz k en p.2),sto:=(del [k] s.sto).map fun p=>(p.1,v4 k en p.2),out:=s.out.map fun f=>f.map fun p=>(p.1,frz k en p.2)}) t=(s.look t).map (frz k en):=by
  intro t
  obtain ⟨f,t⟩:=t
  cases f with
  | zero=>exact uQ _ _ _
  | succ f =>
   simp only[St.look,List.getElem?_map]
   cases s.out[f]? with
   | none=>rfl
   | some q=>exact uQ _ _ _
 have main:∀ (X:Nat→Nat→Prop),(∀ b o,X b o→F.w0.heap.size≤b∧b<w.heap.size∧(∀ k',wt β [k] k'≠some b) ∧
    ∀ l o' len cap sz c,nu lam en.isU [k] l=some (some ⟨b,o',none⟩,len,cap,sz)→o=o'+c→len*sz≤c→c<cap*sz→False) →
   PV I (fun b o=>I b o∨X b o) w β lam k en→Q:=by
  intro X hX hF
  refine hQ ⟨_,wt β [k],nu lam en.isU [k],h.forget X rfl (fun k b hk=>(wL hk).1) (fun l q hq=>(gh hq).1) hX (fun t x ht=>?_) (fun k' en' hk hU=>?_) (fun l sz rows hk=>?_) (fun k' b hk=>?_),fun x v hx hn=>bL hF hx hn⟩
  ·have hn:=aK hu ht
   rw[look] at ht
   simp only[Option.map_eq_some_iff] at ht
   obtain ⟨x',ht,rfl⟩:=ht
   obtain ⟨v,h1,h2⟩:=h.env t x' ht
   exact ⟨v,h1,bL hF h2 hn⟩
  ·have hn:=n9 hu hk
   obtain ⟨en0,h1,h2,rfl⟩:=eO hk
   rw[bK] at hU
   obtain ⟨b,hb,hE⟩:=h.sto k' en0 h1 hU
   refine ⟨b,by unfold wt; rw[if_neg (by simpa using h2)]; exact hb,?_⟩
   cases en0 with
   | var cells =>
    intro j c hj
    have hc:=alp hn hj
    simp only[List.getElem?_map,Option.map_eq_some_iff] at hj
    obtain ⟨c',hj,rfl⟩:=hj
    obtain ⟨v,g1,g2,g3,g4⟩:=hE j c' hj
    exact ⟨v,g1,g2,g3,bL hF g4 hc⟩
   | arr sz rows =>
    refine ⟨hE.1,fun i r j c hi hj=>?_⟩
    obtain ⟨v,g1,g2,g3,g4⟩:=hE.2 i r j c hi hj
    exact ⟨v,g1,g2,g3,g4.mono hF.sub (fun _ _ _ _ h=>h)⟩
   | uarr sz rows=>cases hU
   | map es clock=>exact hE
  ·have hn:=n9 hu hk
   obtain ⟨en0,h1,h2,e⟩:=eO hk
   cases en0 with
   | var cells=>cases e
   | arr sz rows=>cases e
   | map es clock=>cases e
   | uarr sz0 rows0 =>
    cases e
    obtain ⟨av,cap,g1,g2,g3,g4⟩:=h.usto l _ _ h1
    refine ⟨av,cap,by unfold nu; rw[if_neg (by simp[h2])]; exact g1,by simpa using g2,fun i r hi=>?_,fun hne=>?_⟩
    ·simp only[List.getElem?_map,Option.map_eq_some_iff] at hi
     obtain ⟨r0,hi,rfl⟩:=hi
     rw[List.length_map]; exact g3 i r0 hi
    ·obtain ⟨b,q,rfl,g5⟩:=g4 (by intro e; subst e; exact hne rfl)
     refine ⟨b,q,rfl,fun i r j c hi hj=>?_⟩
     have hc:=alp (jj hn r (List.mem_iff_getElem?.2 ⟨i,hi⟩)) hj
     simp only[List.getElem?_map,Option.map_eq_some_iff] at hi
     obtain ⟨r0,hi,rfl⟩:=hi
     simp only[List.getElem?_map,Option.map_eq_some_iff] at hj
     obtain ⟨c',hj,rfl⟩:=hj
     obtain ⟨v,q1,q2,q3⟩:=g5 i r0 j c' hi hj
     exact ⟨v,q1,q2,bL hF q3 hc⟩
  ·obtain ⟨h1,h2⟩:=wL hk
   obtain ⟨en',hen',hU⟩:=h.bdom k' b h1
   refine ⟨v4 k en en',?_,by rw[bK]; exact hU⟩
   simp only
   rw[uQ,tO,if_neg (by rw[h2]; simp),hen']
   rfl
 cases hU:en.isU with
 | false =>
  obtain ⟨b,hb,hE⟩:=h.sto k en hen hU
  refine main (fun b' _=>b'=b) ?_ ⟨fun b o hi=>.inl hi,fun _=>⟨b,hb,hE,fun o=>.inr rfl⟩,fun sz rows e=>by subst e; cases hU⟩
  rintro b' o rfl
  obtain ⟨g1,g2,g3⟩:=h.bnew k b' hb
  refine ⟨g1,g2,fun k' hk'=>?_,fun l o' len cap sz c hl _ h1 h2=>?_⟩
  ·obtain ⟨q1,q2⟩:=wL hk'
   have:=h.binj k k' b' hb q1
   subst this
   simp at q2
  ·obtain ⟨b2,o'',e1,_,_,_,_,e6⟩:=h.spare l _ len cap sz (gh hl).1 c h1 h2
   simp only[Option.some.injEq,Addr.mk.injEq] at e1
   obtain ⟨rfl,_⟩:=e1
   exact e6 k hb
 | true =>
  cases en with
  | var cells=>cases hU
  | arr sz rows=>cases hU
  | map es clock=>cases hU
  | uarr sz rows =>
   have hR:=h.usto k _ _ hen
   refine main (fun b q=>∃ o cap,lam k=some (some ⟨b,o,none⟩,0,cap,sz)∧o≤q∧q<o+cap*sz) ?_
    ⟨fun b o hi=>.inl hi,fun hf=>(by cases hf),fun sz' rows' e=>by cases e; exact ⟨hR,fun b o cap q hl hq=>.inr ⟨o,cap,hl,by omega,by omega⟩⟩⟩
   rintro b q ⟨o,cap,hl,h1,h2⟩
   obtain ⟨g1,g2,g3,_⟩:=h.ublock hl (by omega)
   refine ⟨g1,g2,fun k' hk'=>g3 k' (wL hk').1,fun l o' len cap' sz' c hl' _ q1 q2=>?_⟩
   obtain ⟨q3,q4⟩:=gh hl'
   have hne:k≠l:=by
    intro e; subst e
    simp[ze.isU] at q4
   exact h.ldis k l b o o' 0 len cap cap' sz sz' hne hl q3 (by omega) (by omega)
theorem z5.frz {f:FuncId} {xs:List AV} {s:St} {K:AV→St→Prop} {k:Nat} {en:ze} (hen:lk s.sto k=some en) (hu:(s.frozen k en).unmet k=true) (hx:∀ x∈xs,zU k (frz k en x)=false)
  (hc:z5 P f (xs.map (Am.frz k en)) (s.frozen k en) K):z5 P f xs s K:=by
 intro F a w I β lam hI vs hs hR
 obtain ⟨I',β',lam',h1,h2⟩:=GU hen hI hu
 refine hc F a w I' β' lam' h1 vs (by simpa using hs) fun i y hy=>?_
 simp only[List.getElem?_map,Option.map_eq_some_iff] at hy
 obtain ⟨x,hy,rfl⟩:=hy
 exact h2 x _ (hR i x hy) (hx x (List.mem_iff_getElem?.2 ⟨i,hy⟩))
theorem z5.frzRaw {f:FuncId} {a b:AV} {cells:List AV} {s:St} {K:AV→St→Prop} {k:Nat} {en:ze} (hen:lk s.sto k=some en) (hu:(s.frozen k en).unmet k=true)
  (ha:zU k (Am.frz k en a)=false) (hb:zU k (Am.frz k en b)=false) (hx:∀ c∈cells,zU k (Am.frz k en c)=false∧rf (Am.frz k en c)=true)
  (hc:z5 P f [Am.frz k en a,Am.frz k en b,.agg (cells.map fun c=>strip (Am.frz k en c))] (s.frozen k en) K):z5 P f [a,b,.raw cells] s K:=by
 intro F a' w I β lam hI vs hs hR
 obtain ⟨I',β',lam',h1,h2⟩:=GU hen hI hu
 refine hc F a' w I' β' lam' h1 vs (by simpa using hs) fun i y hy=>?_
 match i,hy with
 | 0,hy=>cases hy; exact h2 a _ (hR 0 a rfl) ha
 | 1,hy=>cases hy; exact h2 b _ (hR 1 b rfl) hb
 | 2,hy =>
  cases hy
  have h3:=hR 2 (.raw cells) rfl
  generalize vs.getD 2 undef=v at h3
  cases h3 with
  | base h=>cases h
  | raw _ us hs h1 hcs =>
   refine .base (.agg _ us (by simpa using hs) h1 fun i c hi=>?_)
   simp only[List.getElem?_map,Option.map_eq_some_iff] at hi
   obtain ⟨c0,hi,rfl⟩:=hi
   have hm:c0∈cells:=List.mem_iff_getElem?.2 ⟨i,hi⟩
   exact (h2 c0 _ (hcs i c0 hi) (hx c0 hm).1).to0 (hx c0 hm).2
end
end Go.Am

namespace Go.Proofs.YtjeoklgggppjiaaGreat
open Go Go.Am Go.Pb Go.LP Go.Dig
theorem bZ {n:Int} (h1:-4294967296<n) (h2:n<4294967296):zd Tryz.prog xE [iv n] (fq (-(n:Rat))):=by
 refine zt YJ (by simp) ?_
 simp[kP]
 refine za (xi (n:=n) (by omega) (by omega)) (by simp) (by simp) ?_
 simp
 refine za (Sh (p:=(n:Rat)) (K:=32) (by decide) (tZ (by omega))) (by simp) (by simp) ?_
 simp[ja]
noncomputable def wU (A:Nat→Nat→Rat) (b:Nat→Rat) (r j k:Nat):List (List AV):=mR (fun i=>apc (1000000+i) 3 (fR (A i) (if i<j then r+1 else r))::fr (b i)) k
section
variable {A:Nat→Nat→Rat} {b:Nat→Rat} {r j k l:Nat}
@[simp] theorem akc:(wU A b r j k).length=k:=sZ
theorem aeQ:wU A b r k k=wU A b (r+1) 0 k:=wZ fun i hi=>by rw[if_pos hi,if_neg (Nat.not_lt_zero i)]
theorem XB {h:j<(wU A b r j k).length}:(wU A b r j k)[j]=apc (1000000+j) 3 (fR (A j) r)::fr (b j):=by
 have:=nW (g:=fun i=>apc (1000000+i) 3 (fR (A i) (if i<j then r+1 else r))::fr (b i)) (n:=k) (hi:=h)
 simp only[Nat.lt_irrefl,if_false] at this
 exact this
theorem afj {q:Rat}:(fr q).map (dg l)=fr q:=by simp
theorem NP {q:Rat} {a b:Nat}:(fr q).map (rn a b)=fr q:=by simp
theorem Bx {x:AV} (hj:j<k) (hx:x=apc (1000000+j) 3 (fR (A j) (r+1))):(zR (1000000+j) (wU A b r j k)).set j (x::fr (b j))=wU A b r (j+1) k:=by
 have h1:zR (1000000+j) (wU A b r j k)=mR (fun i=>dg (1000000+j) (apc (1000000+i) 3 (fR (A i) (if i<j then r+1 else r)))::fr (b i)) k:=t6 fun i hi=>by simp
 rw[h1,cu]
 refine wZ fun i hi=>?_
 unfold upd
 by_cases e:i=j
 ·subst e; rw[if_pos rfl,if_pos (by omega),hx]
 ·rw[if_neg e]
  show dg (1000000+j) (apc (1000000+i) 3 _)::_=_
  rw[rZ (by omega)]
  by_cases h:i<j
  ·rw[if_pos h,if_pos (by omega)]
  ·rw[if_neg h,if_neg (by omega)]
theorem LA {t:Nat} (hj:j<k):∃ y,(zR t (wU A b r j k))[j]?=some (y::fr (b j)):=by
 refine ⟨dg t (apc (1000000+j) 3 (fR (A j) r)),?_⟩
 have h1:(wU A b r j k)[j]?=some (apc (1000000+j) 3 (fR (A j) r)::fr (b j)):=by
  rw[List.getElem?_eq_getElem (by simpa using hj),XB]
 unfold zR
 rw[List.getElem?_map,h1]
 simp
theorem Gm {cs:List AV}:cellsOf (.agg cs)=some cs:=rfl
theorem Rc {t:Nat} (h:t<1000000):zR t (wU A b r j k)=wU A b r j k:=t6 fun i hi=>by
 rw[List.map_cons,rZ (by omega),afj]
theorem agt {t:Nat} (h:t<1000000) (hj:j<k):((wU A b r j k).set j (.list 3 (.own t) (fR (A j) (r+1))::fr (b j))).map (fun x=>x.map (rn t (1000000+j)))=wU A b r (j+1) k:=by
 unfold wU
 rw[cu]
 refine t6 fun i hi=>?_
 unfold upd
 by_cases e:i=j
 ·subst e
  rw[if_pos rfl,if_pos (by omega),List.map_cons,NP,Su,sw,if_pos rfl,xQ (by simp)]
 ·rw[if_neg e,List.map_cons,NP]
  have:∀ R,rn t (1000000+j) (apc (1000000+i) 3 R)=apc (1000000+i) 3 R:=fun R=>by
   unfold apc
   split
   ·rfl
   ·rw[Su,sw,if_neg (by omega),if_neg (by omega)]
  rw[this]
  by_cases h:i<j
  ·rw[if_pos h,if_pos (by omega)]
  ·rw[if_neg h,if_neg (by omega)]
theorem afS {P:Pb} {c o:AV} {a b:Nat}:(pbX P c o).map (rn a b)=pbX P (rn a b c) (rn a b o):=by rw[xc,xc]; rfl
@[simp] theorem akd:yK l (wU A b r j k)=false:=ct fun i=>by simp
end
theorem P4 {d tok sz by_:Nat} {s:St} {KS:St→Prop} {rows:List (List AV)} {m:Am.Mode} {x:List AV} (h0:0<sz) (h1:s.base+d=tok) (h2:(rows.length+1)*by_≤140737488355328) (h3:rows.length+1≤9223372036854775807) (h4:lk s.sto tok=none)
  (hK:KS ((s.dg tok).put (some d) (apc tok sz (rows++[x])))):yM sz by_ s (some d) KS [apc tok sz rows,.list sz m [x]]:=by
 have h5:apc tok sz (rows++[x])=.list sz (.own tok) (rows++[x]):=xQ (by simp)
 rw[h5] at hK
 by_cases e:rows.length=0
 ·have:rows=[]:=List.eq_nil_of_length_eq_zero e
  subst this
  rw[rc rfl,Nx,h1]
  simp only[List.nil_append,List.length_nil,List.length_cons,List.length_nil] at hK h2 h3 ⊢
  exact ⟨.inr trivial,h0,by omega,by omega,.inl trivial,h4,hK⟩
 ·rw[xQ e,LQ]
  exact ⟨.inr rfl,h0,by simpa using h2,by simpa using h3,rfl,h4,hK⟩
noncomputable def sgP (P:Pb) (V:Int) (r j g:Nat):List (Nat × ze) :=
 [(2,.var (pbC P)),(4,.var [zH,zH]),(5,.var (fr 0)),(6,.var [apc 1043 3 (fR (fun _=>0) g),.us 32 4 0 P.of.length]),(7,.var (apc 1050 3 (fR (fun i=>((P.bnd i:Int):Rat)) g)::fr (V:Rat))),(32,.uarr 4 (wU P.sA (P.sB V) r j P.of.length))]
noncomputable def stQ (P:Pb) (V:Int) (r:Nat) (out:List (List (Nat × AV))) (j:Nat):St :=
 {env:=[(1,.ptr 2 0),(2,.ptr 6 0),(3,.ptr 5 0),(4,.ptr 7 0),(7,iv (P.bnd r)),(16,clA (th P r)),(17,iv P.of.length),(18,iv j)],sto:=sgP P V r j r,out:=out,base:=1000}
theorem aif {P:Pb} {V:Int} {r:Nat} (hn:P.cl.length≤1000) (hk:P.of.length≤1000000) (hc:P.chk=0) (hr:r<P.rows) {s:St} {K:AV→St→Prop} (hs:s.sto=sgP P V r 0 r) (hE:yH 1000 s.env) (hO:yk 1000 s.out)
  (h:K (.tuple []) ⟨s.env,sgP P V (r+1) 0 (r+1),s.out,s.base⟩):z5 Tryz.prog vT [iv r,.ptr 2 0,.ptr 6 0,.ptr 5 0,.ptr 7 0] s K:=by
 obtain ⟨env,σ,out,base⟩:=s
 simp only at hs hE hO h
 subst hs
 have hG:=xS hc
 have krow:=ab1 (P:=P) (r:=(r:Int)) hn hk
 have e0:(0:Int)≤r∧(r:Int)<(xf P:Nat):=by unfold xf; rw[if_pos hc]; omega
 unfold Ym at krow
 rw[if_pos e0,if_pos e0,Int.toNat_natCast] at krow
 have hbo:=Na hG hr
 refine va 1000 XF (by simp) ?_
 simp[jL,sgP]
 refine za krow (by simp) (by simp) ?_
 simp
 refine te (stQ P V r (env::out)) (fun _=>True) P.of.length (St.imp_of (by simp[stQ,sgP])) trivial (fun j hj _=>?_) (fun _=>?_)
 ·have e:(j:Int)<P.of.length:=by omega
  have w:=zm (k:=j) (by omega)
  have hm:P.of[j]∈P.of:=List.getElem_mem hj
  have hs:=xI (y7 (hG.off _ hm)).1
  have hcf:=tF hs.2.2 hr
  have hA:-((P.coef r P.of[j]:Int):Rat)=P.sA j r:=by
   unfold Pb.sA Pb.cof
   rw[if_pos hj,if_pos hr,gu hj]
  obtain ⟨c,hcc⟩:∃ c,P.coef r P.of[j]=c:=⟨_,rfl⟩
  rw[hcc] at hcf hA
  have hrl:∀ h,(th P r)[j]'h=c:=fun h=>by simp[th,hcc]
  have kn:=bZ (n:=c) (by omega) (by omega)
  rw[hA] at kn
  have hf:1000≤1000000+j:=by omega
  have hd0:=li (k:=1000000+j) hE hf
  have hd1:=jx (k:=1000000+j) hO hf
  have hd2:∀ R,dg (1000000+j) (apc 1043 3 R)=apc 1043 3 R:=fun R=>rZ (by omega)
  have hd3:∀ R,dg (1000000+j) (apc 1050 3 R)=apc 1050 3 R:=fun R=>rZ (by omega)
  have n0:∀ q,q<1000000→¬ q=1000000+j:=fun q hq=>by omega
  have hs1:fR (P.sA j) r++[fr (P.sA j r)]=fR (P.sA j) (r+1):=vF.symm
  have hset:=Bx (A:=P.sA) (b:=P.sB V) (r:=r) (x:=.list 3 (.own (1000000+j)) (fR (P.sA j) (r+1))) hj (xQ (by simp)).symm
  by_cases r0:r=0
  ·have ha:apc (1000000+j) 3 (fR (P.sA j) r)=zH:=rc (by simp[r0])
   have hb1:apc 1043 3 (fR (fun _=>0) r)=zH:=rc (by simp[r0])
   have hb2:apc 1050 3 (fR (fun i=>((P.bnd i:Int):Rat)) r)=zH:=rc (by simp[r0])
   have hs2:[fr (P.sA j r)]=fR (P.sA j) (r+1):=by rw[← hs1,r0]; rfl
   obtain ⟨y,hy⟩:=LA (A:=P.sA) (b:=P.sB V) (r:=r) (t:=1035) hj
   rw[Rc (by decide)] at hy
   have hd4:=li (k:=1035) hE (by decide)
   have hd5:=jx (k:=1035) hO (by decide)
   simp[v3,stQ,sgP,e,hj,hrl,XB]
   refine za kn (by simp) (by simp) ?_
   simp[ha,hb1,hb2,-dgE,xz,xk,hd4,hd5,hs2,w,Rc,hy]
   refine ⟨by omega,by omega,hj,St.imp.trans (St.imp_rn 1035 (1000000+j)) ?_⟩
   have q1:=cq (k:=1035) (by omega) (j:=1000000+j) (by omega) hE
   have q2:=Xa (k:=1035) (by omega) (j:=1000000+j) (by omega) hO
   have q3:∀ l,l<1000000→¬ l=1035→sw 1035 (1000000+j) l=l:=fun l h1 h2=>by unfold sw; rw[if_neg h2,if_neg (by omega)]
   have q4:=agt (A:=P.sA) (b:=P.sB V) (r:=r) (t:=1035) (by decide) hj
   simp only[St.rn,List.map_cons,List.map_nil,q1,q2,q3,q4,afS,Xl,ak,MF,PO,Sv,al,J2,NP,Nat.reduceLT,Nat.reduceEqDiff,not_false_eq_true]
   simp[stQ,sgP,hb1,hb2]
   exact St.imp.refl
  ·have ha:apc (1000000+j) 3 (fR (P.sA j) r)=.list 3 (.own (1000000+j)) (fR (P.sA j) r):=xQ (by simpa using r0)
   simp[v3,stQ,sgP,e,hj,hrl,XB]
   refine za kn (by simp) (by simp) ?_
   obtain ⟨y,hy⟩:=LA (A:=P.sA) (b:=P.sB V) (r:=r) (t:=1000000+j) hj
   have hrb:r<1000000:=by have:=hG.n; unfold Pb.rows at hr; omega
   simp[ha,n0,-dgE,xz,xk,hd0,hd1,hd2,hd3,hs1,hset,w,hy]
   exact ⟨by omega,by omega,hj,by simp[stQ,sgP]; exact St.imp.refl⟩
 ·have hd4:=li (k:=1043) hE (by decide)
  have hd5:=jx (k:=1043) hO (by decide)
  have hd6:=li (k:=1050) hE (by decide)
  have hd7:=jx (k:=1050) hO (by decide)
  have hrb:r<1000000:=by have:=hG.n; unfold Pb.rows at hr; omega
  have kb:zd Tryz.prog zM [iv (P.bnd r)] (fq ((P.bnd r:Int):Rat)):=xi (n:=P.bnd r) (by omega) (by omega)
  have hx1:∀ R,dg 1043 (apc 1050 3 R)=apc 1050 3 R:=fun R=>rZ (by decide)
  have hx2:∀ R,dg 1050 (apc 1043 3 R)=apc 1043 3 R:=fun R=>rZ (by decide)
  have hs1:fR (fun _=>0) r++[fr 0]=fR (fun _=>0) (r+1):=vF.symm
  have hs2:fR (fun i=>((P.bnd i:Int):Rat)) r++[fr ((P.bnd r:Int):Rat)]=fR (fun i=>((P.bnd i:Int):Rat)) (r+1):=vF.symm
  simp[v3,mA,stQ,sgP,jM]
  refine P4 (by decide) rfl (by simp; omega) (by simp; omega) (by simp) ?_
  rw[hs1]
  simp[-cellsOf,-dgE,xz,xk,hd4,hd5,hx1,Rc]
  refine za kb (by simp) (by simp) ?_
  simp[-cellsOf,Gm]
  refine P4 (by decide) rfl (by simp; omega) (by simp; omega) (by simp) ?_
  rw[hs2]
  simp[-cellsOf,-dgE,xz,xk,hd6,hd7,hx2,Rc]
  rw[aeQ]
  simpa [sgP] using h
theorem acP {P:Pb} {V:Int}:yn (wU P.sA (P.sB V) P.rows P.of.length P.of.length++[.list 3 .plain (fR (fun i=>((P.bnd i:Int):Rat)) P.rows++[fr 0])::fr (V:Rat)])=true:=by
 have h1:yn (wU P.sA (P.sB V) P.rows P.of.length P.of.length)=true:=cr fun i=>by simp
 unfold yn at h1 ⊢
 rw[List.all_append,h1]
 simp
theorem acQ {P:Pb} {V:Int}:zN (wU P.sA (P.sB V) P.rows P.of.length P.of.length++[.list 3 .plain (fR (fun i=>((P.bnd i:Int):Rat)) P.rows++[fr 0])::fr (V:Rat)])=pR P.sA (P.sB V) (P.rows+1) (P.of.length+1):=by
 have h1:zN (wU P.sA (P.sB V) P.rows P.of.length P.of.length)=pR P.sA (P.sB V) (P.rows+1) P.of.length:=t6 fun i hi=>by
  rw[if_pos hi,List.map_cons,Ej,plc,if_neg (by simp)]
  simp[fr,-qT]
 have h2:fR (fun i=>((P.bnd i:Int):Rat)) P.rows++[fr 0]=fR (P.sA P.of.length) (P.rows+1):=by
  have e:P.sA P.of.length P.rows=0:=by unfold Pb.sA; rw[if_neg (Nat.lt_irrefl _),if_neg (Nat.lt_irrefl _)]
  rw[vF,e]
  congr 1
  exact wh fun j hj=>by unfold Pb.sA; rw[if_neg (Nat.lt_irrefl _),if_pos hj]
 have h3:P.sB V P.of.length=(V:Rat):=if_neg (Nat.lt_irrefl _)
 unfold zN at h1 ⊢
 rw[List.map_append,h1,h2]
 unfold pR
 rw[lB,h3]
 simp[fr,-qT]
noncomputable def rwM (b:Nat→Rat) (k:Nat):List (List AV):=mR (fun i=>zH::fr (b i)) k
section
variable {b:Nat→Rat} {k l:Nat}
@[simp] theorem ajj:(rwM b k).length=k:=sZ
theorem af4:zR l (rwM b k)=rwM b k:=t6 fun i hi=>by simp
@[simp] theorem ajk:yK l (rwM b k)=false:=ct fun i=>by simp
theorem af5 {A:Nat→Nat→Rat}:rwM b k=wU A b 0 0 k:=wZ fun i hi=>by rw[if_neg (Nat.not_lt_zero i),rc rfl]
end
theorem GK {m:Am.Mode} {R:List (List AV)} {a b c d n:Nat}:zD [.list n m R,.us a b c d] 0 (some 2)=some (.raw [.list n m R,.us a b c d]):=by simp[zD]
theorem afI:yR Tryz.prog vT=true:=by kernel_rfl
theorem ac4 {M:Nat} {f:FuncId} {caps:List AV}:Am.low M (.fn (.func f) caps)=caps.all (xb M):=rfl
noncomputable def SK (P:Pb) (V:Int) (k:Nat):St :=
 {env:=[(2,.ptr 2 0),(4,.ptr 4 0),(5,.ptr 5 0),(6,.ptr 6 0),(7,.ptr 7 0),(19,ofA P.of),(20,iv P.of.length),(21,iv k)],
  sto:=[(2,.var (pbC P)),(4,.var [zH,zH]),(5,.var (fr 0)),(6,.var [zH,.us 32 4 0 k]),(7,.var (zH::fr (V:Rat))),(32,.uarr 4 (rwM (P.sB V) k))]}
noncomputable def fnB:AV:=.fn (.func vT) [.ptr 2 0,.ptr 6 0,.ptr 5 0,.ptr 7 0]
noncomputable def SL (P:Pb) (V:Int) (r:Nat):St :=
 {env:=[(4,.ptr 4 0),(5,.ptr 5 0),(6,.ptr 6 0),(7,.ptr 7 0),(10,fnB),(37,iv P.rows),(38,iv r)],sto:=sgP P V r 0 r}
noncomputable def sgQ (P:Pb) (V:Int) (j:Nat):List (Nat × ze) :=
 [(4,.var [zH,zH]),(5,.var (fr 0)),(6,.var [.list 3 (.own 1043) (fR (fun _=>0) P.rows),.us 32 4 0 P.of.length]),(7,.var (.list 3 (.own 1050) (fR (fun i=>((P.bnd i:Int):Rat)) P.rows)::fr (V:Rat))),(32,.uarr 4 (wU P.sA (P.sB V) P.rows j P.of.length))]
noncomputable def SM (P:Pb) (V:Int) (j:Nat):St :=
 {env:=[(4,.ptr 4 0),(5,.ptr 5 0),(6,.ptr 6 0),(7,.ptr 7 0),(47,iv P.of.length),(48,iv j)],sto:=sgQ P V j}
theorem aco {P:Pb} {V:Int} {ch:AV} (hn:P.cl.length≤1000) (hk:P.of.length≤1000000) (hc:P.chk=0) (hV:-9223372036854775808≤V∧V<9223372036854775808) :
  zd Tryz.prog mi [.agg (pbC P),.agg [ch,iv V]] (pA P.sA (P.sB V) P.sG (P.rows+1) (P.of.length+1)):=by
 have g0:zd Tryz.prog zM [iv 0] (fq 0):=xi (n:=0) (by decide) (by decide)
 have gV:zd Tryz.prog zM [iv V] (fq (V:Rat)):=xi hV.1 hV.2
 have hG:=xS hc
 refine ad8 S8 (by simp) ?_
 simp[eC]
 refine za g0 (by simp) (by simp) ?_
 simp
 refine za gV (by simp) (by simp) ?_
 simp
 refine te (SK P V) (fun _=>True) P.of.length ?_ trivial (fun k hk' _=>?_) (fun _=>?_)
 ·refine St.imp.trans (St.imp_tok 32 4 (by simp)) ?_
  simp[St.dg]
  refine St.imp.trans (St.imp_cell_nil (k:=6) (j:=1) (l:=32) (sz:=4) (by simp; rfl) (by simp; rfl) (by simp)) ?_
  simp[SK,rwM,JA]
  exact St.imp.refl
 ·have e:(k:Int)<P.of.length:=by omega
  have w:=zm (k:=k) (by omega)
  have hm:P.of[k]∈P.of:=List.getElem_mem hk'
  have hs:=xI (y7 (hG.off _ hm)).1
  have kn:=bZ (n:=P.of[k].v) (by omega) (by omega)
  have hb:-((P.of[k].v:Int):Rat)=P.sB V k:=by
   unfold Pb.sB Pb.vQ
   rw[if_pos hk',gu hk']
  rw[hb] at kn
  have hap:rwM (P.sB V) k++[zH::fr (P.sB V k)]=rwM (P.sB V) (k+1):=lB.symm
  simp[ql,SK,e,hk']
  refine za kn (by simp) (by simp) ?_
  simp[w,hap,af4]
  exact ⟨by omega,by omega,by simp[SK]; exact St.imp.refl⟩
 ·have kR:=J3 (P:=P) hn hk
  rw[show xf P=P.rows by unfold xf; rw[if_pos hc]] at kR
  have hrb:P.rows<1000000:=by have:=hG.n; unfold Pb.rows; omega
  simp[ql,SK,kO]
  refine za kR (by simp) (by simp) ?_
  simp
  refine te (SL P V) (fun _=>True) P.rows ?_ trivial (fun r hr _=>?_) (fun _=>?_)
  ·rw[af5 (A:=P.sA)]
   refine St.imp_of ?_
   simp[SL,sgP,fnB,Rw]
  ·have e:(r:Int)<P.rows:=by omega
   have w:=zm (k:=r) (by omega)
   simp[qm,SL,e,fnB,afI]
   refine yb (aif hn hk hc hr rfl (by simp[yu,yO,mF,xB,ac4,xb]) (by simp[yk]) ?_)
   simp[w,SL,fnB]
   exact St.imp.refl
  ·have r0:¬ P.rows=0:=by unfold Pb.rows; omega
   have ha1:apc 1043 3 (fR (fun _=>0) P.rows)=.list 3 (.own 1043) (fR (fun _=>0) P.rows):=xQ (by simpa using r0)
   have ha2:apc 1050 3 (fR (fun i=>((P.bnd i:Int):Rat)) P.rows)=.list 3 (.own 1050) (fR (fun i=>((P.bnd i:Int):Rat)) P.rows):=xQ (by simpa using r0)
   have km:zd Tryz.prog xE [iv 1] (fq (-1)):=bZ (n:=1) (by decide) (by decide)
   simp[qm,SL,sgP,fnB,kN,ha1,ha2]
   refine te (SM P V) (fun _=>True) P.of.length (St.imp_of (by simp[SM,sgQ])) trivial (fun j hj _=>?_) (fun _=>?_)
   ·have e:(j:Int)<P.of.length:=by omega
    have w:=zm (k:=j) (by omega)
    have hA:P.sA j P.rows=-1:=by
     unfold Pb.sA
     rw[if_pos hj,if_neg (Nat.lt_irrefl _)]
    have hd2:∀ R,dg (1000000+j) (.list 3 (.own 1043) R)=.list 3 (.own 1043) R:=fun R=>by rw[TS,if_neg (by omega)]
    have hd3:∀ R,dg (1000000+j) (.list 3 (.own 1050) R)=.list 3 (.own 1050) R:=fun R=>by rw[TS,if_neg (by omega)]
    have n0:∀ q,q<1000000→¬ q=1000000+j:=fun q hq=>by omega
    have hs1:fR (P.sA j) P.rows++[fr (-1)]=fR (P.sA j) (P.rows+1):=by rw[← hA]; exact vF.symm
    have hset:=Bx (A:=P.sA) (b:=P.sB V) (r:=P.rows) (x:=.list 3 (.own (1000000+j)) (fR (P.sA j) (P.rows+1))) hj (xQ (by simp)).symm
    have ha:apc (1000000+j) 3 (fR (P.sA j) P.rows)=.list 3 (.own (1000000+j)) (fR (P.sA j) P.rows):=xQ (by simpa using r0)
    obtain ⟨y,hy⟩:=LA (A:=P.sA) (b:=P.sB V) (r:=P.rows) (t:=1000000+j) hj
    simp[qn,SM,sgQ,e,hj,XB]
    refine za km (by simp) (by simp) ?_
    simp[ha,n0,-dgE,-TS,xz,xk,hd2,hd3,hs1,hset,w,hy]
    exact ⟨by omega,by omega,hj,by simp[SM,sgQ]; exact St.imp.refl⟩
   ·simp[qn,SM,sgQ,kM]
    refine za km (by simp) (by simp) ?_
    have hnl:=hG.k
    have hrb2:P.rows≤20:=by have:=hG.n; unfold Pb.rows; omega
    have hl1:zR 32 [.list 3 .plain (fR (fun i=>((P.bnd i:Int):Rat)) P.rows++[fr 0])::fr (V:Rat)]=[.list 3 .plain (fR (fun i=>((P.bnd i:Int):Rat)) P.rows++[fr 0])::fr (V:Rat)]:=by simp[zR]
    have hl2:yK 7 [.list 3 .plain (fR (fun i=>((P.bnd i:Int):Rat)) P.rows++[fr 0])::fr (V:Rat)]=false:=by simp
    simp[Rc,am,hl1,XG,GK]
    refine ⟨by omega,by omega,by omega,by omega,by omega,by omega,?_⟩
    rw[aaA]
    obtain ⟨R,hR⟩:∃ R,wU P.sA (P.sB V) P.rows P.of.length P.of.length++[.list 3 .plain (fR (fun i=>((P.bnd i:Int):Rat)) P.rows++[fr 0])::fr (V:Rat)]=R:=⟨_,rfl⟩
    have hRl:R.length=P.of.length+1:=by rw[← hR]; simp
    have hRf:yn R=true:=by rw[← hR]; exact acP
    have hRs:zN R=pR P.sA (P.sB V) (P.rows+1) (P.of.length+1):=by rw[← hR]; exact acQ
    have hgl:fR (fun _=>0) P.rows++[fr (-1)]=fR P.sG (P.rows+1):=by
     rw[vF,show P.sG P.rows=-1 from if_neg (Nat.lt_irrefl _)]
     congr 1
     exact wh fun j hj=>(if_pos hj).symm
    have hRt:R.take (P.of.length+1)=R:=List.take_of_length_le (by omega)
    rw[hR,hgl]
    refine ⟨⟨[(4,.ptr 4 0)],[(4,.var [.list 3 (.own 1043) (fR P.sG (P.rows+1)),.list 4 .plain (pR P.sA (P.sB V) (P.rows+1) (P.of.length+1))])],[],0⟩,?_,?_⟩
    ·refine St.imp_gone (k:=32) (e:=.uarr 4 R) (by simp) (by simp[ln]) ?_ rfl rfl ?_
     ·simp[del,sC,hRl,hRf,hRs,hRt,frz]
     ·simp[St.unmet]
    ·simp[da]
noncomputable def pI (P:Pb) (ch:List Int) (k:Nat):St:={env:=[(1,clA ch),(2,.ptr 2 0),(6,apc 55 8 (ofR (P.pick (ch.take k)))),(7,iv k)],sto:=[(2,.var (pbC P))]}
section
variable {P:Pb} {ch:List Int}
theorem Yn (hk:P.of.length≤1000000) (ok:okP P.of.length ch):zd Tryz.prog tu [.agg (pbC P),clA ch] (.tuple [ofA (P.pick ch),bv true]):=by
 have hl:=nX ok
 refine wN cL (by simp) ?_
 simp[lc]
 have h0:apc 55 8 (ofR (P.pick (ch.take 0)))=.list 0 .full []:=by rw[List.take_zero]; exact rc rfl
 refine zq (pI P ch) (fun _=>True) ch.length (by simp[pI,Pb.pick,ofR,apc]) trivial (fun k hk' _=>?_) (fun _=>?_)
 ·have e:(k:Int)<ch.length:=by omega
  have w1:=zm (k:=k) (by omega)
  have hg:=getD_lt hk'
  have d:=ok k hk'
  obtain ⟨b,hb,hbn⟩:=Xc (fun q hq=>ok q (by omega)) d
  rw[hg] at hb
  unfold okI at d
  rw[hg,hb] at d
  have b0:¬ (b:Int)<0:=by omega
  have b2:(b:Int)<P.of.length:=by omega
  have b3:¬ (P.of.length:Int)≤b:=by omega
  have hat:P.of[b]=P.at ch[k]:=by rw[hb,Gh hbn]
  have hro:ofR (P.pick (ch.take k))++[oC P.of[b]]=ofR (P.pick (ch.take (k+1))):=by rw[Yc hk',RI,hat]; rfl
  by_cases hz:0<k
  ·obtain ⟨q,hq⟩:∃ q:Nat,k-1=q:=⟨_,rfl⟩
   have hql:q<ch.length:=by omega
   have hgq:=getD_lt hql
   have hpv:prv ch k=ch[q]:=by
    rw[show k=q+1 by omega]
    exact hgq
   rw[hpv] at d
   have w2:IntKind.i64.wrap ((k:Int)-1)=(q:Int):=by rw[wrap64]<;>omega
   have c1:¬ (b:Int)≤ch[q]:=by omega
   have eq':(q:Int)<ch.length:=by omega
   simp[yI,pI,e,hk',hb,b0,b2,b3,hbn,hz,w2,hql,eq',c1]
   refine ua (by decide) rfl ?_ ?_ (by simp) ?_
   ·simp only[rg,xU,List.length_take]; omega
   ·simp only[rg,xU,List.length_take]; omega
   ·rw[hro]
    simp[w1,pI]
  ·simp[yI,pI,e,hk',hb,b0,b2,b3,hbn,hz]
   refine ua (by decide) rfl ?_ ?_ (by simp) ?_
   ·simp only[rg,xU,List.length_take]; omega
   ·simp only[rg,xU,List.length_take]; omega
   ·rw[hro]
    simp[w1,pI]
 ·simp[yI,pI,jG,tV]
  exact AV.imp_tuple2 (cx kW)
theorem Kk (hn:P.cl.length≤1000) (hk:P.of.length≤1000000) (hc:P.chk=0) (ok:okP P.of.length ch):zd Tryz.prog ug [.agg (pbC P),clA ch] (iv (if P.fits (P.pick ch) then 0 else 14)):=by
 have hl:=nX ok
 refine zt nC (by simp) ?_
 simp[sr]
 refine za (qx hn hk) (by simp) (by simp) ?_
 simp[hc]
 refine za (Yn hk ok) (by simp) (by simp) ?_
 have hG:=xS hc
 have hm:=lE ok
 have hP:∀ o∈P.pick ch,P.offE o=0:=fun o ho=>hG.off o (hm o ho)
 simp
 refine za (JZ (P:=P) (L:=P.pick ch) hn (by rw[xU]; have:=hG.k; omega) (fun o ho=>(xI (y7 (hP o ho)).1).1) (fun o ho=>(xI (y7 (hP o ho)).1).2.2)) (by simp) (by simp) ?_
 by_cases c3:P.fits (P.pick ch)
 ·simp[c3,uz]
 ·simp[c3,uz]
end
section
variable {P:Pb} {ch:List Int} {T:List Nat}
def PS (L:List Of) (k:Nat):St:={env:=[(5,ofA L),(7,iv (vq (fun o=>o.v) L k)),(8,iv k)],sto:=[]}
theorem aaP (hn:P.cl.length≤1000) (hk:P.of.length≤1000000) (hc:P.chk=0) (ok:okP P.of.length ch):zd Tryz.prog sN [.agg (pbC P),clA ch] (iv ((P.pick ch).map fun o=>o.v).sum):=by
 have hG:=xS hc
 have hm:=lE ok
 have hP:∀ o∈P.pick ch,0≤o.v∧o.v≤1000000:=fun o ho=>by have:=(xI (y7 (hG.off o (hm o ho))).1).2.1; omega
 have hl2:(P.pick ch).length≤160:=by rw[xU]; have:=nX ok; have:=hG.k; omega
 refine zt jC (by simp) ?_
 simp[pZ]
 refine za (qx hn hk) (by simp) (by simp) ?_
 simp[hc]
 refine za (Yn hk ok) (by simp) (by simp) ?_
 simp
 generalize P.pick ch=L at *
 refine zq (PS L) (fun _=>True) L.length (by simp[PS,eU]) trivial (fun k hk' _=>?_) (fun _=>?_)
 ·have e:(k:Int)<L.length:=by omega
  have hg:L[k]?=some L[k]:=by simp[hk']
  have w1:=zm (k:=k) (by omega)
  obtain ⟨p1,p2⟩:=pe (f:=fun o:Of=>o.v) hP k (by omega)
  have p3:=hP _ (List.getElem_mem hk')
  have w3:IntKind.i64.wrap (vq (fun o=>o.v) L k+L[k].v)=vq (fun o=>o.v) L k+L[k].v:=by rw[wrap64]<;>omega
  have hs:=kZ (f:=fun o:Of=>o.v) hg
  simp[ss,PS,e,hk',w1,w3,hs]
 ·have hall:vq (fun o=>o.v) L L.length=(L.map fun o=>o.v).sum:=fp
  simp[ss,PS,nn,hall,na]
end
section
variable {P:Pb} {ch:List Int}
theorem DR {n:Nat} {k:Nat} (h:¬ okI n ch k) (hk:k<ch.length):ch[k]<0∨(n:Int)≤ch[k]∨∃ q,k=q+1∧ch[k]≤ch.getD q 0:=by
 unfold okI at h
 rw[getD_lt hk] at h
 cases k with
 | zero =>
  simp only[prv] at h
  omega
 | succ q =>
  simp only[prv] at h
  by_cases h1:ch[q+1]<0
  ·exact .inl h1
  ·by_cases h2:(n:Int)≤ch[q+1]
   ·exact .inr (.inl h2)
   ·exact .inr (.inr ⟨q,rfl,by omega⟩)
theorem Q2 (hk:P.of.length≤1000000) (hl:ch.length<4611686018427387904):zd Tryz.prog tu [.agg (pbC P),clA ch] (.tuple [if okP P.of.length ch then ofA (P.pick ch) else dD,bv (decide (okP P.of.length ch))]):=by
 by_cases ok:okP P.of.length ch
 ·rw[if_pos ok,decide_eq_true ok]
  exact Yn hk ok
 rw[if_neg ok,decide_eq_false ok]
 refine zt cL (by simp) ?_
 simp[lc]
 refine zq (pI P ch) (fun k=>∀ q,q<k→okI P.of.length ch q) ch.length (by simp[pI,Pb.pick,ofR,apc]) (fun q hq=>by omega) (fun k hk' hI=>?_) (fun hI=>absurd hI ok)
 have e:(k:Int)<ch.length:=by omega
 have w1:=zm (k:=k) (by omega)
 have hg:=getD_lt hk'
 by_cases d:okI P.of.length ch k
 ·have hI':∀ q,q<k+1→okI P.of.length ch q:=fun q hq=>by
   by_cases e:q=k
   ·subst e; exact d
   ·exact hI q (by omega)
  have hkl:k<P.of.length:=by
   have h1:=Sq hI
   have h2:=d
   unfold okI at h2
   omega
  obtain ⟨b,hb,hbn⟩:=Xc hI d
  rw[hg] at hb
  unfold okI at d
  rw[hg,hb] at d
  have b0:¬ (b:Int)<0:=by omega
  have b2:(b:Int)<P.of.length:=by omega
  have b3:¬ (P.of.length:Int)≤b:=by omega
  have hat:P.of[b]=P.at ch[k]:=by rw[hb,Gh hbn]
  have hro:ofR (P.pick (ch.take k))++[oC P.of[b]]=ofR (P.pick (ch.take (k+1))):=by rw[Yc hk',RI,hat]; rfl
  by_cases hz:0<k
  ·obtain ⟨q,hq⟩:∃ q:Nat,k-1=q:=⟨_,rfl⟩
   have hql:q<ch.length:=by omega
   have hgq:=getD_lt hql
   have hpv:prv ch k=ch[q]:=by
    rw[show k=q+1 by omega]
    exact hgq
   rw[hpv] at d
   have w2:IntKind.i64.wrap ((k:Int)-1)=(q:Int):=by rw[wrap64]<;>omega
   have c1:¬ (b:Int)≤ch[q]:=by omega
   have eq':(q:Int)<ch.length:=by omega
   simp[yI,pI,e,hk',hb,b0,b2,b3,hbn,hz,w2,hql,eq',c1]
   refine ua (by decide) rfl ?_ ?_ (by simp) ?_
   ·simp only[rg,xU,List.length_take]; omega
   ·simp only[rg,xU,List.length_take]; omega
   ·rw[hro]
    simp[w1,pI]
    exact hI'
  ·simp[yI,pI,e,hk',hb,b0,b2,b3,hbn,hz]
   refine ua (by decide) rfl ?_ ?_ (by simp) ?_
   ·simp only[rg,xU,List.length_take]; omega
   ·simp only[rg,xU,List.length_take]; omega
   ·rw[hro]
    simp[w1,pI]
    exact hI'
 ·by_cases b0:ch[k]<0
  ·simp[yI,pI,e,hk',b0,tV]
  ·by_cases b1:(P.of.length:Int)≤ch[k]
   ·simp[yI,pI,e,hk',b0,b1,tV]
   ·obtain ⟨q,hq,hle⟩:∃ q,k=q+1∧ch[k]≤ch.getD q 0:=((DR d hk').resolve_left b0).resolve_left b1
    have hql:q<ch.length:=by omega
    rw[getD_lt hql] at hle
    have hz:0<k:=by omega
    have w2:IntKind.i64.wrap ((k:Int)-1)=(q:Int):=by rw[wrap64]<;>omega
    have eq':(q:Int)<ch.length:=by omega
    simp[yI,pI,e,hk',b0,b1,hz,w2,hql,eq',hle,tV]
theorem Kj (hn:P.cl.length≤1000) (hk:P.of.length≤1000000) (hl:ch.length<4611686018427387904):zd Tryz.prog ug [.agg (pbC P),clA ch] (iv (P.feaE ch)):=by
 unfold Pb.feaE
 by_cases hc:P.chk=0
 ·rw[if_neg fun h=>h hc]
  by_cases ok:okP P.of.length ch
  ·rw[if_neg fun h=>h ok]
   exact Kk hn hk hc ok
  ·rw[if_pos ok]
   have kp:=Q2 hk hl
   rw[if_neg ok,decide_eq_false ok] at kp
   refine zt nC (by simp) ?_
   simp[sr]
   refine za (qx hn hk) (by simp) (by simp) ?_
   simp[hc]
   refine za kp (by simp) (by simp) ?_
   simp[uz]
 ·rw[if_pos hc]
  refine zt nC (by simp) ?_
  simp[sr]
  refine za (qx hn hk) (by simp) (by simp) ?_
  simp[hc,uz]
theorem aaO (hn:P.cl.length≤1000) (hk:P.of.length≤1000000) (hl:ch.length<4611686018427387904):zd Tryz.prog sN [.agg (pbC P),clA ch] (iv (P.valE ch)):=by
 unfold Pb.valE
 by_cases hc:P.chk=0
 ·by_cases ok:okP P.of.length ch
  ·rw[if_pos ⟨ok,hc⟩]
   exact aaP hn hk hc ok
  ·rw[if_neg fun h=>ok h.1]
   have kp:=Q2 hk hl
   rw[if_neg ok] at kp
   refine zt jC (by simp) ?_
   simp[pZ]
   refine za (qx hn hk) (by simp) (by simp) ?_
   simp[hc]
   refine za kp (by simp) (by simp) ?_
   simp
   refine zq (fun k=>{env:=[(5,dD),(7,iv 0),(8,iv k)],sto:=[]}) (fun _=>True) 0 (by simp) trivial (fun k hk _=>by omega) (fun _=>?_)
   simp[ss,nn,na]
 ·rw[if_neg fun h=>hc h.2]
  refine zt jC (by simp) ?_
  simp[pZ]
  refine za (qx hn hk) (by simp) (by simp) ?_
  simp[hc,na]
end
def pgE (P:Pb) (ch:List Int) (V:Int):Int:=if P.feaE ch≠0 then P.feaE ch else if V≠P.valE ch then 13 else if 39<P.of.length then 3 else 0
section
variable {P:Pb} {ch:List Int} {V:Int}
theorem UR (h:pgE P ch V=0):P.feaE ch=0∧V=P.valE ch∧P.of.length≤39:=by
 unfold pgE at h
 split at h
 ·rename_i h1; exact absurd h h1
 ·rename_i h1
  split at h
  ·cases h
  ·rename_i h2
   split at h
   ·cases h
   ·rename_i h3
    exact ⟨Decidable.not_not.1 h1,Decidable.not_not.1 h2,by omega⟩
theorem gY (h:P.feaE ch=0):P.chk=0∧okP P.of.length ch∧P.fits (P.pick ch):=by
 unfold Pb.feaE at h
 split at h
 ·rename_i h1; exact absurd h h1
 ·rename_i h1
  split at h
  ·cases h
  ·rename_i h2
   split at h
   ·rename_i h3; exact ⟨Decidable.not_not.1 h1,Decidable.not_not.1 h2,h3⟩
   ·cases h
noncomputable abbrev pgA (P:Pb) (V:Int):AV:=pA P.sA (P.sB V) P.sG (P.rows+1) (P.of.length+1)
@[simp] theorem ah6 {x y z w:AV}:splice [x,y] 0 [z,w]=[z,w]:=by simp[splice]
theorem nZ (hn:P.cl.length≤1000) (hk:P.of.length≤1000000) (hl:ch.length<4611686018427387904) (hV:-9223372036854775808≤V∧V<9223372036854775808) :
  zd Tryz.prog xP [.agg (pbC P),.agg [clA ch,iv V]] (.tuple [if pgE P ch V=0 then pgA P V else .agg [zH,zH],iv (pgE P ch V)]):=by
 have kf:=GH (ch:=ch) hn hk hl
 have kv:=aeO (ch:=ch) hn hk hl
 refine zt XD (by simp) ?_
 simp[jK]
 refine za kf (by simp) (by simp) ?_
 unfold pgE
 by_cases h1:P.feaE ch=0
 rotate_left
 ·simp[h1,vW]
 simp[h1]
 refine za kv (by simp) (by simp) ?_
 by_cases h2:V=P.valE ch
 rotate_left
 ·simp[h2,vW]
 simp[h2]
 by_cases h3:39<P.of.length
 ·have h3':¬ (P.of.length:Int)≤39:=by omega
  have h3n:¬ P.of.length≤39:=by omega
  have h3i:(39:Int)<P.of.length:=by omega
  simp[h3,h3i,h3',h3n,vW]
 have h3':(P.of.length:Int)≤39:=by omega
 have h3n:P.of.length≤39:=by omega
 have kb:=aco (P:=P) (V:=V) (ch:=clA ch) hn hk (gY h1).1 hV
 rw[h2] at kb
 have h3i:¬ (39:Int)<P.of.length:=by omega
 simp[h3,h3i,h3',h3n]
 refine za kb (by simp) (by simp) ?_
 simp[vW]
end
def pIA (P:Pb) (i j:Nat):Int:=if i<P.of.length then (if j<P.rows then-P.coef j (P.at (i:Int)) else -1) else if j<P.rows then P.bnd j else 0
def pIB (P:Pb) (V:Int) (i:Nat):Int:=if i<P.of.length then-(P.at (i:Int)).v else V
def pIG (P:Pb) (j:Nat):Int:=if j<P.rows then 0 else -1
def iL (f:Nat→Int) (n:Nat):List Int:=(List.range n).map f
noncomputable def rI (P:Pb) (n m:Nat):List (List AV):=mR (fun i=>[clA (iL ((pIA P) i) n)]) m
section
variable {P:Pb} {V:Int} {f g:Nat→Int} {n m i j k:Nat} {ch:List Int}
@[simp] theorem kV:(iL f n).length=n:=by simp[iL]
theorem Y6:iL f 0=[]:=rfl
theorem nU:clR (iL f n)++[[iv (f n)]]=clR (iL f (n+1)):=by simp[iL,clR,List.range_succ]
@[simp] theorem ai5 {h:i<(iL f n).length}:(iL f n)[i]=f i:=by simp[iL]
@[simp] theorem Ch:(rI P n m).length=m:=sZ
theorem ab2:P.sA i j=((pIA P i j:Int):Rat):=by
 unfold Pb.sA pIA Pb.cof
 split
 ·split
  ·rw[Rat.intCast_neg]
  ·rfl
 ·split<;>rfl
theorem Fs:P.sB V i=((pIB P V i:Int):Rat):=by
 unfold Pb.sB pIB Pb.vQ
 split
 ·rw[Rat.intCast_neg]
 ·rfl
theorem ab5:P.sG i=((pIG P i:Int):Rat):=by
 unfold Pb.sG pIG
 split<;>rfl
theorem JV {t:Nat} {R:List (List AV)}:wb 1 [[zH]] [0] [.list 1 (.own t) R]=some [[.list 1 (.own t) R]]:=rfl
theorem C7 {s t:Nat} {R:List (List AV)}:strip (.list s (.own t) R)=.list s .plain R:=rfl
theorem Nz {sz by_ d n t:Nat} {s:St} {K:St→Prop} {R rows:List (List AV)} (h0:yn rows=true) (h:yM sz by_ s (some d) K [.list n (.own t) R,.list sz .plain (zN rows)]):yM sz by_ s (some d) K [.list n (.own t) R,.lit sz rows]:=by
 obtain ⟨_,h⟩:=h
 exact ⟨rfl,h0,h⟩
theorem Ny {sz by_ d n:Nat} {s:St} {K:St→Prop} {R rows:List (List AV)} (h0:yn rows=true) (h:yM sz by_ s (some d) K [.list n .full R,.list sz .plain (zN rows)]):yM sz by_ s (some d) K [.list n .full R,.lit sz rows]:=by
 obtain ⟨_,h⟩:=h
 exact ⟨rfl,h0,h⟩
noncomputable def M4 (P:Pb) (ch:List Int) (V:Int) (k:Nat):St :=
 {env:=[(2,.ptr 2 0),(3,.ptr 3 0),(4,.ptr 4 0),(7,.ptr 7 0),(8,iv P.rows),(9,iv k)],
  sto:=[(2,.var (pbC P)),(3,.var [clA ch,iv V]),(4,.var [zH,zH,zH]),(7,.var [apc 50 1 (clR (iL (pIG P) k)),zH,zH])]}
noncomputable def glI (P:Pb):AV:=.list 1 (.own 50) (clR (iL (pIG P) (P.rows+1)))
theorem kU {l:Nat} (h:¬ 50=l):dg l (glI P)=glI P:=by unfold glI; rw[TS,if_neg h]
@[simp] theorem ais {l:Nat}:zU l (glI P)=false:=rfl
@[simp] theorem ahG:cellsOf (glI P)=some [glI P]:=rfl
@[simp] theorem ajK:rf (glI P)=true:=rfl
@[simp] theorem ahL:strip (glI P)=clA (iL (pIG P) (P.rows+1)):=rfl
noncomputable def M6 (P:Pb) (ch:List Int) (V:Int) (i:Nat):St :=
 {env:=[(2,.ptr 2 0),(3,.ptr 3 0),(4,.ptr 4 0),(7,.ptr 7 0),(8,iv P.rows),(10,iv i)],
  sto:=[(2,.var (pbC P)),(3,.var [clA ch,iv V]),(4,.var [zH,zH,zH]),(7,.var [glI P,apc 89 1 (rI P (P.rows+1) i),apc 101 1 (clR (iL ((pIB P) V) i))])]}
noncomputable def M5 (P:Pb) (ch:List Int) (V:Int) (i k:Nat):St :=
 {env:=[(2,.ptr 2 0),(3,.ptr 3 0),(4,.ptr 4 0),(7,.ptr 7 0),(8,iv P.rows),(10,iv i),(11,apc 82 1 (clR (iL ((pIA P) i) k))),(12,iv k)],
  sto:=[(2,.var (pbC P)),(3,.var [clA ch,iv V]),(4,.var [zH,zH,zH]),(7,.var [glI P,apc 89 1 (rI P (P.rows+1) i),apc 101 1 (clR (iL ((pIB P) V) i))])]}
noncomputable def M7 (P:Pb) (ch:List Int) (V:Int) (k:Nat):St :=
 {env:=[(2,.ptr 2 0),(3,.ptr 3 0),(4,.ptr 4 0),(7,.ptr 7 0),(8,iv P.rows),(15,apc 117 1 (clR (iL ((pIA P) P.of.length) k))),(16,iv k)],
  sto:=[(2,.var (pbC P)),(3,.var [clA ch,iv V]),(4,.var [zH,zH,zH]),(7,.var [glI P,apc 89 1 (rI P (P.rows+1) P.of.length),apc 101 1 (clR (iL ((pIB P) V) P.of.length))])]}
noncomputable abbrev ofO (P:Pb) (V:Int):AV:=.agg [clA (iL (pIG P) (P.rows+1)),.list 1 .plain (rI P (P.rows+1) (P.of.length+1)),clA (iL ((pIB P) V) (P.of.length+1))]
theorem afH (hn:P.cl.length≤1000) (hk:P.of.length≤1000000) (hl:ch.length<4611686018427387904) :
  zd Tryz.prog jO [.agg (pbC P),.agg [clA ch,iv V]] (.tuple [if pgE P ch V=0 then ofO P V else .agg [zH,zH,zH],iv (pgE P ch V)]):=by
 have kf:=Kj (ch:=ch) hn hk hl
 have kv:=aaO (ch:=ch) hn hk hl
 refine zt F7 (by simp) ?_
 simp[TN]
 refine za kf (by simp) (by simp) ?_
 unfold pgE
 by_cases h1:P.feaE ch=0
 rotate_left
 ·simp[h1,pj]
 simp[h1]
 refine za kv (by simp) (by simp) ?_
 by_cases h2:V=P.valE ch
 rotate_left
 ·simp[h2,pj]
 simp[h2]
 by_cases h3:39<P.of.length
 ·have h3':¬ (P.of.length:Int)≤39:=by omega
  have h3n:¬ P.of.length≤39:=by omega
  have h3i:(39:Int)<P.of.length:=by omega
  simp[h3,h3i,h3',h3n,pj]
 have h3':(P.of.length:Int)≤39:=by omega
 have h3n:P.of.length≤39:=by omega
 have h3i:¬ (39:Int)<P.of.length:=by omega
 have hc:=(gY h1).1
 have hG:=xS hc
 have kR:=J4 (P:=P) hn hk
 rw[show xf P=P.rows by unfold xf; rw[if_pos hc]] at kR
 rw[← h2]
 simp[h3,h3i,h3',h3n]
 refine za kR (by simp) (by simp) ?_
 simp
 have hrb:P.rows<1000:=by have:=hG.n; unfold Pb.rows; omega
 have r0:0<P.rows:=by unfold Pb.rows; omega
 have krow:=fun (r:Nat) (hr:r<P.rows)=>by
  have h:=Cu (P:=P) (r:=(r:Int)) hn hk
  have e0:(0:Int)≤r∧(r:Int)<(xf P:Nat):=by unfold xf; rw[if_pos hc]; omega
  unfold Ym at h
  rw[if_pos e0,if_pos e0,Int.toNat_natCast] at h
  exact h
 refine zq (M4 P ch V) (fun _=>True) P.rows (by simp[M4,Y6]) trivial (fun k hk' _=>?_) (fun _=>?_)
 ·have e:(k:Int)<P.rows:=by omega
  have w:=zm (k:=k) (by omega)
  have hs:clR (iL (pIG P) k)++[[iv 0]]=clR (iL (pIG P) (k+1)):=by rw[← nU,show (pIG P) k=0 from if_pos hk']
  simp[js,M4,e]
  refine ua (by decide) rfl ?_ ?_ (by simp) ?_
  ·simp only[uK,kV]; omega
  ·simp only[uK,kV]; omega
  rw[hs]
  simp[-cellsOf,w,M4]
 ·have hs:clR (iL (pIG P) P.rows)++[[iv (-1)]]=clR (iL (pIG P) (P.rows+1)):=by rw[← nU,show pIG P P.rows=-1 from if_neg (Nat.lt_irrefl _)]
  have ha:apc 50 1 (clR (iL (pIG P) P.rows))=.list 1 (.own 50) (clR (iL (pIG P) P.rows)):=xQ (by simp; omega)
  simp[js,M4,Zb,ha,hs]
  refine ⟨by omega,by omega,?_⟩
  refine zq (M6 P ch V) (fun _=>True) P.of.length (by simp[M6,glI,Y6,rI,JA]) trivial (fun i hi _=>?_) (fun _=>?_)
  ·have e:(i:Int)<P.of.length:=by omega
   have w:=zm (k:=i) (by omega)
   simp[ju,M6,e]
   refine zq (M5 P ch V i) (fun _=>True) P.rows (by simp[M5,Y6]) trivial (fun k hk' _=>?_) (fun _=>?_)
   ·have e2:(k:Int)<P.rows:=by omega
    have w2:=zm (k:=k) (by omega)
    have hm:P.of[i]∈P.of:=List.getElem_mem hi
    have hs:=xI (y7 (hG.off _ hm)).1
    have hcf:=tF hs.2.2 hk'
    have hA:-(P.coef k P.of[i])=pIA P i k:=by
     unfold pIA
     rw[if_pos hi,if_pos hk',gu hi]
    obtain ⟨c,hcc⟩:∃ c,P.coef k P.of[i]=c:=⟨_,rfl⟩
    rw[hcc] at hcf hA
    have hrl:∀ h,(th P k)[i]'h=c:=fun h=>by simp[th,hcc]
    have wn:IntKind.i64.wrap (0-c)=-c:=by rw[wrap64]<;>omega
    have hun:zr Tryz.prog (Op.unary UnOp.neg (Value.int .i64 c))=some (.int .i64 (-c)):=by rw[← wn]; rfl
    simp[jt,M5,e2]
    refine za (krow k hk') (by simp) (by simp) ?_
    simp[e,hi,hrl,hun]
    refine ua (by decide) rfl ?_ ?_ (by simp) ?_
    ·simp only[uK,kV]; omega
    ·simp only[uK,kV]; omega
    rw[hA,nU]
    simp[w2,M5,rZ,kU]
   ·have hm:P.of[i]∈P.of:=List.getElem_mem hi
    have hs:=xI (y7 (hG.off _ hm)).1
    have hA:pIA P i P.rows=-1:=by
     unfold pIA
     rw[if_pos hi,if_neg (Nat.lt_irrefl _)]
    have hB:-(P.of[i].v)=pIB P V i:=by
     unfold pIB
     rw[if_pos hi,gu hi]
    have ha:apc 82 1 (clR (iL (pIA P i) P.rows))=.list 1 (.own 82) (clR (iL (pIA P i) P.rows)):=xQ (by simp; omega)
    have hs2:clR (iL (pIA P i) P.rows)++[[iv (-1)]]=clR (iL (pIA P i) (P.rows+1)):=by rw[← nU,hA]
    have wn:IntKind.i64.wrap (0-P.of[i].v)=-(P.of[i].v):=by rw[wrap64]<;>omega
    have hun:zr Tryz.prog (Op.unary UnOp.neg (Value.int .i64 P.of[i].v))=some (.int .i64 (-(P.of[i].v))):=by rw[← wn]; rfl
    have hr2:rI P (P.rows+1) i++[[clA (iL (pIA P i) (P.rows+1))]]=rI P (P.rows+1) (i+1):=lB.symm
    simp[jt,M5,ha,a7,hs2,rZ,kU,JV]
    refine ⟨by omega,by omega,?_⟩
    refine BC (by decide) rfl ?_ ?_ (by simp) (by simp) ?_
    ·simp only[Ch]; omega
    ·simp only[Ch]; omega
    simp only[List.map_cons,List.map_nil,C7]
    have ha2:apc 89 1 (rI P (P.rows+1) (i+1))=.list 1 (.own 89) (rI P (P.rows+1) (i+1)):=xQ (by simp)
    have ha3:apc 101 1 (clR (iL (pIB P V) (i+1)))=.list 1 (.own 101) (clR (iL (pIB P V) (i+1))):=xQ (by simp)
    rw[hr2,ha2]
    simp[hun,hi,e,rZ,kU]
    refine ua (by decide) rfl ?_ ?_ (by simp) ?_
    ·simp only[uK,kV]; omega
    ·simp only[uK,kV]; omega
    rw[hB,nU,ha3]
    simp[w,M6,a8,kU,ha2,ha3]
  ·simp[ju,M6,Za]
   refine zq (M7 P ch V) (fun _=>True) P.rows (by simp[M7,Y6]) trivial (fun k hk' _=>?_) (fun _=>?_)
   ·have e:(k:Int)<P.rows:=by omega
    have w:=zm (k:=k) (by omega)
    have hA:P.bnd k=pIA P P.of.length k:=by
     unfold pIA
     rw[if_neg (Nat.lt_irrefl _),if_pos hk']
    simp[jv,M7,e]
    refine za (krow k hk') (by simp) (by simp) ?_
    simp
    refine ua (by decide) rfl ?_ ?_ (by simp) ?_
    ·simp only[uK,kV]; omega
    ·simp only[uK,kV]; omega
    rw[hA,nU]
    simp[w,M7,rZ,kU]
   ·have hA:pIA P P.of.length P.rows=0:=by
     unfold pIA
     rw[if_neg (Nat.lt_irrefl _),if_neg (Nat.lt_irrefl _)]
    have hB:V=pIB P V P.of.length:=by
     unfold pIB
     rw[if_neg (Nat.lt_irrefl _)]
    have ha:apc 117 1 (clR (iL (pIA P P.of.length) P.rows))=.list 1 (.own 117) (clR (iL (pIA P P.of.length) P.rows)):=xQ (by simp; omega)
    have hs2:clR (iL (pIA P P.of.length) P.rows)++[[iv 0]]=clR (iL (pIA P P.of.length) (P.rows+1)):=by rw[← nU,hA]
    have hr2:rI P (P.rows+1) P.of.length++[[clA (iL (pIA P P.of.length) (P.rows+1))]]=rI P (P.rows+1) (P.of.length+1):=lB.symm
    have hb2:clR (iL (pIB P V) P.of.length)++[[iv V]]=clR (iL (pIB P V) (P.of.length+1)):=by rw[← nU,← hB]
    simp[jv,M7,ha,a9,hs2,rZ,kU,JV]
    refine ⟨by omega,by omega,?_⟩
    by_cases k0:P.of.length=0
    ·have hr0:apc 89 1 (rI P (P.rows+1) P.of.length)=dD:=rc (by simp[k0])
     have hb0:apc 101 1 (clR (iL (pIB P V) P.of.length))=dD:=rc (by simp[k0])
     have hr3:[[clA (iL (pIA P P.of.length) (P.rows+1))]]=rI P (P.rows+1) (P.of.length+1):=by rw[← hr2,k0]; rfl
     have hb3:[[iv V]]=clR (iL (pIB P V) (P.of.length+1)):=by rw[← hb2,k0]; rfl
     rw[hr0,hb0]
     refine Ny rfl ?_
     simp[zN,hr3,hb3,kU,pj]
     omega
    ·have hr0:apc 89 1 (rI P (P.rows+1) P.of.length)=.list 1 (.own 89) (rI P (P.rows+1) P.of.length):=xQ (by simpa using k0)
     have hb0:apc 101 1 (clR (iL (pIB P V) P.of.length))=.list 1 (.own 101) (clR (iL (pIB P V) P.of.length)):=xQ (by simpa using k0)
     rw[hr0,hb0]
     refine Nz rfl ?_
     simp[zN,hr2,hb2,kU,pj]
     omega
noncomputable def SU (f:Nat→Rat) (g:Nat→Int) (n k:Nat):St:={env:=[(0,fL f n),(1,clA (iL g n)),(5,iv k)],sto:=[]}
theorem RV {f:Nat→Rat} (hn:n<1000000) (h:∀ j,j<n→f j=((g j:Int):Rat)∧-4294967296<g j∧g j<4294967296):zd Tryz.prog rU [fL f n,clA (iL g n)] (bv true):=by
 refine zt Lm (by simp) ?_
 simp[ZA]
 refine zq (SU f g n) (fun _=>True) n (by simp[SU]) trivial (fun k hk _=>?_) (fun _=>?_)
 ·have e:(k:Int)<n:=by omega
  have w:=zm (k:=k) (by omega)
  obtain ⟨h1,h2,h3⟩:=h k hk
  have z:sz 32 (f k):=by rw[h1]; exact tZ (by omega)
  have ks:zd Tryz.prog vM [fq (f k),fq ((g k:Int):Rat)] (bv true):=by have:=SA (q:=((g k:Int):Rat)) (by decide:32≤137438953472) z; simpa [h1] using this
  simp[mn,SU,e,hk]
  refine za (eL (n:=g k) (by omega) (by omega)) (by simp) (by simp) ?_
  simp
  refine za ks (by simp) (by simp) ?_
  simp[w,SU]
 ·simp[mn,ee,Yf,SU]
theorem aa9 (hG:P.Good):-4294967296<pIA P i j∧pIA P i j<4294967296:=by
 unfold pIA
 split
 ·rename_i h
  have hs:=xI (y7 (hG.off _ (at_mem h))).1
  split
  ·rename_i h2
   have:=tF hs.2.2 h2
   omega
  ·omega
 ·split
  ·rename_i h2
   have:=Na hG h2
   omega
  ·omega
theorem aba (hG:P.Good) (hV:-4294967296<V∧V<4294967296):-4294967296<pIB P V i∧pIB P V i<4294967296:=by
 unfold pIB
 split
 ·rename_i h
  have hs:=xI (y7 (hG.off _ (at_mem h))).1
  omega
 ·exact hV
theorem abb:-4294967296<pIG P i∧pIG P i<4294967296:=by unfold pIG; split<;>omega
theorem Ea (hc:P.chk=0):0≤P.valE ch∧P.valE ch≤160000000:=by
 unfold Pb.valE
 split
 ·rename_i h
  have hG:=xS hc
  have hm:=lE h.1
  have hb:=Pa (f:=fun o:Of=>o.v) (l:=P.pick ch) (a:=0) (b:=1000000) fun o ho=>by have:=(xI (y7 (hG.off o (hm o ho))).1).2.1; omega
  have:=nX h.1
  have:=hG.k
  rw[xU] at hb
  omega
 ·omega
end
section
variable {n m L:Nat} {A:Nat→Nat→Rat} {bb gg f g x y:Nat→Rat}
theorem Qj {K:Nat} {q:Rat} (hK:K≤137438953472) (h:sz K q):zd Tryz.prog v5 [fq q] (bv true):=by
 have:=Y5 (cg hK h)
 unfold hq RF.v at this
 rw[T1] at this
 rw[show vfr (RF.of q).s (RF.of q).a (RF.of q).c=true from Lz q] at this
 exact this
noncomputable def M2 (f:Nat→Rat) (n k:Nat):St:={env:=[(5,fL f n),(6,iv n),(7,iv k)],sto:=[]}
theorem bT (hn:n<1000000) (hL:L≤137438953472) (hf:∀ j,j<n→sz L (f j)):zd Tryz.prog wz [fL f n] (bv true):=by
 refine zt S5 (by simp) ?_
 simp[eo]
 refine zq (M2 f n) (fun _=>True) n (by simp[M2]) trivial (fun k hk _=>?_) (fun _=>?_)
 ·have e:(k:Int)<n:=by omega
  have w:=zm (k:=k) (by omega)
  simp[qf,M2,e,hk]
  refine za (Qj hL (hf k hk)) (by simp) (by simp) ?_
  simp[w,M2]
 ·simp[qf,kF,eY,M2]
noncomputable def MX (n m:Nat) (A:Nat→Nat→Rat) (bb gg:Nat→Rat) (k:Nat):St:={env:=[(1,.ptr 1 0),(6,.list 4 .plain (pR A bb n m)),(7,iv m),(8,iv k)],sto:=[(1,.var [fL gg n,.list 4 .plain (pR A bb n m)])]}
structure Szp (n m L:Nat) (A:Nat→Nat→Rat) (bb gg:Nat→Rat):Prop where
 hn:n<1000000
 hm:m<1000000
 hL:(n+m+1)*(2*L+1)+2*L≤137438953472
 ha:∀ i j,i<m→j<n→sz L (A i j)
 hb:∀ i,i<m→sz L (bb i)
 hg:∀ j,j<n→sz L (gg j)
theorem Szp.le (h:Szp n m L A bb gg):L≤137438953472:=by have:=h.hL; omega
theorem Z4 (h:Szp n m L A bb gg):zd Tryz.prog ue [pA A bb gg n m] (bv true):=by
 have kg:=bT h.hn h.le h.hg
 refine zt Tg (by simp) ?_
 simp[gG]
 refine zq (MX n m A bb gg) (fun _=>True) m (by simp[MX]) trivial (fun k hk _=>?_) (fun _=>?_)
 ·have e:(k:Int)<m:=by omega
  have hm:=h.hm
  have w:=zm (k:=k) (by omega)
  simp[rt,MX,e,hk]
  refine za (bT h.hn h.le (h.ha k · hk)) (by simp) (by simp) ?_
  simp
  refine za (Qj h.le (h.hb k hk)) (by simp) (by simp) ?_
  simp[w,MX]
 ·simp[rt,m5,MX]
  refine za kg (by simp) (by simp) ?_
  simp[fA]
noncomputable def MY (f:Nat→Rat) (n k:Nat):St:={env:=[(16,fL f n),(17,iv n),(18,iv k)],sto:=[]}
theorem QG (hn:n<1000000) (hL:L≤137438953472) (hf:∀ j,j<n→sz L (f j)) (h0:∀ j,j<n→0≤f j):zd Tryz.prog vC [fL f n,iv n] (bv true):=by
 refine zt cJ (by simp) ?_
 simp[nN]
 refine za (bT hn hL hf) (by simp) (by simp) ?_
 simp
 refine zq (MY f n) (fun _=>True) n (by simp[MY]) trivial (fun k hk _=>?_) (fun _=>?_)
 ·have e:(k:Int)<n:=by omega
  have w:=zm (k:=k) (by omega)
  have o:¬ xN (f k)<0:=fun h=>by have:=fE.1 h; have:=h0 k hk; grind
  simp[ut,MY,e,hk]
  refine za (qy (q:=f k)) (by simp) (by simp) ?_
  simp[o,w,MY]
 ·simp[ut,qe,n6,MY]
noncomputable def M1 (f:Nat→Rat) (n k:Nat):St:={env:=[(2,.ptr 2 0),(3,.ptr 3 0),(7,fL f n),(8,iv n),(9,iv k)],sto:=[(2,.var zz),(3,.var (fr (zh k f)))]}
theorem afC (hn:n<1000000) (hL:n*(L+1)+L≤137438953472) (hf:∀ j,j<n→sz L (f j)):zd Tryz.prog Rf [fL f n] (fq (zh n f)):=by
 have g0:zd Tryz.prog zM [iv 0] (fq 0):=xi (n:=0) (by decide) (by decide)
 refine zt aep (by simp) ?_
 simp[KO]
 refine za g0 (by simp) (by simp) ?_
 simp
 refine zq (M1 f n) (fun _=>True) n (by simp[M1,zh]) trivial (fun k hk _=>?_) (fun _=>?_)
 ·have e:(k:Int)<n:=by omega
  have w:=zm (k:=k) (by omega)
  have ev:zh k f+f k=zh (k+1) f:=rfl
  have g2:=YU (K:=n*(L+1)+L) (by omega) (zJ (Pc (n:=k) (N:=n) (f:=f) (fun i hi=>hf i (by omega)) (by omega)) (by omega)) (zJ (hf k hk) (by omega))
  simp[c7,M1,e,hk]
  refine za g2 (by simp) (by simp) ?_
  simp[w,ev,M1]
 ·simp[c7,Tz,JL,M1]
theorem acg {tok sz:Nat} {rows:List (List AV)}:[apc tok sz rows].any sW=false:=by unfold apc; split<;>rfl
noncomputable def MW (f g:Nat→Rat) (n k:Nat):St:={env:=[(0,fL f n),(1,fL g n),(4,.ptr 4 0),(5,apc 26 3 (fR (fun i=>f i*g i) k)),(11,iv n),(12,iv k)],sto:=[(4,.var zz)]}
theorem Dq (hn:n<1000000) (hL:n*(2*L+1)+2*L≤137438953472) (hf:∀ j,j<n→sz L (f j)) (hg:∀ j,j<n→sz L (g j)):zd Tryz.prog YO [fL f n,fL g n] (fq (zh n fun i=>f i*g i)):=by
 have hm:∀ j,j<n→sz (2*L) (f j*g j):=fun j hj=>zJ (yg (hf j hj) (hg j hj)) (by omega)
 have ks:=qt (afC (f:=fun i=>f i*g i) hn hL hm) (abU (cx kW))
 refine zt ael (by simp) ?_
 simp[KK]
 refine zq (MW f g n) (fun _=>True) n (by simp[MW,Rw]) trivial (fun k hk _=>?_) (fun _=>?_)
 ·have e:(k:Int)<n:=by omega
  have w:=zm (k:=k) (by omega)
  have hs:fR (fun i=>f i*g i) k++[fr (f k*g k)]=fR (fun i=>f i*g i) (k+1):=vF.symm
  simp[cZ,MW,e,hk]
  refine za (mG (K:=L) (by omega) (hf k hk) (hg k hk)) (by simp) (by simp) ?_
  simp
  refine ua (by decide) rfl ?_ ?_ (by simp) ?_
  ·simp only[TX]; omega
  ·simp only[TX]; omega
  rw[hs]
  simp[w,MW]
 ·simp[cZ,Tx,MW]
  refine za ks (by simp) (.inl acg) ?_
  simp[JH]
noncomputable def MU (n m:Nat) (A:Nat→Nat→Rat) (bb gg y:Nat→Rat) (k:Nat):St:={env:=[(1,fL y m),(2,.ptr 2 0),(4,.ptr 4 0),(5,.ptr 5 0),(13,iv m),(14,iv k)],sto:=[(2,.var [fL gg n,.list 4 .plain (pR A bb n m)]),(4,.var zz),(5,.var (fr (zh k fun i=>y i*bb i)))]}
theorem cC (h:Szp n m L A bb gg) {N:Nat} (hN:N≤n+m) {f:Nat→Rat} (hf:∀ i,i<N→sz (2*L) (f i)) {k:Nat} (hk:k≤N):sz 137438953472 (zh k f):=by
 refine zJ (Pc (n:=k) (N:=N) (f:=f) (fun i hi=>hf i (by omega)) hk) ?_
 have:=Nat.mul_le_mul_right (2*L+1) hN
 have h2:=h.hL
 rw[Nat.add_mul] at h2
 omega
theorem Do (h:Szp n m L A bb gg) (hy:∀ i,i<m→sz L (y i)):zd Tryz.prog ne [pA A bb gg n m,fL y m] (fq (zh m fun i=>y i*bb i)):=by
 have g0:zd Tryz.prog zM [iv 0] (fq 0):=xi (n:=0) (by decide) (by decide)
 have hm:∀ i,i<m→sz (2*L) (y i*bb i):=fun i hi=>zJ (yg (hy i hi) (h.hb i hi)) (by omega)
 have hmm:=h.hm
 have hL:=h.hL
 refine zt Te (by simp) ?_
 simp[gD]
 refine za g0 (by simp) (by simp) ?_
 simp
 refine zq (MU n m A bb gg y) (fun _=>True) m (by simp[MU,zh]) trivial (fun k hk _=>?_) (fun _=>?_)
 ·have e:(k:Int)<m:=by omega
  have w:=zm (k:=k) (by omega)
  have ev:(zh k fun i=>y i*bb i)+y k*bb k=zh (k+1) fun i=>y i*bb i:=rfl
  simp[rp,MU,e,hk]
  refine za (mG (K:=L) h.le (hy k hk) (h.hb k hk)) (by simp) (by simp) ?_
  simp
  refine za (YU (K:=137438953472) (by omega) (cC h (k:=k) (by omega) hm (by omega)) (zJ (hm k hk) (by omega))) (by simp) (by simp) ?_
  simp[w,ev,MU]
 ·simp[rp,mZ,fw,MU]
noncomputable def MV (n m:Nat) (A:Nat→Nat→Rat) (bb gg y:Nat→Rat) (j k:Nat):St:={env:=[(1,fL y m),(2,iv j),(3,.ptr 3 0),(6,.ptr 6 0),(7,.ptr 7 0),(11,iv m),(12,iv k)],sto:=[(3,.var [fL gg n,.list 4 .plain (pR A bb n m)]),(6,.var zz),(7,.var (fr (zh k fun i=>y i*A i j)))]}
theorem Dp (h:Szp n m L A bb gg) (hy:∀ i,i<m→sz L (y i)) {j:Nat} (hj:j<n):zd Tryz.prog nf [pA A bb gg n m,fL y m,iv j] (fq (zh m fun i=>y i*A i j)):=by
 have g0:zd Tryz.prog zM [iv 0] (fq 0):=xi (n:=0) (by decide) (by decide)
 have hm:∀ i,i<m→sz (2*L) (y i*A i j):=fun i hi=>zJ (yg (hy i hi) (h.ha i j hi hj)) (by omega)
 have hmm:=h.hm
 have hL:=h.hL
 have e2:(j:Int)<n:=by omega
 refine zt Tf (by simp) ?_
 simp[gF]
 refine za g0 (by simp) (by simp) ?_
 simp
 refine zq (MV n m A bb gg y j) (fun _=>True) m (by simp[MV,zh]) trivial (fun k hk _=>?_) (fun _=>?_)
 ·have e:(k:Int)<m:=by omega
  have w:=zm (k:=k) (by omega)
  have ev:(zh k fun i=>y i*A i j)+y k*A k j=zh (k+1) fun i=>y i*A i j:=rfl
  simp[rq,MV,e,hk,e2,hj]
  refine za (mG (K:=L) h.le (hy k hk) (h.ha k j hk hj)) (by simp) (by simp) ?_
  simp
  refine za (YU (K:=137438953472) (by omega) (cC h (k:=k) (by omega) hm (by omega)) (zJ (hm k hk) (by omega))) (by simp) (by simp) ?_
  simp[w,ev,MV]
 ·simp[rq,m4,fz,MV]
theorem AP (h:Szp n m L A bb gg) (hx:∀ j,j<n→sz L (x j)):zd Tryz.prog mb [pA A bb gg n m,fL x n] (fq (zh n fun j=>gg j*x j)):=by
 have hL:=h.hL
 have kd:=Dq h.hn (by rw[Nat.add_mul,Nat.add_mul] at hL; omega) h.hg hx
 refine zt S4 (by simp) ?_
 simp[eh]
 refine za kd (by simp) (by simp) ?_
 simp[eX]
noncomputable def M0 (n m:Nat) (A:Nat→Nat→Rat) (bb x:Nat→Rat) (k:Nat):St:={env:=[(1,fL x n),(19,.list 4 .plain (pR A bb n m)),(20,iv m),(21,iv k)],sto:=[]}
theorem L2 (h:Szp n m L A bb gg) (hx:∀ j,j<n→sz L (x j)) (h0:∀ j,j<n→0≤x j) (hr:∀ i,i<m→zh n (fun j=>A i j*x j)≤bb i):zd Tryz.prog rV [pA A bb gg n m,fL x n] (bv true):=by
 have hL:=h.hL
 have hmm:=h.hm
 have hL2:n*(2*L+1)+2*L≤137438953472:=by rw[Nat.add_mul,Nat.add_mul] at hL; omega
 refine zt YG (by simp) ?_
 simp[kE]
 refine za (Z4 h) (by simp) (by simp) ?_
 simp
 refine za (QG h.hn h.le hx h0) (by simp) (by simp) ?_
 simp
 refine zq (M0 n m A bb x) (fun _=>True) m (by simp[M0]) trivial (fun k hk _=>?_) (fun _=>?_)
 ·have e:(k:Int)<m:=by omega
  have w:=zm (k:=k) (by omega)
  have hm:∀ i,i<n→sz (2*L) (A k i*x i):=fun i hi=>zJ (yg (h.ha k i hk hi) (hx i hi)) (by omega)
  have o:¬ 0<xY (zh n fun i=>A k i*x i) (bb k):=fun h1=>by have:=K5.1 h1; have:=hr k hk; grind
  simp[tB,M0,e,hk]
  refine za (Dq h.hn hL2 (h.ha k · hk) hx) (by simp) (by simp) ?_
  simp
  refine za (bt (K:=137438953472) (by omega) (cC h (k:=n) (by omega) hm (by omega)) (zJ (h.hb k hk) h.le)) (by simp) (by simp) ?_
  simp[o,w,M0]
 ·simp[tB,nM,k9,M0]
noncomputable def MZ (n m:Nat) (A:Nat→Nat→Rat) (bb gg y:Nat→Rat) (k:Nat):St:={env:=[(1,fL y m),(2,.ptr 2 0),(4,.ptr 4 0),(21,iv n),(22,iv k)],sto:=[(2,.var [fL gg n,.list 4 .plain (pR A bb n m)]),(4,.var zz)]}
theorem AI (h:Szp n m L A bb gg) (hy:∀ i,i<m→sz L (y i)) (h0:∀ i,i<m→0≤y i) (hc:∀ j,j<n→gg j≤zh m (fun i=>y i*A i j)):zd Tryz.prog ma [pA A bb gg n m,fL y m] (.tuple [fq (zh m fun i=>y i*bb i),bv true]):=by
 have hnn:=h.hn
 refine zt S2 (by simp) ?_
 simp[ef]
 refine za (Z4 h) (by simp) (by simp) ?_
 simp
 refine za (QG h.hm h.le hy h0) (by simp) (by simp) ?_
 simp
 refine zq (MZ n m A bb gg y) (fun _=>True) n (by simp[MZ]) trivial (fun k hk _=>?_) (fun _=>?_)
 ·have e:(k:Int)<n:=by omega
  have w:=zm (k:=k) (by omega)
  have hm:∀ i,i<m→sz (2*L) (y i*A i k):=fun i hi=>zJ (yg (hy i hi) (h.ha i k hi hk)) (by omega)
  have o:¬ xY (zh m fun i=>y i*A i k) (gg k)<0:=fun h1=>by have:=cb.1 h1; have:=hc k hk; grind
  simp[qd,MZ,e]
  refine za (Dp h hy hk) (by simp) (by simp) ?_
  simp[e,hk]
  refine za (bt (K:=137438953472) (by omega) (cC h (k:=m) (by omega) hm (by omega)) (zJ (h.hg k hk) h.le)) (by simp) (by simp) ?_
  simp[o,w,MZ]
 ·simp[qd,kD,MZ]
  refine za (Do h hy) (by simp) (by simp) ?_
  simp[eW]
theorem DA {v w:Rat} (h:Szp n m L A bb gg) (ho:Opt n m A bb gg x y v) (hx:∀ j,j<n→sz L (x j)) (hy:∀ i,i<m→sz L (y i)) (hw:sz 137438953472 w) :
  zd Tryz.prog wc [.agg [.list 3 .full [fr w],fL x n,fL y m],pA A bb gg n m] (bv (decide (w=v))):=by
 have hm1:∀ i,i<n→sz (2*L) (gg i*x i):=fun i hi=>zJ (yg (h.hg i hi) (hx i hi)) (by omega)
 have hm2:∀ i,i<m→sz (2*L) (y i*bb i):=fun i hi=>zJ (yg (hy i hi) (h.hb i hi)) (by omega)
 have z1:=cC h (k:=n) (by omega) hm1 (Nat.le_refl n)
 have z2:=cC h (k:=m) (by omega) hm2 (Nat.le_refl m)
 have kf:=L2 h hx (fun j _=>ho.x0 j) ho.row
 have kv:zd Tryz.prog wz [.list 3 .full [fr w]] (bv true):=qt (bT (f:=fun _=>w) (n:=1) (by decide) (by decide) fun _ _=>hw) (abU (wk (rows:=fR (fun _=>w) 1)))
 have kb:=AI h hy (fun i _=>ho.y0 i) ho.col
 have kx:=AP h hx
 rw[ho.vx] at kx z1
 rw[ho.vy] at kb z2
 have c0:xY v v=0:=lf.2 rfl
 refine zt jB (by simp) ?_
 simp[sO]
 refine za kf (by simp) (by simp) ?_
 simp
 refine za kv (by simp) (by simp) ?_
 simp
 refine za kb (by simp) (by simp) ?_
 simp
 refine za kx (by simp) (by simp) ?_
 simp
 refine za (bt (K:=137438953472) (by omega) z1 z2) (by simp) (by simp) ?_
 simp
 refine za (bt (K:=137438953472) (by omega) hw z2) (by simp) (by simp) ?_
 simp
 rw[sV Zp Zo Zn rfl rfl]
 have hd:decide (qY [iv (xY v v),iv (xY w v)]=qY [iv 0,iv 0])=decide (w=v):=by
  rw[decide_eq_decide]
  simp[qY,c0,lf]
 have hd2:(decide (xY v v=0)&&decide (xY w v=0))=decide (w=v):=by simp[c0,lf]
 simp[hd2,s4]
theorem LZ {q:Rat} {a b c d:AV}:zD [a,f0 q,f1 q,f2 q,b,c,d] 1 (some 3)=some (fq q):=by simp[zD]
theorem afD : bW Tryz.prog jD "saleroom/lpcheck.proven" = some wc := by kernel_rfl
theorem afJ:yR Tryz.prog wc=true:=by kernel_rfl
theorem AJ {v w:Rat} (h:Szp n m L A bb gg) (ho:Opt n m A bb gg x y v) (hx:∀ j,j<n→sz L (x j)) (hy:∀ i,i<m→sz L (y i)) (hw:sz 137438953472 w) :
  zd Tryz.prog rC [pA A bb gg n m,.agg [iv 1,f0 w,f1 w,f2 w,fL x n,fL y m,zH]] (iv (if w=v then 0 else 13)):=by
 have kp:=DA h ho hx hy hw
 refine zt S3 (by simp) ?_
 simp[eg]
 refine za (Z4 h) (by simp) (by simp) ?_
 simp[afD,afJ,LZ]
 refine za kp (by simp) (by simp) ?_
 by_cases e:w=v
 ·simp[e,mK]
 ·simp[e,mK]
end
noncomputable def qR (A:Nat→Nat→RF) (cl:Nat→Nat) (b:Nat→RF) (m:Nat):List (List AV):=mR (fun i=>[hL (A i) (cl i),h0 (b i),h1 (b i),h2 (b i)]) m
noncomputable abbrev rA (G:Nat→RF) (n:Nat) (A:Nat→Nat→RF) (cl:Nat→Nat) (b:Nat→RF) (m:Nat):AV:=.agg [hL G n,.list 4 .plain (qR A cl b m)]
section
variable {A:Nat→Nat→RF} {cl:Nat→Nat} {b:Nat→RF} {m i:Nat}
@[simp] theorem aj8:(qR A cl b m).length=m:=sZ
@[simp] theorem aji {hi:i<(qR A cl b m).length}:(qR A cl b m)[i]=[hL (A i) (cl i),h0 (b i),h1 (b i),h2 (b i)]:=nW
@[simp] theorem akZ:yn (qR A cl b m)=true:=cr fun _=>by simp
@[simp] theorem ak0:zN (qR A cl b m)=qR A cl b m:=tP fun _=>by simp
end
noncomputable def td (f:Nat→RF) (n:Nat):Bool:=@decide (∀ j,j<n→(f j).v=true) (Classical.propDecidable _)
theorem uh {f:Nat→RF} {n:Nat}:td f n=true↔∀ j,j<n→(f j).v=true:=by unfold td; exact @decide_eq_true_iff _ (Classical.propDecidable _)
noncomputable def Lf (f:Nat→RF) (n k:Nat):St:={env:=[(5,hL f n),(6,iv n),(7,iv k)],sto:=[]}
theorem Bw {f:Nat→RF} {n:Nat} (hn:n<1000000) (hf:∀ j,j<n→(f j).fine):zd Tryz.prog fW [hL f n] (bv (td f n)):=by
 refine zt Bq (by simp) ?_
 simp[Qv]
 refine zq (Lf f n) (fun k=>∀ j,j<k→(f j).v=true) n (by simp[Lf]) (fun j hj=>by omega) (fun k hk hI=>?_) (fun hI=>?_)
 ·have e:(k:Int)<n:=by omega
  have w:=zm (k:=k) (by omega)
  simp[gT,Lf,e,hk]
  refine za (Y5 (hf k hk)) (by simp) (by simp) ?_
  cases hv:(f k).v with
  | true =>
   simp[w,Lf]
   intro j hj
   by_cases ej:j=k
   ·subst ej; exact hv
   ·exact hI j (by omega)
  | false =>
   have:td f n=false:=by
    cases h:td f n with
    | false=>rfl
    | true=>have:=uh.1 h k hk; rw[hv] at this; cases this
   simp[Yk,this]
 ·have:td f n=true:=uh.2 hI
  simp[gT,ZL,Yk,Lf,this]
def GM (G:Nat→RF) (n:Nat) (A:Nat→Nat→RF) (cl:Nat→Nat) (b:Nat→RF) (m:Nat):Prop :=
 (∀ j,j<n→(G j).v=true)∧∀ i,i<m→cl i=n∧(b i).v=true∧∀ j,j<n→(A i j).v=true
noncomputable def Rq (G:Nat→RF) (n:Nat) (A:Nat→Nat→RF) (cl:Nat→Nat) (b:Nat→RF) (m:Nat):Int :=
 if 160<n∨40<m then 3 else @ite _ (GM G n A cl b m) (Classical.propDecidable _) 0 2
section
variable {G:Nat→RF} {n:Nat} {A:Nat→Nat→RF} {cl:Nat→Nat} {b:Nat→RF} {m:Nat}
theorem Ez (h:160<n∨40<m):Rq G n A cl b m=3:=if_pos h
theorem Qw (h:¬ (160<n∨40<m)) (hg:GM G n A cl b m):Rq G n A cl b m=0:=by unfold Rq; rw[if_neg h]; exact @if_pos _ (Classical.propDecidable _) hg _ _ _
theorem bs (h:¬ (160<n∨40<m)) (hg:¬ GM G n A cl b m):Rq G n A cl b m=2:=by unfold Rq; rw[if_neg h]; exact @if_neg _ (Classical.propDecidable _) hg _ _ _
noncomputable def R1 (G:Nat→RF) (n:Nat) (A:Nat→Nat→RF) (cl:Nat→Nat) (b:Nat→RF) (m k:Nat):St :=
 {env:=[(1,.ptr 1 0),(20,.list 4 .plain (qR A cl b m)),(21,iv m),(22,iv k)],sto:=[(1,.var [hL G n,.list 4 .plain (qR A cl b m)])]}
theorem BV (hn:n<1000000) (hm:m<1000000) (hc:∀ i,i<m→cl i<1000000) (hG:∀ j,j<n→(G j).fine) (hA:∀ i j,i<m→j<cl i→(A i j).fine) (hb:∀ i,i<m→(b i).fine) :
  zd Tryz.prog kB [rA G n A cl b m] (iv (Rq G n A cl b m)):=by
 have kG:=Bw hn hG
 refine zt Bp (by simp) ?_
 by_cases hl:160<n∨40<m
 ·rw[Ez hl]
  by_cases h1:160<n
  ·have h1':(160:Int)<n:=by omega
   simp[eA,h1',t7]
  ·have h1':¬ (160:Int)<n:=by omega
   have h2':(40:Int)<m:=by omega
   simp[eA,h1',h2',t7]
 ·have h1':¬ (160:Int)<n:=by omega
  have h2':¬ (40:Int)<m:=by omega
  simp[eA,h1',h2']
  refine za kG (by simp) (by simp) ?_
  cases hv:td G n with
  | false =>
   rw[bs hl fun hg=>by rw[uh.2 hg.1] at hv; cases hv]
   simp[t7]
  | true =>
   simp
   refine zq (R1 G n A cl b m) (fun k=>∀ i,i<k→cl i=n∧(b i).v=true∧∀ j,j<n→(A i j).v=true) m (by simp[R1]) (fun j hj=>by omega) (fun k hk hI=>?_) (fun hI=>?_)
   ·have e:(k:Int)<m:=by omega
    have w:=zm (k:=k) (by omega)
    have kA:=Bw (f:=A k) (n:=cl k) (hc k hk) (fun j hj=>hA k j hk hj)
    have kb:=Y5 (hb k hk)
    by_cases h3:cl k=n
    ·have kA:=kA
     rw[h3] at kA
     simp[mw,R1,e,hk,h3]
     refine za kA (by simp) (by simp) ?_
     cases hva:td (A k) n with
     | false =>
      rw[bs hl fun hg=>by have:=hg.2 k hk; rw[uh.2 this.2.2] at hva; cases hva]
      simp[t7]
     | true =>
      simp
      refine za kb (by simp) (by simp) ?_
      cases hvb:(b k).v with
      | false =>
       rw[bs hl fun hg=>by have:=hg.2 k hk; rw[hvb] at this; cases this.2.1]
       simp[t7]
      | true =>
       simp[w,R1]
       intro i hi
       by_cases ei:i=k
       ·subst ei; exact ⟨h3,hvb,uh.1 hva⟩
       ·exact hI i (by omega)
    ·have h3':¬ (cl k:Int)=n:=by omega
     rw[bs hl fun hg=>h3 (hg.2 k hk).1]
     simp[mw,R1,e,hk,h3',t7]
   ·rw[Qw hl ⟨uh.1 hv,hI⟩]
    simp[mw,ZK,t7,R1]
end
theorem ahg {G:Nat→RF} {n:Nat} {A':Nat→Nat→RF} {cl:Nat→Nat} {b:Nat→RF} {m:Nat} {A:Nat→Nat→Rat} {bb gg:Nat→Rat} (hG:∀ j,j<n→G j=RF.of (gg j)) (hc:∀ i,i<m→cl i=n) (hA:∀ i j,i<m→j<n→A' i j=RF.of (A i j)) (hb:∀ i,i<m→b i=RF.of (bb i)) :
  rA G n A' cl b m=pA A bb gg n m:=by
 unfold rA pA
 rw[hL,GR hG]
 have:qR A' cl b m=pR A bb n m:=wZ fun i hi=>by rw[hc i hi,hL,GR fun j hj=>hA i j hi hj,hb i hi,abR,abS,abT]
 rw[this]
theorem BU {n m K:Nat} {A:Nat→Nat→Rat} {bb gg:Nat→Rat} (hn:n≤160) (hm:m≤40) (hK:K≤137438953472) (ha:∀ i j,i<m→j<n→sz K (A i j)) (hb:∀ i,i<m→sz K (bb i)) (hg:∀ j,j<n→sz K (gg j)) :
  zd Tryz.prog kB [pA A bb gg n m] (iv 0):=by
 have h:=BV (G:=fun j=>RF.of (gg j)) (n:=n) (A:=fun i j=>RF.of (A i j)) (cl:=fun _=>n) (b:=fun i=>RF.of (bb i)) (m:=m) (by omega) (by omega) (fun _ _=>by omega) (fun j hj=>cg hK (hg j hj)) (fun i j hi hj=>cg hK (ha i j hi hj)) (fun i hi=>cg hK (hb i hi))
 rw[ahg (A:=A) (bb:=bb) (gg:=gg) (fun _ _=>rfl) (fun _ _=>rfl) (fun _ _ _ _=>rfl) (fun _ _=>rfl),Qw (by omega) ⟨fun _ _=>A3 _,fun _ _=>⟨rfl,A3 _,fun _ _=>A3 _⟩⟩] at h
 exact h
@[simp] theorem ahv {q:Rat} {a b c d:AV}:splice [a,b,c,d] 1 (fr q)=a::fr q:=by unfold fr; simp[splice,-qT]
def sL:Nat:=grow 24 10
theorem Sz:sL=25515349:=by decide
section
variable {P:Pb} {ch:List Int} {V:Int} {X Y:Nat→Rat} {v:Rat} {n m i:Nat}
noncomputable abbrev prQ (z:Rat) (B S O:List (List AV)) (st:Int) (w:Rat) (X Y:Nat→Rat) (n m:Nat):List AV:=[f0 z,f1 z,f2 z,.list 3 .plain B,.list 3 .plain S,.list 3 .plain O,iv st,f0 w,f1 w,f2 w,fL X n,fL Y m,zH]
noncomputable abbrev pqL (P:Pb) (Z X Y:Nat→Rat) (w:Rat):List AV:=prQ (Z P.rows) (fR Z P.cl.length) (fR (fun j=>Z (P.cl.length+j)) 6) (fR (fun j=>Z (P.cl.length+6+j)) 6) 1 w X Y (P.rows+1) (P.of.length+1)
noncomputable abbrev prS (P:Pb) (X Y:Nat→Rat) (v:Rat):List AV:=pqL P X X Y v
noncomputable abbrev noS:List AV:=[bv false,zH,zH,zH,zH,zH,iv 0,bv false,zH,zH,zH,zH,zH]
theorem FM {q:Rat} {a b c:AV} {l:List AV}:splice (a::b::c::l) 0 (fr q)=f0 q::f1 q::f2 q::l:=by unfold fr; simp[splice,-qT]
theorem abk {x0 x1 x2 x3 x4 x5 x6 x7 x8 x9 x10 x11 x12 y0 y1 y2 y3 y4 y5 y6:AV}:splice [x0,x1,x2,x3,x4,x5,x6,x7,x8,x9,x10,x11,x12] 6 [y0,y1,y2,y3,y4,y5,y6]=[x0,x1,x2,x3,x4,x5,y0,y1,y2,y3,y4,y5,y6]:=rfl
theorem Y4 {f:Nat→Rat} {a k:Nat}:fR f a++fR (fun j=>f (a+j)) k=fR f (a+k):=by
 induction k with
 | zero=>rw[Rw,List.append_nil]; rfl
 | succ k ih=>rw[vF,← List.append_assoc,ih,← Nat.add_assoc,vF]
theorem NK {f:Nat→Rat} {N a b k:Nat} (hb:b≤N) (hk:a+k=b):((fR f N).take b).drop a=fR (fun j=>f (a+j)) k:=by
 apply List.ext_getElem?
 intro j
 rw[List.getElem?_drop,List.getElem?_take]
 by_cases h:j<k
 ·rw[if_pos (by omega),cd (by omega),cd h]
 ·rw[if_neg (by omega),List.getElem?_eq_none (by simp; omega)]
theorem ab3 (hG:P.Good) {j:Nat}:sz 24 (P.sA i j):=by
 rw[ab2]
 unfold pIA
 split
 ·rename_i h
  have hs:=xI (y7 (hG.off _ (at_mem h))).1
  split
  ·rename_i h2
   have:=tF hs.2.2 h2
   exact tZ (by omega)
  ·exact tZ (by decide)
 ·split
  ·rename_i h2
   have:=Na hG h2
   exact tZ (by omega)
  ·exact tZ (by decide)
theorem ab4 (hG:P.Good) (hV:-16777216≤V∧V≤16777216):sz 24 (P.sB V i):=by
 rw[Fs]
 unfold pIB
 split
 ·rename_i h
  have hs:=xI (y7 (hG.off _ (at_mem h))).1
  exact tZ (by omega)
 ·exact tZ (by omega)
theorem ab6:sz 24 (P.sG i):=by
 rw[ab5]
 unfold pIG
 split<;>exact tZ (by decide)
theorem Pf (hc:P.chk=0) (hk:P.of.length≤9):0≤P.valE ch∧P.valE ch≤9000000:=by
 unfold Pb.valE
 split
 ·rename_i h
  have hG:=xS hc
  have hm:=lE h.1
  have hb:=Pa (f:=fun o:Of=>o.v) (l:=P.pick ch) (a:=0) (b:=1000000) fun o ho=>by have:=(xI (y7 (hG.off o (hm o ho))).1).2.1; omega
  have:=nX h.1
  rw[xU] at hb
  omega
 ·omega
theorem CZ (hn:P.cl.length≤1000) (hk:P.of.length≤1000000) (hl:ch.length<4611686018427387904) (hV:-9223372036854775808≤V∧V<9223372036854775808) (he:pgE P ch V≠0) :
  zd Tryz.prog wA [.agg (pbC P),.agg [clA ch,iv V]] (.tuple [.agg noS,iv (pgE P ch V)]):=by
 have kp:=nZ (ch:=ch) (V:=V) hn hk hl hV
 rw[if_neg he] at kp
 refine zt dh (by simp) ?_
 simp[mz]
 refine za kp (by simp) (by simp) ?_
 simp[he,mL]
theorem J9 (hn:P.cl.length≤1000) (hk:P.of.length≤9) (hl:ch.length<4611686018427387904) (he:pgE P ch V=0) :
  ∃ X Y v,(P.Sup V X Y v∧(∀ j,sz sL (X j))∧(∀ i,sz sL (Y i))∧sz sL v)∧zd Tryz.prog wA [.agg (pbC P),.agg [clA ch,iv V]] (.tuple [.agg (prS P X Y v),iv 0]):=by
 obtain ⟨hf,hVe,_⟩:=UR he
 obtain ⟨hc,hok,hfit⟩:=gY hf
 have hG:=xS hc
 have hVb:=Pf (ch:=ch) hc hk
 rw[← hVe] at hVb
 have hrw:P.rows≤20:=by have:=hG.n; unfold Pb.rows; omega
 have hsL:=Sz
 have sA:∀ i j,i<P.of.length+1→j<P.rows+1→sz 24 (P.sA i j):=fun i j _ _=>ab3 hG
 have sB:∀ i,i<P.of.length+1→sz 24 (P.sB V i):=fun i _=>ab4 hG (by omega)
 have sG:∀ j,j<P.rows+1→sz 24 (P.sG j):=fun j _=>ab6
 have kc:=BU (n:=P.rows+1) (m:=P.of.length+1) (by omega) (by omega) (by decide:24≤137438953472) sA sB sG
 obtain ⟨r,hr,hs⟩:=ad6 (t:=10) (.inl (by omega)) (by omega) (by omega) (by
  have:(P.of.length+1+1)*(2*grow 24 10+1)≤11*(2*25515349+1):=Nat.mul_le_mul (by omega) (by rw[show grow 24 10=25515349 from Sz]; omega)
  rw[show grow 24 10=25515349 from Sz] at this ⊢
  omega) sA sB sG kc
 rcases hr with ⟨X,Y,v,⟨ho,hx,hy,hv⟩,rfl⟩ | ⟨y,⟨hi,_⟩,_⟩ | ⟨x,ray,⟨hu,_⟩,_⟩
 rotate_left
 ·exact (F2 hG (by omega) hi).elim
 ·exact (F3 hu).elim
 refine ⟨X,Y,v,⟨ho,hx,hy,hv⟩,?_⟩
 have kp:=nZ (ch:=ch) (V:=V) hn (by omega) hl (by omega)
 rw[if_pos he] at kp
 refine wN dh (by simp) ?_
 simp[mz]
 refine za kp (by simp) (by simp) ?_
 simp[he]
 refine za hs (by simp) (by simp) ?_
 have eR:P.rows=P.cl.length+12:=rfl
 obtain ⟨m,hm⟩:∃ m,P.cl.length+6=m:=⟨_,rfl⟩
 have w1:IntKind.i64.wrap ((P.cl.length:Int)+6)=(m:Int):=by rw[wrap64]<;>omega
 have w2:IntKind.i64.wrap ((m:Int)+6)=(P.rows:Int):=by rw[wrap64]<;>omega
 have i1:(P.rows:Int)<P.rows+1:=by omega
 have i2:(P.cl.length:Int)≤P.rows+1:=by omega
 have i3:(P.cl.length:Int)≤m:=by omega
 have i4:(m:Int)≤P.rows+1:=by omega
 have i5:(m:Int)≤P.rows:=by omega
 have i6:(P.rows:Int)≤P.rows+1:=by omega
 have l1:(fR X (P.rows+1)).take P.cl.length=fR X P.cl.length:=by
  have h:=NK (f:=X) (N:=P.rows+1) (a:=0) (b:=P.cl.length) (k:=P.cl.length) (by omega) (by omega)
  simpa using h
 have l2:=NK (f:=X) (N:=P.rows+1) (a:=P.cl.length) (b:=m) (k:=6) (by omega) (by omega)
 have l3:=NK (f:=X) (N:=P.rows+1) (a:=m) (b:=P.rows) (k:=6) (by omega) (by omega)
 simp[w1,w2,i1,i2,i3,i4,i5,i6,l1,l2,l3,FM,abk,mL]
 refine ⟨by omega,by omega,AV.imp_tuple2 ?_⟩
 subst hm
 have r:=fun x:AV=>AV.imp.refl (x:=x)
 exact co (yt (r _) (yt (r _) (yt (r _) (yt wk (yt wk (yt wk eM))))))
theorem ZU {a b c:AV} {B S O:List (List AV)} {x0 x1 x2 x3 x4 x5 x6:AV} :
  zd Tryz.prog yF [.agg [a,b,c,.list 3 .plain B,.list 3 .plain S,.list 3 .plain O,x0,x1,x2,x3,x4,x5,x6],.agg (pbC P)] (bv (decide (B.length=P.cl.length∧S.length=6∧O.length=6))):=by
 refine zt j3 (by simp) ?_
 simp[rH]
 rw[sV UG UB Um rfl rfl]
 have hd:decide (qY [iv B.length,iv S.length,iv O.length]=qY [iv P.cl.length,iv 6,iv 6])=decide (B.length=P.cl.length∧S.length=6∧O.length=6):=by
  rw[decide_eq_decide]
  simp[qY]
  omega
 simp at hd
 simp[hd,rQ]
 trace_state
theorem Js {a b c:AV} {B S O:List (List AV)} {x0 x1 x2 x3 x4 x5 x6:AV} (hl:B.length+S.length+O.length≤1000000) :
  zd Tryz.prog yj [.agg [a,b,c,.list 3 .plain B,.list 3 .plain S,.list 3 .plain O,x0,x1,x2,x3,x4,x5,x6]] (.list 3 .plain (B++S++O)):=by
 refine zt pB (by simp) ?_
 simp[uD,pz]
 omega
section
variable {z w:Rat} {B S O:List (List AV)} {st:Int}
theorem XV:zD (prQ z B S O st w X Y n m) 0 (some 13)=some (.agg (prQ z B S O st w X Y n m)):=by
 have h:=vd (cells:=prQ z B S O st w X Y n m) (n:=13) rfl (by simp)
 rw[h]
 simp
theorem GL:zD (prQ z B S O st w X Y n m) 6 (some 7)=some (.agg [iv st,f0 w,f1 w,f2 w,fL X n,fL Y m,zH]):=by
 show (if 6+7≤13∧[iv st,f0 w,f1 w,f2 w,fL X n,fL Y m,zH].all rf=true then some (AV.agg ([iv st,f0 w,f1 w,f2 w,fL X n,fL Y m,zH].map strip)) else _)=_
 simp
theorem bO:zD (prQ z B S O st w X Y n m) 0 (some 3)=some (fq z):=by
 show (if 0+3≤13∧[f0 z,f1 z,f2 z].all rf=true then some (AV.agg ([f0 z,f1 z,f2 z].map strip)) else _)=_
 simp
theorem Ex (hn:P.cl.length≤1000) (hk:P.of.length≤1000000) (hl:ch.length<4611686018427387904) (hV:-9223372036854775808≤V∧V<9223372036854775808) (he:pgE P ch V≠0) :
  zd Tryz.prog vE [.agg (pbC P),.agg [clA ch,iv V],.agg noS] (iv (pgE P ch V)):=by
 have kp:=nZ (ch:=ch) (V:=V) hn hk hl hV
 rw[if_neg he] at kp
 refine zt df (by simp) ?_
 simp[my]
 refine za kp (by simp) (by simp) ?_
 simp[he,uT]
theorem alB (hn:P.cl.length≤1000) (hk:P.of.length≤1000000) (hl:ch.length<4611686018427387904) (hV:-9223372036854775808≤V∧V<9223372036854775808) (he:pgE P ch V=0)
  (hbad:¬ (B.length=P.cl.length∧S.length=6∧O.length=6)∨st≠1) :
  zd Tryz.prog vE [.agg (pbC P),.agg [clA ch,iv V],.agg (prQ z B S O st w X Y n m)] (iv 2):=by
 have kp:=nZ (ch:=ch) (V:=V) hn hk hl hV
 rw[if_pos he] at kp
 have kf:=ZU (P:=P) (a:=f0 z) (b:=f1 z) (c:=f2 z) (B:=B) (S:=S) (O:=O) (x0:=iv st) (x1:=f0 w) (x2:=f1 w) (x3:=f2 w) (x4:=fL X n) (x5:=fL Y m) (x6:=zH)
 refine zt df (by simp) ?_
 simp[my]
 refine za kp (by simp) (by simp) ?_
 simp[he]
 refine za kf (by simp) (by simp) ?_
 by_cases hb:B.length=P.cl.length∧S.length=6∧O.length=6
 ·have h1:=hbad.resolve_left fun h=>h hb
  simp[hb,h1,uT]
 ·rw[decide_eq_false hb]
  simp[uT]
theorem A6:yR Tryz.prog yj=true:=by kernel_rfl
noncomputable def sgK (P:Pb) (V:Int) (Z X Y:Nat→Rat) (w:Rat):List (Nat × ze):=[(5,.var (pqL P Z X Y w)),(7,.var [fL P.sG (P.rows+1),.list 4 .plain (pR P.sA (P.sB V) (P.rows+1) (P.of.length+1))])]
theorem ac0 {Z:Nat→Rat} {env:List (Nat × AV)} {K:AV→St→Prop} (hn:P.cl.length≤1000) (hE:yH 1000 env) (h:K (.list 3 (.own 1006) (fR Z P.rows)) ⟨env,sgK P V Z X Y w,[],0⟩) :
  z5 Tryz.prog yj [.agg (pqL P Z X Y w)] ⟨env,sgK P V Z X Y w,[],0⟩ K:=by
 have hd:=li (k:=1006) hE (by decide)
 have hr:=Aw (k:=1001) hE (by decide)
 have ha:fR Z P.cl.length++(fR (fun j=>Z (P.cl.length+j)) 6++fR (fun j=>Z (P.cl.length+6+j)) 6)=fR Z P.rows:=by
  rw[← List.append_assoc,Y4,Y4]; rfl
 refine ad7 1000 pB (by simp) ?_
 simp[uD,sgK,-dgE,xz,hd,hr,ha]
 refine ⟨by omega,by omega,by omega,by omega,by omega,by omega,?_⟩
 rw[aay]
 exact ⟨_,_,_,_,_,rfl,rfl,h⟩
noncomputable def SN (P:Pb) (Z X Y:Nat→Rat) (w:Rat) (k:Nat):St:={env:=[(5,.ptr 5 0),(51,.list 3 (.own 1006) (fR Z (P.rows+1))),(52,iv (P.rows+1:Nat)),(53,iv k)],sto:=[(5,.var (pqL P Z X Y w))]}
theorem acp {Z:Nat→Rat} (hn:P.cl.length≤1000) (hk:P.of.length≤9) (hl:ch.length<4611686018427387904) (he:pgE P ch V=0)
  (ho:P.Sup V X Y v) (hx:∀ j,sz sL (X j)) (hy:∀ i,sz sL (Y i)) (hw:sz 137438953472 w) (hZ:∀ j,sz 137438953472 (Z j)) :
  zd Tryz.prog vE [.agg (pbC P),.agg [clA ch,iv V],.agg (prQ (Z P.rows) (fR Z P.cl.length) (fR (fun j=>Z (P.cl.length+j)) 6) (fR (fun j=>Z (P.cl.length+6+j)) 6) 1 w X Y (P.rows+1) (P.of.length+1))] (iv (if w=v∧∀ j,j<P.rows+1→Z j=X j then 0 else 13)):=by
 obtain ⟨hf,hVe,_⟩:=UR he
 obtain ⟨hc,hok,hfit⟩:=gY hf
 have hG:=xS hc
 have hVb:=Pf (ch:=ch) hc hk
 rw[← hVe] at hVb
 have hrw:P.rows≤20:=by have:=hG.n; unfold Pb.rows; omega
 have hsL:=Sz
 have eR:P.rows=P.cl.length+6+6:=rfl
 have hS:Szp (P.rows+1) (P.of.length+1) sL P.sA (P.sB V) P.sG:=⟨by omega,by omega,by
   have:(P.rows+1+(P.of.length+1)+1)*(2*sL+1)≤32*(2*25515349+1):=Nat.mul_le_mul (by omega) (by omega)
   omega,fun i j _ _=>zJ (ab3 hG) (by omega),fun i _=>zJ (ab4 hG (by omega)) (by omega),fun j _=>zJ ab6 (by omega)⟩
 have kl:=AJ hS ho (fun j _=>hx j) (fun i _=>hy i) hw
 have kp:=nZ (ch:=ch) (V:=V) hn (by omega) hl (by omega)
 rw[if_pos he] at kp
 generalize hpq:prQ (Z P.rows) (fR Z P.cl.length) (fR (fun j=>Z (P.cl.length+j)) 6) (fR (fun j=>Z (P.cl.length+6+j)) 6) 1 w X Y (P.rows+1) (P.of.length+1)=pq
 have kf:zd Tryz.prog yF [.agg pq,.agg (pbC P)] (bv true):=by
  have:=ZU (P:=P) (a:=f0 (Z P.rows)) (b:=f1 (Z P.rows)) (c:=f2 (Z P.rows)) (B:=fR Z P.cl.length) (S:=fR (fun j=>Z (P.cl.length+j)) 6) (O:=fR (fun j=>Z (P.cl.length+6+j)) 6) (x0:=iv 1) (x1:=f0 w) (x2:=f1 w) (x3:=f2 w) (x4:=fL X (P.rows+1)) (x5:=fL Y (P.of.length+1)) (x6:=zH)
  rw[← hpq]
  simpa using this
 have hap:fR Z P.rows++[fr (Z P.rows)]=fR Z (P.rows+1):=vF.symm
 have hg13:zD pq 0 (some 13)=some (.agg pq):=by rw[← hpq]; exact XV
 have hg7:zD pq 6 (some 7)=some (.agg [iv 1,f0 w,f1 w,f2 w,fL X (P.rows+1),fL Y (P.of.length+1),zH]):=by rw[← hpq]; exact GL
 have hg3:zD pq 0 (some 3)=some (fq (Z P.rows)):=by rw[← hpq]; exact bO
 have hg6:pq[6]?=some (iv 1):=by rw[← hpq]; rfl
 have hg10:pq[10]?=some (fL X (P.rows+1)):=by rw[← hpq]; rfl
 have hrf:pq.all rf=true:=by rw[← hpq]; simp
 have hstr:pq.map strip=pq:=by rw[← hpq]; simp
 have hr4:∀ k,xn k pq=false:=fun k=>by rw[← hpq]; simp
 refine zt df (by simp) ?_
 simp[my]
 refine za kp (by simp) (by simp) ?_
 simp[he,hg13,hr4]
 refine za kf (by simp) (by simp) ?_
 have kI:∀ {env:List (Nat × AV)} {K:AV→St→Prop},yH 1000 env→K (.list 3 (.own 1006) (fR Z P.rows)) ⟨env,[(5,.var pq),(7,.var [fL P.sG (P.rows+1),.list 4 .plain (pR P.sA (P.sB V) (P.rows+1) (P.of.length+1))])],[],0⟩ →
   z5 Tryz.prog yj [.agg pq] ⟨env,[(5,.var pq),(7,.var [fL P.sG (P.rows+1),.list 4 .plain (pR P.sA (P.sB V) (P.rows+1) (P.of.length+1))])],[],0⟩ K:=by
  rw[← hpq]
  exact fun h1 h2=>ac0 hn h1 h2
 have hlow:∀ M cs,Am.low M (.agg cs)=true:=fun M cs=>rfl
 have hlow2:∀ M R,Am.low M (.list 3 .full R)=true:=fun M R=>rfl
 have hdg:pq.map (dg 1006)=pq:=by rw[← hpq]; simp
 simp[hg6,hg13,hg3,hr4,A6]
 refine ⟨by simp[tI],fun D=>kI (AM ?_) ?_⟩
 ·simp[yu,yO,sX,xB,hlow,hlow2]
 ·refine ⟨⟨_,_,_,_⟩,rfl,rfl,by simp[tI],?_⟩
  simp[hg3,hg7,hap,hdg]
  refine ⟨by omega,by omega,?_⟩
  refine za kl (by simp) (by simp) ?_
  by_cases hwv:w=v
  rotate_left
  ·rw[if_neg fun h=>hwv h.1]
   simp[hwv,hr4,uT]
  simp[hwv,hg10,hr4]
  refine zq (SN P Z X Y w) (fun k=>∀ j,j<k→Z j=X j) (P.rows+1) (by simp[SN,← hpq]) (fun j hj=>by omega) (fun k hk hI=>?_) (fun hI=>?_)
  ·have e:(k:Int)<(P.rows+1:Nat):=by omega
   have e2:(k:Int)<(P.rows:Int)+1:=by omega
   have w1:=zm (k:=k) (by omega)
   have hc2:=bt (K:=137438953472) (by omega) (hZ k) (zJ (hx k) (by omega))
   simp[qk,SN,hpq,e2,hk]
   refine za (Qj (by omega) (hZ k)) (by simp) (by simp) ?_
   simp[hg10,e2,hk]
   refine za hc2 (by simp) (by simp) ?_
   by_cases hzx:Z k=X k
   ·have h0:xY (X k) (X k)=0:=lf.2 rfl
    simp[hzx,h0,w1,SN,hpq]
    refine ⟨hr4 11,fun j hj=>?_⟩
    by_cases ej:j=k
    ·subst ej; exact hzx
    ·exact hI j (by omega)
   ·have h0:¬ xY (Z k) (X k)=0:=fun h=>hzx (lf.1 h)
    have h1:¬ ∀ j,j<P.rows+1→Z j=X j:=fun h=>hzx (h k hk)
    simp[h0,h1,hr4,uT]
  ·simp[qk,SN,hpq,kL,uT]
   exact hI
end
end
def wL5:List Int→Nat→Int:=fun l k=>l.getD k 0
def P3a:Pb:=⟨wL5 [1,1],wL5 [1,1],wL5 [],[0,0,0],[⟨0,wL5 [1,1],10⟩,⟨1,wL5 [1],6⟩,⟨2,wL5 [0,1],6⟩]⟩
def P3b:Pb:=⟨wL5 [1,1,1],wL5 [1,1,1],wL5 [],[0,0,0],[⟨0,wL5 [1,1],10⟩,⟨1,wL5 [0,1,1],10⟩,⟨2,wL5 [1,0,1],10⟩]⟩
theorem aeH:zd Tryz.prog uH [] (.agg [iv 1,iv 1,iv 0,iv 0,iv 0,iv 0,iv 1,iv 1,iv 0,iv 0,iv 0,iv 0,iv 0,iv 0,iv 0,iv 0,iv 0,iv 0,.list 1 .full [[iv 0],[iv 0],[iv 0]],.list 8 .full [[iv 0,iv 1,iv 1,iv 0,iv 0,iv 0,iv 0,iv 10],[iv 1,iv 1,iv 0,iv 0,iv 0,iv 0,iv 0,iv 6],[iv 2,iv 0,iv 1,iv 0,iv 0,iv 0,iv 0,iv 6]]]):=by
 refine zt Py (by simp) ?_
 simp[aW,splice,Zj]
theorem adw:zd Tryz.prog pU [] (.agg [iv 1,iv 1,iv 1,iv 0,iv 0,iv 0,iv 1,iv 1,iv 1,iv 0,iv 0,iv 0,iv 0,iv 0,iv 0,iv 0,iv 0,iv 0,.list 1 .full [[iv 0],[iv 0],[iv 0]],.list 8 .full [[iv 0,iv 1,iv 1,iv 0,iv 0,iv 0,iv 0,iv 10],[iv 1,iv 0,iv 1,iv 1,iv 0,iv 0,iv 0,iv 10],[iv 2,iv 1,iv 0,iv 1,iv 0,iv 0,iv 0,iv 10]]]):=by
 refine zt Px (by simp) ?_
 simp[aV,splice,Zi]
theorem Qi:zd Tryz.prog uH [] (.agg (pbC P3a)):=by
 refine Q6 aeH ?_
 have e:ofR P3a.of=[[iv 0,iv 1,iv 1,iv 0,iv 0,iv 0,iv 0,iv 10],[iv 1,iv 1,iv 0,iv 0,iv 0,iv 0,iv 0,iv 6],[iv 2,iv 0,iv 1,iv 0,iv 0,iv 0,iv 0,iv 6]]:=by
  unfold ofR P3a
  simp only[List.map_cons,List.map_nil,sE]
  rfl
 simp only[xc]
 refine co ?_
 have h2:AV.imp (.list 8 .full [[iv 0,iv 1,iv 1,iv 0,iv 0,iv 0,iv 0,iv 10],[iv 1,iv 1,iv 0,iv 0,iv 0,iv 0,iv 0,iv 6],[iv 2,iv 0,iv 1,iv 0,iv 0,iv 0,iv 0,iv 6]]) (ofA P3a.of):=by
  unfold ofA
  rw[e]
  exact wk
 have h1:AV.imp (.list 1 .full [[iv 0],[iv 0],[iv 0]]) (clA P3a.cl):=wk
 repeat' first | exact yt h1 (yt h2 fe) | refine yt AV.imp.refl ?_
theorem adx:zd Tryz.prog pU [] (.agg (pbC P3b)):=by
 refine Q6 adw ?_
 have e:ofR P3b.of=[[iv 0,iv 1,iv 1,iv 0,iv 0,iv 0,iv 0,iv 10],[iv 1,iv 0,iv 1,iv 1,iv 0,iv 0,iv 0,iv 10],[iv 2,iv 1,iv 0,iv 1,iv 0,iv 0,iv 0,iv 10]]:=by
  unfold ofR P3b
  simp only[List.map_cons,List.map_nil,sE]
  rfl
 simp only[xc]
 refine co ?_
 have h2:AV.imp (.list 8 .full [[iv 0,iv 1,iv 1,iv 0,iv 0,iv 0,iv 0,iv 10],[iv 1,iv 0,iv 1,iv 1,iv 0,iv 0,iv 0,iv 10],[iv 2,iv 1,iv 0,iv 1,iv 0,iv 0,iv 0,iv 10]]) (ofA P3b.of):=by
  unfold ofA
  rw[e]
  exact wk
 have h1:AV.imp (.list 1 .full [[iv 0],[iv 0],[iv 0]]) (clA P3b.cl):=wk
 repeat' first | exact yt h1 (yt h2 fe) | refine yt AV.imp.refl ?_
def y3 (i:Nat):Rat:=if i=3∨i=4 then 6 else 0
theorem ahD (i:Nat):0≤y3 i:=by unfold y3; split<;>decide
theorem adZ {X Y:Nat→Rat} {v:Rat} (ho:P3a.Sup 12 X Y v):X P3a.rows=0:=by
 have h1:=agl ho (y:=y3) (z:=0) (fun r _=>ahD r) (by decide) (by
  have h:∀ i,i<3→P3a.vQ i≤P3a.costQ y3 i+0:=by decide +kernel
  exact h) (by decide +kernel)
 have h2:=ho.x0 P3a.rows
 grind
theorem ahs:P3b.Sol [0,0,0] fun _=>1/2 :=
 ⟨fun _ _=>by decide +kernel,fun i hi h=>by
  have:∀ i,i<3→¬ ([0,0,0]:List Int).getD i 9=1:=by decide
  exact absurd h (this i hi),fun i hi _ h=>by
  have:∀ i,i<3→([0,0,0]:List Int).getD i 9=0:=by decide
  exact absurd (this i hi) h,by
  have h:∀ r,r<15→zh 3 (fun i=>P3b.cof r i*(1/2))≤((P3b.bnd r:Int):Rat):=by decide +kernel
  exact h⟩
theorem ad0 {X Y:Nat→Rat} {v:Rat} (ho:P3b.Sup 10 X Y v):0<X P3b.rows:=by
 have h2:=ho.x0 P3b.rows
 by_cases h0:X P3b.rows=0
 ·have h3:=aa8 (fx:=[0,0,0]) rfl ho h0 ahs
  have h4:¬ P3b.val 3 (fun _=>1/2)≤((10:Int):Rat):=by decide +kernel
  exact absurd h3 h4
 ·grind
theorem Fc:pgE P3a [1,2] 12=0:=by decide +kernel
theorem aiJ:pgE P3b [0] 10=0:=by decide +kernel
theorem T2 {ch:List Int} {V:Int}:AV.imp (.agg [.list 1 .full (clR ch),iv V]) (.agg [clA ch,iv V]):=co (yt wk eM)
theorem Ft {q:Rat} (h:sz sL q):sz 137438953472 q:=zJ h (by rw[Sz]; decide)
theorem wo:zd Tryz.prog yx [] (bv true):=by
 obtain ⟨X,Y,v,⟨ho,hx,hy,hv⟩,k1⟩:=J9 (P:=P3a) (ch:=[1,2]) (V:=12) (by decide) (by decide) (by decide) Fc
 obtain ⟨X2,Y2,v2,⟨ho2,hx2,hy2,hv2⟩,k2⟩:=J9 (P:=P3b) (ch:=[0]) (V:=10) (by decide) (by decide) (by decide) aiJ
 have h0:=adZ ho
 have h1:=ad0 ho2
 have k3:=nZ (P:=P3a) (ch:=[1,2]) (V:=12) (by decide) (by decide) (by decide) (by decide)
 rw[if_pos Fc,Fc] at k3
 have k4:=acp (P:=P3a) (ch:=[1,2]) (V:=12) (Z:=X) (w:=v) (by decide) (by decide) (by decide) Fc ho hx hy (Ft hv) fun j=>Ft (hx j)
 rw[if_pos ⟨rfl,fun j _=>rfl⟩] at k4
 have k1':=qt k1 (T3 AV.imp.refl T2)
 have k2':=qt k2 (T3 AV.imp.refl T2)
 have k3':=qt k3 (T3 AV.imp.refl T2)
 have k4':=qt k4 (ag2 AV.imp.refl T2 AV.imp.refl)
 have e1:clR [1,2]=[[iv 1],[iv 2]]:=rfl
 have e2:clR [0]=[[iv 0]]:=rfl
 rw[e1] at k1' k3' k4'
 rw[e2] at k2'
 have ks:zd Tryz.prog vM [fq (X P3a.rows),fq 0] (bv true):=by have:=SA (q:=0) (by decide:137438953472≤137438953472) (Ft (hx P3a.rows)); simpa [h0] using this
 have hs:0<xN (X2 P3b.rows):=fF.2 h1
 have r1:P3a.rows=15:=by decide
 have r2:P3a.of.length=3:=by decide
 refine zt Pv (by simp) ?_
 simp[aU]
 refine za Qi (by simp) (by simp) ?_
 simp
 refine za k1' (by simp) (by simp) ?_
 simp
 refine za adx (by simp) (by simp) ?_
 simp
 refine za k2' (by simp) (by simp) ?_
 simp
 refine za Qi (by simp) (by simp) ?_
 simp
 refine za k3' (by simp) (by simp) ?_
 have hrf:∀ P X Y v,(prS P X Y v).all rf=true:=fun P X Y v=>by simp
 have hst:∀ P X Y v,(prS P X Y v).map strip=prS P X Y v:=fun P X Y v=>by simp
 simp[bO]
 refine za By (by simp) (by simp) ?_
 simp
 refine za ks (by simp) (by simp) ?_
 simp
 refine za Qi (by simp) (by simp) ?_
 simp
 refine za k4' (by simp) (by simp) ?_
 simp[bO]
 refine za (af9 (q:=X2 P3b.rows)) (by simp) (by simp) ?_
 simp[hs,r1,r2,Zh]
abbrev tyB:Ty:=.arr 6 (.int .i64)
abbrev F9:Ty:=.st [.int .i64,tyB,.int .i64]
abbrev Lw:Ty:=.st [tyB,tyB,tyB,.slice (.int .i64),.slice F9]
theorem Tw {cs:List AV} (h:TyC tyB cs):∃ w:Nat→Int,cs=bC w:=by
 obtain ⟨rows,rfl,hl,h⟩:=h
 obtain ⟨L,rfl,_⟩:=lL (fun n:Int=>[iv n]) (fun _=>True) (fun r hr=>by
  obtain ⟨n,rfl,_⟩:=hr
  exact ⟨n,rfl,trivial⟩) h
 refine ⟨fun k=>L.getD k 0,?_⟩
 match L,hl with
 | [a,b,c,d,e,f],_=>rw[vY]; rfl
theorem A4 {cs:List AV} (h:TyC F9 cs):∃ o:Of,cs=oC o:=by
 obtain ⟨a1,b1,rfl,⟨n,rfl,_⟩,a2,b2,rfl,h2,a3,b3,rfl,⟨v,rfl,_⟩,rfl⟩:=h
 obtain ⟨w,rfl⟩:=Tw h2
 exact ⟨⟨n,w,v⟩,by rw[sE,vY]; rfl⟩
theorem Jn {cs:List AV} (h:TyC (.slice (.int .i64)) cs):∃ l:List Int,cs=[clA l]∧l.length≤reachBytes:=by
 obtain ⟨rows,rfl,hl,h⟩:=h
 obtain ⟨L,rfl,h2⟩:=lL (fun d:Int=>[iv d]) (fun _=>True) (fun r hr=>by
  obtain ⟨n,rfl,_⟩:=hr
  exact ⟨n,rfl,trivial⟩) h
 exact ⟨L,rfl,by simpa using hl⟩
theorem ado {cs:List AV} (h:TyC (.slice F9) cs):∃ L:List Of,cs=[ofA L]∧L.length≤reachBytes:=by
 obtain ⟨rows,rfl,hl,h⟩:=h
 obtain ⟨L,rfl,h2⟩:=lL oC (fun _=>True) (fun r hr=>by
  obtain ⟨o,rfl⟩:=A4 hr
  exact ⟨o,rfl,trivial⟩) h
 exact ⟨L,rfl,by simpa using hl⟩
theorem RO {x:AV} (h:jh Lw x):∃ P:Pb,x=.agg (pbC P)∧P.cl.length≤reachBytes∧P.of.length≤reachBytes:=by
 obtain ⟨cs,rfl,a1,b1,rfl,h1,a2,b2,rfl,h2,a3,b3,rfl,h3,a4,b4,rfl,h4,a5,b5,rfl,h5,rfl⟩:=h
 obtain ⟨s,rfl⟩:=Tw h1
 obtain ⟨p,rfl⟩:=Tw h2
 obtain ⟨c,rfl⟩:=Tw h3
 obtain ⟨l,rfl,hl⟩:=Jn h4
 obtain ⟨L,rfl,hL⟩:=ado h5
 refine ⟨⟨s,p,c,l,L⟩,?_,hl,hL⟩
 congr 1
 unfold pbC pbX
 simp
theorem afw {x:AV} {k:IntKind} (h:jh (.int k) x):∃ n:Int,x=.val (.int k n)∧(Lit.int k n).wf=true:=by
 obtain ⟨n,h1,h2⟩:=h
 simp only[List.cons.injEq,and_true] at h1
 exact ⟨n,h1,h2⟩
theorem Jj {n:Int} (h:(Lit.int .i64 n).wf=true):-9223372036854775808≤n∧n<9223372036854775808:=by
 have h1:IntKind.i64.min≤n∧n≤9223372036854775807:=by simpa [Lit.wf] using h
 have h2:IntKind.i64.min=-9223372036854775808:=by decide
 omega
abbrev abK:Ty:=.st [.slice (.int .i64),.int .i64]
theorem P3 {x:AV} (h:jh abK x):∃ (ch:List Int) (V:Int),x=.agg [clA ch,iv V]∧ch.length≤reachBytes∧-9223372036854775808≤V∧V<9223372036854775808:=by
 obtain ⟨cs,rfl,a1,b1,rfl,h1,a2,b2,rfl,h2,rfl⟩:=h
 obtain ⟨l,rfl,hl⟩:=Jn h1
 obtain ⟨n,rfl,hn⟩:=h2
 exact ⟨l,n,rfl,hl,Jj hn⟩
section
variable {P:Pb} {ch:List Int} {V:Int}
def fg (P:Pb) (ch:List Int):Prop:=P.cl.length≤6∧P.of.length≤42∧ch.length≤50
instance (P:Pb) (ch:List Int):Decidable (fg P ch):=by unfold fg; exact inferInstance
theorem UK:zd Tryz.prog uG [.agg (pbC P),.agg [clA ch,iv V]] (bv (decide (fg P ch))):=by
 refine zt Pw (by simp) ?_
 unfold fg
 by_cases h1:P.cl.length≤6
 ·have h1':(P.cl.length:Int)≤6:=by omega
  by_cases h2:P.of.length≤42
  ·have h2':(P.of.length:Int)≤42:=by omega
   by_cases h3:ch.length≤50
   ·have h3':(ch.length:Int)≤50:=by omega
    simp[sP,h1,h1',h2,h2',h3,h3',s5]
   ·have h3':¬ (ch.length:Int)≤50:=by omega
    simp[sP,h1,h1',h2,h2',h3,h3',s5]
  ·have h2':¬ (P.of.length:Int)≤42:=by omega
   simp[sP,h1,h1',h2,h2',s5]
 ·have h1':¬ (P.cl.length:Int)≤6:=by omega
  simp[sP,h1,h1',s5]
noncomputable def MT (P:Pb) (V:Int) (k:Nat):St :=
 {env:=[(5,.ptr 5 0),(7,.ptr 7 0),(9,iv k)],
  sto:=[(5,.var [fL P.sG (P.rows+1),.list 4 .plain (pR P.sA (P.sB V) (P.rows+1) (P.of.length+1))]),(7,.var [clA (iL (pIG P) (P.rows+1)),.list 1 .plain (rI P (P.rows+1) (P.of.length+1)),clA (iL (pIB P V) (P.of.length+1))])]}
theorem adG {n m j:Nat} {h:j<(rI P n m).length}:(rI P n m)[j]=[clA (iL (pIA P j) n)]:=nW
theorem Kc (hch:ch.length<4611686018427387904) (hV:-9223372036854775808≤V∧V<9223372036854775808):zd Tryz.prog tc [.agg (pbC P),.agg [clA ch,iv V]] (bv true):=by
 refine zt dO (by simp) ?_
 simp[pN]
 refine za (UK (P:=P) (ch:=ch) (V:=V)) (by simp) (by simp) ?_
 by_cases c1:fg P ch
 rotate_left
 ·simp[c1]
  refine za (xs:=[]) (args:=[]) wo rfl (.inl rfl) ?_
  simp[vh]
 obtain ⟨g1,g2,g3⟩:=c1
 have c1:fg P ch:=⟨g1,g2,g3⟩
 have k1:=nZ (P:=P) (ch:=ch) (V:=V) (by omega) (by omega) hch hV
 have k2:=afH (P:=P) (ch:=ch) (V:=V) (by omega) (by omega) hch
 simp[c1]
 by_cases he:pgE P ch V=0
 rotate_left
 ·rw[if_neg he] at k1 k2
  have ksm:zd Tryz.prog rU [zH,zH] (bv true):=by
   have:=RV (n:=0) (f:=fun _=>0) (g:=fun _=>0) (by decide) fun j hj=>absurd hj (Nat.not_lt_zero j)
   exact qt this (T3 (AV.imp_nil rfl) (AV.imp_nil rfl))
  refine za k1 (by simp) (by simp) ?_
  simp
  refine za k2 (by simp) (by simp) ?_
  simp
  refine za ksm (by simp) (by simp) ?_
  simp
  refine zq (fun k=>{env:=[(5,.ptr 5 0),(7,.ptr 7 0),(9,iv k)],sto:=[(5,.var [zH,zH]),(7,.var [zH,zH,zH])]}) (fun _=>True) 0 (by simp) trivial (fun k hk _=>by omega) (fun _=>?_)
  simp[ww,vZ]
  refine za (xs:=[]) (args:=[]) wo rfl (.inl rfl) ?_
  simp[vh]
 rw[if_pos he,he] at k1 k2
 obtain ⟨hf,hVe,_⟩:=UR he
 obtain ⟨hc,hok,hfit⟩:=gY hf
 have hG:=xS hc
 have hVb:=Ea (ch:=ch) hc
 rw[← hVe] at hVb
 have hrw:P.rows≤20:=by have:=hG.n; unfold Pb.rows; omega
 have ksg:=RV (f:=P.sG) (g:=pIG P) (n:=P.rows+1) (by omega) fun j _=>⟨ab5,abb⟩
 refine za k1 (by simp) (by simp) ?_
 simp
 refine za k2 (by simp) (by simp) ?_
 simp
 refine za ksg (by simp) (by simp) ?_
 simp
 refine zq (MT P V) (fun _=>True) (P.of.length+1) (by simp[MT]) trivial (fun k hk _=>?_) (fun _=>?_)
 ·have e:(k:Int)<(P.of.length+1:Nat):=by omega
  have e2:(k:Int)<(P.of.length:Int)+1:=by omega
  have w:=zm (k:=k) (by omega)
  have ksr:=RV (f:=P.sA k) (g:=pIA P k) (n:=P.rows+1) (by omega) fun j hj=>⟨ab2,aa9 hG⟩
  have hb:=aba (P:=P) (V:=V) (i:=k) hG (by omega)
  have z:sz 32 (P.sB V k):=by rw[Fs]; exact tZ (by omega)
  have ks:zd Tryz.prog vM [fq (P.sB V k),fq ((pIB P V k:Int):Rat)] (bv true):=by have:=SA (q:=((pIB P V k:Int):Rat)) (by decide:32≤137438953472) z; simpa [Fs] using this
  simp[ww,MT,e2,hk,adG]
  refine za ksr (by simp) (by simp) ?_
  simp[e2,hk]
  refine za (eL (n:=pIB P V k) (by omega) (by omega)) (by simp) (by simp) ?_
  simp
  refine za ks (by simp) (by simp) ?_
  simp[w,MT]
 ·simp[ww,MT,vZ]
  refine za (xs:=[]) (args:=[]) wo rfl (.inl rfl) ?_
  simp[vh]
theorem GB (hch:ch.length<4611686018427387904) (hV:-9223372036854775808≤V∧V<9223372036854775808):zd Tryz.prog tq [.agg (pbC P),.agg [clA ch,iv V]] (bv true):=by
 refine zt cI (by simp) ?_
 simp[nL]
 refine za (UK (P:=P) (ch:=ch) (V:=V)) (by simp) (by simp) ?_
 by_cases c1:fg P ch
 rotate_left
 ·simp[c1]
  refine za (xs:=[]) (args:=[]) wo rfl (.inl rfl) ?_
  simp[vL]
 obtain ⟨g1,g2,g3⟩:=c1
 have c1:fg P ch:=⟨g1,g2,g3⟩
 have k2:=afH (P:=P) (ch:=ch) (V:=V) (by omega) (by omega) hch
 simp[c1]
 refine za k2 (by simp) (by simp) ?_
 by_cases he:pgE P ch V=0
 ·simp[he]
  refine za (xs:=[]) (args:=[]) wo rfl (.inl rfl) ?_
  simp[vL]
 have k1:=CZ (P:=P) (ch:=ch) (V:=V) (by omega) (by omega) hch hV he
 have k3:=Ex (P:=P) (ch:=ch) (V:=V) (by omega) (by omega) hch hV he
 simp[he]
 refine za k1 (by simp) (by simp) ?_
 simp
 refine za k3 (by simp) (by simp) ?_
 simp
 refine za (xs:=[]) (args:=[]) wo rfl (.inl rfl) ?_
 simp[vL]
end
theorem supportProgram_contract (xs:List AV) (h:fX [Lw,abK] xs):zd Tryz.prog tc xs (bv true):=by
 obtain ⟨x,y,rfl,h1,h2⟩:=Qk h
 obtain ⟨P,rfl,_⟩:=RO h1
 obtain ⟨ch,V,rfl,hl,hV⟩:=P3 h2
 exact Kc (by unfold reachBytes at hl; omega) hV
theorem supportErrors_contract (xs:List AV) (h:fX [Lw,abK] xs):zd Tryz.prog tq xs (bv true):=by
 obtain ⟨x,y,rfl,h1,h2⟩:=Qk h
 obtain ⟨P,rfl,_⟩:=RO h1
 obtain ⟨ch,V,rfl,hl,hV⟩:=P3 h2
 exact GB (by unfold reachBytes at hl; omega) hV
section
variable {P:Pb} {Y:Nat→RF} {off:Int} {S0 i:Nat} {fm:Bool} {pq:List AV}
structure PrK (P:Pb) (pq:List AV) (fm:Bool) (Y:Nat→RF):Prop where
 ld:zD pq 0 (some 13)=some (.agg pq)
 st:pq.map strip=pq
 rf:pq.all rf=true
 rr:∀ k,xn k pq=false
 kf:zd Tryz.prog yF [.agg pq,.agg (pbC P)] (bv fm)
 kl:fm=true→zd Tryz.prog yj [.agg pq] (hL Y P.rows)
noncomputable def MO (P:Pb) (Y:Nat→RF) (off:Int) (k:Nat):St :=
 {env:=[(1,iv off),(3,.ptr 3 0),(6,.ptr 6 0),(9,.ptr 9 0),(37,hL Y P.rows),(38,iv P.rows),(39,iv k)],
  sto:=[(3,.var (pbC P)),(6,.var zz),(9,.var (fr (zh k fun r=>(Y r).q*P.cof r off.toNat)))]}
noncomputable def wd (P:Pb) (off:Int) (fm:Bool) (Y:Nat→RF):Int:=if P.chk≠0 then P.chk else if off<0∨(P.of.length:Int)≤off then 4 else @ite _ (fm=true∧∀ j,j<P.rows→(Y j).v=true) (Classical.propDecidable _) 0 2
theorem Xv {S:Nat} {f:Nat→Rat}:∀ {k:Nat},(∀ i,i<k→sz S (f i))→sz (k*(S+1)) (zh k f)
 | 0,_=>ws
 | k+1,h=>by
  have ih:=Xv (k:=k) fun i hi=>h i (by omega)
  simp only[zh]
  exact zJ (cD ih (h k (by omega))) (by rw[Nat.add_mul]; omega)
theorem aiy {x:RF} (h:x.v=true):hq x=fq x.q:=by
 have e:=G4 h
 conv=>lhs; rw[e]
 unfold hq fq
 rw[T1]
theorem EL (hn:P.cl.length≤1000) (hk:P.of.length≤1000000) (hS:S0≤30000000) (K:PrK P pq fm Y) (hY:∀ j,j<P.rows→(Y j).fine) (hz:∀ j,j<P.rows→(Y j).v=true→sz S0 (Y j).q) :
  zd Tryz.prog tz [.agg (pbC P),iv off,.agg pq] (.tuple [if wd P off fm Y=0 then fq (P.costQ (fun r=>(Y r).q) off.toNat) else .agg zz,iv (wd P off fm Y)]):=by
 have kc:=YY (P:=P) hn hk
 obtain ⟨k1,k2,k3,k4,k5,k6⟩:=K
 refine zt Qh (by simp) ?_
 simp[ca]
 refine za kc (by simp) (by simp) ?_
 by_cases c1:P.chk=0
 rotate_left
 ·have he:wd P off fm Y=P.chk:=if_pos c1
  rw[he]
  simp[c1,w9]
 by_cases c2:off<0∨(P.of.length:Int)≤off
 ·have he:wd P off fm Y=4:=by unfold wd; rw[if_neg fun h=>h c1,if_pos c2]
  rw[he]
  by_cases c3:off<0
  ·simp[c1,c3,w9]
  ·have c4:(P.of.length:Int)≤off:=by omega
   simp[c1,c3,c4,w9]
 have c3:¬ off<0:=by omega
 have c4:¬ (P.of.length:Int)≤off:=by omega
 obtain ⟨o,rfl⟩:∃ o:Nat,off=o:=⟨off.toNat,by omega⟩
 have ho:o<P.of.length:=by omega
 have hoi:(o:Int)<P.of.length:=by omega
 simp[c1,c3,c4,k1]
 refine za k5 (by simp) (by simp) ?_
 cases fm with
 | false =>
  have he:wd P o false Y=2:=by
   unfold wd
   rw[if_neg fun h=>h c1,if_neg c2]
   exact if_neg fun h=>by cases h.1
  rw[he]
  simp[w9]
 | true =>
  have k6:=k6 rfl
  have hG:=xS c1
  have hrw:P.rows≤20:=by have:=hG.n; unfold Pb.rows; omega
  simp
  refine za (xi (n:=0) (by decide) (by decide)) (by simp) (by simp) ?_
  simp[k1]
  refine za k6 (by simp) (by simp) ?_
  simp
  refine zq (MO P Y o) (fun k=>∀ j,j<k→(Y j).v=true) P.rows (by simp[MO,zh]) (fun j hj=>by omega) (fun k hk' hI=>?_) (fun hI=>?_)
  ·have e:(k:Int)<P.rows:=by omega
   have w:=zm (k:=k) (by omega)
   have kv:=Y5 (hY k hk')
   simp[pG,MO,e,hk']
   refine za kv (by simp) (by simp) ?_
   cases hv:(Y k).v with
   | false =>
    have he:wd P o true Y=2:=by
     unfold wd
     rw[if_neg fun h=>h c1,if_neg c2]
     exact if_neg fun h=>by have:=h.2 k hk'; rw[hv] at this; cases this
    rw[he]
    simp[w9]
   | true =>
    have krow:=ab1 (P:=P) (r:=(k:Int)) hn hk
    have e0:(0:Int)≤k∧(k:Int)<(xf P:Nat):=by unfold xf; rw[if_pos c1]; omega
    unfold Ym at krow
    rw[if_pos e0,if_pos e0,Int.toNat_natCast] at krow
    have hm:P.of[o]∈P.of:=List.getElem_mem ho
    have hcf:=tF (xI (y7 (hG.off _ hm)).1).2.2 hk'
    have hck:P.cof k o=((P.coef k P.of[o]:Int):Rat):=by unfold Pb.cof; rw[gu ho]
    obtain ⟨c,hcc⟩:∃ c,P.coef k P.of[o]=c:=⟨_,rfl⟩
    rw[hcc] at hcf hck
    have hrl:∀ h,(th P k)[o]'h=c:=fun h=>by simp[th,hcc]
    have s2:sz 3 ((c:Int):Rat):=tZ (by omega)
    have hzk:=hz k hk' hv
    have hsum:(zh k fun r=>(Y r).q*P.cof r o)+(Y k).q*((c:Int):Rat)=zh (k+1) fun r=>(Y r).q*P.cof r o:=by
     simp only[zh]
     rw[hck]
    have hsz:sz 1000000000 (zh k fun r=>(Y r).q*P.cof r o):=by
     have:=Xv (S:=S0+3) (f:=fun r=>(Y r).q*P.cof r o) (k:=k) fun i hi=>yg (hz i (by omega) (hI i hi)) (zJ (Nr hG ho (by omega)) (by decide))
     refine zJ this ?_
     have:k*(S0+3+1)≤20*30000004:=Nat.mul_le_mul (by omega) (by omega)
     omega
    have hqk:=aiy hv
    have km:=mG (K:=30000000) (by decide) (zJ hzk hS) (zJ s2 (by decide))
    have ka:=YU (K:=1000000000) (by decide) hsz (zJ (yg hzk s2) (by omega))
    have hrq:hr (Y k)=fr (Y k).q:=by
     conv=>lhs; rw[G4 hv]
     exact T1 _
    simp
    refine za krow (by simp) (by simp) ?_
    simp[ho,hoi,hrl]
    refine za (xi (n:=c) (by omega) (by omega)) (by simp) (by simp) ?_
    simp[hrq]
    refine za km (by simp) (by simp) ?_
    simp
    refine za ka (by simp) (by simp) ?_
    simp[w,MO,hsum]
    intro j hj
    by_cases ej:j=k
    ·subst ej; exact hv
    ·exact hI j (by omega)
  ·have he:wd P o true Y=0:=by
    unfold wd
    rw[if_neg fun h=>h c1,if_neg c2]
    exact if_pos ⟨rfl,hI⟩
   rw[he]
   have hs:(zh P.rows fun r=>(Y r).q*P.cof r o)=P.costQ (fun r=>(Y r).q) o:=rfl
   simp[pG,MO,jJ,hs,w9]
def Uq (B:Nat→RF) (nb:Nat) (S:Nat→RF) (ns:Nat) (O:Nat→RF) (j:Nat):RF:=if j<nb then B j else if j<nb+ns then S (j-nb) else O (j-(nb+ns))
variable {B S O:Nat→RF} {nb ns no:Nat}
theorem Ew:hR B nb++hR S ns++hR O no=hR (Uq B nb S ns O) (nb+ns+no):=by
 apply List.ext_getElem?
 intro j
 by_cases h1:j<nb
 ·rw[List.getElem?_append_left (by simp; omega),List.getElem?_append_left (by simp; omega),cn h1,cn (by omega)]
  unfold Uq
  rw[if_pos h1]
 ·by_cases h2:j<nb+ns
  ·rw[List.getElem?_append_left (by simp; omega),List.getElem?_append_right (by simp; omega),Di,cn (by omega),cn (by omega)]
   unfold Uq
   rw[if_neg h1,if_pos h2]
  ·rw[List.getElem?_append_right (by simp; omega)]
   simp only[List.length_append,Di]
   by_cases h3:j<nb+ns+no
   ·rw[cn (by omega),cn h3]
    unfold Uq
    rw[if_neg h1,if_neg h2]
   ·rw[List.getElem?_eq_none (by simp; omega),List.getElem?_eq_none (by simp; omega)]
noncomputable abbrev PN (B:Nat→RF) (nb:Nat) (S:Nat→RF) (ns:Nat) (O:Nat→RF) (no:Nat):List AV:=[bv false,zH,zH,hL B nb,hL S ns,hL O no,iv 0,bv false,zH,zH,zH,zH,zH]
theorem adC (hb:nb≤10) (hs:ns≤10) (hoo:no≤10):PrK P (PN B nb S ns O no) (decide (nb=P.cl.length∧ns=6∧no=6)) (Uq B nb S ns O):=by
 refine ⟨?_,by simp,by simp,fun k=>by simp,?_,fun h=>?_⟩
 ·have h:=vd (cells:=PN B nb S ns O no) (n:=13) rfl (by simp)
  rw[h]
  simp
 ·have:=ZU (P:=P) (a:=bv false) (b:=zH) (c:=zH) (B:=hR B nb) (S:=hR S ns) (O:=hR O no) (x0:=iv 0) (x1:=bv false) (x2:=zH) (x3:=zH) (x4:=zH) (x5:=zH) (x6:=zH)
  simpa using this
 ·obtain ⟨h1,h2,h3⟩:=of_decide_eq_true h
  have:=Js (a:=bv false) (b:=zH) (c:=zH) (B:=hR B nb) (S:=hR S ns) (O:=hR O no) (x0:=iv 0) (x1:=bv false) (x2:=zH) (x3:=zH) (x4:=zH) (x5:=zH) (x6:=zH) (by simp; omega)
  rw[Ew,show nb+ns+no=P.rows by rw[h1,h2,h3]; rfl] at this
  exact this
theorem akY {Z X Y:Nat→Rat} {w:Rat} (hn:P.cl.length≤1000):PrK P (pqL P Z X Y w) true (fun j=>RF.of (Z j)):=by
 refine ⟨XV,by simp,by simp,fun k=>by simp,?_,fun _=>?_⟩
 ·have:=ZU (P:=P) (a:=f0 (Z P.rows)) (b:=f1 (Z P.rows)) (c:=f2 (Z P.rows)) (B:=fR Z P.cl.length) (S:=fR (fun j=>Z (P.cl.length+j)) 6) (O:=fR (fun j=>Z (P.cl.length+6+j)) 6) (x0:=iv 1) (x1:=f0 w) (x2:=f1 w) (x3:=f2 w) (x4:=fL X (P.rows+1)) (x5:=fL Y (P.of.length+1)) (x6:=zH)
  simpa using this
 ·have:=Js (a:=f0 (Z P.rows)) (b:=f1 (Z P.rows)) (c:=f2 (Z P.rows)) (B:=fR Z P.cl.length) (S:=fR (fun j=>Z (P.cl.length+j)) 6) (O:=fR (fun j=>Z (P.cl.length+6+j)) 6) (x0:=iv 1) (x1:=f0 w) (x2:=f1 w) (x3:=f2 w) (x4:=fL X (P.rows+1)) (x5:=fL Y (P.of.length+1)) (x6:=zH) (by simp; omega)
  rw[Y4,Y4] at this
  have e:hL (fun j=>RF.of (Z j)) P.rows=fL Z P.rows:=by unfold YtjeoklgggppjiaaGreat.hL fL; rw[GR fun _ _=>rfl]
  rw[e]
  exact this
end
section
variable {P:Pb} {ch:List Int}
def ak8 (P:Pb):Prop:=P.cl.length≤5∧P.of.length≤9∧P.chk=0
instance (P:Pb):Decidable (ak8 P):=by unfold ak8; exact inferInstance
theorem ald:zd Tryz.prog aO [.agg (pbC P)] (bv (decide (ak8 P))):=by
 refine zt aeT (by simp) ?_
 unfold ak8
 by_cases h1:P.cl.length≤5
 ·have h1':(P.cl.length:Int)≤5:=by omega
  by_cases h2:P.of.length≤9
  ·have h2':(P.of.length:Int)≤9:=by omega
   simp[Pi,h1,h1',h2,h2']
   refine za (qx (P:=P) (by omega) (by omega)) (by simp) (by simp) ?_
   simp[Po]
  ·have h2':¬ (P.of.length:Int)≤9:=by omega
   simp[Pi,h1,h1',h2,h2',Po]
 ·have h1':¬ (P.cl.length:Int)≤5:=by omega
  simp[Pi,h1,h1',Po]
noncomputable abbrev alE (P:Pb) (ch:List Int):List AV:=[clA ch,iv (P.valE ch)]
noncomputable def ala (P:Pb) (ch:List Int) (X Y:Nat→Rat) (v:Rat) (k:Nat):St :=
 {env:=[(2,.ptr 2 0),(5,.ptr 5 0),(6,.ptr 6 0),(10,.list 3 (.own 94) (fR X P.rows)),(11,.ptr 11 0),(12,iv k)],
  sto:=[(2,.var (pbC P)),(5,.var (alE P ch)),(6,.var (pqL P X X Y v)),(11,.var (fr (zh k fun r=>X r*((P.bnd r:Int):Rat))))]}
noncomputable def alb (P:Pb) (X Y:Nat→Rat) (v:Rat) (k:Nat):St :=
 {env:=[(2,.ptr 2 0),(6,.ptr 6 0),(15,iv k)],sto:=[(2,.var (pbC P)),(6,.var (pqL P X X Y v))]}
theorem alf {X:Nat→Rat} {i:Nat} (hG:P.Good) (hi:i<P.of.length) (hx:∀ j,sz sL (X j)):sz 1000000000 (P.costQ X i):=by
 have hrw:P.rows≤20:=by have:=hG.n; unfold Pb.rows; omega
 have hsL:=Sz
 have:=Xv (S:=sL+2) (f:=fun r=>X r*P.cof r i) (k:=P.rows) fun r hr=>yg (hx r) (Nr hG hi hr)
 refine zJ this ?_
 have:P.rows*(sL+2+1)≤20*25515352:=Nat.mul_le_mul (by omega) (by omega)
 omega
theorem ale {X Y Z:Nat→Rat} {w:Rat} {i:Nat} (hn:P.cl.length≤1000) (hk:P.of.length≤1000000) (hc:P.chk=0) (hi:i<P.of.length) (hz:∀ j,sz sL (Z j)) :
  zd Tryz.prog tz [.agg (pbC P),iv i,.agg (pqL P Z X Y w)] (.tuple [fq (P.costQ Z i),iv 0]):=by
 have h:=EL (P:=P) (off:=(i:Int)) (S0:=sL) hn hk (by rw[Sz]; decide) (akY (P:=P) (Z:=Z) (X:=X) (Y:=Y) (w:=w) hn) (fun j _=>cg (by rw[Sz]; decide:sL≤137438953472) (hz j)) fun j _ _=>by rw[afW]; exact hz j
 have he:wd P (i:Int) true (fun j=>RF.of (Z j))=0:=by
  unfold wd
  rw[if_neg fun h=>h hc,if_neg (by omega)]
  exact if_pos ⟨rfl,fun j _=>A3 _⟩
 rw[he,if_pos rfl] at h
 simpa [afW] using h
theorem alc {z w:Rat} {B S O:List (List AV)} {st:Int} {X Y:Nat→Rat} {n m:Nat}:zD (prQ z B S O st w X Y n m) 7 (some 3)=some (fq w):=by
 show (if 7+3≤13∧[f0 w,f1 w,f2 w].all rf=true then some (AV.agg ([f0 w,f1 w,f2 w].map strip)) else _)=_
 simp
theorem ak9 (hch:ch.length<4611686018427387904):zd Tryz.prog fO [.agg (pbC P),clA ch] (bv true):=by
 refine zt LD (by simp) ?_
 simp[fP]
 refine za (ald (P:=P)) (by simp) (by simp) ?_
 by_cases c1:ak8 P
 rotate_left
 ·simp[c1]
  refine za (xs:=[]) (args:=[]) wo rfl (.inl rfl) ?_
  simp[fQ]
 obtain ⟨g1,g2,g3⟩:=c1
 have c1:ak8 P:=⟨g1,g2,g3⟩
 by_cases c2:ch.length≤20
 rotate_left
 ·have c2':(20:Int)<ch.length:=by omega
  simp[c1,c2']
  refine za (xs:=[]) (args:=[]) wo rfl (.inl rfl) ?_
  simp[fQ]
 have c2':¬ (20:Int)<ch.length:=by omega
 simp[c1,c2']
 refine za (Kj (P:=P) (ch:=ch) (by omega) (by omega) hch) (by simp) (by simp) ?_
 by_cases c3:P.feaE ch=0
 rotate_left
 ·simp[c3]
  refine za (xs:=[]) (args:=[]) wo rfl (.inl rfl) ?_
  simp[fQ]
 have he:pgE P ch (P.valE ch)=0:=by
  unfold pgE
  rw[if_neg fun h=>h c3,if_neg fun h=>h rfl,if_neg (by omega)]
 have hG:=xS g3
 have hVb:=Pf (ch:=ch) g3 g2
 have hrw:P.rows≤20:=by have:=hG.n; unfold Pb.rows; omega
 have hsL:=Sz
 obtain ⟨X,Y,v,⟨hs,hx,hy,hv⟩,k1⟩:=J9 (P:=P) (ch:=ch) (V:=P.valE ch) (by omega) g2 hch he
 have k2:=nZ (P:=P) (ch:=ch) (V:=P.valE ch) (by omega) (by omega) hch (by omega)
 rw[if_pos he,he] at k2
 have k3:=acp (P:=P) (ch:=ch) (V:=P.valE ch) (Z:=X) (w:=v) (by omega) g2 hch he hs hx hy (Ft hv) fun j=>Ft (hx j)
 rw[if_pos ⟨rfl,fun j _=>rfl⟩] at k3
 have hS:Szp (P.rows+1) (P.of.length+1) sL P.sA (P.sB (P.valE ch)) P.sG:=⟨by omega,by omega,by
   have:(P.rows+1+(P.of.length+1)+1)*(2*sL+1)≤32*(2*25515349+1):=Nat.mul_le_mul (by omega) (by omega)
   omega,fun i j _ _=>zJ (ab3 hG) (by omega),fun i _=>zJ (ab4 hG (by omega)) (by omega),fun j _=>zJ ab6 (by omega)⟩
 have k4:=AJ hS hs (fun j _=>hx j) (fun i _=>hy i) (Ft hv)
 rw[if_pos rfl] at k4
 have kval:=aaO (P:=P) (ch:=ch) (by omega) (by omega) hch
 simp[c3]
 refine za kval (by simp) (by simp) ?_
 simp
 refine za k1 (by simp) (by simp) ?_
 simp
 refine za k2 (by simp) (by simp) ?_
 simp
 refine za k3 (by simp) (by simp) ?_
 simp[GL]
 refine za k4 (by simp) (by simp) ?_
 have hcat:fR X P.cl.length++(fR (fun j=>X (P.cl.length+j)) 6++fR (fun j=>X (P.cl.length+6+j)) 6)=fR X P.rows:=by rw[← List.append_assoc,Y4,Y4]; rfl
 simp[hcat]
 refine ⟨by omega,by omega,by omega,by omega,by omega,by omega,?_⟩
 refine za By (by simp) (by simp) ?_
 simp
 have ht0:sz 1000000000 (P.totQ X):=by
  have:=Xv (S:=sL+3) (f:=fun r=>X r*((P.bnd r:Int):Rat)) (k:=P.rows) fun i hi=>yg (hx i) (tZ (by have:=Na hG hi; omega))
  refine zJ this ?_
  have:P.rows*(sL+3+1)≤20*25515353:=Nat.mul_le_mul (by omega) (by omega)
  omega
 refine zq (ala P ch X Y v) (fun _=>True) P.rows (by simp[ala,zh]) trivial (fun k hk _=>?_) (fun _=>?_)
 ·have e:(k:Int)<P.rows:=by omega
  have w:=zm (k:=k) (by omega)
  have krow:=Cu (P:=P) (r:=(k:Int)) (by omega) (by omega)
  have e0:(0:Int)≤k∧(k:Int)<(xf P:Nat):=by unfold xf; rw[if_pos g3]; omega
  unfold Ym at krow
  rw[if_pos e0,if_pos e0,Int.toNat_natCast] at krow
  have hbo:=Na hG hk
  have s2:sz 3 ((P.bnd k:Int):Rat):=tZ (by omega)
  have hsz:sz 1000000000 (zh k fun r=>X r*((P.bnd r:Int):Rat)):=by
   have:=Xv (S:=sL+3) (f:=fun r=>X r*((P.bnd r:Int):Rat)) (k:=k) fun i hi=>yg (hx i) (tZ (by have:=Na hG (by omega:i<P.rows); omega))
   refine zJ this ?_
   have:k*(sL+3+1)≤20*25515353:=Nat.mul_le_mul (by omega) (by omega)
   omega
  have km:=ag6 (K:=30000000) (by decide) (zJ (hx k) (by omega)) (zJ s2 (by decide))
  have ka:=agC (K:=1000000000) (by decide) hsz (zJ (yg (hx k) s2) (by omega))
  have hsum:(zh k fun r=>X r*((P.bnd r:Int):Rat))+X k*((P.bnd k:Int):Rat)=zh (k+1) fun r=>X r*((P.bnd r:Int):Rat):=rfl
  have o:¬ xN (X k)<0:=fun h=>by have:=fE.1 h; have:=hs.x0 k; grind
  simp[jn,ala,e]
  refine za krow (by simp) (by simp) ?_
  simp[e,hk]
  refine za (eL (n:=P.bnd k) (by omega) (by omega)) (by simp) (by simp) ?_
  simp
  refine za km (by simp) (by simp) ?_
  simp
  refine za ka (by simp) (by simp) ?_
  simp[e,hk,hsum]
  refine za (af9 (q:=X k)) (by simp) (by simp) ?_
  simp[o,w,ala]
 ·have ht:(zh P.rows fun r=>X r*((P.bnd r:Int):Rat))=P.totQ X:=rfl
  have o1:¬ 0<xY (P.totQ X) ((P.valE ch:Int):Rat):=fun h=>by
   have:=K5.1 h
   have:=aef hs
   grind
  have o2:¬ xN (X P.rows)<0:=fun h=>by have:=fE.1 h; have:=hs.x0 P.rows; grind
  have hvn:- X P.rows=v:=(ak1 hs).symm
  have ks:zd Tryz.prog vM [fq (- X P.rows),fq v] (bv true):=by have:=SA (q:=v) (by decide:137438953472≤137438953472) (mV (Ft (hx P.rows))); simpa [hvn] using this
  simp[jn,ala,ht,jm]
  refine za (eL (n:=P.valE ch) (by omega) (by omega)) (by simp) (by simp) ?_
  simp
  refine za (aki (K:=1000000000) (by decide) ht0 (zJ (tZ (K:=24) (n:=P.valE ch) (by omega)) (by decide))) (by simp) (by simp) ?_
  simp[o1,bO]
  refine za (af9 (q:=X P.rows)) (by simp) (by simp) ?_
  simp[o2,bO]
  refine za (akO (p:=X P.rows) (K:=137438953472) (by decide) (Ft (hx P.rows))) (by simp) (by simp) ?_
  simp[alc]
  refine za ks (by simp) (by simp) ?_
  simp
  refine zq (alb P X Y v) (fun _=>True) P.of.length (by simp[alb]) trivial (fun k hk _=>?_) (fun _=>?_)
  ·have e:(k:Int)<P.of.length:=by omega
   have w:=zm (k:=k) (by omega)
   have kc:=ale (P:=P) (X:=X) (Y:=Y) (Z:=X) (w:=v) (by omega) (by omega) g3 hk hx
   have hv2:=(xI (y7 (hG.off _ (at_mem hk))).1).2.1
   rw[gu hk] at hv2
   have hvq:P.vQ k=((P.of[k].v:Int):Rat):=by unfold Pb.vQ; rw[gu hk]
   have hcs:=alf hG hk hx
   have hadd:sz 2000000000 (P.costQ X k+X P.rows):=zJ (cD hcs (hx P.rows)) (by omega)
   have o:¬ xY (P.costQ X k+X P.rows) ((P.of[k].v:Int):Rat)<0:=fun h=>by
    have h1:=cb.1 h
    have h2:=abv hs hk
    rw[hvq] at h2
    grind
   simp[jo,alb,e]
   refine za kc (by simp) (by simp) ?_
   simp[bO]
   refine za (agC (K:=1000000000) (by decide) hcs (zJ (hx P.rows) (by omega))) (by simp) (by simp) ?_
   simp[e,hk]
   refine za (eL (n:=P.of[k].v) (by omega) (by omega)) (by simp) (by simp) ?_
   simp
   refine za (aki (K:=2000000000) (by decide) hadd (zJ (tZ (K:=20) (n:=P.of[k].v) (by omega)) (by decide))) (by simp) (by simp) ?_
   simp[o,w,alb]
  ·simp[jo,alb,jl]
   refine za (xs:=[]) (args:=[]) wo rfl (.inl rfl) ?_
   simp[fQ]
end
theorem supportExplains_contract (xs:List AV) (h:fX [Lw,.slice (.int .i64)] xs):zd Tryz.prog fO xs (bv true):=by
 obtain ⟨x,y,rfl,h1,h2⟩:=Qk h
 obtain ⟨P,rfl,_⟩:=RO h1
 obtain ⟨ch,hcs,hl⟩:=Jn h2
 simp only[List.cons.injEq,and_true] at hcs
 subst hcs
 exact ak9 (by unfold reachBytes at hl; omega)
def ali (P:Pb) (b:List Int × Int) (ch:List Int):List Int × Int:=if b.2<P.valE ch then (ch,P.valE ch) else b
def srL (P:Pb):Nat→List Int→List Int × Int→List Int × Int
 | 0,_,b=>b
 | d+1,ch,b =>
  srL P d ch (if P.feaE (ch++[((P.of.length-(d+1):Nat):Int)])=0 then srL P d (ch++[((P.of.length-(d+1):Nat):Int)]) (ali P b (ch++[((P.of.length-(d+1):Nat):Int)])) else b)
section
variable {P:Pb} {ch:List Int} {b:List Int × Int} {d:Nat}
def gdB (P:Pb) (b:List Int × Int):Prop:=P.feaE b.1=0∧b.2=P.valE b.1
theorem alJ (hb:gdB P b) (h:P.feaE ch=0):gdB P (ali P b ch):=by
 unfold ali
 split
 ·exact ⟨h,rfl⟩
 ·exact hb
theorem aly:∀ {d:Nat} {ch:List Int} {b:List Int × Int},gdB P b→gdB P (srL P d ch b)
 | 0,_,_,h=>h
 | d+1,ch,b,h=>by
  simp only[srL]
  split
  ·rename_i hf
   exact aly (aly (alJ h hf))
  ·exact aly h
theorem alU (h:P.feaE ch=0):ch.length≤P.of.length:=nX (gY h).2.1
noncomputable abbrev bA (b:List Int × Int):AV:=.agg [clA b.1,iv b.2]
def seqB (P:Pb) (ch:List Int) (d:Nat) (b:List Int × Int):Nat→List Int × Int
 | 0=>b
 | k+1=>if P.feaE (ch++[((P.of.length-(d-k):Nat):Int)])=0 then srL P (d-k-1) (ch++[((P.of.length-(d-k):Nat):Int)]) (ali P (seqB P ch d b k) (ch++[((P.of.length-(d-k):Nat):Int)])) else seqB P ch d b k
theorem alG:∀ k,k≤d→srL P d ch b=srL P (d-k) ch (seqB P ch d b k)
 | 0,_=>rfl
 | k+1,hk=>by
  rw[alG k (by omega)]
  obtain ⟨e,he⟩:∃ e,d-k=e+1:=⟨d-k-1,by omega⟩
  have h2:d-(k+1)=e:=by omega
  rw[he,h2]
  simp only[srL,seqB,he,Nat.add_sub_cancel]
theorem alT:seqB P ch d b d=srL P d ch b:=by rw[alG d (Nat.le_refl d),Nat.sub_self]; rfl
noncomputable def alv (P:Pb) (ch:List Int) (d:Nat) (b:List Int × Int) (k:Nat):St :=
 {env:=[(1,clA ch),(4,.ptr 4 0),(7,.ptr 7 0),(8,.ptr 8 0),(10,iv (P.of.length-(d-k):Nat))],
  sto:=[(4,.var (pbC P)),(7,.var (([clA (seqB P ch d b k).1,iv (seqB P ch d b k).2]:List AV))),(8,.var [zH,iv 0])]}
theorem alS (hn:P.cl.length≤1000) (hk:P.of.length≤9):∀ (d:Nat) (ch:List Int) (b:List Int × Int),d≤P.of.length→ch.length≤P.of.length →
  zd Tryz.prog alj [.agg (pbC P),clA ch,iv (P.of.length-d:Nat),bA b] (bA (srL P d ch (ali P b ch))):=by
 intro d
 induction d using Nat.strongRecOn with
 | ind d ih =>
  intro ch b hd hch
  have kval:=aaO (P:=P) (ch:=ch) hn (by omega) (by omega)
  refine zt alA (by simp) ?_
  simp[alr]
  refine za kval (by simp) (by simp) ?_
  have key:∀ s0:St,St.imp s0 (alv P ch d (ali P b ch) 0)→awp Tryz.prog (.loop f6) s0 (wR 0 (ry Tryz.prog alk (U0 aln (bA (srL P d ch (ali P b ch)))))):=by
   intro s0 h0
   refine te (alv P ch d (ali P b ch)) (fun _=>True) d h0 trivial (fun k hk' _=>?_) (fun _=>?_)
   ·obtain ⟨i,hi⟩:∃ i,P.of.length-(d-k)=i:=⟨_,rfl⟩
    have hi2:P.of.length-(d-(k+1))=i+1:=by omega
    have hin:(i:Int)<P.of.length:=by omega
    have w:=zm (k:=i) (by omega)
    have kf:=Kj (P:=P) (ch:=ch++[(i:Int)]) hn (by omega) (by simp; omega)
    have hcr:clR ch++[[iv i]]=clR (ch++[(i:Int)]):=by simp[clR]
    by_cases hf:P.feaE (ch++[(i:Int)])=0
    ·have hl:=alU hf
     have hs2:=ih (d-k-1) (by omega) (ch++[(i:Int)]) (seqB P ch d (ali P b ch) k) (by omega) hl
     rw[show P.of.length-(d-k-1)=i+1 by omega] at hs2
     have hsq:seqB P ch d (ali P b ch) (k+1)=srL P (d-k-1) (ch++[(i:Int)]) (ali P (seqB P ch d (ali P b ch) k) (ch++[(i:Int)])):=by simp only[seqB,hi]; rw[if_pos hf]
     simp[f6,alv,hi,hin,hcr]
     refine ⟨by omega,by omega,by omega,by omega,?_⟩
     refine za kf (by simp) (by simp) ?_
     simp[hf,w]
     refine za hs2 (by simp) (by simp) ?_
     simp[w,alv,hsq,hi2]
     exact St.imp.refl
    ·have hsq:seqB P ch d (ali P b ch) (k+1)=seqB P ch d (ali P b ch) k:=by simp only[seqB,hi]; rw[if_neg hf]
     simp[f6,alv,hi,hin,hcr]
     refine ⟨by omega,by omega,by omega,by omega,?_⟩
     refine za kf (by simp) (by simp) ?_
     simp[hf,w,alv,hsq,hi2]
     exact St.imp.refl
   ·have e:¬ ((P.of.length-(d-d):Nat):Int)<P.of.length:=by omega
    have hall:=alT (P:=P) (ch:=ch) (d:=d) (b:=ali P b ch)
    simp[f6,alv,alk,hall,aln]
  by_cases c:b.2<P.valE ch
  ·have hu:ali P b ch=(ch,P.valE ch):=if_pos c
   simp[c]
   refine ⟨by omega,by omega,key _ ?_⟩
   rw[hu]
   simp[alv,seqB]
   exact St.imp.refl
  ·have hu:ali P b ch=b:=if_neg c
   simp[c]
   refine key _ ?_
   rw[hu]
   simp[alv,seqB]
   exact St.imp.refl
noncomputable abbrev alL (P:Pb):List Int × Int:=srL P P.of.length [] (ali P ([],0) [])
theorem alQ (hc:P.chk=0):gdB P (alL P):=by
 have h0:P.feaE []=0:=by
  unfold Pb.feaE
  rw[if_neg fun h=>h hc,if_neg fun h=>h fun k hk=>absurd hk (Nat.not_lt_zero k),if_pos]
  intro r hr
  have:=Na (xS hc) hr
  show ((P.pick []).map (P.coef r)).sum≤_
  simp[Pb.pick]
  omega
 refine aly (alJ ⟨h0,?_⟩ h0)
 unfold Pb.valE
 split<;>simp[Pb.pick]
theorem alV (hn:P.cl.length≤1000) (hk:P.of.length≤9):zd Tryz.prog alo [.agg (pbC P)] (bA (alL P)):=by
 have h:=alS hn hk P.of.length [] ([],0) (Nat.le_refl _) (Nat.zero_le _)
 rw[Nat.sub_self] at h
 have h:=qt h (yt AV.imp.refl (yt (AV.imp_nil rfl) (yt AV.imp.refl (yt (co (yt (AV.imp_nil rfl) eM)) fe))):fc [.agg (pbC P),zH,iv (0:Nat),.agg [zH,iv 0]] _)
 refine zt alH (by simp) ?_
 simp[alw]
 refine za h (by simp) (by simp) ?_
 simp[alx]
end
section
variable {P:Pb} {kd at' by':Int}
theorem alP {q:Rat} {x0 x1 x2 x3 x4 x5 x6 x7 x8 x9 x10 x11 x12:AV}:splice [x0,x1,x2,x3,x4,x5,x6,x7,x8,x9,x10,x11,x12] 7 (fr q)=[x0,x1,x2,x3,x4,x5,x6,f0 q,f1 q,f2 q,x10,x11,x12]:=by unfold fr; rfl
theorem alO {y x0 x1 x2 x3 x4 x5 x6 x7 x8 x9 x10 x11 x12:AV}:splice [x0,x1,x2,x3,x4,x5,x6,x7,x8,x9,x10,x11,x12] 5 [y]=[x0,x1,x2,x3,x4,y,x6,x7,x8,x9,x10,x11,x12]:=rfl
theorem alN {y x0 x1 x2 x3 x4 x5 x6 x7 x8 x9 x10 x11 x12:AV}:splice [x0,x1,x2,x3,x4,x5,x6,x7,x8,x9,x10,x11,x12] 6 [y]=[x0,x1,x2,x3,x4,x5,y,x7,x8,x9,x10,x11,x12]:=rfl
theorem alR {X Y:Nat→Rat} {w s:Rat}:prQ (upd X P.rows s P.rows) (fR (upd X P.rows s) P.cl.length) (fR (fun j=>upd X P.rows s (P.cl.length+j)) 6) (fR (fun j=>upd X P.rows s (P.cl.length+6+j)) 6) 1 w X Y (P.rows+1) (P.of.length+1)=prQ s (fR X P.cl.length) (fR (fun j=>X (P.cl.length+j)) 6) (fR (fun j=>X (P.cl.length+6+j)) 6) 1 w X Y (P.rows+1) (P.of.length+1):=by
 have hr:P.rows=P.cl.length+12:=rfl
 have e1:upd X P.rows s P.rows=s:=if_pos rfl
 have e2:fR (upd X P.rows s) P.cl.length=fR X P.cl.length:=wh fun j hj=>if_neg (by omega)
 have e3:fR (fun j=>upd X P.rows s (P.cl.length+j)) 6=fR (fun j=>X (P.cl.length+j)) 6:=wh fun j hj=>if_neg (by omega)
 have e4:fR (fun j=>upd X P.rows s (P.cl.length+6+j)) 6=fR (fun j=>X (P.cl.length+6+j)) 6:=wh fun j hj=>if_neg (by omega)
 rw[e1,e2,e3,e4]
theorem alI {z w:Rat} {B O:List (List AV)} {st:Int} {X Y:Nat→Rat} {n m a b c d:Nat}:zD [f0 z,f1 z,f2 z,.list 3 .plain B,.us a b c d,.list 3 .plain O,iv st,f0 w,f1 w,f2 w,fL X n,fL Y m,zH] 0 (some 13)=some (.raw [f0 z,f1 z,f2 z,.list 3 .plain B,.us a b c d,.list 3 .plain O,iv st,f0 w,f1 w,f2 w,fL X n,fL Y m,zH]):=by
 simp[zD]
theorem alW {X Y:Nat→Rat} {w s:Rat} {r:Nat} (hr6:r<6):prQ (upd X (P.cl.length+r) s P.rows) (fR (upd X (P.cl.length+r) s) P.cl.length) (fR (fun j=>upd X (P.cl.length+r) s (P.cl.length+j)) 6) (fR (fun j=>upd X (P.cl.length+r) s (P.cl.length+6+j)) 6) 1 w X Y (P.rows+1) (P.of.length+1) =
  prQ (X P.rows) (fR X P.cl.length) (fR (upd (fun j=>X (P.cl.length+j)) r s) 6) (fR (fun j=>X (P.cl.length+6+j)) 6) 1 w X Y (P.rows+1) (P.of.length+1):=by
 have hr:P.rows=P.cl.length+12:=rfl
 have e1:upd X (P.cl.length+r) s P.rows=X P.rows:=if_neg (by omega)
 have e2:fR (upd X (P.cl.length+r) s) P.cl.length=fR X P.cl.length:=wh fun j hj=>if_neg (by omega)
 have e3:fR (fun j=>upd X (P.cl.length+r) s (P.cl.length+j)) 6=fR (upd (fun j=>X (P.cl.length+j)) r s) 6:=wh fun j hj=>by
  unfold upd
  by_cases e:j=r
  ·subst e; rw[if_pos rfl,if_pos rfl]
  ·rw[if_neg (by omega),if_neg e]
 have e4:fR (fun j=>upd X (P.cl.length+r) s (P.cl.length+6+j)) 6=fR (fun j=>X (P.cl.length+6+j)) 6:=wh fun j hj=>if_neg (by omega)
 rw[e1,e2,e3,e4]
theorem alD {k:Nat} {en:ze} {cs:List AV}:Am.frz k en (.raw cs)=.undef:=rfl
theorem alF {l:Nat} {e:ze}:(pbC P).map (Am.frz l e)=pbC P:=by unfold pbC; rw[xc]; rfl
theorem als:yR Tryz.prog vE=true:=by kernel_rfl
theorem alM (hkd:0≤kd∧kd<256) (hat:0≤at'∧at'<256) (hby:-128≤by'∧by'<128):zd Tryz.prog alg [.agg (pbC P),.val (.int .u8 kd),.val (.int .u8 at'),.val (.int .i8 by')] (bv true):=by
 refine zt alt (by simp) ?_
 simp[alm]
 refine za (ald (P:=P)) (by simp) (by simp) ?_
 by_cases c1:ak8 P
 rotate_left
 ·simp[c1]
  refine za (xs:=[]) (args:=[]) wo rfl (.inl rfl) ?_
  simp[f4]
 obtain ⟨g1,g2,g3⟩:=c1
 have c1:ak8 P:=⟨g1,g2,g3⟩
 by_cases c2:by'=0
 ·simp[c1,c2]
  refine za (xs:=[]) (args:=[]) wo rfl (.inl rfl) ?_
  simp[f4]
 obtain ⟨hf,hVe⟩:=alQ g3
 have kb:=alV (P:=P) (by omega) g2
 generalize alL P=bb at hf hVe kb
 obtain ⟨ch,V⟩:=bb
 simp only at hf hVe kb
 have hG:=xS g3
 have he:pgE P ch V=0:=by
  unfold pgE
  rw[if_neg fun h=>h hf,if_neg fun h=>h hVe,if_neg (by omega)]
 have hVb:=Pf (ch:=ch) g3 g2
 rw[← hVe] at hVb
 obtain ⟨_,hok,hfit⟩:=gY hf
 have hcl:=nX hok
 have hsL:=Sz
 obtain ⟨X,Y,v,⟨hs,hx,hy,hv⟩,k1⟩:=J9 (P:=P) (ch:=ch) (V:=V) (by omega) g2 (by omega) he
 have hd0:((by':Int):Rat)≠0:=fun h=>c2 (by exact_mod_cast h)
 have szd:sz 8 ((by':Int):Rat):=tZ (by omega)
 have kd1:zd Tryz.prog yU [iv by'] (fq ((by':Int):Rat)):=eL (n:=by') (by omega) (by omega)
 simp[c1,c2]
 refine za kb (by simp) (by simp) ?_
 simp
 refine za k1 (by simp) (by simp) ?_
 have hr1:((P.rows:Int)+1=0)=False:=eq_false (by omega)
 have wby:IntKind.i64.wrap by'=by':=by rw[wrap64]<;>omega
 simp[hr1,wby]
 refine za kd1 (by simp) (by simp) ?_
 obtain ⟨q,hq⟩:∃ q,kd.tmod 5=q:=⟨_,rfl⟩
 have hq5:0≤q∧q<5:=by rw[← hq,Int.tmod_eq_emod_of_nonneg hkd.1]; omega
 have hrem:∀ {ox oy:Operand} {K:AV→Option ze→Prop},yd Tryz.prog .rem alh ox oy [.val (.int .u8 kd),.val (.int .u8 5)] K=K (.val (.int .u8 q)) none:=fun {ox oy K}=>by
  rw[qo (by decide),hq]
 have hxr:sz 137438953472 (X P.rows+((by':Int):Rat)):=zJ (cD (hx P.rows) szd) (by omega)
 have hvr:sz 137438953472 (v+((by':Int):Rat)):=zJ (cD hv szd) (by omega)
 have hch62:ch.length<4611686018427387904:=by omega
 have hcase:q=0∨q=1∨q=2∨q=3∨q=4:=by omega
 rcases hcase with rfl | rfl | rfl | rfl | rfl
 ·have kc:=acp (P:=P) (ch:=ch) (V:=V) (Z:=upd X P.rows (X P.rows+((by':Int):Rat))) (w:=v) (by omega) g2 hch62 he hs hx hy (Ft hv) fun j=>by
   unfold upd
   split
   ·exact hxr
   ·exact Ft (hx j)
  rw[if_neg fun h=>hd0 (by
   have:=h.2 P.rows (by omega)
   unfold upd at this
   rw[if_pos rfl] at this
   grind),alR] at kc
  simp[hrem,bO]
  refine za (agC (K:=30000000) (by decide) (zJ (hx P.rows) (by omega)) (zJ szd (by decide))) (by simp) (by simp) ?_
  simp[FM,XV,als]
  refine yb (LH kc (by simp) (by simp) ?_)
  simp
  refine za (xs:=[]) (args:=[]) wo rfl (.inl rfl) ?_
  simp[f4]
 ·obtain ⟨r,hr⟩:∃ r:Nat,at'.tmod 6=r:=⟨(at'.tmod 6).toNat,by rw[Int.tmod_eq_emod_of_nonneg hat.1]; omega⟩
  have hr6:r<6:=by rw[Int.tmod_eq_emod_of_nonneg hat.1] at hr; omega
  have hrI:(r:Int)<6:=by omega
  have hrem2:∀ {ox oy:Operand} {K:AV→Option ze→Prop},yd Tryz.prog .rem alh ox oy [.val (.int .u8 at'),.val (.int .u8 6)] K=K (.val (.int .u8 r)) none:=fun {ox oy K}=>by
   rw[qo (by decide),hr]
  have kc:=acp (P:=P) (ch:=ch) (V:=V) (Z:=upd X (P.cl.length+r) (X (P.cl.length+r)+((by':Int):Rat))) (w:=v) (by omega) g2 hch62 he hs hx hy (Ft hv) fun j=>by
   unfold upd
   split
   ·exact zJ (cD (hx _) szd) (by omega)
   ·exact Ft (hx j)
  have eR:P.rows=P.cl.length+12:=rfl
  rw[if_neg fun h=>hd0 (by
   have:=h.2 (P.cl.length+r) (by omega)
   unfold upd at this
   rw[if_pos rfl] at this
   grind),alW hr6] at kc
  simp[hrem,hrem2,hrI,hr6]
  refine za (agC (K:=30000000) (by decide) (zJ (hx (P.cl.length+r)) (by omega)) (zJ szd (by decide))) (by simp) (by simp) ?_
  have hset:(fR (fun j=>X (P.cl.length+j)) 6).set r (fr (X (P.cl.length+r)+((by':Int):Rat)))=fR (upd (fun j=>X (P.cl.length+j)) r (X (P.cl.length+r)+((by':Int):Rat))) 6:=mD
  simp[hrem2,hrI,hr6,hset,alI,als]
  obtain ⟨SR,hSR⟩:∃ SR,fR (upd (fun j=>X (P.cl.length+j)) r (X (P.cl.length+r)+((by':Int):Rat))) 6=SR:=⟨_,rfl⟩
  have hsl:SR.length=6:=by rw[← hSR]; simp
  have hsf:yn SR=true:=by rw[← hSR]; simp
  have hss:zN SR=SR:=by rw[← hSR]; simp
  have hst:SR.take 6=SR:=List.take_of_length_le (by omega)
  rw[hSR] at kc ⊢
  refine yb (z5.frzRaw (k:=68) (en:=.uarr 3 SR) (by simp) ?_ ?_ ?_ ?_ (LH kc ?_ ?_ ?_))
  ·simp[St.frozen,St.unmet,kT,alD,alF,sC,hsl,hsf,hss,hst]
  ·simp
  ·simp
  ·simp[kT,hsl,hsf,hss,hst]
  ·simp[kT,hsl,hsf,hss,hst]
  ·simp[kT,hsl,hsf,hss,hst]
  ·refine ⟨rfl,?_⟩
   simp[St.frozen,kT,alD,alF,sC,hsl,hsf,hss,hst]
   refine za (xs:=[]) (args:=[]) wo rfl (.inl rfl) ?_
   simp[f4]
 ·have kc:=alB (P:=P) (ch:=ch) (V:=V) (z:=X P.rows) (w:=v) (B:=fR X P.cl.length) (S:=fR (fun j=>X (P.cl.length+j)) 6) (O:=(fR (fun j=>X (P.cl.length+6+j)) 6).tail) (st:=1) (X:=X) (Y:=Y) (n:=P.rows+1) (m:=P.of.length+1) (by omega) (by omega) hch62 (by omega) he (.inl (by simp))
  simp[hrem]
  simp[alO,XV,als]
  refine yb (LH kc (by simp) (by simp) ?_)
  simp
  refine za (xs:=[]) (args:=[]) wo rfl (.inl rfl) ?_
  simp[f4]
 ·have kc:=alB (P:=P) (ch:=ch) (V:=V) (z:=X P.rows) (w:=v) (B:=fR X P.cl.length) (S:=fR (fun j=>X (P.cl.length+j)) 6) (O:=fR (fun j=>X (P.cl.length+6+j)) 6) (st:=4) (X:=X) (Y:=Y) (n:=P.rows+1) (m:=P.of.length+1) (by omega) (by omega) hch62 (by omega) he (.inr (by decide))
  simp[hrem]
  simp[alN,XV,als]
  refine yb (LH kc (by simp) (by simp) ?_)
  simp
  refine za (xs:=[]) (args:=[]) wo rfl (.inl rfl) ?_
  simp[f4]
 ·have kc:=acp (P:=P) (ch:=ch) (V:=V) (Z:=X) (w:=v+((by':Int):Rat)) (by omega) g2 hch62 he hs hx hy hvr fun j=>Ft (hx j)
  rw[if_neg fun h=>hd0 (by have:=h.1; grind)] at kc
  simp[hrem,alc]
  refine za (agC (K:=30000000) (by decide) (zJ hv (by omega)) (zJ szd (by decide))) (by simp) (by simp) ?_
  simp[alP,XV,als]
  refine yb (LH kc (by simp) (by simp) ?_)
  simp
  refine za (xs:=[]) (args:=[]) wo rfl (.inl rfl) ?_
  simp[f4]
end
theorem supportChecks_contract (xs:List AV) (h:fX [Lw,.int .u8,.int .u8,.int .i8] xs):zd Tryz.prog alg xs (bv true):=by
 obtain ⟨x,y,z,u,rfl,h1,h2,h3,h4⟩:=alK h
 obtain ⟨P,rfl,_⟩:=RO h1
 obtain ⟨kd,rfl,g1⟩:=afw h2
 obtain ⟨at',rfl,g2⟩:=afw h3
 obtain ⟨by',rfl,g3⟩:=afw h4
 have u8:∀ n:Int,(Lit.int .u8 n).wf=true→0≤n∧n<256:=fun n h=>by
  have h1:IntKind.u8.min≤n∧n≤IntKind.u8.max:=by simpa [Lit.wf] using h
  have h2:IntKind.u8.min=0:=by decide
  have h3:IntKind.u8.max=255:=by decide
  omega
 have i8:∀ n:Int,(Lit.int .i8 n).wf=true→-128≤n∧n<128:=fun n h=>by
  have h1:IntKind.i8.min≤n∧n≤IntKind.i8.max:=by simpa [Lit.wf] using h
  have h2:IntKind.i8.min=-128:=by decide
  have h3:IntKind.i8.max=127:=by decide
  omega
 exact alM (u8 _ g1) (u8 _ g2) (i8 _ g3)
end Go.Proofs.YtjeoklgggppjiaaGreat
