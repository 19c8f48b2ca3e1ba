/- What the proof rests on, part 11: RS SR GQ QV GF SS SL X13 Y0 ST SU QT SV SW SY SZ QG BD SS1. -/
import Derived.Test.YtjeoklgggppjiaaGreatP10
set_option maxRecDepth 100000
set_option maxHeartbeats 4000000
namespace Go.Am
open Go.RowKit
section
variable {P:Program}
theorem CV {f:FuncId} {fn:Func} {code:Code} {ac:zc} {ras:List zw} {args:List AV} {r:AV} {K:Exit→St→Prop} (hK0:∀ e s,K e s→(e=.normal∨e=.ret)∧∃ t,St.imp s t∧sI ras t=some r) (hf:P.funcs[f]?=some fn) (hb:fn.body=some code)
  (htr:yd P fn.ntmps code=some (bare ac)) (hres:yu (uB P) fn.results.toList=some ras) (hn:args.length≤fn.ntmps)
  (h:awp P ac {env:=vg 0 args,sto:=[]} K):zd P f args r:=by
 intro I vs w hI hs hR
 refine calls_of_wp hf hb ?_
 have hH:Holds {w0:=w,I0:=I,N:=fn.ntmps} {env:=vg 0 args,sto:=[]} {tmps:=vs++Array.replicate (fn.ntmps-vs.size) undef,defers:=[]} w:=by
  refine ⟨I,fun _=>none,fun _=>none,?_⟩
  refine
   {defers:=rfl
    size:=by simp; omega
    below:=Below.refl _ _
    env:=fun t x ht=>?_
    sto:=fun k en hk=>by simp[lk] at hk
    usto:=fun l sz rows hk=>by simp[lk] at hk
    bdom:=fun k b hk=>by cases hk
    binj:=fun k k' b hk=>by cases hk
    bnew:=fun k b hk=>by cases hk
    Isub:=hI
    I0sub:=fun _ _ h=>h
    Inew:=fun _ _ h=>.inl h
    spare:=fun l a len cap sz hl=>by cases hl
    ldis:=fun l l' b o o' len len' cap cap' sz sz' _ h1=>by cases h1}
  obtain ⟨d,t⟩:=t
  cases d with
  | succ d=>simp[St.look] at ht
  | zero=>?_
  obtain ⟨j,rfl,hj⟩:=bF _ _ _ _ ht
  have hlt:j<vs.size:=by
   have:=(List.getElem?_eq_some_iff.1 hj).1
   omega
  refine ⟨vs.getD j undef,?_,.base (hR j x hj)⟩
  simp only[zX.val]
  rw[Nat.zero_add,Array.getElem?_append_left hlt]
  simp[hlt]
 refine jW (F:={w0:=w,I0:=I,N:=fn.ntmps}) code ac htr hH h fun e s a' w' _ hK hH'=>?_
 obtain ⟨he,t,hst,hr⟩:=hK0 _ _ hK
 obtain ⟨I',β,lam,hI'⟩:=hst _ _ _ hH'
 obtain ⟨xs,hxs,rfl⟩:=MG hr
 have hJ:∀ b o,Seen I' β lam b o→(I b o∨w.heap.size≤b)∧b<w'.heap.size:=by
  intro b o hb
  rcases hb with hb | ⟨k,hb⟩ | ⟨l,p,cap,sz,hl,h0⟩
  ·exact ⟨hI'.Inew b o hb,hI'.Isub b o hb⟩
  ·exact ⟨.inr (hI'.bnew k b hb).1,(hI'.bnew k b hb).2.1⟩
  ·obtain ⟨g1,g2,_⟩:=hI'.ublock hl h0
   exact ⟨.inr g1,g2⟩
 obtain ⟨v,hrun,hRv⟩:=kF (fn:=fn) (rd:=UH t) (Rel:=R0 (fun b o=>(I b o∨w.heap.size≤b)∧b<w'.heap.size) w') (fun rv ra x h1 h2=>by
   obtain ⟨v,g1,g2⟩:=JL hI' h1 h2
   exact ⟨v,g1,g2.mono hJ (fun _ _ _ _ h=>h)⟩) (fun xs vs _ h2 h3=>.tuple xs vs h2 h3) hres hxs
 have hpost:a'.defers=[]∧∃ v,(results fn a'.tmps).run P w'=.ok v w'∧∃ u,Ending.returned v=.returned u∧Below w.heap.size w w'∧R0 (fun b o=>(I b o∨w.heap.size≤b)∧b<w'.heap.size) w' (tup xs) u :=
  ⟨hI'.defers,v,hrun,v,rfl,hI'.below,hRv⟩
 rcases he with rfl | rfl
 ·exact hpost
 ·exact hpost
def aas (ras:List zw) (r:AV):Exit→St→Prop:=fun e s=>(e=.normal∨e=.ret)∧∃ t,St.imp s t∧sI ras t=some r
theorem aat {ras:List zw} {r:AV} {s:St}:aas ras r .ret s=∃ t,St.imp s t∧sI ras t=some r:=by simp[aas]
theorem aeg {f:FuncId} {ac:zc} {ras:List zw} {N:Nat} {args:List AV} {r:AV} (ht:zl P f=some (bare ac,ras,N)) (hn:args.length≤N)
  (h:awp P ac ⟨vg 0 args,[],[],0⟩ (aas ras r)):zd P f args r:=by
 unfold zl at ht
 split at ht
 ·rename_i fn hf
  split at ht
  ·rename_i c hb
   split at ht
   ·rename_i a r' ha hr
    simp only[Option.some.injEq,Prod.mk.injEq] at ht
    obtain ⟨rfl,rfl,rfl⟩:=ht
    exact CV (fun _ _ h=>h) hf hb ha hr hn h
   ·cases ht
  ·cases ht
 ·cases ht
theorem Eo {f:FuncId} {fn:Func} {code:Code} {ac:zc} {n:Nat} {args:List AV} {s:St} {K:AV→St→Prop} (B:Nat) (hf:P.funcs[f]?=some fn) (hb:fn.body=some code)
  (htr:yd P fn.ntmps code=some (bare ac)) (hres:yu (uB P) fn.results.toList=some [.t n]) (hn:args.length≤fn.ntmps)
  (h:awp P ac {env:=vg 0 args,sto:=s.sto,out:=s.env::s.out,base:=B} fun e s'=>(e=.normal∨e=.ret)∧∃ sz m rows e0 o0,s'.get n=.list sz m rows∧s'.out=e0::o0∧K (.list sz m rows) {env:=e0,sto:=s'.sto,out:=o0,base:=s.base}):z0 P f args s K:=by
 intro F a w I β lam hI vs hs hR
 refine calls_of_wp hf hb ?_
 have hH:Holds {w0:=F.w0,I0:=F.I0,N:=fn.ntmps,outs:=a.tmps::F.outs} {env:=vg 0 args,sto:=s.sto,out:=s.env::s.out,base:=B} {tmps:=vs++Array.replicate (fn.ntmps-vs.size) undef,defers:=[]} w:=by
  refine ⟨I,β,lam,?_⟩
  refine {hI with defers:=rfl,size:=by simp; omega,env:=fun t x ht=>?_}
  obtain ⟨d,t⟩:=t
  cases d with
  | zero =>
   obtain ⟨j,rfl,hj⟩:=bF _ _ _ _ ht
   have hlt:j<vs.size:=by
    have:=(List.getElem?_eq_some_iff.1 hj).1
    omega
   refine ⟨vs.getD j undef,?_,hR j x hj⟩
   simp only[zX.val]
   rw[Nat.zero_add,Array.getElem?_append_left hlt]
   simp[hlt]
  | succ d =>
   cases d with
   | zero =>
    obtain ⟨v,h1,h2⟩:=hI.env (0,t) x ht
    exact ⟨v,h1,h2⟩
   | succ d =>
    obtain ⟨v,h1,h2⟩:=hI.env (d+1,t) x ht
    exact ⟨v,h1,h2⟩
 refine jW (F:={w0:=F.w0,I0:=F.I0,N:=fn.ntmps,outs:=a.tmps::F.outs}) code ac htr hH h fun e s' a' w' _ hK hH'=>?_
 obtain ⟨he,sz,m,rows,e0,o0,hg,hout,hK⟩:=hK
 obtain ⟨I',β',lam',hI'⟩:=hH'
 have hget:∀ n,R I' w' β' lam' (s'.get n) (a'.tmps.getD n undef):=fun n=>hI'.opd (.tmp n)
 obtain ⟨v,hrun,hRv⟩:=kF (P:=P) (w:=w') (tmps:=a'.tmps) (fn:=fn) (rd:=fun ra=>match ra with | .t n=>some (s'.get n) | .cell _ _=>none) (Rel:=fun x v=>match x with | .list sz m rows=>R I' w' β' lam' (.list sz m rows) v | _=>True) (fun rv ra x h1 h2=>by
   cases rv with
   | tmp t =>
    simp only[uB,Option.some.injEq] at h1
    subst h1
    simp only[Option.some.injEq] at h2
    subst h2
    refine ⟨_,rfl,?_⟩
    have h3:=hget t
    split
    ·rename_i e; rw[e] at h3; exact h3
    ·trivial
   | cell p t =>
    simp only[uB,Option.map_eq_some_iff] at h1
    obtain ⟨k,hk,rfl⟩:=h1
    cases h2) (fun xs vs h1 h2 h3=>trivial) hres (xs:=[s'.get n]) rfl
 simp only[tup,hg] at hRv
 have hpop:Inv F (St.look {env:=e0,sto:=s'.sto,out:=o0,base:=s.base}) (lk s'.sto) I' β' lam' a w':=by
  refine {hI' with defers:=hI.defers,size:=hI.size,env:=fun t x ht=>?_}
  have key:s'.look (t.1+1,t.2)=some x:=by
   obtain ⟨d,t⟩:=t
   simp only[St.look,hout] at ht ⊢
   cases d with
   | zero=>exact ht
   | succ d=>exact ht
  obtain ⟨v,h1,h2⟩:=hI'.env _ x key
  refine ⟨v,?_,h2⟩
  obtain ⟨d,t⟩:=t
  cases d with
  | zero=>exact h1
  | succ d=>exact h1
 have hpost:a'.defers=[]∧∃ v,(results fn a'.tmps).run P w'=.ok v w'∧∃ u,Ending.returned v=.returned u∧∃ r s' I' β' lam',K r s'∧Inv F s'.look (lk s'.sto) I' β' lam' a w'∧R I' w' β' lam' r u :=
  ⟨hI'.defers,v,hrun,v,rfl,.list sz m rows,_,I',β',lam',hK,hpop,hRv⟩
 rcases he with rfl | rfl
 ·exact hpost
 ·exact hpost
def aaq (n base:Nat) (K:AV→St→Prop):Exit→St→Prop:=fun e s'=>(e=.normal∨e=.ret)∧∃ sz m rows e0 o0,s'.get n=.list sz m rows∧s'.out=e0::o0∧K (.list sz m rows) {env:=e0,sto:=s'.sto,out:=o0,base:=base}
theorem aar {n base:Nat} {K:AV→St→Prop} {s:St}:aaq n base K .ret s=∃ sz m rows e0 o0,s.get n=.list sz m rows∧s.out=e0::o0∧K (.list sz m rows) {env:=e0,sto:=s.sto,out:=o0,base:=base}:=by simp[aaq]
theorem aef {f:FuncId} {ac:zc} {n N:Nat} {args:List AV} {s:St} {K:AV→St→Prop} (B:Nat) (ht:zl P f=some (bare ac,[.t n],N)) (hn:args.length≤N)
  (h:awp P ac {env:=vg 0 args,sto:=s.sto,out:=s.env::s.out,base:=B} (aaq n s.base K)):z0 P f args s K:=by
 unfold zl at ht
 split at ht
 ·rename_i fn hf
  split at ht
  ·rename_i c hb
   split at ht
   ·rename_i a r' ha hr
    simp only[Option.some.injEq,Prod.mk.injEq] at ht
    obtain ⟨rfl,rfl,rfl⟩:=ht
    exact Eo B hf hb ha hr hn h
   ·cases ht
  ·cases ht
 ·cases ht
def St.frozen (k:Nat) (en:ze) (s:St):St:={s with env:=s.env.map fun p=>(p.1,frz k en p.2),sto:=(del [k] s.sto).map fun p=>(p.1,vU k en p.2),out:=s.out.map fun f=>f.map fun p=>(p.1,frz k en p.2)}
theorem GO {F:zX} {I:Nat→Nat→Prop} {w:World} {β:zS} {lam:z5} {a:Act} {s:St} {k:Nat} {en:ze} (hen:lk s.sto k=some en) (h:Inv F s.look (lk s.sto) I β lam a w) (hu:(s.frozen k en).unmet k=true) :
  ∃ I' β' lam',Inv F (s.frozen k en).look (lk (s.frozen k en).sto) I' β' lam' a w∧∀ x v,R I w β lam x v→zT k (frz k en x)=false→R I' w β' lam' (frz k en x) v:=by
 unfold St.frozen at hu ⊢
 obtain ⟨Q,hQe⟩:∃ Q:Prop,Q=∃ I' β' lam',Inv F (St.look {s with env:=s.env.map fun p=>(p.1,frz k en p.2),sto:=(del [k] s.sto).map fun p=>(p.1,vU k en p.2),out:=s.out.map fun f=>f.map fun p=>(p.1,frz k en p.2)}) (lk (St.sto {s with env:=s.env.map fun p=>(p.1,frz k en p.2),sto:=(del [k] s.sto).map fun p=>(p.1,vU k en p.2),out:=s.out.map fun f=>f.map fun p=>(p.1,frz k en p.2)})) I' β' lam' a w∧∀ x v,R I w β lam x v→zT k (frz k en x)=false→R I' w β' lam' (frz k en x) v:=⟨_,rfl⟩
 have hQ:=hQe.mpr
 rw[← hQe]
 have look:∀ t,(St.look {s with env:=s.env.map fun p=>(p.1,frz k en p.2),sto:=(del [k] s.sto).map fun p=>(p.1,vU k en p.2),out:=s.out.map fun f=>f.map fun p=>(p.1,frz k en p.2)}) t=(s.look t).map (frz k en):=by
  intro t
  obtain ⟨f,t⟩:=t
  cases f with
  | zero=>exact uo _ _ _
  | succ f =>
   simp only[St.look,List.getElem?_map]
   cases s.out[f]? with
   | none=>rfl
   | some q=>exact uo _ _ _
 have main:∀ (X:Nat→Nat→Prop),(∀ b o,X b o→F.w0.heap.size≤b∧b<w.heap.size∧(∀ k',ws β [k] k'≠some b) ∧
    ∀ l o' len cap sz c,nu lam en.isU [k] l=some (some ⟨b,o',none⟩,len,cap,sz)→o=o'+c→len*sz≤c→c<cap*sz→False) →
   PL I (fun b o=>I b o∨X b o) w β lam k en→Q:=by
  intro X hX hF
  refine hQ ⟨_,ws β [k],nu lam en.isU [k],h.forget X rfl (fun k b hk=>(wJ hk).1) (fun l q hq=>(gl hq).1) hX (fun t x ht=>?_) (fun k' en' hk hU=>?_) (fun l sz rows hk=>?_) (fun k' b hk=>?_),fun x v hx hn=>bq hF hx hn⟩
  ·have hn:=aF hu ht
   rw[look] at ht
   simp only[Option.map_eq_some_iff] at ht
   obtain ⟨x',ht,rfl⟩:=ht
   obtain ⟨v,h1,h2⟩:=h.env t x' ht
   exact ⟨v,h1,bq hF h2 hn⟩
  ·have hn:=n6 hu hk
   obtain ⟨en0,h1,h2,rfl⟩:=eM hk
   rw[bp] at hU
   obtain ⟨b,hb,hE⟩:=h.sto k' en0 h1 hU
   refine ⟨b,by unfold ws; rw[if_neg (by simpa using h2)]; exact hb,?_⟩
   cases en0 with
   | var cells =>
    intro j c hj
    have hc:=fV hn hj
    simp only[List.getElem?_map,Option.map_eq_some_iff] at hj
    obtain ⟨c',hj,rfl⟩:=hj
    obtain ⟨v,g1,g2,g3,g4⟩:=hE j c' hj
    exact ⟨v,g1,g2,g3,bq hF g4 hc⟩
   | arr sz rows =>
    refine ⟨hE.1,fun i r j c hi hj=>?_⟩
    obtain ⟨v,g1,g2,g3,g4⟩:=hE.2 i r j c hi hj
    exact ⟨v,g1,g2,g3,g4.mono hF.sub (fun _ _ _ _ h=>h)⟩
   | uarr sz rows=>cases hU
   | map es clock=>exact hE
  ·have hn:=n6 hu hk
   obtain ⟨en0,h1,h2,e⟩:=eM hk
   cases en0 with
   | var cells=>cases e
   | arr sz rows=>cases e
   | map es clock=>cases e
   | uarr sz0 rows0 =>
    cases e
    obtain ⟨av,cap,g1,g2,g3,g4⟩:=h.usto l _ _ h1
    refine ⟨av,cap,by unfold nu; rw[if_neg (by simp[h2])]; exact g1,by simpa using g2,fun i r hi=>?_,fun hne=>?_⟩
    ·simp only[List.getElem?_map,Option.map_eq_some_iff] at hi
     obtain ⟨r0,hi,rfl⟩:=hi
     rw[List.length_map]; exact g3 i r0 hi
    ·obtain ⟨b,q,rfl,g5⟩:=g4 (by intro e; subst e; exact hne rfl)
     refine ⟨b,q,rfl,fun i r j c hi hj=>?_⟩
     have hc:=fV (jy hn r (List.mem_iff_getElem?.2 ⟨i,hi⟩)) hj
     simp only[List.getElem?_map,Option.map_eq_some_iff] at hi
     obtain ⟨r0,hi,rfl⟩:=hi
     simp only[List.getElem?_map,Option.map_eq_some_iff] at hj
     obtain ⟨c',hj,rfl⟩:=hj
     obtain ⟨v,q1,q2,q3⟩:=g5 i r0 j c' hi hj
     exact ⟨v,q1,q2,bq hF q3 hc⟩
  ·obtain ⟨h1,h2⟩:=wJ hk
   obtain ⟨en',hen',hU⟩:=h.bdom k' b h1
   refine ⟨vU k en en',?_,by rw[bp]; exact hU⟩
   simp only
   rw[uo,um,if_neg (by rw[h2]; simp),hen']
   rfl
 cases hU:en.isU with
 | false =>
  obtain ⟨b,hb,hE⟩:=h.sto k en hen hU
  refine main (fun b' _=>b'=b) ?_ ⟨fun b o hi=>.inl hi,fun _=>⟨b,hb,hE,fun o=>.inr rfl⟩,fun sz rows e=>by subst e; cases hU⟩
  rintro b' o rfl
  obtain ⟨g1,g2,g3⟩:=h.bnew k b' hb
  refine ⟨g1,g2,fun k' hk'=>?_,fun l o' len cap sz c hl _ h1 h2=>?_⟩
  ·obtain ⟨q1,q2⟩:=wJ hk'
   have:=h.binj k k' b' hb q1
   subst this
   simp at q2
  ·obtain ⟨b2,o'',e1,_,_,_,_,e6⟩:=h.spare l _ len cap sz (gl hl).1 c h1 h2
   simp only[Option.some.injEq,Addr.mk.injEq] at e1
   obtain ⟨rfl,_⟩:=e1
   exact e6 k hb
 | true =>
  cases en with
  | var cells=>cases hU
  | arr sz rows=>cases hU
  | map es clock=>cases hU
  | uarr sz rows =>
   have hR:=h.usto k _ _ hen
   refine main (fun b q=>∃ o cap,lam k=some (some ⟨b,o,none⟩,0,cap,sz)∧o≤q∧q<o+cap*sz) ?_
    ⟨fun b o hi=>.inl hi,fun hf=>(by cases hf),fun sz' rows' e=>by cases e; exact ⟨hR,fun b o cap q hl hq=>.inr ⟨o,cap,hl,by omega,by omega⟩⟩⟩
   rintro b q ⟨o,cap,hl,h1,h2⟩
   obtain ⟨g1,g2,g3,_⟩:=h.ublock hl (by omega)
   refine ⟨g1,g2,fun k' hk'=>g3 k' (wJ hk').1,fun l o' len cap' sz' c hl' _ q1 q2=>?_⟩
   obtain ⟨q3,q4⟩:=gl hl'
   have hne:k≠l:=by
    intro e; subst e
    simp[ze.isU] at q4
   exact h.ldis k l b o o' 0 len cap cap' sz sz' hne hl q3 (by omega) (by omega)
theorem z0.frz {f:FuncId} {xs:List AV} {s:St} {K:AV→St→Prop} {k:Nat} {en:ze} (hen:lk s.sto k=some en) (hu:(s.frozen k en).unmet k=true) (hx:∀ x∈xs,zT k (frz k en x)=false)
  (hc:z0 P f (xs.map (Am.frz k en)) (s.frozen k en) K):z0 P f xs s K:=by
 intro F a w I β lam hI vs hs hR
 obtain ⟨I',β',lam',h1,h2⟩:=GO hen hI hu
 refine hc F a w I' β' lam' h1 vs (by simpa using hs) fun i y hy=>?_
 simp only[List.getElem?_map,Option.map_eq_some_iff] at hy
 obtain ⟨x,hy,rfl⟩:=hy
 exact h2 x _ (hR i x hy) (hx x (List.mem_iff_getElem?.2 ⟨i,hy⟩))
theorem acz {α:Type} {D:List Nat} {f:α→α} (l:List (Nat × α)):(del D l).map (fun p=>(p.1,f p.2))=del D (l.map fun p=>(p.1,f p.2)):=by
 induction l with
 | nil=>rfl
 | cons p l ih =>
  obtain ⟨k,x⟩:=p
  simp only[del,List.map_cons]
  split
  ·exact ih
  ·rw[List.map_cons,ih]
theorem ZY {k:Nat} {D:List Nat}:∀ {l:List (Nat × AV)},uX k l=true→uX k (del D l)=true
 | [],_=>rfl
 | (n,x)::l,h=>by
  simp only[uX,Bool.and_eq_true] at h
  simp only[del]
  split
  ·exact ZY h.2
  ·simp only[uX,Bool.and_eq_true]
   exact ⟨h.1,ZY h.2⟩
end
theorem Nk {α:Type} {A B:List Nat}:∀ {l:List (Nat × α)},del A (del B l)=del B (del A l)
 | []=>rfl
 | (n,x)::l=>by
  have ih:=Nk (A:=A) (B:=B) (l:=l)
  by_cases ha:A.elem n=true<;>by_cases hb:B.elem n=true<;>simp only[del,ha,hb,if_true,if_false,Bool.false_eq_true]<;>simp only[ih]
theorem XD {k:Nat} {en:ze} {D:List Nat} {s:St}:St.frozen k en (s.mask D)=(St.frozen k en s).mask D:=by
 unfold St.frozen St.mask
 simp only[acz,St.nm]
 rw[Nk]
theorem bP {k:Nat} {D:List Nat}:∀ {l:List (Nat × ze)},vt k l=true→vt k (del D l)=true
 | [],_=>rfl
 | (n,x)::l,h=>by
  simp only[vt,Bool.and_eq_true] at h
  simp only[del]
  split
  ·exact bP h.2
  ·simp only[vt,Bool.and_eq_true]
   exact ⟨h.1,bP h.2⟩
theorem F6 {k:Nat} {D:List Nat} {s:St} (h:s.unmet k=true):(s.mask D).unmet k=true:=by
 simp only[St.unmet,Bool.and_eq_true] at h ⊢
 exact ⟨⟨ZY h.1.1,bP h.1.2⟩,h.2⟩
theorem Rt {k j:Nat} {en:ze} {s:St} (h:lk s.sto j=none):lk (s.frozen k en).sto j=none:=by
 unfold St.frozen
 simp only
 rw[uo,um]
 split
 ·rfl
 ·rw[h]; rfl
end Go.Am

namespace Go.Proofs.YtjeoklgggppjiaaGreat
open Go Go.Am Go.Pb Go.LP Go.Dig
theorem bO {n:Int} (h1:-4294967296<n) (h2:n<4294967296):zd Tryz.prog xB [iv n] (fq (-(n:Rat))):=by
 refine zx Yx (by simp) ?_
 simp[jc]
 refine za (yf (n:=n) (by omega) (by omega)) (by simp) (by simp) ?_
 simp
 refine za (T1 (p:=(n:Rat)) (K:=32) (by decide) (tY (by omega))) (by simp) (by simp) ?_
 simp[jn]
noncomputable def wU (A:Nat→Nat→Rat) (b:Nat→Rat) (r j k:Nat):List (List AV):=mR (fun i=>apc (1000000+i) 3 (fR (A i) (if i<j then r+1 else r))::fr (b i)) k
section
variable {A:Nat→Nat→Rat} {b:Nat→Rat} {r j k l:Nat}
@[simp] theorem aks:(wU A b r j k).length=k:=ql
theorem aeS:wU A b r k k=wU A b (r+1) 0 k:=wZ fun i hi=>by rw[if_pos hi,if_neg (Nat.not_lt_zero i)]
theorem Xj {h:j<(wU A b r j k).length}:(wU A b r j k)[j]=apc (1000000+j) 3 (fR (A j) r)::fr (b j):=by
 have:=lI (g:=fun i=>apc (1000000+i) 3 (fR (A i) (if i<j then r+1 else r))::fr (b i)) (n:=k) (hi:=h)
 simp only[Nat.lt_irrefl,if_false] at this
 exact this
theorem afr {q:Rat}:(fr q).map (dg l)=fr q:=by simp
theorem NG {q:Rat} {a b:Nat}:(fr q).map (rn a b)=fr q:=by simp
theorem Bo {x:AV} (hj:j<k) (hx:x=apc (1000000+j) 3 (fR (A j) (r+1))):(zR (1000000+j) (wU A b r j k)).set j (x::fr (b j))=wU A b r (j+1) k:=by
 have h1:zR (1000000+j) (wU A b r j k)=mR (fun i=>dg (1000000+j) (apc (1000000+i) 3 (fR (A i) (if i<j then r+1 else r)))::fr (b i)) k:=t6 fun i hi=>by simp
 rw[h1,d9]
 refine wZ fun i hi=>?_
 unfold upd
 by_cases e:i=j
 ·subst e; rw[if_pos rfl,if_pos (by omega),hx]
 ·rw[if_neg e]
  show dg (1000000+j) (apc (1000000+i) 3 _)::_=_
  rw[rR (by omega)]
  by_cases h:i<j
  ·rw[if_pos h,if_pos (by omega)]
  ·rw[if_neg h,if_neg (by omega)]
theorem LC {t:Nat} (hj:j<k):∃ y,(zR t (wU A b r j k))[j]?=some (y::fr (b j)):=by
 refine ⟨dg t (apc (1000000+j) 3 (fR (A j) r)),?_⟩
 have h1:(wU A b r j k)[j]?=some (apc (1000000+j) 3 (fR (A j) r)::fr (b j)):=by
  rw[List.getElem?_eq_getElem (by simpa using hj),Xj]
 unfold zR
 rw[List.getElem?_map,h1]
 simp
theorem Gg {cs:List AV}:cellsOf (.agg cs)=some cs:=rfl
theorem SZ {t:Nat} (h:t<1000000):zR t (wU A b r j k)=wU A b r j k:=t6 fun i hi=>by
 rw[List.map_cons,rR (by omega),afr]
theorem agB {t:Nat} (h:t<1000000) (hj:j<k):((wU A b r j k).set j (.list 3 (.own t) (fR (A j) (r+1))::fr (b j))).map (fun x=>x.map (rn t (1000000+j)))=wU A b r (j+1) k:=by
 unfold wU
 rw[d9]
 refine t6 fun i hi=>?_
 unfold upd
 by_cases e:i=j
 ·subst e
  rw[if_pos rfl,if_pos (by omega),List.map_cons,NG,Se,sw,if_pos rfl,ti (by simp)]
 ·rw[if_neg e,List.map_cons,NG]
  have:∀ R,rn t (1000000+j) (apc (1000000+i) 3 R)=apc (1000000+i) 3 R:=fun R=>by
   unfold apc
   split
   ·rfl
   ·rw[Se,sw,if_neg (by omega),if_neg (by omega)]
  rw[this]
  by_cases h:i<j
  ·rw[if_pos h,if_pos (by omega)]
  ·rw[if_neg h,if_neg (by omega)]
theorem af2 {P:Pb} {c o:AV} {a b:Nat}:(pbX P c o).map (rn a b)=pbX P (rn a b c) (rn a b o):=by rw[yX,yX]; rfl
@[simp] theorem akt:yL l (wU A b r j k)=false:=d8 fun i=>by simp
end
theorem PS {d tok sz by_:Nat} {s:St} {KS:St→Prop} {rows:List (List AV)} {m:Am.Mode} {x:List AV} (h0:0<sz) (h1:s.base+d=tok) (h2:(rows.length+1)*by_≤140737488355328) (h3:rows.length+1≤9223372036854775807) (h4:lk s.sto tok=none)
  (hK:KS ((s.dg tok).put (some d) (apc tok sz (rows++[x])))):xH sz by_ s (some d) KS [apc tok sz rows,.list sz m [x]]:=by
 have h5:apc tok sz (rows++[x])=.list sz (.own tok) (rows++[x]):=ti (by simp)
 rw[h5] at hK
 by_cases e:rows.length=0
 ·have:rows=[]:=List.eq_nil_of_length_eq_zero e
  subst this
  rw[nK rfl,Np,h1]
  simp only[List.nil_append,List.length_nil,List.length_cons,List.length_nil] at hK h2 h3 ⊢
  exact ⟨.inr trivial,h0,by omega,by omega,.inl trivial,h4,hK⟩
 ·rw[ti e,LR]
  exact ⟨.inr rfl,h0,by simpa using h2,by simpa using h3,rfl,h4,hK⟩
noncomputable def sgP (P:Pb) (V:Int) (r j g:Nat):List (Nat × ze) :=
 [(2,.var (pbC P)),(4,.var [z7,z7]),(5,.var (fr 0)),(6,.var [apc 1043 3 (fR (fun _=>0) g),.us 32 4 0 P.of.length]),(7,.var (apc 1050 3 (fR (fun i=>((P.bnd i:Int):Rat)) g)::fr (V:Rat))),(32,.uarr 4 (wU P.sA (P.sB V) r j P.of.length))]
noncomputable def stQ (P:Pb) (V:Int) (r:Nat) (out:List (List (Nat × AV))) (j:Nat):St :=
 {env:=[(1,.ptr 2 0),(2,.ptr 6 0),(3,.ptr 5 0),(4,.ptr 7 0),(7,iv (P.bnd r)),(16,clA (nE P r)),(17,iv P.of.length),(18,iv j)],sto:=sgP P V r j r,out:=out,base:=1000}
theorem aiu {P:Pb} {V:Int} {r:Nat} (hn:P.cl.length≤1000) (hk:P.of.length≤1000000) (hc:P.chk=0) (hr:r<P.rows) {s:St} {K:AV→St→Prop} (hs:s.sto=sgP P V r 0 r) (hE:yH 1000 s.env) (hO:ym 1000 s.out)
  (h:K (.tuple []) ⟨s.env,sgP P V (r+1) 0 (r+1),s.out,s.base⟩):z0 Tryz.prog vL [iv r,.ptr 2 0,.ptr 6 0,.ptr 5 0,.ptr 7 0] s K:=by
 obtain ⟨env,σ,out,base⟩:=s
 simp only at hs hE hO h
 subst hs
 have hG:=xQ hc
 have krow:=abT (P:=P) (r:=(r:Int)) hn hk
 have e0:(0:Int)≤r∧(r:Int)<(tn P:Nat):=by unfold tn; rw[if_pos hc]; omega
 unfold Fo at krow
 rw[if_pos e0,if_pos e0,Int.toNat_natCast] at krow
 have hbo:=Zp hG hr
 refine vb 1000 Xm (by simp) ?_
 simp[jR,sgP]
 refine za krow (by simp) (by simp) ?_
 simp
 refine v9 (stQ P V r (env::out)) (fun _=>True) P.of.length (St.imp_of (by simp[stQ,sgP])) trivial (fun j hj _=>?_) (fun _=>?_)
 ·have e:(j:Int)<P.of.length:=by omega
  have w:=zn (k:=j) (by omega)
  have hm:P.of[j]∈P.of:=List.getElem_mem hj
  have hs:=yG (yp (hG.off _ hm)).1
  have hcf:=uK hs.2.2 hr
  have hA:-((P.coef r P.of[j]:Int):Rat)=P.sA j r:=by
   unfold Pb.sA Pb.cof
   rw[if_pos hj,if_pos hr,pF hj]
  obtain ⟨c,hcc⟩:∃ c,P.coef r P.of[j]=c:=⟨_,rfl⟩
  rw[hcc] at hcf hA
  have hrl:∀ h,(nE P r)[j]'h=c:=fun h=>by simp[nE,hcc]
  have kn:=bO (n:=c) (by omega) (by omega)
  rw[hA] at kn
  have hf:1000≤1000000+j:=by omega
  have hd0:=ll (k:=1000000+j) hE hf
  have hd1:=jD (k:=1000000+j) hO hf
  have hd2:∀ R,dg (1000000+j) (apc 1043 3 R)=apc 1043 3 R:=fun R=>rR (by omega)
  have hd3:∀ R,dg (1000000+j) (apc 1050 3 R)=apc 1050 3 R:=fun R=>rR (by omega)
  have n0:∀ q,q<1000000→¬ q=1000000+j:=fun q hq=>by omega
  have hs1:fR (P.sA j) r++[fr (P.sA j r)]=fR (P.sA j) (r+1):=vB.symm
  have hset:=Bo (A:=P.sA) (b:=P.sB V) (r:=r) (x:=.list 3 (.own (1000000+j)) (fR (P.sA j) (r+1))) hj (ti (by simp)).symm
  by_cases r0:r=0
  ·have ha:apc (1000000+j) 3 (fR (P.sA j) r)=z7:=nK (by simp[r0])
   have hb1:apc 1043 3 (fR (fun _=>0) r)=z7:=nK (by simp[r0])
   have hb2:apc 1050 3 (fR (fun i=>((P.bnd i:Int):Rat)) r)=z7:=nK (by simp[r0])
   have hs2:[fr (P.sA j r)]=fR (P.sA j) (r+1):=by rw[← hs1,r0]; rfl
   obtain ⟨y,hy⟩:=LC (A:=P.sA) (b:=P.sB V) (r:=r) (t:=1035) hj
   rw[SZ (by decide)] at hy
   have hd4:=ll (k:=1035) hE (by decide)
   have hd5:=jD (k:=1035) hO (by decide)
   simp[vT,stQ,sgP,e,hj,hrl,Xj]
   refine za kn (by simp) (by simp) ?_
   simp[ha,hb1,hb2,-dgE,xy,xj,hd4,hd5,hs2,w,SZ,hy]
   refine ⟨by omega,by omega,hj,St.imp.trans (St.imp_rn 1035 (1000000+j)) ?_⟩
   have q1:=d6 (k:=1035) (by omega) (j:=1000000+j) (by omega) hE
   have q2:=YZ (k:=1035) (by omega) (j:=1000000+j) (by omega) hO
   have q3:∀ l,l<1000000→¬ l=1035→sw 1035 (1000000+j) l=l:=fun l h1 h2=>by unfold sw; rw[if_neg h2,if_neg (by omega)]
   have q4:=agB (A:=P.sA) (b:=P.sB V) (r:=r) (t:=1035) (by decide) hj
   simp only[St.rn,List.map_cons,List.map_nil,q1,q2,q3,q4,af2,Y7,b9,MI,PC,Sf,aa,JQ,NG,Nat.reduceLT,Nat.reduceEqDiff,not_false_eq_true]
   simp[stQ,sgP,hb1,hb2]
   exact St.imp.refl
  ·have ha:apc (1000000+j) 3 (fR (P.sA j) r)=.list 3 (.own (1000000+j)) (fR (P.sA j) r):=ti (by simpa using r0)
   simp[vT,stQ,sgP,e,hj,hrl,Xj]
   refine za kn (by simp) (by simp) ?_
   obtain ⟨y,hy⟩:=LC (A:=P.sA) (b:=P.sB V) (r:=r) (t:=1000000+j) hj
   have hrb:r<1000000:=by have:=hG.n; unfold Pb.rows at hr; omega
   simp[ha,n0,-dgE,xy,xj,hd0,hd1,hd2,hd3,hs1,hset,w,hy]
   exact ⟨by omega,by omega,hj,by simp[stQ,sgP]; exact St.imp.refl⟩
 ·have hd4:=ll (k:=1043) hE (by decide)
  have hd5:=jD (k:=1043) hO (by decide)
  have hd6:=ll (k:=1050) hE (by decide)
  have hd7:=jD (k:=1050) hO (by decide)
  have hrb:r<1000000:=by have:=hG.n; unfold Pb.rows at hr; omega
  have kb:zd Tryz.prog zE [iv (P.bnd r)] (fq ((P.bnd r:Int):Rat)):=yf (n:=P.bnd r) (by omega) (by omega)
  have hx1:∀ R,dg 1043 (apc 1050 3 R)=apc 1050 3 R:=fun R=>rR (by decide)
  have hx2:∀ R,dg 1050 (apc 1043 3 R)=apc 1043 3 R:=fun R=>rR (by decide)
  have hs1:fR (fun _=>0) r++[fr 0]=fR (fun _=>0) (r+1):=vB.symm
  have hs2:fR (fun i=>((P.bnd i:Int):Rat)) r++[fr ((P.bnd r:Int):Rat)]=fR (fun i=>((P.bnd i:Int):Rat)) (r+1):=vB.symm
  simp[vT,mB,stQ,sgP,jS]
  refine PS (by decide) rfl (by simp; omega) (by simp; omega) (by simp) ?_
  rw[hs1]
  simp[-cellsOf,-dgE,xy,xj,hd4,hd5,hx1,SZ]
  refine za kb (by simp) (by simp) ?_
  simp[-cellsOf,Gg]
  refine PS (by decide) rfl (by simp; omega) (by simp; omega) (by simp) ?_
  rw[hs2]
  simp[-cellsOf,-dgE,xy,xj,hd6,hd7,hx2,SZ]
  rw[aeS]
  simpa [sgP] using h
theorem acN {P:Pb} {V:Int}:yF (wU P.sA (P.sB V) P.rows P.of.length P.of.length++[.list 3 .plain (fR (fun i=>((P.bnd i:Int):Rat)) P.rows++[fr 0])::fr (V:Rat)])=true:=by
 have h1:yF (wU P.sA (P.sB V) P.rows P.of.length P.of.length)=true:=d7 fun i=>by simp
 unfold yF at h1 ⊢
 rw[List.all_append,h1]
 simp
theorem acO {P:Pb} {V:Int}:zQ (wU P.sA (P.sB V) P.rows P.of.length P.of.length++[.list 3 .plain (fR (fun i=>((P.bnd i:Int):Rat)) P.rows++[fr 0])::fr (V:Rat)])=pR P.sA (P.sB V) (P.rows+1) (P.of.length+1):=by
 have h1:zQ (wU P.sA (P.sB V) P.rows P.of.length P.of.length)=pR P.sA (P.sB V) (P.rows+1) P.of.length:=t6 fun i hi=>by
  rw[if_pos hi,List.map_cons,Ed,plc,if_neg (by simp)]
  simp[fr,-sY]
 have h2:fR (fun i=>((P.bnd i:Int):Rat)) P.rows++[fr 0]=fR (P.sA P.of.length) (P.rows+1):=by
  have e:P.sA P.of.length P.rows=0:=by unfold Pb.sA; rw[if_neg (Nat.lt_irrefl _),if_neg (Nat.lt_irrefl _)]
  rw[vB,e]
  congr 1
  exact xl fun j hj=>by unfold Pb.sA; rw[if_neg (Nat.lt_irrefl _),if_pos hj]
 have h3:P.sB V P.of.length=(V:Rat):=if_neg (Nat.lt_irrefl _)
 unfold zQ at h1 ⊢
 rw[List.map_append,h1,h2]
 unfold pR
 rw[ca,h3]
 simp[fr,-sY]
noncomputable def rwM (b:Nat→Rat) (k:Nat):List (List AV):=mR (fun i=>z7::fr (b i)) k
section
variable {b:Nat→Rat} {k l:Nat}
@[simp] theorem ajy:(rwM b k).length=k:=ql
theorem agd:zR l (rwM b k)=rwM b k:=t6 fun i hi=>by simp
@[simp] theorem ajz:yL l (rwM b k)=false:=d8 fun i=>by simp
theorem age {A:Nat→Nat→Rat}:rwM b k=wU A b 0 0 k:=wZ fun i hi=>by rw[if_neg (Nat.not_lt_zero i),nK rfl]
end
theorem GD {m:Am.Mode} {R:List (List AV)} {a b c d n:Nat}:zB [.list n m R,.us a b c d] 0 (some 2)=some (.raw [.list n m R,.us a b c d]):=by simp[zB]
theorem afS:yJ Tryz.prog vL=true:=by kernel_rfl
theorem ac7 {M:Nat} {f:FuncId} {caps:List AV}:Am.low M (.fn (.func f) caps)=caps.all (xa M):=rfl
noncomputable def Sv (P:Pb) (V:Int) (k:Nat):St :=
 {env:=[(2,.ptr 2 0),(4,.ptr 4 0),(5,.ptr 5 0),(6,.ptr 6 0),(7,.ptr 7 0),(19,ofA P.of),(20,iv P.of.length),(21,iv k)],
  sto:=[(2,.var (pbC P)),(4,.var [z7,z7]),(5,.var (fr 0)),(6,.var [z7,.us 32 4 0 k]),(7,.var (z7::fr (V:Rat))),(32,.uarr 4 (rwM (P.sB V) k))]}
noncomputable def fnB:AV:=.fn (.func vL) [.ptr 2 0,.ptr 6 0,.ptr 5 0,.ptr 7 0]
noncomputable def Sw (P:Pb) (V:Int) (r:Nat):St :=
 {env:=[(4,.ptr 4 0),(5,.ptr 5 0),(6,.ptr 6 0),(7,.ptr 7 0),(10,fnB),(37,iv P.rows),(38,iv r)],sto:=sgP P V r 0 r}
noncomputable def sgQ (P:Pb) (V:Int) (j:Nat):List (Nat × ze) :=
 [(4,.var [z7,z7]),(5,.var (fr 0)),(6,.var [.list 3 (.own 1043) (fR (fun _=>0) P.rows),.us 32 4 0 P.of.length]),(7,.var (.list 3 (.own 1050) (fR (fun i=>((P.bnd i:Int):Rat)) P.rows)::fr (V:Rat))),(32,.uarr 4 (wU P.sA (P.sB V) P.rows j P.of.length))]
noncomputable def Sx (P:Pb) (V:Int) (j:Nat):St :=
 {env:=[(4,.ptr 4 0),(5,.ptr 5 0),(6,.ptr 6 0),(7,.ptr 7 0),(47,iv P.of.length),(48,iv j)],sto:=sgQ P V j}
theorem aci {P:Pb} {V:Int} {ch:AV} (hn:P.cl.length≤1000) (hk:P.of.length≤1000000) (hc:P.chk=0) (hV:-9223372036854775808≤V∧V<9223372036854775808) :
  zd Tryz.prog ml [.agg (pbC P),.agg [ch,iv V]] (pA P.sA (P.sB V) P.sG (P.rows+1) (P.of.length+1)):=by
 have g0:zd Tryz.prog zE [iv 0] (fq 0):=yf (n:=0) (by decide) (by decide)
 have gV:zd Tryz.prog zE [iv V] (fq (V:Rat)):=yf hV.1 hV.2
 have hG:=xQ hc
 refine aeg SV (by simp) ?_
 simp[eD]
 refine za g0 (by simp) (by simp) ?_
 simp
 refine za gV (by simp) (by simp) ?_
 simp
 refine v9 (Sv P V) (fun _=>True) P.of.length ?_ trivial (fun k hk' _=>?_) (fun _=>?_)
 ·refine St.imp.trans (St.imp_tok 32 4 (by simp)) ?_
  simp[St.dg]
  refine St.imp.trans (St.imp_cell_nil (k:=6) (j:=1) (l:=32) (sz:=4) (by simp; rfl) (by simp; rfl) (by simp)) ?_
  simp[Sv,rwM,ac9]
  exact St.imp.refl
 ·have e:(k:Int)<P.of.length:=by omega
  have w:=zn (k:=k) (by omega)
  have hm:P.of[k]∈P.of:=List.getElem_mem hk'
  have hs:=yG (yp (hG.off _ hm)).1
  have kn:=bO (n:=P.of[k].v) (by omega) (by omega)
  have hb:-((P.of[k].v:Int):Rat)=P.sB V k:=by
   unfold Pb.sB Pb.vQ
   rw[if_pos hk',pF hk']
  rw[hb] at kn
  have hap:rwM (P.sB V) k++[z7::fr (P.sB V k)]=rwM (P.sB V) (k+1):=ca.symm
  simp[qd,Sv,e,hk']
  refine za kn (by simp) (by simp) ?_
  simp[w,hap,agd]
  exact ⟨by omega,by omega,by simp[Sv]; exact St.imp.refl⟩
 ·have kR:=JS (P:=P) hn hk
  rw[show tn P=P.rows by unfold tn; rw[if_pos hc]] at kR
  have hrb:P.rows<1000000:=by have:=hG.n; unfold Pb.rows; omega
  simp[qd,Sv,jb]
  refine za kR (by simp) (by simp) ?_
  simp
  refine v9 (Sw P V) (fun _=>True) P.rows ?_ trivial (fun r hr _=>?_) (fun _=>?_)
  ·rw[age (A:=P.sA)]
   refine St.imp_of ?_
   simp[Sw,sgP,fnB,Rk]
  ·have e:(r:Int)<P.rows:=by omega
   have w:=zn (k:=r) (by omega)
   simp[qe,Sw,e,fnB,afS]
   refine z9 (aiu hn hk hc hr rfl (by simp[yt,yO,mF,xz,ac7,xa]) (by simp[ym]) ?_)
   simp[w,Sw,fnB]
   exact St.imp.refl
  ·have r0:¬ P.rows=0:=by unfold Pb.rows; omega
   have ha1:apc 1043 3 (fR (fun _=>0) P.rows)=.list 3 (.own 1043) (fR (fun _=>0) P.rows):=ti (by simpa using r0)
   have ha2:apc 1050 3 (fR (fun i=>((P.bnd i:Int):Rat)) P.rows)=.list 3 (.own 1050) (fR (fun i=>((P.bnd i:Int):Rat)) P.rows):=ti (by simpa using r0)
   have km:zd Tryz.prog xB [iv 1] (fq (-1)):=bO (n:=1) (by decide) (by decide)
   simp[qe,Sw,sgP,fnB,ja,ha1,ha2]
   refine v9 (Sx P V) (fun _=>True) P.of.length (St.imp_of (by simp[Sx,sgQ])) trivial (fun j hj _=>?_) (fun _=>?_)
   ·have e:(j:Int)<P.of.length:=by omega
    have w:=zn (k:=j) (by omega)
    have hA:P.sA j P.rows=-1:=by
     unfold Pb.sA
     rw[if_pos hj,if_neg (Nat.lt_irrefl _)]
    have hd2:∀ R,dg (1000000+j) (.list 3 (.own 1043) R)=.list 3 (.own 1043) R:=fun R=>by rw[Nm,if_neg (by omega)]
    have hd3:∀ R,dg (1000000+j) (.list 3 (.own 1050) R)=.list 3 (.own 1050) R:=fun R=>by rw[Nm,if_neg (by omega)]
    have n0:∀ q,q<1000000→¬ q=1000000+j:=fun q hq=>by omega
    have hs1:fR (P.sA j) P.rows++[fr (-1)]=fR (P.sA j) (P.rows+1):=by rw[← hA]; exact vB.symm
    have hset:=Bo (A:=P.sA) (b:=P.sB V) (r:=P.rows) (x:=.list 3 (.own (1000000+j)) (fR (P.sA j) (P.rows+1))) hj (ti (by simp)).symm
    have ha:apc (1000000+j) 3 (fR (P.sA j) P.rows)=.list 3 (.own (1000000+j)) (fR (P.sA j) P.rows):=ti (by simpa using r0)
    obtain ⟨y,hy⟩:=LC (A:=P.sA) (b:=P.sB V) (r:=P.rows) (t:=1000000+j) hj
    simp[qf,Sx,sgQ,e,hj,Xj]
    refine za km (by simp) (by simp) ?_
    simp[ha,n0,-dgE,-Nm,xy,xj,hd2,hd3,hs1,hset,w,hy]
    exact ⟨by omega,by omega,hj,by simp[Sx,sgQ]; exact St.imp.refl⟩
   ·simp[qf,Sx,sgQ,k9]
    refine za km (by simp) (by simp) ?_
    have hnl:=hG.k
    have hrb2:P.rows≤20:=by have:=hG.n; unfold Pb.rows; omega
    have hl1:zR 32 [.list 3 .plain (fR (fun i=>((P.bnd i:Int):Rat)) P.rows++[fr 0])::fr (V:Rat)]=[.list 3 .plain (fR (fun i=>((P.bnd i:Int):Rat)) P.rows++[fr 0])::fr (V:Rat)]:=by simp[zR]
    have hl2:yL 7 [.list 3 .plain (fR (fun i=>((P.bnd i:Int):Rat)) P.rows++[fr 0])::fr (V:Rat)]=false:=by simp
    simp[SZ,ab,hl1,Xn,GD]
    refine ⟨by omega,by omega,by omega,by omega,by omega,by omega,?_⟩
    rw[aat]
    obtain ⟨R,hR⟩:∃ R,wU P.sA (P.sB V) P.rows P.of.length P.of.length++[.list 3 .plain (fR (fun i=>((P.bnd i:Int):Rat)) P.rows++[fr 0])::fr (V:Rat)]=R:=⟨_,rfl⟩
    have hRl:R.length=P.of.length+1:=by rw[← hR]; simp
    have hRf:yF R=true:=by rw[← hR]; exact acN
    have hRs:zQ R=pR P.sA (P.sB V) (P.rows+1) (P.of.length+1):=by rw[← hR]; exact acO
    have hgl:fR (fun _=>0) P.rows++[fr (-1)]=fR P.sG (P.rows+1):=by
     rw[vB,show P.sG P.rows=-1 from if_neg (Nat.lt_irrefl _)]
     congr 1
     exact xl fun j hj=>(if_pos hj).symm
    have hRt:R.take (P.of.length+1)=R:=List.take_of_length_le (by omega)
    rw[hR,hgl]
    refine ⟨⟨[(4,.ptr 4 0)],[(4,.var [.list 3 (.own 1043) (fR P.sG (P.rows+1)),.list 4 .plain (pR P.sA (P.sB V) (P.rows+1) (P.of.length+1))])],[],0⟩,?_,?_⟩
    ·refine St.imp_gone (k:=32) (e:=.uarr 4 R) (by simp) (by simp[lu]) ?_ rfl rfl ?_
     ·simp[del,vI,hRl,hRf,hRs,hRt,frz]
     ·simp[St.unmet]
    ·simp[eX]
noncomputable def pC (P:Pb) (ch:List Int) (k:Nat):St:={env:=[(1,clA ch),(2,.ptr 2 0),(6,apc 55 8 (ofR (P.pick (ch.take k)))),(7,iv k)],sto:=[(2,.var (pbC P))]}
section
variable {P:Pb} {ch:List Int}
theorem Yc (hk:P.of.length≤1000000) (ok:okP P.of.length ch):zd Tryz.prog tu [.agg (pbC P),clA ch] (.tuple [ofA (P.pick ch),bv true]):=by
 have hl:=qX ok
 refine vc cr (by simp) ?_
 simp[lg]
 have h0:apc 55 8 (ofR (P.pick (ch.take 0)))=.list 0 .full []:=by rw[List.take_zero]; exact nK rfl
 refine zr (pC P ch) (fun _=>True) ch.length (by simp[pC,Pb.pick,ofR,apc]) trivial (fun k hk' _=>?_) (fun _=>?_)
 ·have e:(k:Int)<ch.length:=by omega
  have w1:=zn (k:=k) (by omega)
  have hg:=getD_lt hk'
  have d:=ok k hk'
  obtain ⟨b,hb,hbn⟩:=gq (fun q hq=>ok q (by omega)) d
  rw[hg] at hb
  unfold okI at d
  rw[hg,hb] at d
  have b0:¬ (b:Int)<0:=by omega
  have b2:(b:Int)<P.of.length:=by omega
  have b3:¬ (P.of.length:Int)≤b:=by omega
  have hat:P.of[b]=P.at ch[k]:=by rw[hb,Ga hbn]
  have hro:ofR (P.pick (ch.take k))++[oC P.of[b]]=ofR (P.pick (ch.take (k+1))):=by rw[Z1 hk',Y0,hat]; rfl
  by_cases hz:0<k
  ·obtain ⟨q,hq⟩:∃ q:Nat,k-1=q:=⟨_,rfl⟩
   have hql:q<ch.length:=by omega
   have hgq:=getD_lt hql
   have hpv:prv ch k=ch[q]:=by
    rw[show k=q+1 by omega]
    exact hgq
   rw[hpv] at d
   have w2:IntKind.i64.wrap ((k:Int)-1)=(q:Int):=by rw[wrap64]<;>omega
   have c1:¬ (b:Int)≤ch[q]:=by omega
   have eq':(q:Int)<ch.length:=by omega
   simp[yK,pC,e,hk',hb,b0,b2,b3,hbn,hz,w2,hql,eq',c1]
   refine uH (by decide) rfl ?_ ?_ (by simp) ?_
   ·simp only[uM,wg,List.length_take]; omega
   ·simp only[uM,wg,List.length_take]; omega
   ·rw[hro]
    simp[w1,pC]
  ·simp[yK,pC,e,hk',hb,b0,b2,b3,hbn,hz]
   refine uH (by decide) rfl ?_ ?_ (by simp) ?_
   ·simp only[uM,wg,List.length_take]; omega
   ·simp only[uM,wg,List.length_take]; omega
   ·rw[hro]
    simp[w1,pC]
 ·simp[yK,pC,jM,tU]
  exact AV.imp_tuple2 (qY t5)
theorem Kl (hn:P.cl.length≤1000) (hk:P.of.length≤1000000) (hc:P.chk=0) (ok:okP P.of.length ch):zd Tryz.prog se [.agg (pbC P),clA ch] (iv (if P.fits (P.pick ch) then 0 else 14)):=by
 have hl:=qX ok
 refine zx nG (by simp) ?_
 simp[sr]
 refine za (nC hn hk) (by simp) (by simp) ?_
 simp[hc]
 refine za (Yc hk ok) (by simp) (by simp) ?_
 have hG:=xQ hc
 have hm:=fp ok
 have hP:∀ o∈P.pick ch,P.offE o=0:=fun o ho=>hG.off o (hm o ho)
 simp
 refine za (JN (P:=P) (L:=P.pick ch) hn (by rw[wg]; have:=hG.k; omega) (fun o ho=>(yG (yp (hP o ho)).1).1) (fun o ho=>(yG (yp (hP o ho)).1).2.2)) (by simp) (by simp) ?_
 by_cases c3:P.fits (P.pick ch)
 ·simp[c3,uu]
 ·simp[c3,uu]
end
section
variable {P:Pb} {ch:List Int} {T:List Nat}
theorem QO:P.pick (ints T)=T.map fun i:Nat=>P.at (i:Int):=by
 unfold Pb.pick ints
 rw[List.map_map]
 rfl
def PH (L:List Of) (k:Nat):St:={env:=[(5,ofA L),(7,iv (wu (fun o=>o.v) L k)),(8,iv k)],sto:=[]}
theorem aaK (hn:P.cl.length≤1000) (hk:P.of.length≤1000000) (hc:P.chk=0) (ok:okP P.of.length ch):zd Tryz.prog pU [.agg (pbC P),clA ch] (iv ((P.pick ch).map fun o=>o.v).sum):=by
 have hG:=xQ hc
 have hm:=fp ok
 have hP:∀ o∈P.pick ch,0≤o.v∧o.v≤1000000:=fun o ho=>by have:=(yG (yp (hG.off o (hm o ho))).1).2.1; omega
 have hl2:(P.pick ch).length≤160:=by rw[wg]; have:=qX ok; have:=hG.k; omega
 refine zx jI (by simp) ?_
 simp[pY]
 refine za (nC hn hk) (by simp) (by simp) ?_
 simp[hc]
 refine za (Yc hk ok) (by simp) (by simp) ?_
 simp
 generalize P.pick ch=L at *
 refine zr (PH L) (fun _=>True) L.length (by simp[PH,jj]) trivial (fun k hk' _=>?_) (fun _=>?_)
 ·have e:(k:Int)<L.length:=by omega
  have hg:L[k]?=some L[k]:=by simp[hk']
  have w1:=zn (k:=k) (by omega)
  obtain ⟨p1,p2⟩:=sE (f:=fun o:Of=>o.v) hP k (by omega)
  have p3:=hP _ (List.getElem_mem hk')
  have w3:IntKind.i64.wrap (wu (fun o=>o.v) L k+L[k].v)=wu (fun o=>o.v) L k+L[k].v:=by rw[wrap64]<;>omega
  have hs:=nV (f:=fun o:Of=>o.v) hg
  simp[ss,PH,e,hk',w1,w3,hs]
 ·have hall:wu (fun o=>o.v) L L.length=(L.map fun o=>o.v).sum:=lM
  simp[ss,PH,nn,hall,p9]
end
section
variable {P:Pb} {ch:List Int}
theorem DH {n:Nat} {k:Nat} (h:¬ okI n ch k) (hk:k<ch.length):ch[k]<0∨(n:Int)≤ch[k]∨∃ q,k=q+1∧ch[k]≤ch.getD q 0:=by
 unfold okI at h
 rw[getD_lt hk] at h
 cases k with
 | zero =>
  simp only[prv] at h
  omega
 | succ q =>
  simp only[prv] at h
  by_cases h1:ch[q+1]<0
  ·exact .inl h1
  ·by_cases h2:(n:Int)≤ch[q+1]
   ·exact .inr (.inl h2)
   ·exact .inr (.inr ⟨q,rfl,by omega⟩)
theorem QW (hk:P.of.length≤1000000) (hl:ch.length<4611686018427387904):zd Tryz.prog tu [.agg (pbC P),clA ch] (.tuple [if okP P.of.length ch then ofA (P.pick ch) else yI,bv (decide (okP P.of.length ch))]):=by
 by_cases ok:okP P.of.length ch
 ·rw[if_pos ok,decide_eq_true ok]
  exact Yc hk ok
 rw[if_neg ok,decide_eq_false ok]
 refine zx cr (by simp) ?_
 simp[lg]
 refine zr (pC P ch) (fun k=>∀ q,q<k→okI P.of.length ch q) ch.length (by simp[pC,Pb.pick,ofR,apc]) (fun q hq=>by omega) (fun k hk' hI=>?_) (fun hI=>absurd hI ok)
 have e:(k:Int)<ch.length:=by omega
 have w1:=zn (k:=k) (by omega)
 have hg:=getD_lt hk'
 by_cases d:okI P.of.length ch k
 ·have hI':∀ q,q<k+1→okI P.of.length ch q:=fun q hq=>by
   by_cases e:q=k
   ·subst e; exact d
   ·exact hI q (by omega)
  have hkl:k<P.of.length:=by
   have h1:=Sa hI
   have h2:=d
   unfold okI at h2
   omega
  obtain ⟨b,hb,hbn⟩:=gq hI d
  rw[hg] at hb
  unfold okI at d
  rw[hg,hb] at d
  have b0:¬ (b:Int)<0:=by omega
  have b2:(b:Int)<P.of.length:=by omega
  have b3:¬ (P.of.length:Int)≤b:=by omega
  have hat:P.of[b]=P.at ch[k]:=by rw[hb,Ga hbn]
  have hro:ofR (P.pick (ch.take k))++[oC P.of[b]]=ofR (P.pick (ch.take (k+1))):=by rw[Z1 hk',Y0,hat]; rfl
  by_cases hz:0<k
  ·obtain ⟨q,hq⟩:∃ q:Nat,k-1=q:=⟨_,rfl⟩
   have hql:q<ch.length:=by omega
   have hgq:=getD_lt hql
   have hpv:prv ch k=ch[q]:=by
    rw[show k=q+1 by omega]
    exact hgq
   rw[hpv] at d
   have w2:IntKind.i64.wrap ((k:Int)-1)=(q:Int):=by rw[wrap64]<;>omega
   have c1:¬ (b:Int)≤ch[q]:=by omega
   have eq':(q:Int)<ch.length:=by omega
   simp[yK,pC,e,hk',hb,b0,b2,b3,hbn,hz,w2,hql,eq',c1]
   refine uH (by decide) rfl ?_ ?_ (by simp) ?_
   ·simp only[uM,wg,List.length_take]; omega
   ·simp only[uM,wg,List.length_take]; omega
   ·rw[hro]
    simp[w1,pC]
    exact hI'
  ·simp[yK,pC,e,hk',hb,b0,b2,b3,hbn,hz]
   refine uH (by decide) rfl ?_ ?_ (by simp) ?_
   ·simp only[uM,wg,List.length_take]; omega
   ·simp only[uM,wg,List.length_take]; omega
   ·rw[hro]
    simp[w1,pC]
    exact hI'
 ·by_cases b0:ch[k]<0
  ·simp[yK,pC,e,hk',b0,tU]
  ·by_cases b1:(P.of.length:Int)≤ch[k]
   ·simp[yK,pC,e,hk',b0,b1,tU]
   ·obtain ⟨q,hq,hle⟩:∃ q,k=q+1∧ch[k]≤ch.getD q 0:=((DH d hk').resolve_left b0).resolve_left b1
    have hql:q<ch.length:=by omega
    rw[getD_lt hql] at hle
    have hz:0<k:=by omega
    have w2:IntKind.i64.wrap ((k:Int)-1)=(q:Int):=by rw[wrap64]<;>omega
    have eq':(q:Int)<ch.length:=by omega
    simp[yK,pC,e,hk',b0,b1,hz,w2,hql,eq',hle,tU]
theorem Kk (hn:P.cl.length≤1000) (hk:P.of.length≤1000000) (hl:ch.length<4611686018427387904):zd Tryz.prog se [.agg (pbC P),clA ch] (iv (P.feaE ch)):=by
 unfold Pb.feaE
 by_cases hc:P.chk=0
 ·rw[if_neg fun h=>h hc]
  by_cases ok:okP P.of.length ch
  ·rw[if_neg fun h=>h ok]
   exact Kl hn hk hc ok
  ·rw[if_pos ok]
   have kp:=QW hk hl
   rw[if_neg ok,decide_eq_false ok] at kp
   refine zx nG (by simp) ?_
   simp[sr]
   refine za (nC hn hk) (by simp) (by simp) ?_
   simp[hc]
   refine za kp (by simp) (by simp) ?_
   simp[uu]
 ·rw[if_pos hc]
  refine zx nG (by simp) ?_
  simp[sr]
  refine za (nC hn hk) (by simp) (by simp) ?_
  simp[hc,uu]
theorem aaJ (hn:P.cl.length≤1000) (hk:P.of.length≤1000000) (hl:ch.length<4611686018427387904):zd Tryz.prog pU [.agg (pbC P),clA ch] (iv (P.valE ch)):=by
 unfold Pb.valE
 by_cases hc:P.chk=0
 ·by_cases ok:okP P.of.length ch
  ·rw[if_pos ⟨ok,hc⟩]
   exact aaK hn hk hc ok
  ·rw[if_neg fun h=>ok h.1]
   have kp:=QW hk hl
   rw[if_neg ok] at kp
   refine zx jI (by simp) ?_
   simp[pY]
   refine za (nC hn hk) (by simp) (by simp) ?_
   simp[hc]
   refine za kp (by simp) (by simp) ?_
   simp
   refine zr (fun k=>{env:=[(5,yI),(7,iv 0),(8,iv k)],sto:=[]}) (fun _=>True) 0 (by simp) trivial (fun k hk _=>by omega) (fun _=>?_)
   simp[ss,nn,p9]
 ·rw[if_neg fun h=>hc h.2]
  refine zx jI (by simp) ?_
  simp[pY]
  refine za (nC hn hk) (by simp) (by simp) ?_
  simp[hc,p9]
end
def pgE (P:Pb) (ch:List Int) (V:Int):Int:=if P.feaE ch≠0 then P.feaE ch else if V≠P.valE ch then 13 else if 39<P.of.length then 3 else 0
section
variable {P:Pb} {ch:List Int} {V:Int}
theorem Mu (h:pgE P ch V=0):P.feaE ch=0∧V=P.valE ch∧P.of.length≤39:=by
 unfold pgE at h
 split at h
 ·rename_i h1; exact absurd h h1
 ·rename_i h1
  split at h
  ·cases h
  ·rename_i h2
   split at h
   ·cases h
   ·rename_i h3
    exact ⟨Decidable.not_not.1 h1,Decidable.not_not.1 h2,by omega⟩
theorem fb (h:P.feaE ch=0):P.chk=0∧okP P.of.length ch∧P.fits (P.pick ch):=by
 unfold Pb.feaE at h
 split at h
 ·rename_i h1; exact absurd h h1
 ·rename_i h1
  split at h
  ·cases h
  ·rename_i h2
   split at h
   ·rename_i h3; exact ⟨Decidable.not_not.1 h1,Decidable.not_not.1 h2,h3⟩
   ·cases h
noncomputable abbrev pgA (P:Pb) (V:Int):AV:=pA P.sA (P.sB V) P.sG (P.rows+1) (P.of.length+1)
@[simp] theorem ail {x y z w:AV}:splice [x,y] 0 [z,w]=[z,w]:=by simp[splice]
theorem Z3 (hn:P.cl.length≤1000) (hk:P.of.length≤1000000) (hl:ch.length<4611686018427387904) (hV:-9223372036854775808≤V∧V<9223372036854775808) :
  zd Tryz.prog vK [.agg (pbC P),.agg [clA ch,iv V]] (.tuple [if pgE P ch V=0 then pgA P V else .agg [z7,z7],iv (pgE P ch V)]):=by
 have kf:=GA (ch:=ch) hn hk hl
 have kv:=aeQ (ch:=ch) hn hk hl
 refine zx Xl (by simp) ?_
 simp[jQ]
 refine za kf (by simp) (by simp) ?_
 unfold pgE
 by_cases h1:P.feaE ch=0
 rotate_left
 ·simp[h1,vP]
 simp[h1]
 refine za kv (by simp) (by simp) ?_
 by_cases h2:V=P.valE ch
 rotate_left
 ·simp[h2,vP]
 simp[h2]
 by_cases h3:39<P.of.length
 ·have h3':¬ (P.of.length:Int)≤39:=by omega
  have h3n:¬ P.of.length≤39:=by omega
  have h3i:(39:Int)<P.of.length:=by omega
  simp[h3,h3i,h3',h3n,vP]
 have h3':(P.of.length:Int)≤39:=by omega
 have h3n:P.of.length≤39:=by omega
 have kb:=aci (P:=P) (V:=V) (ch:=clA ch) hn hk (fb h1).1 hV
 rw[h2] at kb
 have h3i:¬ (39:Int)<P.of.length:=by omega
 simp[h3,h3i,h3',h3n]
 refine za kb (by simp) (by simp) ?_
 simp[vP]
end
def pIA (P:Pb) (i j:Nat):Int:=if i<P.of.length then (if j<P.rows then-P.coef j (P.at (i:Int)) else -1) else if j<P.rows then P.bnd j else 0
def pIB (P:Pb) (V:Int) (i:Nat):Int:=if i<P.of.length then-(P.at (i:Int)).v else V
def pIG (P:Pb) (j:Nat):Int:=if j<P.rows then 0 else -1
section
variable {P:Pb} {V:Int} {f g:Nat→Int} {n m i j k:Nat} {ch:List Int}
theorem ahC:P.sA i j=((pIA P i j:Int):Rat):=by
 unfold Pb.sA pIA Pb.cof
 split
 ·split
  ·rw[Rat.intCast_neg]
  ·rfl
 ·split<;>rfl
theorem ahD:P.sB V i=((pIB P V i:Int):Rat):=by
 unfold Pb.sB pIB Pb.vQ
 split
 ·rw[Rat.intCast_neg]
 ·rfl
theorem ahE:P.sG i=((pIG P i:Int):Rat):=by
 unfold Pb.sG pIG
 split<;>rfl
end
section
variable {n m L:Nat} {A:Nat→Nat→Rat} {bb gg f g x y:Nat→Rat}
theorem Qe {K:Nat} {q:Rat} (hK:K≤137438953472) (h:sz K q):zd Tryz.prog vX [fq q] (bv true):=by
 have:=YT (dW hK h)
 unfold hq RF.v at this
 rw[Pw] at this
 rw[show vfr (RF.of q).s (RF.of q).a (RF.of q).c=true from LB q] at this
 exact this
noncomputable def M9 (f:Nat→Rat) (n k:Nat):St:={env:=[(5,fL f n),(6,iv n),(7,iv k)],sto:=[]}
theorem bG (hn:n<1000000) (hL:L≤137438953472) (hf:∀ j,j<n→sz L (f j)):zd Tryz.prog wx [fL f n] (bv true):=by
 refine zx SO (by simp) ?_
 simp[eg]
 refine zr (M9 f n) (fun _=>True) n (by simp[M9]) trivial (fun k hk _=>?_) (fun _=>?_)
 ·have e:(k:Int)<n:=by omega
  have w:=zn (k:=k) (by omega)
  simp[r6,M9,e,hk]
  refine za (Qe hL (hf k hk)) (by simp) (by simp) ?_
  simp[w,M9]
 ·simp[r6,kQ,eU,M9]
noncomputable def M4 (n m:Nat) (A:Nat→Nat→Rat) (bb gg:Nat→Rat) (k:Nat):St:={env:=[(1,.ptr 1 0),(6,.list 4 .plain (pR A bb n m)),(7,iv m),(8,iv k)],sto:=[(1,.var [fL gg n,.list 4 .plain (pR A bb n m)])]}
structure Szp (n m L:Nat) (A:Nat→Nat→Rat) (bb gg:Nat→Rat):Prop where
 hn:n<1000000
 hm:m<1000000
 hL:(n+m+1)*(2*L+1)+2*L≤137438953472
 ha:∀ i j,i<m→j<n→sz L (A i j)
 hb:∀ i,i<m→sz L (bb i)
 hg:∀ j,j<n→sz L (gg j)
theorem Szp.le (h:Szp n m L A bb gg):L≤137438953472:=by have:=h.hL; omega
theorem ZR (h:Szp n m L A bb gg):zd Tryz.prog v6 [pA A bb gg n m] (bv true):=by
 have kg:=bG h.hn h.le h.hg
 refine zx UZ (by simp) ?_
 simp[gN]
 refine zr (M4 n m A bb gg) (fun _=>True) m (by simp[M4]) trivial (fun k hk _=>?_) (fun _=>?_)
 ·have e:(k:Int)<m:=by omega
  have hm:=h.hm
  have w:=zn (k:=k) (by omega)
  simp[rh,M4,e,hk]
  refine za (bG h.hn h.le (h.ha k · hk)) (by simp) (by simp) ?_
  simp
  refine za (Qe h.le (h.hb k hk)) (by simp) (by simp) ?_
  simp[w,M4]
 ·simp[rh,m5,M4]
  refine za kg (by simp) (by simp) ?_
  simp[fC]
noncomputable def M5 (f:Nat→Rat) (n k:Nat):St:={env:=[(16,fL f n),(17,iv n),(18,iv k)],sto:=[]}
theorem QA (hn:n<1000000) (hL:L≤137438953472) (hf:∀ j,j<n→sz L (f j)) (h0:∀ j,j<n→0≤f j):zd Tryz.prog vA [fL f n,iv n] (bv true):=by
 refine zx cq (by simp) ?_
 simp[nO]
 refine za (bG hn hL hf) (by simp) (by simp) ?_
 simp
 refine zr (M5 f n) (fun _=>True) n (by simp[M5]) trivial (fun k hk _=>?_) (fun _=>?_)
 ·have e:(k:Int)<n:=by omega
  have w:=zn (k:=k) (by omega)
  have o:¬ xX (f k)<0:=fun h=>by have:=fE.1 h; have:=h0 k hk; grind
  simp[uh,M5,e,hk]
  refine za (qt (q:=f k)) (by simp) (by simp) ?_
  simp[o,w,M5]
 ·simp[uh,r5,nX,M5]
noncomputable def M8 (f:Nat→Rat) (n k:Nat):St:={env:=[(2,.ptr 2 0),(3,.ptr 3 0),(7,fL f n),(8,iv n),(9,iv k)],sto:=[(2,.var zz),(3,.var (fr (zf k f)))]}
theorem afK (hn:n<1000000) (hL:n*(L+1)+L≤137438953472) (hf:∀ j,j<n→sz L (f j)):zd Tryz.prog S3 [fL f n] (fq (zf n f)):=by
 have g0:zd Tryz.prog zE [iv 0] (fq 0):=yf (n:=0) (by decide) (by decide)
 refine zx aex (by simp) ?_
 simp[KN]
 refine za g0 (by simp) (by simp) ?_
 simp
 refine zr (M8 f n) (fun _=>True) n (by simp[M8,zf]) trivial (fun k hk _=>?_) (fun _=>?_)
 ·have e:(k:Int)<n:=by omega
  have w:=zn (k:=k) (by omega)
  have ev:zf k f+f k=zf (k+1) f:=rfl
  have g2:=cF (K:=n*(L+1)+L) (by omega) (zG (Q3 (n:=k) (N:=n) (f:=f) (fun i hi=>hf i (by omega)) (by omega)) (by omega)) (zG (hf k hk) (by omega))
  simp[cN,M8,e,hk]
  refine za g2 (by simp) (by simp) ?_
  simp[w,ev,M8]
 ·simp[cN,Tk,JC,M8]
theorem ab6 {tok sz:Nat} {rows:List (List AV)}:[apc tok sz rows].any sS=false:=by unfold apc; split<;>rfl
noncomputable def M3 (f g:Nat→Rat) (n k:Nat):St:={env:=[(0,fL f n),(1,fL g n),(4,.ptr 4 0),(5,apc 26 3 (fR (fun i=>f i*g i) k)),(11,iv n),(12,iv k)],sto:=[(4,.var zz)]}
theorem Dj (hn:n<1000000) (hL:n*(2*L+1)+2*L≤137438953472) (hf:∀ j,j<n→sz L (f j)) (hg:∀ j,j<n→sz L (g j)):zd Tryz.prog YD [fL f n,fL g n] (fq (zf n fun i=>f i*g i)):=by
 have hm:∀ j,j<n→sz (2*L) (f j*g j):=fun j hj=>zG (yj (hf j hj) (hg j hj)) (by omega)
 have ks:=ny (afK (f:=fun i=>f i*g i) hn hL hm) (abL (qY t5))
 refine zx aet (by simp) ?_
 simp[KJ]
 refine zr (M3 f g n) (fun _=>True) n (by simp[M3,Rk]) trivial (fun k hk _=>?_) (fun _=>?_)
 ·have e:(k:Int)<n:=by omega
  have w:=zn (k:=k) (by omega)
  have hs:fR (fun i=>f i*g i) k++[fr (f k*g k)]=fR (fun i=>f i*g i) (k+1):=vB.symm
  simp[cL,M3,e,hk]
  refine za (mG (K:=L) (by omega) (hf k hk) (hg k hk)) (by simp) (by simp) ?_
  simp
  refine uH (by decide) rfl ?_ ?_ (by simp) ?_
  ·simp only[TJ]; omega
  ·simp only[TJ]; omega
  rw[hs]
  simp[w,M3]
 ·simp[cL,Tj,M3]
  refine za ks (by simp) (.inl ab6) ?_
  simp[Jy]
noncomputable def M1 (n m:Nat) (A:Nat→Nat→Rat) (bb gg y:Nat→Rat) (k:Nat):St:={env:=[(1,fL y m),(2,.ptr 2 0),(4,.ptr 4 0),(5,.ptr 5 0),(13,iv m),(14,iv k)],sto:=[(2,.var [fL gg n,.list 4 .plain (pR A bb n m)]),(4,.var zz),(5,.var (fr (zf k fun i=>y i*bb i)))]}
theorem cf (h:Szp n m L A bb gg) {N:Nat} (hN:N≤n+m) {f:Nat→Rat} (hf:∀ i,i<N→sz (2*L) (f i)) {k:Nat} (hk:k≤N):sz 137438953472 (zf k f):=by
 refine zG (Q3 (n:=k) (N:=N) (f:=f) (fun i hi=>hf i (by omega)) hk) ?_
 have:=Nat.mul_le_mul_right (2*L+1) hN
 have h2:=h.hL
 rw[Nat.add_mul] at h2
 omega
theorem Dh (h:Szp n m L A bb gg) (hy:∀ i,i<m→sz L (y i)):zd Tryz.prog nf [pA A bb gg n m,fL y m] (fq (zf m fun i=>y i*bb i)):=by
 have g0:zd Tryz.prog zE [iv 0] (fq 0):=yf (n:=0) (by decide) (by decide)
 have hm:∀ i,i<m→sz (2*L) (y i*bb i):=fun i hi=>zG (yj (hy i hi) (h.hb i hi)) (by omega)
 have hmm:=h.hm
 have hL:=h.hL
 refine zx UX (by simp) ?_
 simp[gL]
 refine za g0 (by simp) (by simp) ?_
 simp
 refine zr (M1 n m A bb gg y) (fun _=>True) m (by simp[M1,zf]) trivial (fun k hk _=>?_) (fun _=>?_)
 ·have e:(k:Int)<m:=by omega
  have w:=zn (k:=k) (by omega)
  have ev:(zf k fun i=>y i*bb i)+y k*bb k=zf (k+1) fun i=>y i*bb i:=rfl
  simp[re,M1,e,hk]
  refine za (mG (K:=L) h.le (hy k hk) (h.hb k hk)) (by simp) (by simp) ?_
  simp
  refine za (cF (K:=137438953472) (by omega) (cf h (k:=k) (by omega) hm (by omega)) (zG (hm k hk) (by omega))) (by simp) (by simp) ?_
  simp[w,ev,M1]
 ·simp[re,mZ,fA,M1]
noncomputable def M2 (n m:Nat) (A:Nat→Nat→Rat) (bb gg y:Nat→Rat) (j k:Nat):St:={env:=[(1,fL y m),(2,iv j),(3,.ptr 3 0),(6,.ptr 6 0),(7,.ptr 7 0),(11,iv m),(12,iv k)],sto:=[(3,.var [fL gg n,.list 4 .plain (pR A bb n m)]),(6,.var zz),(7,.var (fr (zf k fun i=>y i*A i j)))]}
theorem Di (h:Szp n m L A bb gg) (hy:∀ i,i<m→sz L (y i)) {j:Nat} (hj:j<n):zd Tryz.prog ng [pA A bb gg n m,fL y m,iv j] (fq (zf m fun i=>y i*A i j)):=by
 have g0:zd Tryz.prog zE [iv 0] (fq 0):=yf (n:=0) (by decide) (by decide)
 have hm:∀ i,i<m→sz (2*L) (y i*A i j):=fun i hi=>zG (yj (hy i hi) (h.ha i j hi hj)) (by omega)
 have hmm:=h.hm
 have hL:=h.hL
 have e2:(j:Int)<n:=by omega
 refine zx UY (by simp) ?_
 simp[gM]
 refine za g0 (by simp) (by simp) ?_
 simp
 refine zr (M2 n m A bb gg y j) (fun _=>True) m (by simp[M2,zf]) trivial (fun k hk _=>?_) (fun _=>?_)
 ·have e:(k:Int)<m:=by omega
  have w:=zn (k:=k) (by omega)
  have ev:(zf k fun i=>y i*A i j)+y k*A k j=zf (k+1) fun i=>y i*A i j:=rfl
  simp[rg,M2,e,hk,e2,hj]
  refine za (mG (K:=L) h.le (hy k hk) (h.ha k j hk hj)) (by simp) (by simp) ?_
  simp
  refine za (cF (K:=137438953472) (by omega) (cf h (k:=k) (by omega) hm (by omega)) (zG (hm k hk) (by omega))) (by simp) (by simp) ?_
  simp[w,ev,M2]
 ·simp[rg,m4,fB,M2]
theorem AD (h:Szp n m L A bb gg) (hx:∀ j,j<n→sz L (x j)):zd Tryz.prog mb [pA A bb gg n m,fL x n] (fq (zf n fun j=>gg j*x j)):=by
 have hL:=h.hL
 have kd:=Dj h.hn (by rw[Nat.add_mul,Nat.add_mul] at hL; omega) h.hg hx
 refine zx SN (by simp) ?_
 simp[ef]
 refine za kd (by simp) (by simp) ?_
 simp[eT]
noncomputable def M7 (n m:Nat) (A:Nat→Nat→Rat) (bb x:Nat→Rat) (k:Nat):St:={env:=[(1,fL x n),(19,.list 4 .plain (pR A bb n m)),(20,iv m),(21,iv k)],sto:=[]}
theorem L3 (h:Szp n m L A bb gg) (hx:∀ j,j<n→sz L (x j)) (h0:∀ j,j<n→0≤x j) (hr:∀ i,i<m→zf n (fun j=>A i j*x j)≤bb i):zd Tryz.prog rN [pA A bb gg n m,fL x n] (bv true):=by
 have hL:=h.hL
 have hmm:=h.hm
 have hL2:n*(2*L+1)+2*L≤137438953472:=by rw[Nat.add_mul,Nat.add_mul] at hL; omega
 refine zx Yu (by simp) ?_
 simp[kP]
 refine za (ZR h) (by simp) (by simp) ?_
 simp
 refine za (QA h.hn h.le hx h0) (by simp) (by simp) ?_
 simp
 refine zr (M7 n m A bb x) (fun _=>True) m (by simp[M7]) trivial (fun k hk _=>?_) (fun _=>?_)
 ·have e:(k:Int)<m:=by omega
  have w:=zn (k:=k) (by omega)
  have hm:∀ i,i<n→sz (2*L) (A k i*x i):=fun i hi=>zG (yj (h.ha k i hk hi) (hx i hi)) (by omega)
  have o:¬ 0<wX (zf n fun i=>A k i*x i) (bb k):=fun h1=>by have:=KZ.1 h1; have:=hr k hk; grind
  simp[tz,M7,e,hk]
  refine za (Dj h.hn hL2 (h.ha k · hk) hx) (by simp) (by simp) ?_
  simp
  refine za (cZ (K:=137438953472) (by omega) (cf h (k:=n) (by omega) hm (by omega)) (zG (h.hb k hk) h.le)) (by simp) (by simp) ?_
  simp[o,w,M7]
 ·simp[tz,nN,jm,M7]
noncomputable def M6 (n m:Nat) (A:Nat→Nat→Rat) (bb gg y:Nat→Rat) (k:Nat):St:={env:=[(1,fL y m),(2,.ptr 2 0),(4,.ptr 4 0),(21,iv n),(22,iv k)],sto:=[(2,.var [fL gg n,.list 4 .plain (pR A bb n m)]),(4,.var zz)]}
theorem Aw (h:Szp n m L A bb gg) (hy:∀ i,i<m→sz L (y i)) (h0:∀ i,i<m→0≤y i) (hc:∀ j,j<n→gg j≤zf m (fun i=>y i*A i j)):zd Tryz.prog n9 [pA A bb gg n m,fL y m] (.tuple [fq (zf m fun i=>y i*bb i),bv true]):=by
 have hnn:=h.hn
 refine zx SL (by simp) ?_
 simp[f9]
 refine za (ZR h) (by simp) (by simp) ?_
 simp
 refine za (QA h.hm h.le hy h0) (by simp) (by simp) ?_
 simp
 refine zr (M6 n m A bb gg y) (fun _=>True) n (by simp[M6]) trivial (fun k hk _=>?_) (fun _=>?_)
 ·have e:(k:Int)<n:=by omega
  have w:=zn (k:=k) (by omega)
  have hm:∀ i,i<m→sz (2*L) (y i*A i k):=fun i hi=>zG (yj (hy i hi) (h.ha i k hi hk)) (by omega)
  have o:¬ wX (zf m fun i=>y i*A i k) (gg k)<0:=fun h1=>by have:=dS.1 h1; have:=hc k hk; grind
  simp[r4,M6,e]
  refine za (Di h hy hk) (by simp) (by simp) ?_
  simp[e,hk]
  refine za (cZ (K:=137438953472) (by omega) (cf h (k:=m) (by omega) hm (by omega)) (zG (h.hg k hk) h.le)) (by simp) (by simp) ?_
  simp[o,w,M6]
 ·simp[r4,kO,M6]
  refine za (Dh h hy) (by simp) (by simp) ?_
  simp[eS]
theorem Dt {v w:Rat} (h:Szp n m L A bb gg) (ho:Opt n m A bb gg x y v) (hx:∀ j,j<n→sz L (x j)) (hy:∀ i,i<m→sz L (y i)) (hw:sz 137438953472 w) :
  zd Tryz.prog xZ [.agg [.list 3 .full [fr w],fL x n,fL y m],pA A bb gg n m] (bv (decide (w=v))):=by
 have hm1:∀ i,i<n→sz (2*L) (gg i*x i):=fun i hi=>zG (yj (h.hg i hi) (hx i hi)) (by omega)
 have hm2:∀ i,i<m→sz (2*L) (y i*bb i):=fun i hi=>zG (yj (hy i hi) (h.hb i hi)) (by omega)
 have z1:=cf h (k:=n) (by omega) hm1 (Nat.le_refl n)
 have z2:=cf h (k:=m) (by omega) hm2 (Nat.le_refl m)
 have kf:=L3 h hx (fun j _=>ho.x0 j) ho.row
 have kv:zd Tryz.prog wx [.list 3 .full [fr w]] (bv true):=ny (bG (f:=fun _=>w) (n:=1) (by decide) (by decide) fun _ _=>hw) (abL (wd (rows:=fR (fun _=>w) 1)))
 have kb:=Aw h hy (fun i _=>ho.y0 i) ho.col
 have kx:=AD h hx
 rw[ho.vx] at kx z1
 rw[ho.vy] at kb z2
 have c0:wX v v=0:=lh.2 rfl
 refine zx jH (by simp) ?_
 simp[sM]
 refine za kf (by simp) (by simp) ?_
 simp
 refine za kv (by simp) (by simp) ?_
 simp
 refine za kb (by simp) (by simp) ?_
 simp
 refine za kx (by simp) (by simp) ?_
 simp
 refine za (cZ (K:=137438953472) (by omega) z1 z2) (by simp) (by simp) ?_
 simp
 refine za (cZ (K:=137438953472) (by omega) hw z2) (by simp) (by simp) ?_
 simp
 rw[sQ Zf Ze Zd rfl rfl]
 have hd:decide (qU [iv (wX v v),iv (wX w v)]=qU [iv 0,iv 0])=decide (w=v):=by
  rw[decide_eq_decide]
  simp[qU,c0,lh]
 have hd2:(decide (wX v v=0)&&decide (wX w v=0))=decide (w=v):=by simp[c0,lh]
 simp[hd2,sV]
theorem L0 {q:Rat} {a b c d:AV}:zB [a,f0 q,f1 q,f2 q,b,c,d] 1 (some 3)=some (fq q):=by simp[zB]
theorem afL : bK Tryz.prog jJ "saleroom/lpcheck.proven" = some xZ := by kernel_rfl
theorem afT:yJ Tryz.prog xZ=true:=by kernel_rfl
theorem Ax {v w:Rat} (h:Szp n m L A bb gg) (ho:Opt n m A bb gg x y v) (hx:∀ j,j<n→sz L (x j)) (hy:∀ i,i<m→sz L (y i)) (hw:sz 137438953472 w) :
  zd Tryz.prog ma [pA A bb gg n m,.agg [iv 1,f0 w,f1 w,f2 w,fL x n,fL y m,z7]] (iv (if w=v then 0 else 13)):=by
 have kp:=Dt h ho hx hy hw
 refine zx SM (by simp) ?_
 simp[ee]
 refine za (ZR h) (by simp) (by simp) ?_
 simp[afL,afT,L0]
 refine za kp (by simp) (by simp) ?_
 by_cases e:w=v
 ·simp[e,mK]
 ·simp[e,mK]
end
noncomputable def qR (A:Nat→Nat→RF) (cl:Nat→Nat) (b:Nat→RF) (m:Nat):List (List AV):=mR (fun i=>[hL (A i) (cl i),h0 (b i),h1 (b i),h2 (b i)]) m
noncomputable abbrev rA (G:Nat→RF) (n:Nat) (A:Nat→Nat→RF) (cl:Nat→Nat) (b:Nat→RF) (m:Nat):AV:=.agg [hL G n,.list 4 .plain (qR A cl b m)]
section
variable {A:Nat→Nat→RF} {cl:Nat→Nat} {b:Nat→RF} {m i:Nat}
@[simp] theorem ako:(qR A cl b m).length=m:=ql
@[simp] theorem ajx {hi:i<(qR A cl b m).length}:(qR A cl b m)[i]=[hL (A i) (cl i),h0 (b i),h1 (b i),h2 (b i)]:=lI
@[simp] theorem alc:yF (qR A cl b m)=true:=d7 fun _=>by simp
@[simp] theorem ald:zQ (qR A cl b m)=qR A cl b m:=tK fun _=>by simp
end
noncomputable def Zn (f:Nat→RF) (n:Nat):Bool:=@decide (∀ j,j<n→(f j).v=true) (Classical.propDecidable _)
theorem m9 {f:Nat→RF} {n:Nat}:Zn f n=true↔∀ j,j<n→(f j).v=true:=by unfold Zn; exact @decide_eq_true_iff _ (Classical.propDecidable _)
noncomputable def Lh (f:Nat→RF) (n k:Nat):St:={env:=[(5,hL f n),(6,iv n),(7,iv k)],sto:=[]}
theorem Bn {f:Nat→RF} {n:Nat} (hn:n<1000000) (hf:∀ j,j<n→(f j).fine):zd Tryz.prog fT [hL f n] (bv (Zn f n)):=by
 refine zx Bg (by simp) ?_
 simp[Qn]
 refine zr (Lh f n) (fun k=>∀ j,j<k→(f j).v=true) n (by simp[Lh]) (fun j hj=>by omega) (fun k hk hI=>?_) (fun hI=>?_)
 ·have e:(k:Int)<n:=by omega
  have w:=zn (k:=k) (by omega)
  simp[gY,Lh,e,hk]
  refine za (YT (hf k hk)) (by simp) (by simp) ?_
  cases hv:(f k).v with
  | true =>
   simp[w,Lh]
   intro j hj
   by_cases ej:j=k
   ·subst ej; exact hv
   ·exact hI j (by omega)
  | false =>
   have:Zn f n=false:=by
    cases h:Zn f n with
    | false=>rfl
    | true=>have:=m9.1 h k hk; rw[hv] at this; cases this
   simp[Ya,this]
 ·have:Zn f n=true:=m9.2 hI
  simp[gY,Zy,Ya,Lh,this]
def GF (G:Nat→RF) (n:Nat) (A:Nat→Nat→RF) (cl:Nat→Nat) (b:Nat→RF) (m:Nat):Prop :=
 (∀ j,j<n→(G j).v=true)∧∀ i,i<m→cl i=n∧(b i).v=true∧∀ j,j<n→(A i j).v=true
noncomputable def Re (G:Nat→RF) (n:Nat) (A:Nat→Nat→RF) (cl:Nat→Nat) (b:Nat→RF) (m:Nat):Int :=
 if 160<n∨40<m then 3 else @ite _ (GF G n A cl b m) (Classical.propDecidable _) 0 2
section
variable {G:Nat→RF} {n:Nat} {A:Nat→Nat→RF} {cl:Nat→Nat} {b:Nat→RF} {m:Nat}
theorem Er (h:160<n∨40<m):Re G n A cl b m=3:=if_pos h
theorem Qo (h:¬ (160<n∨40<m)) (hg:GF G n A cl b m):Re G n A cl b m=0:=by unfold Re; rw[if_neg h]; exact @if_pos _ (Classical.propDecidable _) hg _ _ _
theorem cY (h:¬ (160<n∨40<m)) (hg:¬ GF G n A cl b m):Re G n A cl b m=2:=by unfold Re; rw[if_neg h]; exact @if_neg _ (Classical.propDecidable _) hg _ _ _
noncomputable def RP (G:Nat→RF) (n:Nat) (A:Nat→Nat→RF) (cl:Nat→Nat) (b:Nat→RF) (m k:Nat):St :=
 {env:=[(1,.ptr 1 0),(20,.list 4 .plain (qR A cl b m)),(21,iv m),(22,iv k)],sto:=[(1,.var [hL G n,.list 4 .plain (qR A cl b m)])]}
theorem BK (hn:n<1000000) (hm:m<1000000) (hc:∀ i,i<m→cl i<1000000) (hG:∀ j,j<n→(G j).fine) (hA:∀ i j,i<m→j<cl i→(A i j).fine) (hb:∀ i,i<m→(b i).fine) :
  zd Tryz.prog kM [rA G n A cl b m] (iv (Re G n A cl b m)):=by
 have kG:=Bn hn hG
 refine zx Bf (by simp) ?_
 by_cases hl:160<n∨40<m
 ·rw[Er hl]
  by_cases h1:160<n
  ·have h1':(160:Int)<n:=by omega
   simp[ez,h1',t7]
  ·have h1':¬ (160:Int)<n:=by omega
   have h2':(40:Int)<m:=by omega
   simp[ez,h1',h2',t7]
 ·have h1':¬ (160:Int)<n:=by omega
  have h2':¬ (40:Int)<m:=by omega
  simp[ez,h1',h2']
  refine za kG (by simp) (by simp) ?_
  cases hv:Zn G n with
  | false =>
   rw[cY hl fun hg=>by rw[m9.2 hg.1] at hv; cases hv]
   simp[t7]
  | true =>
   simp
   refine zr (RP G n A cl b m) (fun k=>∀ i,i<k→cl i=n∧(b i).v=true∧∀ j,j<n→(A i j).v=true) m (by simp[RP]) (fun j hj=>by omega) (fun k hk hI=>?_) (fun hI=>?_)
   ·have e:(k:Int)<m:=by omega
    have w:=zn (k:=k) (by omega)
    have kA:=Bn (f:=A k) (n:=cl k) (hc k hk) (fun j hj=>hA k j hk hj)
    have kb:=YT (hb k hk)
    by_cases h3:cl k=n
    ·have kA:=kA
     rw[h3] at kA
     simp[mA,RP,e,hk,h3]
     refine za kA (by simp) (by simp) ?_
     cases hva:Zn (A k) n with
     | false =>
      rw[cY hl fun hg=>by have:=hg.2 k hk; rw[m9.2 this.2.2] at hva; cases hva]
      simp[t7]
     | true =>
      simp
      refine za kb (by simp) (by simp) ?_
      cases hvb:(b k).v with
      | false =>
       rw[cY hl fun hg=>by have:=hg.2 k hk; rw[hvb] at this; cases this.2.1]
       simp[t7]
      | true =>
       simp[w,RP]
       intro i hi
       by_cases ei:i=k
       ·subst ei; exact ⟨h3,hvb,m9.1 hva⟩
       ·exact hI i (by omega)
    ·have h3':¬ (cl k:Int)=n:=by omega
     rw[cY hl fun hg=>h3 (hg.2 k hk).1]
     simp[mA,RP,e,hk,h3',t7]
   ·rw[Qo hl ⟨m9.1 hv,hI⟩]
    simp[mA,Zx,t7,RP]
end
theorem ahr {G:Nat→RF} {n:Nat} {A':Nat→Nat→RF} {cl:Nat→Nat} {b:Nat→RF} {m:Nat} {A:Nat→Nat→Rat} {bb gg:Nat→Rat} (hG:∀ j,j<n→G j=RF.of (gg j)) (hc:∀ i,i<m→cl i=n) (hA:∀ i j,i<m→j<n→A' i j=RF.of (A i j)) (hb:∀ i,i<m→b i=RF.of (bb i)) :
  rA G n A' cl b m=pA A bb gg n m:=by
 unfold rA pA
 rw[hL,GK hG]
 have:qR A' cl b m=pR A bb n m:=wZ fun i hi=>by rw[hc i hi,hL,GK fun j hj=>hA i j hi hj,hb i hi,abI,abJ,abK]
 rw[this]
theorem P9 {n m K:Nat} {A:Nat→Nat→Rat} {bb gg:Nat→Rat} (hn:n≤160) (hm:m≤40) (hK:K≤137438953472) (ha:∀ i j,i<m→j<n→sz K (A i j)) (hb:∀ i,i<m→sz K (bb i)) (hg:∀ j,j<n→sz K (gg j)) :
  zd Tryz.prog kM [pA A bb gg n m] (iv 0):=by
 have h:=BK (G:=fun j=>RF.of (gg j)) (n:=n) (A:=fun i j=>RF.of (A i j)) (cl:=fun _=>n) (b:=fun i=>RF.of (bb i)) (m:=m) (by omega) (by omega) (fun _ _=>by omega) (fun j hj=>dW hK (hg j hj)) (fun i j hi hj=>dW hK (ha i j hi hj)) (fun i hi=>dW hK (hb i hi))
 rw[ahr (A:=A) (bb:=bb) (gg:=gg) (fun _ _=>rfl) (fun _ _=>rfl) (fun _ _ _ _=>rfl) (fun _ _=>rfl),Qo (by omega) ⟨fun _ _=>G0 _,fun _ _=>⟨rfl,G0 _,fun _ _=>G0 _⟩⟩] at h
 exact h
@[simp] theorem ahK {q:Rat} {a b c d:AV}:splice [a,b,c,d] 1 (fr q)=a::fr q:=by unfold fr; simp[splice,-sY]
def sL:Nat:=grow 24 10
theorem j6:sL=25515349:=by decide
section
variable {P:Pb} {ch:List Int} {V:Int} {X Y:Nat→Rat} {v:Rat} {n m i:Nat}
noncomputable abbrev prQ (z:Rat) (B S O:List (List AV)) (st:Int) (w:Rat) (X Y:Nat→Rat) (n m:Nat):List AV:=[f0 z,f1 z,f2 z,.list 3 .plain B,.list 3 .plain S,.list 3 .plain O,iv st,f0 w,f1 w,f2 w,fL X n,fL Y m,z7]
noncomputable abbrev pqL (P:Pb) (Z X Y:Nat→Rat) (w:Rat):List AV:=prQ (Z P.rows) (fR Z P.cl.length) (fR (fun j=>Z (P.cl.length+j)) 6) (fR (fun j=>Z (P.cl.length+6+j)) 6) 1 w X Y (P.rows+1) (P.of.length+1)
noncomputable abbrev prS (P:Pb) (X Y:Nat→Rat) (v:Rat):List AV:=pqL P X X Y v
theorem FI {q:Rat} {a b c:AV} {l:List AV}:splice (a::b::c::l) 0 (fr q)=f0 q::f1 q::f2 q::l:=by unfold fr; simp[splice,-sY]
theorem abe {x0 x1 x2 x3 x4 x5 x6 x7 x8 x9 x10 x11 x12 y0 y1 y2 y3 y4 y5 y6:AV}:splice [x0,x1,x2,x3,x4,x5,x6,x7,x8,x9,x10,x11,x12] 6 [y0,y1,y2,y3,y4,y5,y6]=[x0,x1,x2,x3,x4,x5,y0,y1,y2,y3,y4,y5,y6]:=rfl
theorem YR {f:Nat→Rat} {a k:Nat}:fR f a++fR (fun j=>f (a+j)) k=fR f (a+k):=by
 induction k with
 | zero=>rw[Rk,List.append_nil]; rfl
 | succ k ih=>rw[vB,← List.append_assoc,ih,← Nat.add_assoc,vB]
theorem NA {f:Nat→Rat} {N a b k:Nat} (hb:b≤N) (hk:a+k=b):((fR f N).take b).drop a=fR (fun j=>f (a+j)) k:=by
 apply List.ext_getElem?
 intro j
 rw[List.getElem?_drop,List.getElem?_take]
 by_cases h:j<k
 ·rw[if_pos (by omega),fa (by omega),fa h]
 ·rw[if_neg (by omega),List.getElem?_eq_none (by simp; omega)]
theorem abU (hG:P.Good) {j:Nat}:sz 24 (P.sA i j):=by
 rw[ahC]
 unfold pIA
 split
 ·rename_i h
  have hs:=yG (yp (hG.off _ (at_mem h))).1
  split
  ·rename_i h2
   have:=uK hs.2.2 h2
   exact tY (by omega)
  ·exact tY (by decide)
 ·split
  ·rename_i h2
   have:=Zp hG h2
   exact tY (by omega)
  ·exact tY (by decide)
theorem abV (hG:P.Good) (hV:-16777216≤V∧V≤16777216):sz 24 (P.sB V i):=by
 rw[ahD]
 unfold pIB
 split
 ·rename_i h
  have hs:=yG (yp (hG.off _ (at_mem h))).1
  exact tY (by omega)
 ·exact tY (by omega)
theorem abW:sz 24 (P.sG i):=by
 rw[ahE]
 unfold pIG
 split<;>exact tY (by decide)
theorem Yz (hc:P.chk=0) (hk:P.of.length≤9):0≤P.valE ch∧P.valE ch≤9000000:=by
 unfold Pb.valE
 split
 ·rename_i h
  have hG:=xQ hc
  have hm:=fp h.1
  have hb:=Ys (f:=fun o:Of=>o.v) (l:=P.pick ch) (a:=0) (b:=1000000) fun o ho=>by have:=(yG (yp (hG.off o (hm o ho))).1).2.1; omega
  have:=qX h.1
  rw[wg] at hb
  omega
 ·omega
theorem RL (hn:P.cl.length≤1000) (hk:P.of.length≤9) (hl:ch.length<4611686018427387904) (he:pgE P ch V=0) :
  ∃ X Y v,(P.Sup V X Y v∧(∀ j,sz sL (X j))∧(∀ i,sz sL (Y i))∧sz sL v)∧zd Tryz.prog uN [.agg (pbC P),.agg [clA ch,iv V]] (.tuple [.agg (prS P X Y v),iv 0]):=by
 obtain ⟨hf,hVe,_⟩:=Mu he
 obtain ⟨hc,hok,hfit⟩:=fb hf
 have hG:=xQ hc
 have hVb:=Yz (ch:=ch) hc hk
 rw[← hVe] at hVb
 have hrw:P.rows≤20:=by have:=hG.n; unfold Pb.rows; omega
 have hsL:=j6
 have sA:∀ i j,i<P.of.length+1→j<P.rows+1→sz 24 (P.sA i j):=fun i j _ _=>abU hG
 have sB:∀ i,i<P.of.length+1→sz 24 (P.sB V i):=fun i _=>abV hG (by omega)
 have sG:∀ j,j<P.rows+1→sz 24 (P.sG j):=fun j _=>abW
 have kc:=P9 (n:=P.rows+1) (m:=P.of.length+1) (by omega) (by omega) (by decide:24≤137438953472) sA sB sG
 obtain ⟨r,hr,hs⟩:=JX (t:=10) (.inl (by omega)) (by omega) (by omega) (by
  have:(P.of.length+1+1)*(2*grow 24 10+1)≤11*(2*25515349+1):=Nat.mul_le_mul (by omega) (by rw[show grow 24 10=25515349 from j6]; omega)
  rw[show grow 24 10=25515349 from j6] at this ⊢
  omega) sA sB sG kc
 rcases hr with ⟨X,Y,v,⟨ho,hx,hy,hv⟩,rfl⟩ | ⟨y,⟨hi,_⟩,_⟩ | ⟨x,ray,⟨hu,_⟩,_⟩
 rotate_left
 ·exact (F0 hG (by omega) hi).elim
 ·exact (F1 hu).elim
 refine ⟨X,Y,v,⟨ho,hx,hy,hv⟩,?_⟩
 have kp:=Z3 (ch:=ch) (V:=V) hn (by omega) hl (by omega)
 rw[if_pos he] at kp
 refine vc SU (by simp) ?_
 simp[eC]
 refine za kp (by simp) (by simp) ?_
 simp[he]
 refine za hs (by simp) (by simp) ?_
 have eR:P.rows=P.cl.length+12:=rfl
 obtain ⟨m,hm⟩:∃ m,P.cl.length+6=m:=⟨_,rfl⟩
 have w1:IntKind.i64.wrap ((P.cl.length:Int)+6)=(m:Int):=by rw[wrap64]<;>omega
 have w2:IntKind.i64.wrap ((m:Int)+6)=(P.rows:Int):=by rw[wrap64]<;>omega
 have i1:(P.rows:Int)<P.rows+1:=by omega
 have i2:(P.cl.length:Int)≤P.rows+1:=by omega
 have i3:(P.cl.length:Int)≤m:=by omega
 have i4:(m:Int)≤P.rows+1:=by omega
 have i5:(m:Int)≤P.rows:=by omega
 have i6:(P.rows:Int)≤P.rows+1:=by omega
 have l1:(fR X (P.rows+1)).take P.cl.length=fR X P.cl.length:=by
  have h:=NA (f:=X) (N:=P.rows+1) (a:=0) (b:=P.cl.length) (k:=P.cl.length) (by omega) (by omega)
  simpa using h
 have l2:=NA (f:=X) (N:=P.rows+1) (a:=P.cl.length) (b:=m) (k:=6) (by omega) (by omega)
 have l3:=NA (f:=X) (N:=P.rows+1) (a:=m) (b:=P.rows) (k:=6) (by omega) (by omega)
 simp[w1,w2,i1,i2,i3,i4,i5,i6,l1,l2,l3,FI,abe,eW]
 refine ⟨by omega,by omega,AV.imp_tuple2 ?_⟩
 subst hm
 have r:=fun x:AV=>AV.imp.refl (x:=x)
 exact gp (z3 (r _) (z3 (r _) (z3 (r _) (z3 wd (z3 wd (z3 wd jg))))))
theorem Qw {a b c:AV} {B S O:List (List AV)} {x0 x1 x2 x3 x4 x5 x6:AV} :
  zd Tryz.prog yE [.agg [a,b,c,.list 3 .plain B,.list 3 .plain S,.list 3 .plain O,x0,x1,x2,x3,x4,x5,x6],.agg (pbC P)] (bv (decide (B.length=P.cl.length∧S.length=6∧O.length=6))):=by
 refine zx j8 (by simp) ?_
 simp[rz]
 rw[sQ Uo Ul X7 rfl rfl]
 have hd:decide (qU [iv B.length,iv S.length,iv O.length]=qU [iv P.cl.length,iv 6,iv 6])=decide (B.length=P.cl.length∧S.length=6∧O.length=6):=by
  rw[decide_eq_decide]
  simp[qU]
  omega
 simp at hd
 simp[hd,rH]
 trace_state
theorem ac3 {a b c:AV} {B S O:List (List AV)} {x0 x1 x2 x3 x4 x5 x6:AV} (hl:B.length+S.length+O.length≤1000000) :
  zd Tryz.prog yi [.agg [a,b,c,.list 3 .plain B,.list 3 .plain S,.list 3 .plain O,x0,x1,x2,x3,x4,x5,x6]] (.list 3 .plain (B++S++O)):=by
 refine zx pj (by simp) ?_
 simp[uC,pi]
 omega
section
variable {z w:Rat} {B S O:List (List AV)} {st:Int}
theorem XF:zB (prQ z B S O st w X Y n m) 0 (some 13)=some (.agg (prQ z B S O st w X Y n m)):=by
 have h:=vV (cells:=prQ z B S O st w X Y n m) (n:=13) rfl (by simp)
 rw[h]
 simp
theorem GE:zB (prQ z B S O st w X Y n m) 6 (some 7)=some (.agg [iv st,f0 w,f1 w,f2 w,fL X n,fL Y m,z7]):=by
 show (if 6+7≤13∧[iv st,f0 w,f1 w,f2 w,fL X n,fL Y m,z7].all rf=true then some (AV.agg ([iv st,f0 w,f1 w,f2 w,fL X n,fL Y m,z7].map strip)) else _)=_
 simp
theorem j1:zB (prQ z B S O st w X Y n m) 0 (some 3)=some (fq z):=by
 show (if 0+3≤13∧[f0 z,f1 z,f2 z].all rf=true then some (AV.agg ([f0 z,f1 z,f2 z].map strip)) else _)=_
 simp
theorem AS:yJ Tryz.prog yi=true:=by kernel_rfl
noncomputable def sgK (P:Pb) (V:Int) (Z X Y:Nat→Rat) (w:Rat):List (Nat × ze):=[(5,.var (pqL P Z X Y w)),(7,.var [fL P.sG (P.rows+1),.list 4 .plain (pR P.sA (P.sB V) (P.rows+1) (P.of.length+1))])]
theorem ac2 {Z:Nat→Rat} {env:List (Nat × AV)} {K:AV→St→Prop} (hn:P.cl.length≤1000) (hE:yH 1000 env) (h:K (.list 3 (.own 1006) (fR Z P.rows)) ⟨env,sgK P V Z X Y w,[],0⟩) :
  z0 Tryz.prog yi [.agg (pqL P Z X Y w)] ⟨env,sgK P V Z X Y w,[],0⟩ K:=by
 have hd:=ll (k:=1006) hE (by decide)
 have hr:=Ai (k:=1001) hE (by decide)
 have ha:fR Z P.cl.length++(fR (fun j=>Z (P.cl.length+j)) 6++fR (fun j=>Z (P.cl.length+6+j)) 6)=fR Z P.rows:=by
  rw[← List.append_assoc,YR,YR]; rfl
 refine aef 1000 pj (by simp) ?_
 simp[uC,sgK,-dgE,xy,hd,hr,ha]
 refine ⟨by omega,by omega,by omega,by omega,by omega,by omega,?_⟩
 rw[aar]
 exact ⟨_,_,_,_,_,rfl,rfl,h⟩
noncomputable def Sy (P:Pb) (Z X Y:Nat→Rat) (w:Rat) (k:Nat):St:={env:=[(5,.ptr 5 0),(51,.list 3 (.own 1006) (fR Z (P.rows+1))),(52,iv (P.rows+1:Nat)),(53,iv k)],sto:=[(5,.var (pqL P Z X Y w))]}
theorem acj {Z:Nat→Rat} (hn:P.cl.length≤1000) (hk:P.of.length≤9) (hl:ch.length<4611686018427387904) (he:pgE P ch V=0)
  (ho:P.Sup V X Y v) (hx:∀ j,sz sL (X j)) (hy:∀ i,sz sL (Y i)) (hw:sz 137438953472 w) (hZ:∀ j,sz 137438953472 (Z j)) :
  zd Tryz.prog mj [.agg (pbC P),.agg [clA ch,iv V],.agg (prQ (Z P.rows) (fR Z P.cl.length) (fR (fun j=>Z (P.cl.length+j)) 6) (fR (fun j=>Z (P.cl.length+6+j)) 6) 1 w X Y (P.rows+1) (P.of.length+1))] (iv (if w=v∧∀ j,j<P.rows+1→Z j=X j then 0 else 13)):=by
 obtain ⟨hf,hVe,_⟩:=Mu he
 obtain ⟨hc,hok,hfit⟩:=fb hf
 have hG:=xQ hc
 have hVb:=Yz (ch:=ch) hc hk
 rw[← hVe] at hVb
 have hrw:P.rows≤20:=by have:=hG.n; unfold Pb.rows; omega
 have hsL:=j6
 have eR:P.rows=P.cl.length+6+6:=rfl
 have hS:Szp (P.rows+1) (P.of.length+1) sL P.sA (P.sB V) P.sG:=⟨by omega,by omega,by
   have:(P.rows+1+(P.of.length+1)+1)*(2*sL+1)≤32*(2*25515349+1):=Nat.mul_le_mul (by omega) (by omega)
   omega,fun i j _ _=>zG (abU hG) (by omega),fun i _=>zG (abV hG (by omega)) (by omega),fun j _=>zG abW (by omega)⟩
 have kl:=Ax hS ho (fun j _=>hx j) (fun i _=>hy i) hw
 have kp:=Z3 (ch:=ch) (V:=V) hn (by omega) hl (by omega)
 rw[if_pos he] at kp
 generalize hpq:prQ (Z P.rows) (fR Z P.cl.length) (fR (fun j=>Z (P.cl.length+j)) 6) (fR (fun j=>Z (P.cl.length+6+j)) 6) 1 w X Y (P.rows+1) (P.of.length+1)=pq
 have kf:zd Tryz.prog yE [.agg pq,.agg (pbC P)] (bv true):=by
  have:=Qw (P:=P) (a:=f0 (Z P.rows)) (b:=f1 (Z P.rows)) (c:=f2 (Z P.rows)) (B:=fR Z P.cl.length) (S:=fR (fun j=>Z (P.cl.length+j)) 6) (O:=fR (fun j=>Z (P.cl.length+6+j)) 6) (x0:=iv 1) (x1:=f0 w) (x2:=f1 w) (x3:=f2 w) (x4:=fL X (P.rows+1)) (x5:=fL Y (P.of.length+1)) (x6:=z7)
  rw[← hpq]
  simpa using this
 have hap:fR Z P.rows++[fr (Z P.rows)]=fR Z (P.rows+1):=vB.symm
 have hg13:zB pq 0 (some 13)=some (.agg pq):=by rw[← hpq]; exact XF
 have hg7:zB pq 6 (some 7)=some (.agg [iv 1,f0 w,f1 w,f2 w,fL X (P.rows+1),fL Y (P.of.length+1),z7]):=by rw[← hpq]; exact GE
 have hg3:zB pq 0 (some 3)=some (fq (Z P.rows)):=by rw[← hpq]; exact j1
 have hg6:pq[6]?=some (iv 1):=by rw[← hpq]; rfl
 have hg10:pq[10]?=some (fL X (P.rows+1)):=by rw[← hpq]; rfl
 have hrf:pq.all rf=true:=by rw[← hpq]; simp
 have hstr:pq.map strip=pq:=by rw[← hpq]; simp
 have hr4:∀ k,xo k pq=false:=fun k=>by rw[← hpq]; simp
 refine zx SS (by simp) ?_
 simp[eB]
 refine za kp (by simp) (by simp) ?_
 simp[he,hg13,hr4]
 refine za kf (by simp) (by simp) ?_
 have kI:∀ {env:List (Nat × AV)} {K:AV→St→Prop},yH 1000 env→K (.list 3 (.own 1006) (fR Z P.rows)) ⟨env,[(5,.var pq),(7,.var [fL P.sG (P.rows+1),.list 4 .plain (pR P.sA (P.sB V) (P.rows+1) (P.of.length+1))])],[],0⟩ →
   z0 Tryz.prog yi [.agg pq] ⟨env,[(5,.var pq),(7,.var [fL P.sG (P.rows+1),.list 4 .plain (pR P.sA (P.sB V) (P.rows+1) (P.of.length+1))])],[],0⟩ K:=by
  rw[← hpq]
  exact fun h1 h2=>ac2 hn h1 h2
 have hlow:∀ M cs,Am.low M (.agg cs)=true:=fun M cs=>rfl
 have hlow2:∀ M R,Am.low M (.list 3 .full R)=true:=fun M R=>rfl
 have hdg:pq.map (dg 1006)=pq:=by rw[← hpq]; simp
 simp[hg6,hg13,hg3,hr4,AS]
 refine .inl ⟨by simp[tF],fun D=>kI (AA ?_) ?_⟩
 ·simp[yt,yO,sU,xz,hlow,hlow2]
 ·refine ⟨⟨_,_,_,_⟩,rfl,rfl,by simp[tF],?_⟩
  simp[hg3,hg7,hap,hdg]
  refine ⟨by omega,by omega,?_⟩
  refine za kl (by simp) (by simp) ?_
  by_cases hwv:w=v
  rotate_left
  ·rw[if_neg fun h=>hwv h.1]
   simp[hwv,hr4,rJ]
  simp[hwv,hg10,hr4]
  refine zr (Sy P Z X Y w) (fun k=>∀ j,j<k→Z j=X j) (P.rows+1) (by simp[Sy,← hpq]) (fun j hj=>by omega) (fun k hk hI=>?_) (fun hI=>?_)
  ·have e:(k:Int)<(P.rows+1:Nat):=by omega
   have e2:(k:Int)<(P.rows:Int)+1:=by omega
   have w1:=zn (k:=k) (by omega)
   have hc2:=cZ (K:=137438953472) (by omega) (hZ k) (zG (hx k) (by omega))
   simp[qc,Sy,hpq,e2,hk]
   refine za (Qe (by omega) (hZ k)) (by simp) (by simp) ?_
   simp[hg10,e2,hk]
   refine za hc2 (by simp) (by simp) ?_
   by_cases hzx:Z k=X k
   ·have h0:wX (X k) (X k)=0:=lh.2 rfl
    simp[hzx,h0,w1,Sy,hpq]
    refine ⟨hr4 11,fun j hj=>?_⟩
    by_cases ej:j=k
    ·subst ej; exact hzx
    ·exact hI j (by omega)
   ·have h0:¬ wX (Z k) (X k)=0:=fun h=>hzx (lh.1 h)
    have h1:¬ ∀ j,j<P.rows+1→Z j=X j:=fun h=>hzx (h k hk)
    simp[h0,h1,hr4,rJ]
  ·simp[qc,Sy,hpq,k8,rJ]
   exact hI
end
end
def wL5:List Int→Nat→Int:=fun l k=>l.getD k 0
def P3a:Pb:=⟨wL5 [1,1],wL5 [1,1],wL5 [],[0,0,0],[⟨0,wL5 [1,1],10⟩,⟨1,wL5 [1],6⟩,⟨2,wL5 [0,1],6⟩]⟩
def P3b:Pb:=⟨wL5 [1,1,1],wL5 [1,1,1],wL5 [],[0,0,0],[⟨0,wL5 [1,1],10⟩,⟨1,wL5 [0,1,1],10⟩,⟨2,wL5 [1,0,1],10⟩]⟩
theorem aeJ:zd Tryz.prog uF [] (.agg [iv 1,iv 1,iv 0,iv 0,iv 0,iv 0,iv 1,iv 1,iv 0,iv 0,iv 0,iv 0,iv 0,iv 0,iv 0,iv 0,iv 0,iv 0,.list 1 .full [[iv 0],[iv 0],[iv 0]],.list 8 .full [[iv 0,iv 1,iv 1,iv 0,iv 0,iv 0,iv 0,iv 10],[iv 1,iv 1,iv 0,iv 0,iv 0,iv 0,iv 0,iv 6],[iv 2,iv 0,iv 1,iv 0,iv 0,iv 0,iv 0,iv 6]]]):=by
 refine zx Pl (by simp) ?_
 simp[aP,splice,a9]
theorem adA:zd Tryz.prog pQ [] (.agg [iv 1,iv 1,iv 1,iv 0,iv 0,iv 0,iv 1,iv 1,iv 1,iv 0,iv 0,iv 0,iv 0,iv 0,iv 0,iv 0,iv 0,iv 0,.list 1 .full [[iv 0],[iv 0],[iv 0]],.list 8 .full [[iv 0,iv 1,iv 1,iv 0,iv 0,iv 0,iv 0,iv 10],[iv 1,iv 0,iv 1,iv 1,iv 0,iv 0,iv 0,iv 10],[iv 2,iv 1,iv 0,iv 1,iv 0,iv 0,iv 0,iv 10]]]):=by
 refine zx Pj (by simp) ?_
 simp[aO,splice,a8]
theorem Qc:zd Tryz.prog uF [] (.agg (pbC P3a)):=by
 refine QZ aeJ ?_
 have e:ofR P3a.of=[[iv 0,iv 1,iv 1,iv 0,iv 0,iv 0,iv 0,iv 10],[iv 1,iv 1,iv 0,iv 0,iv 0,iv 0,iv 0,iv 6],[iv 2,iv 0,iv 1,iv 0,iv 0,iv 0,iv 0,iv 6]]:=by
  unfold ofR P3a
  simp only[List.map_cons,List.map_nil,sD]
  rfl
 simp only[yX]
 refine gp ?_
 have h2:AV.imp (.list 8 .full [[iv 0,iv 1,iv 1,iv 0,iv 0,iv 0,iv 0,iv 10],[iv 1,iv 1,iv 0,iv 0,iv 0,iv 0,iv 0,iv 6],[iv 2,iv 0,iv 1,iv 0,iv 0,iv 0,iv 0,iv 6]]) (ofA P3a.of):=by
  unfold ofA
  rw[e]
  exact wd
 have h1:AV.imp (.list 1 .full [[iv 0],[iv 0],[iv 0]]) (clA P3a.cl):=wd
 repeat' first | exact z3 h1 (z3 h2 qj) | refine z3 AV.imp.refl ?_
theorem adB:zd Tryz.prog pQ [] (.agg (pbC P3b)):=by
 refine QZ adA ?_
 have e:ofR P3b.of=[[iv 0,iv 1,iv 1,iv 0,iv 0,iv 0,iv 0,iv 10],[iv 1,iv 0,iv 1,iv 1,iv 0,iv 0,iv 0,iv 10],[iv 2,iv 1,iv 0,iv 1,iv 0,iv 0,iv 0,iv 10]]:=by
  unfold ofR P3b
  simp only[List.map_cons,List.map_nil,sD]
  rfl
 simp only[yX]
 refine gp ?_
 have h2:AV.imp (.list 8 .full [[iv 0,iv 1,iv 1,iv 0,iv 0,iv 0,iv 0,iv 10],[iv 1,iv 0,iv 1,iv 1,iv 0,iv 0,iv 0,iv 10],[iv 2,iv 1,iv 0,iv 1,iv 0,iv 0,iv 0,iv 10]]) (ofA P3b.of):=by
  unfold ofA
  rw[e]
  exact wd
 have h1:AV.imp (.list 1 .full [[iv 0],[iv 0],[iv 0]]) (clA P3b.cl):=wd
 repeat' first | exact z3 h1 (z3 h2 qj) | refine z3 AV.imp.refl ?_
def y3 (i:Nat):Rat:=if i=3∨i=4 then 6 else 0
theorem ahT (i:Nat):0≤y3 i:=by unfold y3; split<;>decide
theorem ad8 {X Y:Nat→Rat} {v:Rat} (ho:P3a.Sup 12 X Y v):X P3a.rows=0:=by
 have h1:=C3 ho (y:=y3) (z:=0) (fun r _=>ahT r) (by decide) (by
  have h:∀ i,i<3→P3a.vQ i≤P3a.costQ y3 i+0:=by decide +kernel
  exact h) (by decide +kernel)
 have h2:=ho.x0 P3a.rows
 grind
theorem ahG:P3b.Sol [0,0,0] fun _=>1/2 :=
 ⟨fun _ _=>by decide +kernel,fun i hi h=>by
  have:∀ i,i<3→¬ ([0,0,0]:List Int).getD i 9=1:=by decide
  exact absurd h (this i hi),fun i hi _ h=>by
  have:∀ i,i<3→([0,0,0]:List Int).getD i 9=0:=by decide
  exact absurd (this i hi) h,by
  have h:∀ r,r<15→zf 3 (fun i=>P3b.cof r i*(1/2))≤((P3b.bnd r:Int):Rat):=by decide +kernel
  exact h⟩
theorem ad9 {X Y:Nat→Rat} {v:Rat} (ho:P3b.Sup 10 X Y v):0<X P3b.rows:=by
 have h2:=ho.x0 P3b.rows
 by_cases h0:X P3b.rows=0
 ·have h3:=MT (fx:=[0,0,0]) rfl ho h0 ahG
  have h4:¬ P3b.val 3 (fun _=>1/2)≤((10:Int):Rat):=by decide +kernel
  exact absurd h3 h4
 ·grind
theorem G8:pgE P3a [1,2] 12=0:=by decide +kernel
theorem aiY:pgE P3b [0] 10=0:=by decide +kernel
theorem TM {ch:List Int} {V:Int}:AV.imp (.agg [.list 1 .full (clR ch),iv V]) (.agg [clA ch,iv V]):=gp (z3 wd jg)
theorem PD {q:Rat} (h:sz sL q):sz 137438953472 q:=zG h (by rw[j6]; decide)
theorem Ta:zd Tryz.prog pP [] (bv true):=by
 obtain ⟨X,Y,v,⟨ho,hx,hy,hv⟩,k1⟩:=RL (P:=P3a) (ch:=[1,2]) (V:=12) (by decide) (by decide) (by decide) G8
 obtain ⟨X2,Y2,v2,⟨ho2,hx2,hy2,hv2⟩,k2⟩:=RL (P:=P3b) (ch:=[0]) (V:=10) (by decide) (by decide) (by decide) aiY
 have h0:=ad8 ho
 have h1:=ad9 ho2
 have k3:=Z3 (P:=P3a) (ch:=[1,2]) (V:=12) (by decide) (by decide) (by decide) (by decide)
 rw[if_pos G8,G8] at k3
 have k4:=acj (P:=P3a) (ch:=[1,2]) (V:=12) (Z:=X) (w:=v) (by decide) (by decide) (by decide) G8 ho hx hy (PD hv) fun j=>PD (hx j)
 rw[if_pos ⟨rfl,fun j _=>rfl⟩] at k4
 have k1':=ny k1 (GN AV.imp.refl TM)
 have k2':=ny k2 (GN AV.imp.refl TM)
 have k3':=ny k3 (GN AV.imp.refl TM)
 have k4':=ny k4 (ahd AV.imp.refl TM AV.imp.refl)
 have e1:clR [1,2]=[[iv 1],[iv 2]]:=rfl
 have e2:clR [0]=[[iv 0]]:=rfl
 rw[e1] at k1' k3' k4'
 rw[e2] at k2'
 have ks:zd Tryz.prog v8 [fq (X P3a.rows),fq 0] (bv true):=by have:=Sj (q:=0) (by decide:137438953472≤137438953472) (PD (hx P3a.rows)); simpa [h0] using this
 have hs:0<xX (X2 P3b.rows):=fF.2 h1
 have r1:P3a.rows=15:=by decide
 have r2:P3a.of.length=3:=by decide
 refine zx Pi (by simp) ?_
 simp[aN]
 refine za Qc (by simp) (by simp) ?_
 simp
 refine za k1' (by simp) (by simp) ?_
 simp
 refine za adB (by simp) (by simp) ?_
 simp
 refine za k2' (by simp) (by simp) ?_
 simp
 refine za Qc (by simp) (by simp) ?_
 simp
 refine za k3' (by simp) (by simp) ?_
 have hrf:∀ P X Y v,(prS P X Y v).all rf=true:=fun P X Y v=>by simp
 have hst:∀ P X Y v,(prS P X Y v).map strip=prS P X Y v:=fun P X Y v=>by simp
 simp[j1]
 refine za agE (by simp) (by simp) ?_
 simp
 refine za ks (by simp) (by simp) ?_
 simp
 refine za Qc (by simp) (by simp) ?_
 simp
 refine za k4' (by simp) (by simp) ?_
 simp[j1]
 refine za (agj (q:=X2 P3b.rows)) (by simp) (by simp) ?_
 simp[hs,r1,r2,a7]
abbrev tyB:Ty:=.arr 6 (.int .i64)
abbrev F5:Ty:=.st [.int .i64,tyB,.int .i64]
abbrev abB:Ty:=.st [tyB,tyB,tyB,.slice (.int .i64),.slice F5]
theorem Th {cs:List AV} (h:TyC tyB cs):∃ w:Nat→Int,cs=bC w:=by
 obtain ⟨rows,rfl,hl,h⟩:=h
 obtain ⟨L,rfl,_⟩:=af (fun n:Int=>[iv n]) (fun _=>True) (fun r hr=>by
  obtain ⟨n,rfl,_⟩:=hr
  exact ⟨n,rfl,trivial⟩) h
 refine ⟨fun k=>L.getD k 0,?_⟩
 match L,hl with
 | [a,b,c,d,e,f],_=>rw[vS]; rfl
theorem AP {cs:List AV} (h:TyC F5 cs):∃ o:Of,cs=oC o:=by
 obtain ⟨a1,b1,rfl,⟨n,rfl,_⟩,a2,b2,rfl,h2,a3,b3,rfl,⟨v,rfl,_⟩,rfl⟩:=h
 obtain ⟨w,rfl⟩:=Th h2
 exact ⟨⟨n,w,v⟩,by rw[sD,vS]; rfl⟩
theorem ac0 {cs:List AV} (h:TyC (.slice (.int .i64)) cs):∃ l:List Int,cs=[clA l]∧l.length≤reachBytes:=by
 obtain ⟨rows,rfl,hl,h⟩:=h
 obtain ⟨L,rfl,h2⟩:=af (fun d:Int=>[iv d]) (fun _=>True) (fun r hr=>by
  obtain ⟨n,rfl,_⟩:=hr
  exact ⟨n,rfl,trivial⟩) h
 exact ⟨L,rfl,by simpa using hl⟩
theorem ads {cs:List AV} (h:TyC (.slice F5) cs):∃ L:List Of,cs=[ofA L]∧L.length≤reachBytes:=by
 obtain ⟨rows,rfl,hl,h⟩:=h
 obtain ⟨L,rfl,h2⟩:=af oC (fun _=>True) (fun r hr=>by
  obtain ⟨o,rfl⟩:=AP hr
  exact ⟨o,rfl,trivial⟩) h
 exact ⟨L,rfl,by simpa using hl⟩
theorem adH {x:AV} (h:J5 abB x):∃ P:Pb,x=.agg (pbC P)∧P.cl.length≤reachBytes∧P.of.length≤reachBytes:=by
 obtain ⟨cs,rfl,a1,b1,rfl,h1,a2,b2,rfl,h2,a3,b3,rfl,h3,a4,b4,rfl,h4,a5,b5,rfl,h5,rfl⟩:=h
 obtain ⟨s,rfl⟩:=Th h1
 obtain ⟨p,rfl⟩:=Th h2
 obtain ⟨c,rfl⟩:=Th h3
 obtain ⟨l,rfl,hl⟩:=ac0 h4
 obtain ⟨L,rfl,hL⟩:=ads h5
 refine ⟨⟨s,p,c,l,L⟩,?_,hl,hL⟩
 congr 1
 unfold pbC pbX
 simp
section
variable {P:Pb} {ch:List Int} {V:Int}
def afG (P:Pb) (ch:List Int):Prop:=P.cl.length≤6∧P.of.length≤42∧ch.length≤50
instance (P:Pb) (ch:List Int):Decidable (afG P ch):=by unfold afG; exact inferInstance
end
section
variable {P:Pb} {Y:Nat→RF} {off:Int} {S0 i:Nat} {fm:Bool} {pq:List AV}
structure PrK (P:Pb) (pq:List AV) (fm:Bool) (Y:Nat→RF):Prop where
 ld:zB pq 0 (some 13)=some (.agg pq)
 st:pq.map strip=pq
 rf:pq.all rf=true
 rr:∀ k,xo k pq=false
 kf:zd Tryz.prog yE [.agg pq,.agg (pbC P)] (bv fm)
 kl:fm=true→zd Tryz.prog yi [.agg pq] (hL Y P.rows)
noncomputable def MW (P:Pb) (Y:Nat→RF) (off:Int) (k:Nat):St :=
 {env:=[(1,iv off),(3,.ptr 3 0),(6,.ptr 6 0),(9,.ptr 9 0),(37,hL Y P.rows),(38,iv P.rows),(39,iv k)],
  sto:=[(3,.var (pbC P)),(6,.var zz),(9,.var (fr (zf k fun r=>(Y r).q*P.cof r off.toNat)))]}
noncomputable def qO (P:Pb) (off:Int) (fm:Bool) (Y:Nat→RF):Int:=if P.chk≠0 then P.chk else if off<0∨(P.of.length:Int)≤off then 4 else @ite _ (fm=true∧∀ j,j<P.rows→(Y j).v=true) (Classical.propDecidable _) 0 2
theorem R4 {S:Nat} {f:Nat→Rat}:∀ {k:Nat},(∀ i,i<k→sz S (f i))→sz (k*(S+1)) (zf k f)
 | 0,_=>vd
 | k+1,h=>by
  have ih:=R4 (k:=k) fun i hi=>h i (by omega)
  simp only[zf]
  exact zG (cg ih (h k (by omega))) (by rw[Nat.add_mul]; omega)
theorem aiM {x:RF} (h:x.v=true):hq x=fq x.q:=by
 have e:=afR h
 conv=>lhs; rw[e]
 unfold hq fq
 rw[Pw]
theorem afe (hn:P.cl.length≤1000) (hk:P.of.length≤1000000) (hS:S0≤30000000) (K:PrK P pq fm Y) (hY:∀ j,j<P.rows→(Y j).fine) (hz:∀ j,j<P.rows→(Y j).v=true→sz S0 (Y j).q) :
  zd Tryz.prog qH [.agg (pbC P),iv off,.agg pq] (.tuple [if qO P off fm Y=0 then fq (P.costQ (fun r=>(Y r).q) off.toNat) else .agg zz,iv (qO P off fm Y)]):=by
 have kc:=gk (P:=P) hn hk
 obtain ⟨k1,k2,k3,k4,k5,k6⟩:=K
 refine zx Qb (by simp) ?_
 simp[dR]
 refine za kc (by simp) (by simp) ?_
 by_cases c1:P.chk=0
 rotate_left
 ·have he:qO P off fm Y=P.chk:=if_pos c1
  rw[he]
  simp[c1,va]
 by_cases c2:off<0∨(P.of.length:Int)≤off
 ·have he:qO P off fm Y=4:=by unfold qO; rw[if_neg fun h=>h c1,if_pos c2]
  rw[he]
  by_cases c3:off<0
  ·simp[c1,c3,va]
  ·have c4:(P.of.length:Int)≤off:=by omega
   simp[c1,c3,c4,va]
 have c3:¬ off<0:=by omega
 have c4:¬ (P.of.length:Int)≤off:=by omega
 obtain ⟨o,rfl⟩:∃ o:Nat,off=o:=⟨off.toNat,by omega⟩
 have ho:o<P.of.length:=by omega
 have hoi:(o:Int)<P.of.length:=by omega
 simp[c1,c3,c4,k1]
 refine za k5 (by simp) (by simp) ?_
 cases fm with
 | false =>
  have he:qO P o false Y=2:=by
   unfold qO
   rw[if_neg fun h=>h c1,if_neg c2]
   exact if_neg fun h=>by cases h.1
  rw[he]
  simp[va]
 | true =>
  have k6:=k6 rfl
  have hG:=xQ c1
  have hrw:P.rows≤20:=by have:=hG.n; unfold Pb.rows; omega
  simp
  refine za (yf (n:=0) (by decide) (by decide)) (by simp) (by simp) ?_
  simp[k1]
  refine za k6 (by simp) (by simp) ?_
  simp
  refine zr (MW P Y o) (fun k=>∀ j,j<k→(Y j).v=true) P.rows (by simp[MW,zf]) (fun j hj=>by omega) (fun k hk' hI=>?_) (fun hI=>?_)
  ·have e:(k:Int)<P.rows:=by omega
   have w:=zn (k:=k) (by omega)
   have kv:=YT (hY k hk')
   simp[py,MW,e,hk']
   refine za kv (by simp) (by simp) ?_
   cases hv:(Y k).v with
   | false =>
    have he:qO P o true Y=2:=by
     unfold qO
     rw[if_neg fun h=>h c1,if_neg c2]
     exact if_neg fun h=>by have:=h.2 k hk'; rw[hv] at this; cases this
    rw[he]
    simp[va]
   | true =>
    have krow:=abT (P:=P) (r:=(k:Int)) hn hk
    have e0:(0:Int)≤k∧(k:Int)<(tn P:Nat):=by unfold tn; rw[if_pos c1]; omega
    unfold Fo at krow
    rw[if_pos e0,if_pos e0,Int.toNat_natCast] at krow
    have hm:P.of[o]∈P.of:=List.getElem_mem ho
    have hcf:=uK (yG (yp (hG.off _ hm)).1).2.2 hk'
    have hck:P.cof k o=((P.coef k P.of[o]:Int):Rat):=by unfold Pb.cof; rw[pF ho]
    obtain ⟨c,hcc⟩:∃ c,P.coef k P.of[o]=c:=⟨_,rfl⟩
    rw[hcc] at hcf hck
    have hrl:∀ h,(nE P k)[o]'h=c:=fun h=>by simp[nE,hcc]
    have s2:sz 3 ((c:Int):Rat):=tY (by omega)
    have hzk:=hz k hk' hv
    have hsum:(zf k fun r=>(Y r).q*P.cof r o)+(Y k).q*((c:Int):Rat)=zf (k+1) fun r=>(Y r).q*P.cof r o:=by
     simp only[zf]
     rw[hck]
    have hsz:sz 1000000000 (zf k fun r=>(Y r).q*P.cof r o):=by
     have:=R4 (S:=S0+3) (f:=fun r=>(Y r).q*P.cof r o) (k:=k) fun i hi=>yj (hz i (by omega) (hI i hi)) (zG (Nf hG ho (by omega)) (by decide))
     refine zG this ?_
     have:k*(S0+3+1)≤20*30000004:=Nat.mul_le_mul (by omega) (by omega)
     omega
    have hqk:=aiM hv
    have km:=mG (K:=30000000) (by decide) (zG hzk hS) (zG s2 (by decide))
    have ka:=cF (K:=1000000000) (by decide) hsz (zG (yj hzk s2) (by omega))
    have hrq:hr (Y k)=fr (Y k).q:=by
     conv=>lhs; rw[afR hv]
     exact Pw _
    simp
    refine za krow (by simp) (by simp) ?_
    simp[ho,hoi,hrl]
    refine za (yf (n:=c) (by omega) (by omega)) (by simp) (by simp) ?_
    simp[hrq]
    refine za km (by simp) (by simp) ?_
    simp
    refine za ka (by simp) (by simp) ?_
    simp[w,MW,hsum]
    intro j hj
    by_cases ej:j=k
    ·subst ej; exact hv
    ·exact hI j (by omega)
  ·have he:qO P o true Y=0:=by
    unfold qO
    rw[if_neg fun h=>h c1,if_neg c2]
    exact if_pos ⟨rfl,hI⟩
   rw[he]
   have hs:(zf P.rows fun r=>(Y r).q*P.cof r o)=P.costQ (fun r=>(Y r).q) o:=rfl
   simp[py,MW,jP,hs,va]
variable {B S O:Nat→RF} {nb ns no:Nat}
theorem ahq {Z X Y:Nat→Rat} {w:Rat} (hn:P.cl.length≤1000):PrK P (pqL P Z X Y w) true (fun j=>RF.of (Z j)):=by
 refine ⟨XF,by simp,by simp,fun k=>by simp,?_,fun _=>?_⟩
 ·have:=Qw (P:=P) (a:=f0 (Z P.rows)) (b:=f1 (Z P.rows)) (c:=f2 (Z P.rows)) (B:=fR Z P.cl.length) (S:=fR (fun j=>Z (P.cl.length+j)) 6) (O:=fR (fun j=>Z (P.cl.length+6+j)) 6) (x0:=iv 1) (x1:=f0 w) (x2:=f1 w) (x3:=f2 w) (x4:=fL X (P.rows+1)) (x5:=fL Y (P.of.length+1)) (x6:=z7)
  simpa using this
 ·have:=ac3 (a:=f0 (Z P.rows)) (b:=f1 (Z P.rows)) (c:=f2 (Z P.rows)) (B:=fR Z P.cl.length) (S:=fR (fun j=>Z (P.cl.length+j)) 6) (O:=fR (fun j=>Z (P.cl.length+6+j)) 6) (x0:=iv 1) (x1:=f0 w) (x2:=f1 w) (x3:=f2 w) (x4:=fL X (P.rows+1)) (x5:=fL Y (P.of.length+1)) (x6:=z7) (by simp; omega)
  rw[YR,YR] at this
  have e:hL (fun j=>RF.of (Z j)) P.rows=fL Z P.rows:=by unfold YtjeoklgggppjiaaGreat.hL fL; rw[GK fun _ _=>rfl]
  rw[e]
  exact this
end
section
variable {P:Pb} {ch:List Int}
def RJ (P:Pb):Prop:=P.cl.length≤5∧P.of.length≤9∧P.chk=0
instance (P:Pb):Decidable (RJ P):=by unfold RJ; exact inferInstance
theorem aa5:zd Tryz.prog jw [.agg (pbC P)] (bv (decide (RJ P))):=by
 refine zx Pk (by simp) ?_
 unfold RJ
 by_cases h1:P.cl.length≤5
 ·have h1':(P.cl.length:Int)≤5:=by omega
  by_cases h2:P.of.length≤9
  ·have h2':(P.of.length:Int)≤9:=by omega
   simp[pX,h1,h1',h2,h2']
   refine za (nC (P:=P) (by omega) (by omega)) (by simp) (by simp) ?_
   simp[p6]
  ·have h2':¬ (P.of.length:Int)≤9:=by omega
   simp[pX,h1,h1',h2,h2',p6]
 ·have h1':¬ (P.cl.length:Int)≤5:=by omega
  simp[pX,h1,h1',p6]
theorem acv {X:Nat→Rat} {i:Nat} (hG:P.Good) (hi:i<P.of.length) (hx:∀ j,sz sL (X j)):sz 1000000000 (P.costQ X i):=by
 have hrw:P.rows≤20:=by have:=hG.n; unfold Pb.rows; omega
 have hsL:=j6
 have:=R4 (S:=sL+2) (f:=fun r=>X r*P.cof r i) (k:=P.rows) fun r hr=>yj (hx r) (Nf hG hi hr)
 refine zG this ?_
 have:P.rows*(sL+2+1)≤20*25515352:=Nat.mul_le_mul (by omega) (by omega)
 omega
theorem acu {X Y Z:Nat→Rat} {w:Rat} {i:Nat} (hn:P.cl.length≤1000) (hk:P.of.length≤1000000) (hc:P.chk=0) (hi:i<P.of.length) (hz:∀ j,sz sL (Z j)) :
  zd Tryz.prog qH [.agg (pbC P),iv i,.agg (pqL P Z X Y w)] (.tuple [fq (P.costQ Z i),iv 0]):=by
 have h:=afe (P:=P) (off:=(i:Int)) (S0:=sL) hn hk (by rw[j6]; decide) (ahq (P:=P) (Z:=Z) (X:=X) (Y:=Y) (w:=w) hn) (fun j _=>dW (by rw[j6]; decide:sL≤137438953472) (hz j)) fun j _ _=>by rw[aaj]; exact hz j
 have he:qO P (i:Int) true (fun j=>RF.of (Z j))=0:=by
  unfold qO
  rw[if_neg fun h=>h hc,if_neg (by omega)]
  exact if_pos ⟨rfl,fun j _=>G0 _⟩
 rw[he,if_pos rfl] at h
 simpa [aaj] using h
end
def rt (P:Pb) (b:List Int × Int) (ch:List Int):List Int × Int:=if b.2<P.valE ch then (ch,P.valE ch) else b
def srL (P:Pb):Nat→List Int→List Int × Int→List Int × Int
 | 0,_,b=>b
 | d+1,ch,b =>
  srL P d ch (if P.feaE (ch++[((P.of.length-(d+1):Nat):Int)])=0 then srL P d (ch++[((P.of.length-(d+1):Nat):Int)]) (rt P b (ch++[((P.of.length-(d+1):Nat):Int)])) else b)
section
variable {P:Pb} {ch:List Int} {b:List Int × Int} {d:Nat}
def gdB (P:Pb) (b:List Int × Int):Prop:=P.feaE b.1=0∧b.2=P.valE b.1
theorem J4 (hb:gdB P b) (h:P.feaE ch=0):gdB P (rt P b ch):=by
 unfold rt
 split
 ·exact ⟨h,rfl⟩
 ·exact hb
theorem Su:∀ {d:Nat} {ch:List Int} {b:List Int × Int},gdB P b→gdB P (srL P d ch b)
 | 0,_,_,h=>h
 | d+1,ch,b,h=>by
  simp only[srL]
  split
  ·rename_i hf
   exact Su (Su (J4 h hf))
  ·exact Su h
theorem acP (h:P.feaE ch=0):ch.length≤P.of.length:=qX (fb h).2.1
noncomputable abbrev bA (b:List Int × Int):AV:=.agg [clA b.1,iv b.2]
def seqB (P:Pb) (ch:List Int) (d:Nat) (b:List Int × Int):Nat→List Int × Int
 | 0=>b
 | k+1=>if P.feaE (ch++[((P.of.length-(d-k):Nat):Int)])=0 then srL P (d-k-1) (ch++[((P.of.length-(d-k):Nat):Int)]) (rt P (seqB P ch d b k) (ch++[((P.of.length-(d-k):Nat):Int)])) else seqB P ch d b k
theorem MN:∀ k,k≤d→srL P d ch b=srL P (d-k) ch (seqB P ch d b k)
 | 0,_=>rfl
 | k+1,hk=>by
  rw[MN k (by omega)]
  obtain ⟨e,he⟩:∃ e,d-k=e+1:=⟨d-k-1,by omega⟩
  have h2:d-(k+1)=e:=by omega
  rw[he,h2]
  simp only[srL,seqB,he,Nat.add_sub_cancel]
theorem aaP:seqB P ch d b d=srL P d ch b:=by rw[MN d (Nat.le_refl d),Nat.sub_self]; rfl
noncomputable def az (P:Pb) (ch:List Int) (d:Nat) (b:List Int × Int) (k:Nat):St :=
 {env:=[(1,clA ch),(4,.ptr 4 0),(7,.ptr 7 0),(8,.ptr 8 0),(10,iv (P.of.length-(d-k):Nat))],
  sto:=[(4,.var (pbC P)),(7,.var (([clA (seqB P ch d b k).1,iv (seqB P ch d b k).2]:List AV))),(8,.var [z7,iv 0])]}
theorem aaN (hn:P.cl.length≤1000) (hk:P.of.length≤9):∀ (d:Nat) (ch:List Int) (b:List Int × Int),d≤P.of.length→ch.length≤P.of.length →
  zd Tryz.prog qG [.agg (pbC P),clA ch,iv (P.of.length-d:Nat),bA b] (bA (srL P d ch (rt P b ch))):=by
 intro d
 induction d using Nat.strongRecOn with
 | ind d ih =>
  intro ch b hd hch
  have kval:=aaJ (P:=P) (ch:=ch) hn (by omega) (by omega)
  refine zx R9 (by simp) ?_
  simp[dP]
  refine za kval (by simp) (by simp) ?_
  have key:∀ s0:St,St.imp s0 (az P ch d (rt P b ch) 0)→awp Tryz.prog (.loop vN) s0 (wP 0 (rm Tryz.prog po (UI lP (bA (srL P d ch (rt P b ch)))))):=by
   intro s0 h0
   refine v9 (az P ch d (rt P b ch)) (fun _=>True) d h0 trivial (fun k hk' _=>?_) (fun _=>?_)
   ·obtain ⟨i,hi⟩:∃ i,P.of.length-(d-k)=i:=⟨_,rfl⟩
    have hi2:P.of.length-(d-(k+1))=i+1:=by omega
    have hin:(i:Int)<P.of.length:=by omega
    have w:=zn (k:=i) (by omega)
    have kf:=Kk (P:=P) (ch:=ch++[(i:Int)]) hn (by omega) (by simp; omega)
    have hcr:clR ch++[[iv i]]=clR (ch++[(i:Int)]):=by simp[clR]
    by_cases hf:P.feaE (ch++[(i:Int)])=0
    ·have hl:=acP hf
     have hs2:=ih (d-k-1) (by omega) (ch++[(i:Int)]) (seqB P ch d (rt P b ch) k) (by omega) hl
     rw[show P.of.length-(d-k-1)=i+1 by omega] at hs2
     have hsq:seqB P ch d (rt P b ch) (k+1)=srL P (d-k-1) (ch++[(i:Int)]) (rt P (seqB P ch d (rt P b ch) k) (ch++[(i:Int)])):=by simp only[seqB,hi]; rw[if_pos hf]
     simp[vN,az,hi,hin,hcr]
     refine ⟨by omega,by omega,by omega,by omega,?_⟩
     refine za kf (by simp) (by simp) ?_
     simp[hf,w]
     refine za hs2 (by simp) (by simp) ?_
     simp[w,az,hsq,hi2]
     exact St.imp.refl
    ·have hsq:seqB P ch d (rt P b ch) (k+1)=seqB P ch d (rt P b ch) k:=by simp only[seqB,hi]; rw[if_neg hf]
     simp[vN,az,hi,hin,hcr]
     refine ⟨by omega,by omega,by omega,by omega,?_⟩
     refine za kf (by simp) (by simp) ?_
     simp[hf,w,az,hsq,hi2]
     exact St.imp.refl
   ·have e:¬ ((P.of.length-(d-d):Nat):Int)<P.of.length:=by omega
    have hall:=aaP (P:=P) (ch:=ch) (d:=d) (b:=rt P b ch)
    simp[vN,az,po,hall,lP]
  by_cases c:b.2<P.valE ch
  ·have hu:rt P b ch=(ch,P.valE ch):=if_pos c
   simp[c]
   refine ⟨by omega,by omega,key _ ?_⟩
   rw[hu]
   simp[az,seqB]
   exact St.imp.refl
  ·have hu:rt P b ch=b:=if_neg c
   simp[c]
   refine key _ ?_
   rw[hu]
   simp[az,seqB]
   exact St.imp.refl
noncomputable abbrev Gd (P:Pb):List Int × Int:=srL P P.of.length [] (rt P ([],0) [])
theorem BE (hc:P.chk=0):gdB P (Gd P):=by
 have h0:P.feaE []=0:=by
  unfold Pb.feaE
  rw[if_neg fun h=>h hc,if_neg fun h=>h fun k hk=>absurd hk (Nat.not_lt_zero k),if_pos]
  intro r hr
  have:=Zp (xQ hc) hr
  show ((P.pick []).map (P.coef r)).sum≤_
  simp[Pb.pick]
  omega
 refine Su (J4 ⟨h0,?_⟩ h0)
 unfold Pb.valE
 split<;>simp[Pb.pick]
theorem adN (hn:P.cl.length≤1000) (hk:P.of.length≤9):zd Tryz.prog gx [.agg (pbC P)] (bA (Gd P)):=by
 have h:=aaN hn hk P.of.length [] ([],0) (Nat.le_refl _) (Nat.zero_le _)
 rw[Nat.sub_self] at h
 have h:=ny h (z3 AV.imp.refl (z3 (AV.imp_nil rfl) (z3 AV.imp.refl (z3 (gp (z3 (AV.imp_nil rfl) jg)) qj))):lE [.agg (pbC P),z7,iv (0:Nat),.agg [z7,iv 0]] _)
 refine zx Lt (by simp) ?_
 simp[Zw]
 refine za h (by simp) (by simp) ?_
 simp[Z9]
end
section
variable {P:Pb} {r n k:Nat} {o:Of} {L:List Of} {fx:List Int}
theorem adS (hn:P.cl.length≤1000) (hk:P.of.length≤1000000) (_hl:fx.length<4611686018427387904) :
  zd Tryz.prog mc [.agg (pbC P),clA fx] (if P.relE fx=0 then .tuple [Fl P fx,clA (ints (zL fx)),iv 0] else .tuple [.agg [yI,yI],yI,iv (P.relE fx)]):=by
 refine vc SQ (by simp) ?_
 simp[eo]
 refine za (gk hn hk) (by simp) (by simp) ?_
 by_cases c1:P.chk=0
 ·have hG:=xQ c1
  by_cases c2:fx.length=P.of.length
  ·have c2':(fx.length:Int)=P.of.length:=by omega
   simp[c1,c2']
   refine zr (dC P fx) (fun k=>∀ q,q<k→okX fx q) fx.length (by simp[dC,QI,Pb.inK,c2']) (fun q hq=>by omega) (fun k hk' hI=>?_) (fun hI=>?_)
   ·have e:(k:Int)<P.of.length:=by omega
    have hko:k<P.of.length:=by omega
    have w1:=zn (k:=k) (by omega)
    have hg:fx.getD k 9=fx[k]:=by rw[List.getD_eq_getElem?_getD,List.getElem?_eq_getElem hk']; rfl
    have hs0:=qo (fx:=fx) (v:=0) (k:=k)
    have hs1:=qo (fx:=fx) (v:=1) (k:=k)
    have hl0:=bQ (fx:=fx) (v:=0) (k:=k)
    have hl1:=Ro (P:=P) (fx:=fx) (k:=k)
    rw[hg] at hs0 hs1
    have hx:okX fx k→∀ q,q<k+1→okX fx q:=fun d q hq=>by
     by_cases eq:q=k
     ·subst eq; exact d
     ·exact hI q (by omega)
    by_cases d1:fx[k]=-1
    ·have d:=hx (.inl (by rw[hg,d1]))
     rw[d1] at hs0 hs1
     rw[if_neg (by decide)] at hs0 hs1
     simp[xD,dC,e,c2',hk',d1,w1,hs0,hs1,Pb.inK]
     exact d
    ·by_cases d2:fx[k]=0
     ·have d:=hx (.inr (.inl (by rw[hg,d2])))
      rw[d2] at hs0 hs1
      rw[if_pos rfl] at hs0
      rw[if_neg (by decide)] at hs1
      simp[xD,dC,e,c2',hk',d2]
      refine uH (by decide) rfl ?_ ?_ (by simp) ?_
      ·simp only[YN,NY]; omega
      ·simp only[YN,NY]; omega
      ·have hro:clR (ints (tO fx 0 k))++[[iv k]]=clR (ints (tO fx 0 (k+1))):=by rw[hs0,Au]; rfl
       rw[hro]
       simp[w1,dC,c2',rR,Pb.inK,hs1]
       exact d
     ·by_cases d3:fx[k]=1
      ·have d:=hx (.inr (.inr (by rw[hg,d3])))
       rw[d3] at hs0 hs1
       rw[if_neg (by decide)] at hs0
       rw[if_pos rfl] at hs1
       simp[xD,dC,e,c2',hk',d3,hko]
       refine uH (by decide) rfl ?_ ?_ (by simp) ?_
       ·simp only[uM]; omega
       ·simp only[uM]; omega
       ·have hro:ofR (P.inK fx k)++[oC P.of[k]]=ofR (P.inK fx (k+1)):=by unfold Pb.inK; rw[hs1,List.map_append,Y0,← pF hko]; rfl
        rw[hro]
        simp[w1,dC,c2',rR,hs0]
        exact d
      ·have hf:P.relE fx=4:=by
        unfold Pb.relE
        rw[if_neg (by simp[c1]),if_neg (by simp[c2]),if_pos (fun h=>by
         rcases h k hk' with h | h | h
         ·exact d1 (by rw[← hg,h])
         ·exact d2 (by rw[← hg,h])
         ·exact d3 (by rw[← hg,h]))]
       simp[xD,dC,e,c2',hk',d1,d2,d3,hf,vF]
       exact AV.imp.refl
   ·have key:∀ K:Exit→St→Prop,K (.exit 0) {env:=[(2,.ptr 2 0),(4,.ptr 4 0),(8,xF fx),(9,xI P fx),(36,clA fx),(37,iv fx.length),(38,iv fx.length),(39,bv false)],sto:=[(2,.var (pbC P)),(4,.var [yI,yI])]}→awp Tryz.prog xD (dC P fx fx.length) (uW K):=by
     intro K h
     simp[xD,dC]
     exact h
    refine key _ ?_
    have hF:okF fx:=hI
    have hm:=Jd (P:=P) (fx:=fx) (k:=fx.length) (by omega)
    have hil:=Ro (P:=P) (fx:=fx) (k:=fx.length)
    have hk160:=hG.k
    have hP:∀ o∈P.inL fx,P.offE o=0:=fun o ho=>hG.off o (hm o ho)
    have hil:(P.inL fx).length≤160:=by unfold Pb.inL; omega
    have hfl:(zL fx).length≤160:=by have:=bQ (fx:=fx) (v:=0) (k:=fx.length); unfold zL; omega
    have hfm:∀ i∈zL fx,i<P.of.length:=fun i hi=>by have:=(fk hi).1; omega
    simp[m6]
    refine za (NU (NF (P:=P) (L:=P.inL fx) hn (by omega) (fun o ho=>(yG (yp (hP o ho)).1).1) (fun o ho=>(yG (yp (hP o ho)).1).2.2)) (qY t5)) (by simp) (by simp) ?_
    by_cases c3:P.fits (P.inL fx)
    ·have hE:P.relE fx=0:=by
      unfold Pb.relE
      rw[if_neg (by simp[c1]),if_neg (by simp[c2]),if_neg (fun h=>h hF),if_pos c3]
     rw[if_pos hE]
     simp[-qQ,c3]
     have hR:P.rows≤1012:=by unfold Pb.rows; omega
     have hv:∀ i∈zL fx,-9223372036854775808≤(P.at (i:Nat)).v∧(P.at (i:Nat)).v<9223372036854775808:=fun i hi=>by
      have:=(yG (yp (hG.off _ (at_mem (hfm i hi)))).1).2.1
      omega
     refine zr (RY P fx) (fun _=>True) (zL fx).length (by simp[RY]) trivial (fun k hk' _=>?_) (fun _=>?_)
     ·have e:(k:Int)<(zL fx).length:=by omega
      have w1:=zn (k:=k) (by omega)
      obtain ⟨i,hi⟩:∃ i,(zL fx)[k]=i:=⟨_,rfl⟩
      have him:i∈zL fx:=hi▸List.getElem_mem hk'
      have hio:=hfm i him
      have hof:i<(ofR P.of).length:=by simpa using hio
      have hka:k<(clR (ints (zL fx))).length:=by simpa using hk'
      have hat:P.at (i:Int)=P.of[i]:=pF hio
      obtain ⟨hv1,hv2⟩:=hv i him
      rw[hat] at hv1 hv2
      have hgk:(P.relG fx)[k]'(by simpa using hk')=P.of[i].v:=by rw[aan,hi,hat]
      simp[-wY,uQ,RY,e,du hka,TG hof,hi]
      refine za (yf hv1 hv2) (by simp) (by simp) ?_
      simp
      refine uH (by decide) rfl ?_ ?_ (by simp) ?_
      ·simp only[Sb,List.length_take,UG]; omega
      ·simp only[Sb,List.length_take,UG]; omega
      ·have hro:qI ((P.relG fx).take k)++[fr ((P.of[i].v:Int):Rat)]=qI ((P.relG fx).take (k+1)):=by rw[← Jw (by simpa using hk'),hgk]
       rw[hro]
       simp[-cellsOf,w1,RY,rR]
     ·have key:∀ K:Exit→St→Prop,K (.exit 3) {env:=[(2,.ptr 2 0),(4,.ptr 4 0),(8,xF fx),(9,xI P fx),(12,.ptr 12 0),(13,.ptr 13 0),(71,xF fx),(72,iv (zL fx).length),(73,iv (zL fx).length),(74,bv false)],sto:=[(2,.var (pbC P)),(4,.var [yI,yI]),(12,.var (pbC P)),(13,.var [apc 87 3 (qI (P.relG fx)),yI])]}→awp Tryz.prog uQ (RY P fx (zL fx).length) (uW K):=by
       intro K h
       have ht:(P.relG fx).take (zL fx).length=P.relG fx:=List.take_of_length_le (by simp)
       simp[uQ,RY,ht]
       exact h
      refine key _ ?_
      simp[kY]
      refine za (MJ hn) (by simp) (by simp) ?_
      simp
      refine zr (R2 P fx) (fun _=>True) P.rows (by simp[R2]) trivial (fun r hr _=>?_) (fun _=>?_)
      ·have e:(r:Int)<P.rows:=by omega
       have w1:=zn (k:=r) (by omega)
       have hco:∀ o∈P.inL fx,0≤P.coef r o∧P.coef r o≤4:=fun o ho=>uK (yG (yp (hP o ho)).1).2.2 hr
       have hbn:-1000≤P.bnd r∧P.bnd r≤1000:=by
        unfold Pb.bnd
        unfold Pb.rows at hr
        split
        ·omega
        ·split
         ·have:=hG.sup (r-P.cl.length) (by omega); omega
         ·have:=hG.set (r-P.cl.length-6) (by omega)
          unfold Pb.okC at this
          have:=hG.sup (r-P.cl.length-6) (by omega)
          omega
       simp[uT,R2,e]
       refine za (Ra (P:=P) hn hr) (by simp) (by simp) ?_
       simp[-qQ]
       refine zr (RZ P fx r) (fun _=>True) (P.inL fx).length (by simp[RZ,jj]) trivial (fun k hk' _=>?_) (fun _=>?_)
       ·have e:(k:Int)<(P.inL fx).length:=by omega
        have w2:=zn (k:=k) (by omega)
        have hka:k<(ofR (P.inL fx)).length:=by simpa using hk'
        have hg:(P.inL fx)[k]?=some (P.inL fx)[k]:=by simp[hk']
        have hmk:=List.getElem_mem hk'
        obtain ⟨p1,p2⟩:=sE hco k (by omega)
        obtain ⟨p3,p4⟩:=hco _ hmk
        have hs:=nV (f:=P.coef r) hg
        have hof:=(yG (yp (hP _ hmk)).1)
        obtain ⟨x,hx⟩:∃ x,P.bnd r-wu (P.coef r) (P.inL fx) k=x:=⟨_,rfl⟩
        have w3:IntKind.i64.wrap (x-P.coef r (P.inL fx)[k])=P.bnd r-wu (P.coef r) (P.inL fx) (k+1):=by rw[hs,wrap64]<;>omega
        simp[-wY,uR,RZ,e,du hka]
        refine za (TC (P:=P) (r:=r) hn hof.1 hr) (by simp) (by simp) ?_
        simp[hx,w2,w3,RZ]
       ·have hall:P.bnd r-wu (P.coef r) (P.inL fx) (P.inL fx).length=P.relB fx r:=by unfold Pb.relB; rw[lM]
        have key:∀ K:Exit→St→Prop,K (.exit 7) {env:=[(2,.ptr 2 0),(4,.ptr 4 0),(8,xF fx),(9,xI P fx),(12,.ptr 12 0),(13,.ptr 13 0),(91,iv P.rows),(92,iv r),(16,iv r),(17,iv (P.relB fx r)),(98,xI P fx),(99,iv (P.inL fx).length),(100,iv (P.inL fx).length),(101,bv false)],sto:=[(2,.var (pbC P)),(4,.var [yI,yI]),(12,.var (pbC P)),(13,.var [apc 87 3 (qI (P.relG fx)),apc 139 4 (pz P fx r)])]}→awp Tryz.prog uR (RZ P fx r (P.inL fx).length) (uW K):=by
         intro K h
         simp[uR,RZ,hall]
         exact h
        refine key _ ?_
        obtain ⟨q1,q2⟩:=Ys hco
        have hB:-9223372036854775808≤P.relB fx r∧P.relB fx r<9223372036854775808:=by unfold Pb.relB; omega
        simp[kV]
        refine za (yf hB.1 hB.2) (by simp) (by simp) ?_
        simp[-qQ]
        refine zr (R1 P fx r) (fun _=>True) (zL fx).length (by simp[R1]) trivial (fun k hk' _=>?_) (fun _=>?_)
        ·have e:(k:Int)<(zL fx).length:=by omega
         have w2:=zn (k:=k) (by omega)
         obtain ⟨i,hi⟩:∃ i,(zL fx)[k]=i:=⟨_,rfl⟩
         have him:i∈zL fx:=hi▸List.getElem_mem hk'
         have hio:=hfm i him
         have hof':i<(ofR P.of).length:=by simpa using hio
         have hka:k<(clR (ints (zL fx))).length:=by simpa using hk'
         have hat:P.at (i:Int)=P.of[i]:=pF hio
         have hof:=yG (yp (hG.off _ (List.getElem_mem hio))).1
         have hc4:=uK (P:=P) hof.2.2 hr
         have hgk:(P.relC fx r)[k]'(by simpa using hk')=P.coef r P.of[i]:=by rw[aam,hi,hat]
         simp[-wY,uS,R1,e,du hka,TG hof',hi]
         refine za (TC (P:=P) (r:=r) hn hof.1 hr) (by simp) (by simp) ?_
         simp
         refine za (yf (n:=P.coef r P.of[i]) (by omega) (by omega)) (by simp) (by simp) ?_
         simp
         refine uH (by decide) rfl ?_ ?_ (by simp) ?_
         ·simp only[Sb,List.length_take,UF]; omega
         ·simp only[Sb,List.length_take,UF]; omega
         ·have hro:qI ((P.relC fx r).take k)++[fr ((P.coef r P.of[i]:Int):Rat)]=qI ((P.relC fx r).take (k+1)):=by rw[← Jw (by simpa using hk'),hgk]
          rw[hro]
          simp[-cellsOf,w2,R1,rR]
        ·have key:∀ K:Exit→St→Prop,K (.exit 9) {env:=[(2,.ptr 2 0),(4,.ptr 4 0),(8,xF fx),(9,xI P fx),(12,.ptr 12 0),(13,.ptr 13 0),(91,iv P.rows),(92,iv r),(16,iv r),(20,.ptr 20 0),(114,xF fx),(115,iv (zL fx).length),(116,iv (zL fx).length),(117,bv false)],sto:=[(2,.var (pbC P)),(4,.var [yI,yI]),(12,.var (pbC P)),(13,.var [apc 87 3 (qI (P.relG fx)),apc 139 4 (pz P fx r)]),(20,.var (apc 132 3 (qI (P.relC fx r))::fr (P.relB fx r:Int)))]}→awp Tryz.prog uS (R1 P fx r (zL fx).length) (uW K):=by
          intro K h
          have ht:(P.relC fx r).take (zL fx).length=P.relC fx r:=List.take_of_length_le (by simp)
          simp[uS,R1,ht]
          exact h
         refine key _ ?_
         simp[kU]
         refine uH (by decide) rfl ?_ ?_ (by simp) ?_
         ·simp only[MF]; omega
         ·simp only[MF]; omega
         ·have hro:pz P fx r++[plc 3 (qI (P.relC fx r))::fr (P.relB fx r:Int)]=pz P fx (r+1):=Ck
          rw[hro]
          simp[-cellsOf,w1,kW,R2,rR]
      ·have key:∀ K:Exit→St→Prop,K (.exit 5) {env:=[(2,.ptr 2 0),(4,.ptr 4 0),(8,xF fx),(9,xI P fx),(12,.ptr 12 0),(13,.ptr 13 0),(91,iv P.rows),(92,iv P.rows),(93,bv false)],sto:=[(2,.var (pbC P)),(4,.var [yI,yI]),(12,.var (pbC P)),(13,.var [apc 87 3 (qI (P.relG fx)),apc 139 4 (pz P fx P.rows)])]}→awp Tryz.prog uT (R2 P fx P.rows) (uW K):=by
        intro K h
        simp[uT,R2]
        exact h
       refine key _ ?_
       simp[kX,vF]
       exact acZ (z3 aal (z3 (qY t5) (z3 AV.imp.refl qj)))
    ·have hE:P.relE fx=14:=by
      unfold Pb.relE
      rw[if_neg (by simp[c1]),if_neg (by simp[c2]),if_neg (fun h=>h hF),if_neg c3]
     simp[c3,hE,vF]
     exact AV.imp.refl
  ·have c2':¬ (fx.length:Int)=P.of.length:=by omega
   have hE:P.relE fx=3:=by unfold Pb.relE; rw[if_neg (by simp[c1]),if_pos c2]
   simp[c1,c2',hE,vF]
   exact AV.imp.refl
 ·have hE:P.relE fx=P.chk:=by unfold Pb.relE; rw[if_pos c1]
  simp[c1,hE,vF]
  exact AV.imp.refl
end
def bL:Nat:=grow 20 10
theorem Tb:bL=21321045:=by decide
def b0K (fx:List Int) (i:Nat):Rat:=if fx.getD i 9=1 then 1 else 0
def b1K (fx:List Int) (X:Nat→Rat) (k i:Nat):Rat:=if fx.getD i 9=1 then 1 else if fx.getD i 9=0∧rk fx i<k then X (rk fx i) else 0
noncomputable def MU (X Y:Nat→Rat) (v:Rat) (n m:Nat):List AV:=[iv 1,f0 v,f1 v,f2 v,fL X n,fL Y m,yI]
noncomputable def UO (P:Pb) (fx:List Int) (X Y:Nat→Rat) (v:Rat) (k:Nat):St :=
 {env:=[(1,clA fx),(2,.ptr 2 0),(4,.ptr 4 0),(8,clA (ints (zL fx))),(10,.ptr 10 0),(11,.sl 44 3 0 fx.length),(45,clA fx),(46,iv fx.length),(47,iv k)],
  sto:=[(2,.var (pbC P)),(4,.var [bv false,bv false,yI,yI,yI,yI]),(10,.var (MU X Y v (zL fx).length P.rows)),(44,.arr 3 (fZ (b0K fx) k fx.length))]}
noncomputable def FL (P:Pb) (fx:List Int) (X Y:Nat→Rat) (v:Rat) (k:Nat):St :=
 {env:=[(1,clA fx),(2,.ptr 2 0),(4,.ptr 4 0),(10,.ptr 10 0),(11,.sl 44 3 0 fx.length),(63,clA (ints (zL fx))),(64,iv (zL fx).length),(65,iv k)],
  sto:=[(2,.var (pbC P)),(4,.var [bv false,bv false,yI,yI,yI,yI]),(10,.var (MU X Y v (zL fx).length P.rows)),(44,.arr 3 (fR (b1K fx X k) fx.length))]}
@[simp] theorem ag9 {v:Rat} {a x y z:AV}:zB [a,f0 v,f1 v,f2 v,x,y,z] 1 (some 3)=some (fq v):=by
 show (if 1+3≤7∧[f0 v,f1 v,f2 v].all rf=true then some (AV.agg ([f0 v,f1 v,f2 v].map strip)) else _)=_
 simp
@[simp] theorem ag7 {v:Rat} {a x y:AV}:zB [a,f0 v,f1 v,f2 v,x,y] 1 (some 3)=some (fq v):=by
 show (if 1+3≤6∧[f0 v,f1 v,f2 v].all rf=true then some (AV.agg ([f0 v,f1 v,f2 v].map strip)) else _)=_
 simp
@[simp] theorem ahJ {v:Rat} {a b c d x y:AV}:splice [a,b,c,d,x,y] 1 (fr v)=[a,f0 v,f1 v,f2 v,x,y]:=by unfold fr; simp[splice,-sY]
@[simp] theorem ajq {P:Pb} {l:Nat} {e:ze}:(pbC P).map (frz l e)=pbC P:=by unfold pbC; rw[yX]; rfl
section
variable {P:Pb} {fx:List Int} {X Y:Nat→Rat} {v:Rat}
theorem abS {l:List Int}:qI l=fR (fun j=>((l.getD j 0:Int):Rat)) l.length:=by
 apply List.ext_getElem?
 intro j
 by_cases h:j<l.length
 ·rw[fa h]; simp[qI,h]
 ·rw[List.getElem?_eq_none (by simp; omega),List.getElem?_eq_none (by simp; omega)]
theorem adP:Fl P fx=pA (P.lA fx) (P.lB fx) (P.lG fx) (zL fx).length P.rows:=by
 unfold Fl pA fL
 have h1:qI (P.relG fx)=fR (P.lG fx) (zL fx).length:=by rw[abS,UG]; rfl
 have h2:((List.range P.rows).map fun r=>(.list 3 .plain (qI (P.relC fx r)):AV)::fr (P.relB fx r:Int))=pR (P.lA fx) (P.lB fx) (zL fx).length P.rows:=by
  refine List.map_congr_left fun r _=>?_
  rw[abS,UF]
  rfl
 rw[h1,h2]
theorem Cj (h:P.fixE fx=0):P.relE fx=if P.fits (P.inL fx) then 0 else 14:=by
 obtain ⟨h1,h2,h3⟩:=Qv h
 unfold Pb.relE
 rw[if_neg fun h=>h h1,if_neg fun h=>h h2,if_neg fun h=>h h3]
theorem acd (hn:P.cl.length≤1000) (hk:P.of.length≤9) (h:P.fixE fx=0) (hf:P.fits (P.inL fx)) :
  ∃ X Y v,(P.Bst fx X Y v∧(∀ j,sz bL (X j))∧(∀ i,sz bL (Y i))∧sz bL v) ∧
   zd Tryz.prog n7 [.agg (pbC P),clA fx] (.tuple [.agg [bv true,f0 (((P.accV fx fx.length:Int):Rat)+v),f1 (((P.accV fx fx.length:Int):Rat)+v),f2 (((P.accV fx fx.length:Int):Rat)+v),fL Y P.rows,fL (bX fx X) fx.length],iv 0]):=by
 obtain ⟨hc,hl,hok⟩:=Qv h
 have hG:=xQ hc
 have hrw:P.rows≤20:=by have:=hG.n; unfold Pb.rows; omega
 have hfl:(zL fx).length≤9:=by
  have:=bQ (fx:=fx) (v:=0) (k:=fx.length)
  have e:(zL fx).length=(tO fx 0 fx.length).length:=rfl
  omega
 have hbL:=Tb
 have sA:∀ i j,i<P.rows→j<(zL fx).length→sz 20 (P.lA fx i j):=fun i j hi hj=>by
  rw[YY hj]
  exact zG (Nf hG (by have:=(YS hj).1; omega) hi) (by decide)
 have sB:∀ i,i<P.rows→sz 20 (P.lB fx i):=fun i hi=>zG (adR hG hl hi) (by decide)
 have sG:∀ j,j<(zL fx).length→sz 20 (P.lG fx j):=fun j hj=>by
  rw[Py hj]
  exact ahS hG (by have:=(YS hj).1; omega)
 have kc:=P9 (n:=(zL fx).length) (m:=P.rows) (by omega) (by omega) (by decide:20≤137438953472) sA sB sG
 obtain ⟨r,hr,hs⟩:=JX (t:=10) (.inr (by omega)) (by omega) (by omega) (by
  have:(P.rows+1)*(2*grow 20 10+1)≤21*(2*21321045+1):=Nat.mul_le_mul (by omega) (by rw[show grow 20 10=21321045 from Tb]; omega)
  rw[show grow 20 10=21321045 from Tb] at this ⊢
  omega) sA sB sG kc
 rcases hr with ⟨X,Y,v,⟨ho,hx,hy,hv⟩,rfl⟩ | ⟨y,⟨hi,_⟩,_⟩ | ⟨x,ray,⟨hu,_⟩,_⟩
 rotate_left
 ·exact (afN hf hi).elim
 ·exact (afO hG hl hu).elim
 refine ⟨X,Y,v,⟨ho,hx,hy,hv⟩,?_⟩
 have hrel:=adS (fx:=fx) hn (by omega) (by omega)
 rw[Cj h,if_pos hf,if_pos rfl,adP] at hrel
 refine zx Lp (by simp) ?_
 simp[Zq]
 refine za (EZ (fx:=fx) hn (by omega)) (by simp) (by simp) ?_
 simp[h]
 refine za hrel (by simp) (by simp) ?_
 simp
 refine za hs (by simp) (by simp) ?_
 have hbig:(fx.length:Int)*56≤140737488355328:=by omega
 have hbig2:(fx.length:Int)≤9223372036854775807:=by omega
 simp[eMk,hbig,hbig2]
 refine zr (UO P fx X Y v) (fun _=>True) fx.length (by simp[UO,MU,← gn (f:=b0K fx)]) trivial (fun k hk' _=>?_) (fun _=>?_)
 ·have e:(k:Int)<fx.length:=by omega
  have w1:=zn (k:=k) (by omega)
  have hg:=NM hk'
  have hset:∀ q,b0K fx k=q→(fZ (b0K fx) k fx.length).set k (fr q)=fZ (b0K fx) (k+1) fx.length:=fun q hq=>by rw[← hq]; exact dV hk'
  by_cases d:fx[k]=1
  ·have hs1:=hset 1 (by unfold b0K; rw[hg,if_pos d])
   simp[rB,UO,e,hk',d]
   refine za (yf (n:=0) (by decide) (by decide)) (by simp) (by simp) ?_
   simp[e,hk']
   refine za (yf (n:=1) (by decide) (by decide)) (by simp) (by simp) ?_
   simp[e,hk',w1,UO,hs1]
  ·have hs1:=hset 0 (by unfold b0K; rw[hg,if_neg d])
   simp[rB,UO,e,hk']
   refine za (yf (n:=0) (by decide) (by decide)) (by simp) (by simp) ?_
   simp[e,hk',w1,d,UO,hs1]
 have h10:fR (b0K fx) fx.length=fR (b1K fx X 0) fx.length:=xl fun i _=>by
  unfold b0K b1K
  split
  ·rfl
  ·rw[if_neg fun h=>Nat.not_lt_zero _ h.2]
 simp[rB,UO,f6,gm,h10]
 refine zr (FL P fx X Y v) (fun _=>True) (zL fx).length (by simp[FL]) trivial (fun k hk' _=>?_) (fun _=>?_)
 ·have e:(k:Int)<(zL fx).length:=by omega
  have w1:=zn (k:=k) (by omega)
  have hp:=aag hk'
  have hm:=fk (List.getElem_mem hk')
  obtain ⟨i,hi⟩:∃ i,(zL fx)[k]=i:=⟨_,rfl⟩
  have hm':i<fx.length∧fx.getD i 9=0:=by rw[← hi]; exact hm
  rw[hi] at hp
  have ei:(i:Int)<fx.length:=by omega
  have hset:(fR (b1K fx X k) fx.length).set i (fr (X k))=fR (b1K fx X (k+1)) fx.length:=by
   rw[pJ]
   refine xl fun j hj=>?_
   unfold upd
   by_cases h2:j=i
   ·subst h2
    rw[if_pos rfl]
    unfold b1K
    rw[if_neg (by omega),if_pos ⟨hm'.2,by omega⟩,hp]
   ·rw[if_neg h2]
    unfold b1K
    by_cases h3:fx.getD j 9=1
    ·rw[if_pos h3,if_pos h3]
    ·rw[if_neg h3,if_neg h3]
     by_cases h4:fx.getD j 9=0
     ·have hne:rk fx j≠k:=fun h5=>by
       have q1:=lr (fx:=fx) h4 hj
       rw[h5,List.getElem?_eq_getElem hk',hi] at q1
       cases q1; exact h2 rfl
      by_cases h5:rk fx j<k
      ·rw[if_pos ⟨h4,h5⟩,if_pos ⟨h4,by omega⟩]
      ·rw[if_neg fun h=>h5 h.2,if_neg fun h=>h5 (by omega)]
     ·rw[if_neg fun h=>h4 h.1,if_neg fun h=>h4 h.1]
  simp[mq,FL,MU,e,hk',hi,Db,ei,hm'.1,w1,hset]
 have h1X:fR (b1K fx X (zL fx).length) fx.length=fR (bX fx X) fx.length:=xl fun i hi=>by
  unfold b1K bX
  split
  ·rfl
  ·split
   ·rename_i h
    rw[if_pos h.1]
   ·rename_i h1 h
    by_cases h0:fx.getD i 9=0
    ·exact absurd ⟨h0,(List.getElem?_eq_some_iff.1 (lr h0 hi)).1⟩ h
    ·rw[if_neg h0]
 simp[mq,FL,f5,h1X]
 simp[xf,MU,vI]
 refine za (J7 (fx:=fx) hG hl) (by simp) (by simp) ?_
 simp
 refine za (cF (K:=30000000) (by decide) (zG (aeZ hG hl) (by decide)) (zG hv (by rw[show grow 20 10=21321045 from Tb]; decide))) (by simp) (by simp) ?_
 simp[Z5]
end
section
variable {P:Pb} {ch:List Int}
theorem L7 {n:Nat} {ch:List Int} (h:okP n ch):∃ T:List Nat,ch=ints T∧T.Pairwise (·<·)∧∀ j∈T,j<n:=by
 have hnn:∀ k (hk:k<ch.length),0≤ch[k]∧ch[k]<n:=fun k hk=>by
  obtain ⟨b,hb,hbn⟩:=gq (fun q hq=>h q (by omega)) (h k hk)
  rw[getD_lt hk] at hb
  omega
 refine ⟨ch.map Int.toNat,?_,?_,?_⟩
 ·unfold ints
  rw[List.map_map]
  apply List.ext_getElem (by simp)
  intro k h1 h2
  have:=hnn k h1
  simp
  omega
 ·have hlt:∀ k l (hk:k<ch.length) (hl:l<ch.length),k<l→ch[k]<ch[l]:=fun k l=>by
   induction l with
   | zero=>intro hk hl hkl; omega
   | succ l ih =>
    intro hk hl hkl
    have h1:=(h (l+1) hl).1
    simp only[prv] at h1
    rw[getD_lt hl,getD_lt (by omega)] at h1
    by_cases e:k=l
    ·subst e; exact h1
    ·have:=ih hk (by omega) (by omega)
     omega
  rw[List.pairwise_iff_getElem]
  intro i j hi hj hij
  simp only[List.length_map] at hi hj
  have:=hlt i j hi hj hij
  have:=hnn i hi
  simp only[List.getElem_map]
  omega
 ·intro j hj
  obtain ⟨x,hx,rfl⟩:=List.mem_map.1 hj
  obtain ⟨k,hk,rfl⟩:=List.getElem_of_mem hx
  have:=hnn k hk
  omega
def zF5 (n:Nat):List Int:=List.replicate n 0
@[simp] theorem alm {n:Nat}:(zF5 n).length=n:=by simp[zF5]
theorem alk {n i:Nat} (h:i<(zF5 n).length):(zF5 n).getD i 9=0:=by
 have h2:i<n:=by simpa using h
 simp[zF5,h2]
theorem alo (hc:P.chk=0):P.fixE (zF5 P.of.length)=0:=by
 unfold Pb.fixE
 rw[if_neg fun h=>h hc,if_neg fun h=>h alm,if_pos]
 intro i hi
 unfold okX
 rw[alk hi]
 omega
theorem aln (hc:P.chk=0):P.fits (P.inL (zF5 P.of.length)):=by
 rw[NW fun i hi=>alk hi]
 intro r hr
 have:=Zp (xQ hc) hr
 simp
 omega
theorem AR:yJ Tryz.prog n7=true:=by kernel_rfl
noncomputable def aA (P:Pb) (ch:List Int) (V:Int) (X Y:Nat→Rat) (v:Rat) (tight:Bool) (k:Nat):St :=
 {env:=[(1,.ptr 1 0),(3,.ptr 3 0),(4,.ptr 4 0),(8,bv tight),(9,iv k)],sto:=[(1,.var (pbC P)),(3,.var [clA ch,iv V]),(4,.var (pqL P X X Y v))]}
theorem Bi:zd Tryz.prog t9 [.agg (pbC P)] (bv true):=by
 refine zx aD (by simp) ?_
 simp[mr]
 refine za (aa5 (P:=P)) (by simp) (by simp) ?_
 by_cases c1:RJ P
 rotate_left
 ·simp[c1]
  refine za (xs:=[]) (args:=[]) Ta rfl (.inl rfl) ?_
  simp[wF]
 obtain ⟨g1,g2,g3⟩:=c1
 have c1:RJ P:=⟨g1,g2,g3⟩
 obtain ⟨hf,hVe⟩:=BE g3
 have kb:=adN (P:=P) (by omega) g2
 generalize Gd P=bb at hf hVe kb
 obtain ⟨ch,V⟩:=bb
 simp only at hf hVe kb
 have hG:=xQ g3
 have he:pgE P ch V=0:=by
  unfold pgE
  rw[if_neg fun h=>h hf,if_neg fun h=>h hVe,if_neg (by omega)]
 have hVb:=Yz (ch:=ch) g3 g2
 rw[← hVe] at hVb
 obtain ⟨_,hok,hfit⟩:=fb hf
 have hcl:=qX hok
 obtain ⟨T,hT,hT1,hT2⟩:=L7 hok
 have hsL:=j6
 have hb0:=Tb
 obtain ⟨X,Y,v,⟨hs,hx,hy,hv⟩,k1⟩:=RL (P:=P) (ch:=ch) (V:=V) (by omega) g2 (by omega) he
 obtain ⟨X',Y',v',⟨hB,hx',hy',hv'⟩,k2⟩:=acd (P:=P) (fx:=zF5 P.of.length) (by omega) g2 (alo g3) (aln g3)
 have hac:P.accV (zF5 P.of.length) (zF5 P.of.length).length=0:=Zl fun i hi=>alk hi
 rw[hac] at k2
 have h0v:(((0:Int):Rat))+v'=v':=by
  have:((0:Int):Rat)=0:=rfl
  rw[this]; grind
 rw[h0v] at k2
 have hcomp:P.Comp (zF5 P.of.length) (zF5 P.of.length).length T:=⟨hT1,fun j hj=>by simpa using hT2 j hj,fun i hi h=>by rw[alk hi] at h; omega,fun i hi=>by rw[alk (by simpa using hT2 i hi)]; omega,by rw[← QO,← hT]; exact hfit⟩
 have hVT:((((T.map fun i:Nat=>P.at i).map fun o=>o.v).sum:Int):Rat)=(V:Rat):=by
  have:V=((P.pick ch).map fun o=>o.v).sum:=by
   rw[hVe]
   unfold Pb.valE
   rw[if_pos ⟨hok,g3⟩]
  rw[this,hT,QO]
 have hzz:∀ i,i<(zF5 P.of.length).length→(zF5 P.of.length).getD i 9=0:=fun i hi=>alk hi
 have hiff:=CN hG alm hzz hs hB hcomp hVT
 simp[c1]
 refine za kb (by simp) (by simp) ?_
 simp
 refine za k1 (by simp) (by simp) ?_
 have q1:(P.of.length:Int)*8≤140737488355328:=by omega
 have q2:(P.of.length:Int)≤9223372036854775807:=by omega
 have hrep:(List.replicate P.of.length [AV.val (Value.int IntKind.i64 0)])=clR (zF5 P.of.length):=by simp[zF5,clR]
 have hzl:(clR (zF5 P.of.length)).length=P.of.length:=by simp
 have htk:(clR (zF5 P.of.length)).take P.of.length=clR (zF5 P.of.length):=List.take_of_length_le (by omega)
 simp[eMk,q1,q2,hrep,AR]
 refine .inr fun D hD=>?_
 have h29:D.elem 29=false:=by
  have h:=hD (.t 29) (by simp)
  cases e:D.elem 29 with
  | false=>rfl
  | true =>
   exfalso
   simp only[ev,St.mask,um,e,if_true] at h
   simp at h
 refine z0.frz (k:=29) (en:=.arr 1 (clR (zF5 P.of.length))) ?_ ?_ ?_ ?_
 ·rw[yw,if_neg]
  ·simp
  ·rw[Bool.not_eq_true]
   cases e:(St.nm _ D).elem 29 with
   | false=>rfl
   | true =>
    obtain ⟨d,h1,h2⟩:=w8.1 e
    simp only[Nat.zero_add] at h2
    subst h2
    rw[h1] at h29
    cases h29
 ·rw[XD]
  refine F6 ?_
  simp[St.frozen,St.unmet,vI,hzl,htk]
 ·simp
 ·rw[XD]
  refine Xy (args:=[.agg (pbC P),clA (zF5 P.of.length)]) k2 ?_ ?_ ?_
  ·simp[hzl,htk]
  ·simp[hzl,htk]
  ·refine ⟨_,rfl,rfl,fun e h=>Rt h,?_⟩
   simp[St.frozen,vI,hzl,htk]
   have hbv:sz 137438953472 v':=zG hv' (by omega)
   have kt:zd Tryz.prog v8 [fq v',fq ((V:Int):Rat)] (bv (decide (v'=((V:Int):Rat)))):=Sj (by decide:137438953472≤137438953472) hbv
   have kz:zd Tryz.prog v8 [fq (X P.rows),fq 0] (bv (decide (X P.rows=0))):=Sj (by decide:137438953472≤137438953472) (PD (hx P.rows))
   have hdec:decide (v'=((V:Int):Rat))=decide (X P.rows=0):=decide_eq_decide.2 hiff.symm
   refine za (eK (n:=V) (by omega) (by omega)) (by simp) (by simp) ?_
   simp
   refine za kt (by simp) (by simp) ?_
   simp[j1]
   refine za (eK (n:=0) (by omega) (by omega)) (by simp) (by simp) ?_
   simp
   refine za kz (by simp) (by simp) ?_
   simp[hdec]
   have hub:Tryz.prog.underlying rQ=some .bool:=by kernel_rfl
   by_cases hx0:X P.rows=0
   rotate_left
   ·have hdd:decide (X P.rows=0)=false:=decide_eq_false hx0
    simp[hdd,y9 hub]
    refine zr (aA P ch V X Y v false) (fun _=>True) 0 (by simp[aA]) trivial (fun k hk _=>absurd hk (Nat.not_lt_zero k)) (fun _=>?_)
    by_cases e:0<ch.length
    ·simp[aA,xN,e,wO]
     refine za (xs:=[]) (args:=[]) Ta rfl (.inl rfl) ?_
     simp[wF]
    ·simp[aA,xN,e,wO]
     refine za (xs:=[]) (args:=[]) Ta rfl (.inl rfl) ?_
     simp[wF]
   have hdd:decide (X P.rows=0)=true:=decide_eq_true hx0
   simp[hdd,y9 hub]
   refine zr (aA P ch V X Y v true) (fun _=>True) ch.length (by simp[aA]) trivial (fun k hk _=>?_) (fun _=>?_)
   ·have e:(k:Int)<ch.length:=by omega
    have w:=zn (k:=k) (by omega)
    obtain ⟨b,hb,hbn⟩:=gq (fun q hq=>hok q (by omega)) (hok k hk)
    rw[getD_lt hk] at hb
    have hbT:b∈T:=by
     have:(b:Int)∈ints T:=by rw[← hT,← hb]; exact List.getElem_mem hk
     unfold ints at this
     obtain ⟨q,hq,hq2⟩:=List.mem_map.1 this
     have:q=b:=by omega
     rw[← this]; exact hq
    have hex:=Ks alm hzz hs hx0 hcomp hVT hbT
    have kc:=acu (P:=P) (X:=X) (Y:=Y) (Z:=X) (w:=v) (by omega) (by omega) g3 hbn hx
    have hv2:=(yG (yp (hG.off _ (at_mem hbn))).1).2.1
    rw[pF hbn] at hv2
    have hvq:P.vQ b=((P.of[b].v:Int):Rat):=by unfold Pb.vQ; rw[pF hbn]
    have hcs:=acv hG hbn hx
    have ks:zd Tryz.prog v8 [fq (P.costQ X b),fq ((P.of[b].v:Int):Rat)] (bv true):=by
     have:=Sj (q:=P.costQ X b) (by decide:2000000000≤137438953472) (zG hcs (by omega))
     have h2:((P.of[b].v:Int):Rat)=P.costQ X b:=by rw[hex,hvq]
     rw[h2]
     simpa using this
    have hbi:(b:Int)<P.of.length:=by omega
    simp[xN,aA,e,hk,hb]
    refine za kc (by simp) (by simp) ?_
    simp[e,hk,hb,hbi,hbn]
    refine za (eK (n:=P.of[b].v) (by omega) (by omega)) (by simp) (by simp) ?_
    simp
    refine za ks (by simp) (by simp) ?_
    simp[w,aA]
   ·simp[aA,xN,wO]
    refine za (xs:=[]) (args:=[]) Ta rfl (.inl rfl) ?_
    simp[wF]
end
theorem supportTight_contract (xs:List AV) (h:U8 [abB] xs):zd Tryz.prog t9 xs (bv true):=by
 obtain ⟨x,rfl,h1⟩:=F9 h
 obtain ⟨P,rfl,_⟩:=adH h1
 exact Bi
end Go.Proofs.YtjeoklgggppjiaaGreat
