/- What the proof rests on, part 3: Am11 Am12 Am13 Am14 Am15 Am29 Am30 Am31 Am32. -/
import Derived.Test.YtbgnkodhpbkdoaaP2
import Derived.Deep.AppendSrc
import Derived.Laws.IdiomStrings
set_option maxRecDepth 100000
set_option maxHeartbeats 4000000
namespace Go.Am
open Go.RowKit
def slot:Option Nat→Option (Nat × Nat)
 | some d=>some (0,d)
 | none=>none
def yd {κ α:Type} [DecidableEq κ] (e:κ→Option α) (d:Option κ) (x:Option α):κ→Option α :=
 match d with
 | some d=>fun t=>if t=d then x else e t
 | none=>e
def tQ (σ:Nat→Option zb) (d:Option Nat):Option zb→Nat→Option zb
 | some en=>yd σ d (some en)
 | none=>σ
section
variable {P:Program} {F:z9} {e:Nat × Nat→Option AV} {σ:Nat→Option zb} {I:Nat→Nat→Prop} {w:World} {β:zR} {lam:ya} {a:Act}
theorem Inv.le (h:Inv F e σ I β lam a w):F.w0.heap.size≤w.heap.size:=h.below.size
theorem An {d t:Nat} {v:Value} (hd:d<a.tmps.size):(a.put (some d) v).tmps[t]?=if t=d then some v else a.tmps[t]?:=by
 simp only[Act.put,Array.getElem?_setIfInBounds]
 by_cases e:d=t
 ·subst e; simp[hd]
 ·rw[if_neg e,if_neg (fun h=>e h.symm)]
theorem aaw {d:Nat} {t:Nat × Nat} {v:Value} (hd:d<a.tmps.size):F.val (a.put (some d) v) t=if t=(0,d) then some v else F.val a t:=by
 obtain ⟨f,t⟩:=t
 cases f with
 | zero =>
  simp only[z9.val,An hd,Prod.mk.injEq,true_and]
 | succ f=>simp[z9.val]
theorem Dp {d:Option Nat} {v:Value}:(a.put d v).tmps.size=a.tmps.size:=by
 cases d<;>simp[Act.put]
theorem put_defers {d:Option Nat} {v:Value}:(a.put d v).defers=a.defers:=by
 cases d<;>rfl
theorem Inv.env_sub {e':Nat × Nat→Option AV} (h:Inv F e σ I β lam a w) (hs:∀ t x,e' t=some x→e t=some x):Inv F e' σ I β lam a w :=
 {h with env:=fun t x ht=>h.env t x (hs t x ht)}
theorem Inv.put (h:Inv F e σ I β lam a w) {d:Option Nat} (hd:te F.N d=true) {x:AV} {v:Value} (hx:R I w β lam x v) :
  Inv F (yd e (slot d) (some x)) σ I β lam (a.put d v) w:=by
 refine {h with defers:=by rw[put_defers]; exact h.defers,size:=by rw[Dp]; exact h.size,env:=fun t y ht=>?_}
 cases d with
 | none=>exact h.env t y ht
 | some d =>
  have hd':d<a.tmps.size:=by
   rw[h.size]
   simpa [te] using hd
  simp only[yd,slot] at ht
  rw[aaw hd']
  split at ht
  ·simp only[Option.some.injEq] at ht
   subst ht
   rename_i e
   exact ⟨v,by rw[if_pos e],hx⟩
  ·rename_i e
   obtain ⟨u,h1,h2⟩:=h.env t y ht
   exact ⟨u,by rw[if_neg e]; exact h1,h2⟩
theorem Inv.ublock (h:Inv F e σ I β lam a w) {l:Nat} {b o cap sz:Nat} (hl:lam l=some (some ⟨b,o,none⟩,0,cap,sz)) (h0:0<cap*sz) :
  F.w0.heap.size≤b∧b<w.heap.size∧(∀ k,β k≠some b)∧∀ c,c<cap*sz→(∃ v,w.cell? ⟨b,o+c,none⟩=some v)∧w.frozen? ⟨b,o+c,none⟩=false∧¬ I b (o+c):=by
 have one:∀ c,c<cap*sz→F.w0.heap.size≤b∧(∃ v,w.cell? ⟨b,o+c,none⟩=some v)∧w.frozen? ⟨b,o+c,none⟩=false∧¬ I b (o+c)∧∀ k,β k≠some b:=fun c hc=>by
  obtain ⟨b',o',e1,e2,e3,e4,e5,e6⟩:=h.spare l _ _ _ _ hl c (by omega) hc
  simp only[Option.some.injEq,Addr.mk.injEq] at e1
  obtain ⟨rfl,rfl,_⟩:=e1
  exact ⟨e2,e3,e4,e5,e6⟩
 obtain ⟨g1,⟨v,g2⟩,_,_,g5⟩:=one 0 h0
 exact ⟨g1,World.block_lt_of_cell? _ _ g2,g5,fun c hc=>⟨(one c hc).2.1,(one c hc).2.2.1,(one c hc).2.2.2.1⟩⟩
theorem Inv.grow (h:Inv F e σ I β lam a w) {w':World} {I':Nat→Nat→Prop} (hb:Below w.heap.size w w') (hs:∀ b o,I b o→I' b o)
  (hn:∀ b o,I' b o→I b o∨(w.heap.size≤b∧b<w'.heap.size)):Inv F e σ I' β lam a w':=by
 have hcell:∀ b o,b<w.heap.size→w'.cell? ⟨b,o,none⟩=w.cell? ⟨b,o,none⟩:=fun b o hlt=>hb.cell (p:=⟨b,o,none⟩) hlt
 have hfr:∀ b o,b<w.heap.size→w'.frozen? ⟨b,o,none⟩=w.frozen? ⟨b,o,none⟩:=fun b o hlt=>hb.frozen (p:=⟨b,o,none⟩) hlt
 have hw:∀ b o v,I b o→w.cell? ⟨b,o,none⟩=some v→w'.cell? ⟨b,o,none⟩=some v:=fun b o v hi hv=>by rw[hcell _ _ (h.Isub _ _ hi)]; exact hv
 have hle:=hb.size
 exact
  {defers:=h.defers
   size:=h.size
   below:=h.below.trans (hb.mono h.le)
   env:=fun t x ht=>(h.env t x ht).imp fun v hv=>⟨hv.1,hv.2.mono hs hw (fun _ _ h=>h) (fun _ _ h=>h)⟩
   sto:=fun k en hk hu=>(h.sto k en hk hu).imp fun b hb'=>⟨hb'.1,hb'.2.mono hs hw (fun _ _ h=>h) (fun _ _ h=>h) (hb.block b (h.bnew k b hb'.1).2.1)⟩
   usto:=fun l sz rows hk=>(h.usto l sz rows hk).mono hs hw (fun _ _ h=>h) (fun _ _ h=>h) (fun b o cap q v hl hq hv=>by
    rw[hcell _ _ (h.ublock hl (by omega)).2.1]; exact hv)
   bdom:=h.bdom
   binj:=h.binj
   bnew:=fun k b hk=>⟨(h.bnew k b hk).1,Nat.lt_of_lt_of_le (h.bnew k b hk).2.1 hle,fun o hi=>by
    rcases hn b o hi with hi | hi
    ·exact (h.bnew k b hk).2.2 o hi
    ·exact Nat.lt_irrefl _ (Nat.lt_of_lt_of_le (h.bnew k b hk).2.1 hi.1)⟩
   Isub:=fun b o hi=>by
    rcases hn b o hi with hi | hi
    ·exact Nat.lt_of_lt_of_le (h.Isub b o hi) hle
    ·exact hi.2
   I0sub:=fun b o hi=>hs _ _ (h.I0sub b o hi)
   Inew:=fun b o hi=>by
    rcases hn b o hi with hi | hi
    ·exact h.Inew b o hi
    ·exact .inr (Nat.le_trans h.le hi.1)
   spare:=fun l av len cap sz hl c h1 h2=>by
    obtain ⟨b,o,e1,e2,⟨v,e3⟩,e4,e5,e6⟩:=h.spare l av len cap sz hl c h1 h2
    have hlt:b<w.heap.size:=World.block_lt_of_cell? _ _ e3
    refine ⟨b,o,e1,e2,⟨v,by rw[hcell _ _ hlt]; exact e3⟩,by rw[hfr _ _ hlt]; exact e4,fun hi=>?_,e6⟩
    rcases hn _ _ hi with hi | hi
    ·exact e5 hi
    ·omega
   ldis:=h.ldis}
theorem Inv.new (h:Inv F e σ I β lam a w) {d nb:Nat} {en:zb} (hu:en.isU=false) (hd:σ d=none) (h1:F.w0.heap.size≤nb) (h2:nb<w.heap.size) (h3:∀ o,¬ I nb o)
  (h4:∀ k,β k≠some nb) (h5:RE I w (fun k=>if k=d then some nb else β k) lam nb en)
  (h6:∀ l a len cap sz,lam l=some (a,len,cap,sz)→∀ c,len*sz≤c→c<cap*sz→∀ b o,a=some ⟨b,o,none⟩→b≠nb) :
  Inv F e (yd σ (some d) (some en)) I (fun k=>if k=d then some nb else β k) lam a w:=by
 have hdn:β d=none:=by
  cases hb:β d with
  | none=>rfl
  | some b=>obtain ⟨en,h',_⟩:=h.bdom d b hb; rw[hd] at h'; cases h'
 have hβ:∀ k b,β k=some b→(if k=d then some nb else β k)=some b:=fun k b hk=>by
  by_cases e:k=d
  ·subst e; rw[hdn] at hk; cases hk
  ·rw[if_neg e]; exact hk
 refine {h with env:=?_,sto:=?_,usto:=?_,bdom:=?_,binj:=?_,bnew:=?_,spare:=?_}
 ·exact fun t x ht=>(h.env t x ht).imp fun v hv=>⟨hv.1,hv.2.mono (fun _ _ h=>h) (fun _ _ _ _ h=>h) hβ (fun _ _ h=>h)⟩
 ·intro k en' hk hu'
  simp only[yd] at hk
  split at hk
  ·rename_i e
   simp only[Option.some.injEq] at hk
   subst hk
   exact ⟨nb,by rw[if_pos e],h5⟩
  ·rename_i e
   obtain ⟨b,hb,hE⟩:=h.sto k en' hk hu'
   exact ⟨b,by rw[if_neg e]; exact hb,hE.mono (fun _ _ h=>h) (fun _ _ _ _ h=>h) hβ (fun _ _ h=>h) rfl⟩
 ·intro l sz rows hk
  simp only[yd] at hk
  split at hk
  ·simp only[Option.some.injEq] at hk
   subst hk
   cases hu
  ·exact (h.usto l sz rows hk).mono (fun _ _ h=>h) (fun _ _ _ _ h=>h) hβ (fun _ _ h=>h) (fun _ _ _ _ _ _ _ h=>h)
 ·intro k b hk
  simp only[yd]
  by_cases e:k=d
  ·exact ⟨en,by rw[if_pos e],hu⟩
  ·rw[if_neg e] at hk ⊢
   exact h.bdom k b hk
 ·intro k k' b hk hk'
  by_cases e:k=d<;>by_cases e':k'=d
  ·rw[e,e']
  ·rw[if_pos e] at hk; rw[if_neg e'] at hk'; cases hk; exact absurd hk' (h4 k')
  ·rw[if_neg e] at hk; rw[if_pos e'] at hk'; cases hk'; exact absurd hk (h4 k)
  ·rw[if_neg e] at hk; rw[if_neg e'] at hk'; exact h.binj k k' b hk hk'
 ·intro k b hk
  by_cases e:k=d
  ·rw[if_pos e] at hk; cases hk; exact ⟨h1,h2,h3⟩
  ·rw[if_neg e] at hk; exact h.bnew k b hk
 ·intro l av len cap sz hl c hc1 hc2
  obtain ⟨b,o,e1,e2,e3,e4,e5,e6⟩:=h.spare l av len cap sz hl c hc1 hc2
  refine ⟨b,o,e1,e2,e3,e4,e5,fun k hk=>?_⟩
  by_cases e:k=d
  ·rw[if_pos e] at hk
   simp only[Option.some.injEq] at hk
   exact h6 l av len cap sz hl c hc1 hc2 b o e1 hk.symm
  ·rw[if_neg e] at hk; exact e6 k hk
theorem Inv.eff (h:Inv F e σ I β lam a w) {dst:Option Nat} {nm:Nat} (hdst:te F.N dst=true) {x:AV} {en:Option zb} {v:Value} {w':World} {I':Nat→Nat→Prop} {β':zR}
  (hE:Eff w I β lam nm x en v w' I' β') (hd:en≠none→σ nm=none) :
  ∃ β'',Inv F (yd e (slot dst) (some x)) (tQ σ (dst.map fun _=>nm) en) I' β'' lam (a.put dst v) w':=by
 have hg:=h.grow hE.below hE.sub hE.new
 cases en with
 | none =>
  have hβ:=hE.old rfl
  subst hβ
  exact ⟨β',hg.put hdst hE.val⟩
 | some ed =>
  obtain ⟨nb,h1,h2,h3,h4,h5,h6⟩:=hE.fresh ed rfl
  cases dst with
  | none =>
   refine ⟨β,?_⟩
   simp only[yd,tQ,slot,Option.map_none]
   exact hg
  | some d =>
   subst h5
   have hu:ed.isU=false:=by
    cases ed with
    | uarr=>exact h6.elim
    | _=>rfl
   refine ⟨_,(hg.new hu (hd (by simp)) (Nat.le_trans h.le h1) h2 h3 (fun k hk=>?_) h6 (fun l av len cap sz hl c hc1 hc2 b o e he=>?_)).put hdst hE.val⟩
   ·have:=(h.bnew k nb hk).2.1
    omega
   ·subst he
    obtain ⟨b',o',e1,_,⟨u,e3⟩,_⟩:=h.spare l av len cap sz hl c hc1 hc2
    rw[e] at e1
    cases e1
    have:b<w.heap.size:=World.block_lt_of_cell? _ _ e3
    omega
theorem tB (b:Nat):∀ (vs:List Value) (o:Nat) (w:World),(w.setCells b o vs).heap.size=w.heap.size∧(w.setCells b o vs).os=w.os∧(w.setCells b o vs).tape=w.tape ∧
  (w.setCells b o vs).output=w.output∧∀ k,k≠b→(w.setCells b o vs).heap[k]?=w.heap[k]?:=by
 intro vs
 induction vs with
 | nil=>intro o w; exact ⟨rfl,rfl,rfl,rfl,fun _ _=>rfl⟩
 | cons v vs ih =>
  intro o w
  simp only[World.setCells]
  obtain ⟨h1,h2,h3,h4,h5⟩:=ih (o+1) (w.setCell ⟨b,o,none⟩ v)
  exact ⟨by rw[h1]; simp,h2,h3,h4,fun k hk=>by rw[h5 k hk,Below.heap_setCell _ _ _ _ hk]⟩
theorem yF (b:Nat):∀ (vs:List Value) (o:Nat) (w:World) (p:Addr),(w.setCells b o vs).frozen? p=w.frozen? p:=by
 intro vs
 induction vs with
 | nil=>intro o w p; rfl
 | cons v vs ih =>
  intro o w p
  simp only[World.setCells]
  rw[ih,World.frozen?_setCell]
theorem xe (b:Nat):∀ (vs:List Value) (o:Nat) (w:World),(∀ j,j<vs.length→(w.cell? ⟨b,o+j,none⟩).isSome=true) →
  ∀ q,(w.setCells b o vs).cell? ⟨b,q,none⟩=if o≤q∧q<o+vs.length then vs[q-o]? else w.cell? ⟨b,q,none⟩:=by
 intro vs
 induction vs with
 | nil=>intro o w _ q; rw[if_neg (by simp)]; rfl
 | cons v vs ih =>
  intro o w hc q
  simp only[World.setCells]
  have h0:=hc 0 (by simp)
  obtain ⟨u,hu⟩:=Option.isSome_iff_exists.1 h0
  rw[ih (o+1) _ (fun j hj=>by
   rw[World.cell?_setCell_other _ _ _ _ (by simp; omega)]
   have:=hc (j+1) (by simp; omega)
   rwa [show o+(j+1)=o+1+j by omega] at this)]
  by_cases hq:q=o
  ·subst hq
   rw[if_neg (by omega),if_pos (by simp)]
   rw[World.cell?_setCell_same _ _ _ (u:=u) (by simpa using hu)]
   simp
  ·by_cases h2:o≤q∧q<o+(vs.length+1)
   ·rw[if_pos (by omega),if_pos (by simpa using h2)]
    rw[show q-o=(q-(o+1))+1 by omega]
    simp
   ·rw[if_neg (by omega),if_neg (by simpa using h2)]
    rw[World.cell?_setCell_other _ _ _ _ (by simp; omega)]
theorem yA {b:Nat} {vs:List Value} {o:Nat} {w:World} {b' q:Nat} (h:b'≠b):(w.setCells b o vs).cell? ⟨b',q,none⟩=w.cell? ⟨b',q,none⟩:=by
 simp only[World.cell?,(tB b vs o w).2.2.2.2 b' h]
theorem tj {t:TypeId} {n b o:Nat} {v:Value} (hn:szT P t=some n) (hs:v.cells.size=n) (hc:∀ j,j<n→(w.cell? ⟨b,o+j,none⟩).isSome=true)
  (hf:∀ j,j<n→w.frozen? ⟨b,o+j,none⟩=false) (h1:∀ u∈v.cells.toList,u.oneCell'=true) :
  (Instr.storeAt t (.pointer (some ⟨b,o,none⟩)) v).run P w=.ok () (w.setCells b o v.cells.toList):=by
 have:=run_storeCells_cells (P:=P) b o v.cells.toList 0 w (fun j hj=>by simpa using hc j (by simpa [hs] using hj)) (fun j hj=>by simpa using hf j (by simpa [hs] using hj)) h1
 simp only[Nat.add_zero] at this
 simp[Instr.storeAt,Instr.sureAddr,storeVar,wt hn,hs,this]
end
section
variable {P:Program} {F:z9} {e:Nat × Nat→Option AV} {σ:Nat→Option zb} {I:Nat→Nat→Prop} {w:World} {β:zR} {lam:ya} {a:Act} {o:Oper}
  {Q:Exit→Act→World→Prop}
theorem lc {v:Value} (h:∀ j,j<v.cells.size→single (v.cells.getD j undef)=true):∀ u∈v.cells.toList,u.oneCell'=true:=by
 intro u hu
 obtain ⟨j,hj,rfl⟩:=List.getElem_of_mem hu
 have:=h j (by simpa using hj)
 have hj':j<v.cells.size:=by simpa using hj
 simpa [hj'] using this
theorem Inv.write (h:Inv F e σ I β lam a w) {j b q:Nat} {vs:List Value} {en:zb} (hu:en.isU=false) (hj:β j=some b)
  (hE:RE I (w.setCells b q vs) β lam b en):Inv F e (yd σ (some j) (some en)) I β lam a (w.setCells b q vs):=by
 obtain ⟨h1,h2,h3,h4,h5⟩:=tB b vs q w
 have hne:∀ b' o,I b' o→b'≠b:=fun b' o hi e=>(h.bnew j b hj).2.2 o (e▸hi)
 have hw:∀ b' o v,I b' o→w.cell? ⟨b',o,none⟩=some v→(w.setCells b q vs).cell? ⟨b',o,none⟩=some v:=fun b' o v hi hv=>by
  rw[yA (hne _ _ hi)]; exact hv
 exact
  {defers:=h.defers
   size:=h.size
   below:=h.below.trans ⟨h2,h3,h4,by rw[h1]; exact Nat.le_refl _,fun k hk=>h5 k (by have:=(h.bnew j b hj).1; omega)⟩
   env:=fun t x ht=>(h.env t x ht).imp fun v hv=>⟨hv.1,hv.2.mono (fun _ _ h=>h) hw (fun _ _ h=>h) (fun _ _ h=>h)⟩
   usto:=fun l sz rows hk=>by
    simp only[yd] at hk
    split at hk
    ·simp only[Option.some.injEq] at hk
     subst hk
     cases hu
    ·refine (h.usto l sz rows hk).mono (fun _ _ h=>h) hw (fun _ _ h=>h) (fun _ _ h=>h) (fun b' o cap q v hl hq hv=>?_)
     rw[yA (fun e:b'=b=>(h.ublock hl (by omega)).2.2.1 j (e▸hj))]
     exact hv
   sto:=fun k en' hk hu'=>by
    simp only[yd] at hk
    split at hk
    ·rename_i ek
     simp only[Option.some.injEq] at hk
     subst hk
     exact ⟨b,by rw[ek]; exact hj,hE⟩
    ·rename_i ek
     obtain ⟨b',hb',hE'⟩:=h.sto k en' hk hu'
     have hbb:b'≠b:=fun e=>ek (h.binj k j b' hb' (e▸hj))
     exact ⟨b',hb',hE'.mono (fun _ _ h=>h) hw (fun _ _ h=>h) (fun _ _ h=>h) (h5 b' hbb)⟩
   bdom:=fun k b' hk=>by
    simp only[yd]
    by_cases ek:k=j
    ·exact ⟨en,by rw[if_pos ek],hu⟩
    ·rw[if_neg ek]; exact h.bdom k b' hk
   binj:=h.binj
   bnew:=fun k b' hk=>⟨(h.bnew k b' hk).1,by rw[h1]; exact (h.bnew k b' hk).2.1,(h.bnew k b' hk).2.2⟩
   Isub:=fun b' o hi=>by rw[h1]; exact h.Isub b' o hi
   I0sub:=h.I0sub
   Inew:=h.Inew
   spare:=fun l av len cap sz hl c hc1 hc2=>by
    obtain ⟨b',o,e1,e2,⟨v,e3⟩,e4,e5,e6⟩:=h.spare l av len cap sz hl c hc1 hc2
    have hbb:b'≠b:=fun e=>e6 j (e▸hj)
    exact ⟨b',o,e1,e2,⟨v,by rw[yA hbb]; exact e3⟩,by rw[yF]; exact e4,e5,e6⟩
   ldis:=h.ldis}
theorem Inv.writeU (h:Inv F e σ I β lam a w) {l b o cap sz q:Nat} {vs:List Value} {rows rows':List (List AV)} (hσl:σ l=some (.uarr sz rows)) (hl:lam l=some (some ⟨b,o,none⟩,0,cap,sz)) (h0:0<cap*sz)
  (hq:o≤q∧q+vs.length≤o+cap*sz) (hE:RU I (w.setCells b q vs) β lam l sz rows'):Inv F e (yd σ (some l) (some (.uarr sz rows'))) I β lam a (w.setCells b q vs):=by
 obtain ⟨h1,h2,h3,h4,h5⟩:=tB b vs q w
 obtain ⟨u1,u2,u3,u4⟩:=h.ublock hl h0
 have hc:∀ j,j<vs.length→(w.cell? ⟨b,q+j,none⟩).isSome=true:=fun j hj=>by
  obtain ⟨⟨v,hv⟩,_⟩:=u4 (q+j-o) (by omega)
  rw[show o+(q+j-o)=q+j by omega] at hv
  simp[hv]
 have hcell:=xe b vs q w hc
 have hw:∀ b' p v,I b' p→w.cell? ⟨b',p,none⟩=some v→(w.setCells b q vs).cell? ⟨b',p,none⟩=some v:=fun b' p v hi hv=>by
  by_cases e:b'=b
  ·subst e
   rw[hcell,if_neg]
   ·exact hv
   ·rintro ⟨c1,c2⟩
    refine (u4 (p-o) (by omega)).2.2 ?_
    rwa [show o+(p-o)=p by omega]
  ·rw[yA e]; exact hv
 exact
  {defers:=h.defers
   size:=h.size
   below:=h.below.trans ⟨h2,h3,h4,by rw[h1]; exact Nat.le_refl _,fun k hk=>h5 k (by omega)⟩
   env:=fun t x ht=>(h.env t x ht).imp fun v hv=>⟨hv.1,hv.2.mono (fun _ _ h=>h) hw (fun _ _ h=>h) (fun _ _ h=>h)⟩
   usto:=fun l' sz' rows'' hk=>by
    simp only[yd] at hk
    split at hk
    ·rename_i e
     simp only[Option.some.injEq,zb.uarr.injEq] at hk
     obtain ⟨rfl,rfl⟩:=hk
     rw[e]; exact hE
    ·rename_i e
     refine (h.usto l' sz' rows'' hk).mono (fun _ _ h=>h) hw (fun _ _ h=>h) (fun _ _ h=>h) (fun b' o' cap' p v hl' hp hv=>?_)
     rw[yA (fun eb=>by subst eb; exact h.ldis l l' _ _ _ _ _ _ _ _ _ (fun e'=>e e'.symm) hl hl' (by omega) (by omega))]
     exact hv
   sto:=fun k en' hk hu'=>by
    simp only[yd] at hk
    split at hk
    ·simp only[Option.some.injEq] at hk
     subst hk
     cases hu'
    ·obtain ⟨b',hb',hE'⟩:=h.sto k en' hk hu'
     exact ⟨b',hb',hE'.mono (fun _ _ h=>h) hw (fun _ _ h=>h) (fun _ _ h=>h) (h5 b' (fun e=>u3 k (e▸hb')))⟩
   bdom:=fun k b' hk=>by
    obtain ⟨en,h1,h2⟩:=h.bdom k b' hk
    refine ⟨en,?_,h2⟩
    simp only[yd]
    rw[if_neg]
    ·exact h1
    ·intro e
     rw[e,hσl] at h1
     cases h1
     cases h2
   binj:=h.binj
   bnew:=fun k b' hk=>⟨(h.bnew k b' hk).1,by rw[h1]; exact (h.bnew k b' hk).2.1,(h.bnew k b' hk).2.2⟩
   Isub:=fun b' o hi=>by rw[h1]; exact h.Isub b' o hi
   I0sub:=h.I0sub
   Inew:=h.Inew
   spare:=fun l' av len cap' sz' hl' c hc1 hc2=>by
    obtain ⟨b',o',e1,e2,⟨v,e3⟩,e4,e5,e6⟩:=h.spare l' av len cap' sz' hl' c hc1 hc2
    refine ⟨b',o',e1,e2,?_,by rw[yF]; exact e4,e5,e6⟩
    by_cases eb:b'=b
    ·subst eb
     rw[hcell]
     split
     ·rename_i c3
      exact ⟨vs[o'+c-q]'(by omega),by simp⟩
     ·exact ⟨v,e3⟩
    ·exact ⟨v,by rw[yA eb]; exact e3⟩
   ldis:=h.ldis}
theorem eN {w':World} {K:Act→World→Prop} (h:(execOp a.eval o).run P w=.ok .skip w') (hk:K (a.put o.dst undef) w'):o.wp P a w K Q:=by
 unfold Oper.wp
 rw[h]
 exact hk
theorem eA {cells cs:List AV} {off:Nat} (hle:off+cs.length≤cells.length) {j:Nat} {c:AV} (hj:(splice cells off cs)[j]?=some c) :
  (off≤j∧j<off+cs.length∧cs[j-off]?=some c)∨(¬ (off≤j∧j<off+cs.length)∧cells[j]?=some c):=by
 simp only[splice] at hj
 by_cases c1:j<off
 ·rw[List.append_assoc,List.getElem?_append_left (by simp; omega),List.getElem?_take,if_pos c1] at hj
  exact .inr ⟨by omega,hj⟩
 ·by_cases c2:j<off+cs.length
  ·rw[List.append_assoc,List.getElem?_append_right (by simp; omega)] at hj
   have ht:(cells.take off).length=off:=by simp; omega
   rw[ht,List.getElem?_append_left (by omega)] at hj
   exact .inl ⟨by omega,c2,hj⟩
  ·rw[List.getElem?_append_right (by simp; omega)] at hj
   have ht:(cells.take off++cs).length=off+cs.length:=by simp; omega
   rw[ht,List.getElem?_drop] at hj
   have e:off+cs.length+(j-(off+cs.length))=j:=by omega
   rw[e] at hj
   exact .inr ⟨by omega,hj⟩
def Holds (F:z9) (s:St) (a:Act) (w:World):Prop:=∃ I β lam,Inv F s.look (lk s.sto) I β lam a w
theorem wI {α:Type} (l:List (Nat × α)) (d:Nat) (x:α):lk (pt l d x)=yd (lk l) (some d) (some x):=by
 funext m
 rw[xS]
 simp only[yd]
 by_cases h:d=m
 ·subst h; simp
 ·rw[if_neg h,if_neg (fun e=>h e.symm)]
theorem vN {s:St} {d:Option Nat} {x:AV}:(s.put d x).look=yd s.look (slot d) (some x):=by
 funext t
 obtain ⟨f,t⟩:=t
 cases d with
 | none=>rfl
 | some d =>
  cases f with
  | zero =>
   simp only[St.put,St.look,xS,yd,slot,Prod.mk.injEq,true_and]
   by_cases h:d=t
   ·subst h; simp
   ·rw[if_neg h,if_neg (fun e=>h e.symm)]
  | succ f=>simp[St.put,St.look,yd,slot]
theorem xa {s:St} {σ:List (Nat × zb)}:St.look {s with sto:=σ}=s.look:=by
 funext t
 obtain ⟨f,t⟩:=t
 cases f<;>rfl
theorem GQ {t:TypeId} {x y:Operand} {n:Nat} {X Y:AV} {s:St} {K:St→Prop} {Kr:Act→World→Prop} (ho:o.op=.store t x y) (hn:szT P t=some n)
  (h:Inv F s.look (lk s.sto) I β lam a w) (hx:R I w β lam X (a.eval x)) (hy:R I w β lam Y (a.eval y)) (hst:pB n s o.dst [X,Y] K)
  (hk:∀ s' w',K s'→Holds F s' a w'→Kr a w'):o.wp P a w Kr Q:=by
 unfold pB at hst
 split at hst
 ·rename_i j off X' heq
  simp only[List.cons.injEq,and_true] at heq
  obtain ⟨rfl,rfl⟩:=heq
  split at hst
  ·rename_i cells cs hs hcs
   obtain ⟨hl,hle,hdst,hst⟩:=hst
   obtain ⟨b,hb,hv⟩:=hx.ptr_inv
   obtain ⟨b',hb',hE⟩:=h.sto _ _ hs rfl
   rw[hb] at hb'; cases hb'
   obtain ⟨g1,g2⟩:=lw hcs hy
   have hvl:(a.eval y).cells.toList.length=cs.length:=by simpa using g1
   have hex:∀ i,i<cells.length→∃ v,w.cell? ⟨b,i,none⟩=some v∧w.frozen? ⟨b,i,none⟩=false:=fun i hi=>by
    obtain ⟨v,e1,e2,_⟩:=hE i cells[i] (by simp[hi])
    exact ⟨v,e1,e2⟩
   have hc:∀ i,i<(a.eval y).cells.toList.length→(w.cell? ⟨b,off+i,none⟩).isSome=true:=fun i hi=>by
    obtain ⟨v,e1,_⟩:=hex (off+i) (by omega)
    simp[e1]
   have hrun:(execOp a.eval o).run P w=.ok .skip (w.setCells b off (a.eval y).cells.toList):=by
    simp only[execOp,ho,hv]
    refine mC (tj hn (by omega) (fun i hi=>hc i (by omega)) (fun i hi=>(hex (off+i) (by omega)).elim fun v hv=>hv.2) (lc fun i hi=>?_))
    obtain ⟨c,hc'⟩:∃ c,cs[i]?=some c:=⟨cs[i]'(by omega),by simp[show i<cs.length by omega]⟩
    exact (g2 i c hc').2
   refine eN hrun ?_
   rw[hdst]
   refine hk _ _ hst ⟨I,β,lam,?_⟩
   simp only[xa]
   rw[wI]
   have hw:∀ b' o v,I b' o→w.cell? ⟨b',o,none⟩=some v→(w.setCells b off (a.eval y).cells.toList).cell? ⟨b',o,none⟩=some v:=fun b' q v hi hv=>by
    rw[yA (fun e=>by rw[e] at hi; exact (h.bnew j b hb).2.2 q hi)]; exact hv
   refine h.write rfl hb fun i c hi=>?_
   rcases eA (by omega) hi with ⟨c1,c2,c3⟩ | ⟨c1,c2⟩
   ·obtain ⟨r1,r2⟩:=g2 _ c c3
    have hlt:i-off<(a.eval y).cells.size:=by omega
    refine ⟨(a.eval y).cells.getD (i-off) undef,?_,?_,r2,r1.mono (fun _ _ h=>h) hw (fun _ _ h=>h) (fun _ _ h=>h)⟩
    ·rw[xe b _ off w hc,if_pos ⟨c1,by omega⟩]
     simp[hlt]
    ·rw[yF]
     exact (hex i (by omega)).elim fun v hv=>hv.2
   ·obtain ⟨v,e1,e2,e3,e4⟩:=hE i c c2
    refine ⟨v,?_,by rw[yF]; exact e2,e3,e4.mono (fun _ _ h=>h) hw (fun _ _ h=>h) (fun _ _ h=>h)⟩
    rw[xe b _ off w hc,if_neg (by rw[hvl]; exact c1)]
    exact e1
  ·exact hst.elim
 ·rename_i j sz i off X' heq
  simp only[List.cons.injEq,and_true] at heq
  obtain ⟨rfl,rfl⟩:=heq
  split at hst
  ·rename_i sz' rows cs hs hcs
   obtain ⟨rfl,hl,hle,hir,hrf,hdst,hst⟩:=hst
   split at hst
   ·rename_i r hr
    obtain ⟨b,hb,hv⟩:=hx.eptr_inv
    obtain ⟨b',hb',hE⟩:=h.sto _ _ hs rfl
    rw[hb] at hb'; cases hb'
    obtain ⟨g1,g2⟩:=f6 hcs hy hrf
    have hrl:r.length=sz':=hE.1 i r hr
    have hvl:(a.eval y).cells.toList.length=(cs.map strip).length:=by simpa using g1
    have hml:(cs.map strip).length=n:=by simpa using hl
    have hex:∀ q,q<sz'→∃ v,w.cell? ⟨b,i*sz'+q,none⟩=some v∧w.frozen? ⟨b,i*sz'+q,none⟩=false:=fun q hq=>by
     obtain ⟨v,e1,e2,_⟩:=hE.2 i r q r[q] hr (by simp[hrl,hq])
     exact ⟨v,e1,e2⟩
    have hc:∀ q,q<(a.eval y).cells.toList.length→(w.cell? ⟨b,i*sz'+off+q,none⟩).isSome=true:=fun q hq=>by
     obtain ⟨v,e1,_⟩:=hex (off+q) (by omega)
     rw[Nat.add_assoc]
     simp[e1]
    have hrun:(execOp a.eval o).run P w=.ok .skip (w.setCells b (i*sz'+off) (a.eval y).cells.toList):=by
     simp only[execOp,ho,hv]
     refine mC (tj hn (by omega) (fun q hq=>hc q (by omega)) (fun q hq=>?_) (lc fun q hq=>?_))
     ·rw[Nat.add_assoc]
      exact (hex (off+q) (by omega)).elim fun v hv=>hv.2
     ·obtain ⟨c,hc'⟩:∃ c,(cs.map strip)[q]?=some c:=⟨(cs.map strip)[q]'(by omega),List.getElem?_eq_getElem _⟩
      exact (g2 q c hc').2
    refine eN hrun ?_
    rw[hdst]
    refine hk _ _ hst ⟨I,β,lam,?_⟩
    simp only[xa]
    rw[wI]
    have hw:∀ b' o v,I b' o→w.cell? ⟨b',o,none⟩=some v→(w.setCells b (i*sz'+off) (a.eval y).cells.toList).cell? ⟨b',o,none⟩=some v:=fun b' q v hi hv=>by
     rw[yA (fun e=>by rw[e] at hi; exact (h.bnew j b hb).2.2 q hi)]; exact hv
    refine h.write rfl hb ⟨fun m r' hm=>?_,fun m r' q c hm hq=>?_⟩
    ·by_cases em:i=m
     ·subst em
      rw[List.getElem?_set_self hir] at hm
      simp only[Option.some.injEq] at hm
      subst hm
      simp[splice]
      omega
     ·rw[List.getElem?_set_ne em] at hm
      exact hE.1 m r' hm
    ·by_cases em:i=m
     ·subst em
      rw[List.getElem?_set_self hir] at hm
      simp only[Option.some.injEq] at hm
      subst hm
      rcases eA (by omega) hq with ⟨c1,c2,c3⟩ | ⟨c1,c2⟩
      ·obtain ⟨r1,r2⟩:=g2 _ c c3
       have hlt:q-off<(a.eval y).cells.size:=by omega
       refine ⟨(a.eval y).cells.getD (q-off) undef,?_,?_,r2,r1.mono (fun _ _ h=>h) hw⟩
       ·rw[xe b _ _ w hc,if_pos ⟨by omega,by omega⟩]
        rw[show i*sz'+q-(i*sz'+off)=q-off by omega]
        simp[hlt]
       ·rw[yF]
        exact (hex q (by omega)).elim fun v hv=>hv.2
      ·obtain ⟨v,e1,e2,e3,e4⟩:=hE.2 i r q c hr c2
       refine ⟨v,?_,by rw[yF]; exact e2,e3,e4.mono (fun _ _ h=>h) hw⟩
       rw[xe b _ _ w hc,if_neg (by rw[hvl]; omega)]
       exact e1
     ·rw[List.getElem?_set_ne em] at hm
      obtain ⟨v,e1,e2,e3,e4⟩:=hE.2 m r' q c hm hq
      have hql:q<sz':=by
       have:=hE.1 m r' hm
       have:=(List.getElem?_eq_some_iff.1 hq).1
       omega
      refine ⟨v,?_,by rw[yF]; exact e2,e3,e4.mono (fun _ _ h=>h) hw⟩
      rw[xe b _ _ w hc,if_neg]
      ·exact e1
      ·rw[hvl]
       rcases Nat.lt_or_gt_of_ne em with em | em
       ·have:(i+1)*sz'≤m*sz':=Nat.mul_le_mul_right _ em
        rw[Nat.add_mul] at this
        omega
       ·have:(m+1)*sz'≤i*sz':=Nat.mul_le_mul_right _ em
        rw[Nat.add_mul] at this
        omega
   ·exact hst.elim
  ·exact hst.elim
 ·rename_i l sz i off X' heq
  simp only[List.cons.injEq,and_true] at heq
  obtain ⟨rfl,rfl⟩:=heq
  split at hst
  ·rename_i sz' rows cs hs hcs
   obtain ⟨rfl,hlen,hle,hdst,hst⟩:=hst
   split at hst
   ·rename_i r hr
    obtain ⟨cap,b,q,hl,hv⟩:=hx.up_inv
    have hU:=h.usto _ _ _ hs
    obtain ⟨g1,g2⟩:=lw hcs hy
    have hrl:r.length=sz':=(hU.row hl hr).1
    have hcl:rows.length≤cap:=by
     obtain ⟨a',cap',k1,k2,_⟩:=hU
     rw[hl] at k1
     cases k1
     exact k2
    have hil:i<rows.length:=(List.getElem?_eq_some_iff.1 hr).1
    have hvl:(a.eval y).cells.toList.length=cs.length:=by simpa using g1
    have hm:(i+1)*sz'≤cap*sz':=Nat.mul_le_mul_right _ (by omega)
    rw[Nat.add_mul] at hm
    by_cases hn0:n=0
    ·-- nothing is written
     have hnil:(a.eval y).cells.toList=[]:=List.eq_nil_of_length_eq_zero (by omega)
     have hrun:(execOp a.eval o).run P w=.ok .skip (w.setCells b (q+i*sz'+off) (a.eval y).cells.toList):=by
      simp only[execOp,ho,hv]
      refine mC (tj hn (by omega) (fun i hi=>by omega) (fun i hi=>by omega) (lc fun i hi=>?_))
      have:(a.eval y).cells.size=0:=by simpa using congrArg List.length hnil
      omega
     refine eN hrun ?_
     rw[hdst,hnil]
     refine hk _ _ hst ⟨I,β,lam,?_⟩
     simp only[xa]
     rw[wI]
     have hcs0:cs=[]:=List.eq_nil_of_length_eq_zero (by omega)
     have he:rows.set i (splice r off cs)=rows:=by
      rw[hcs0]
      simp only[splice,List.length_nil,Nat.add_zero,List.append_nil,List.take_append_drop]
      refine List.ext_getElem? fun m=>?_
      rw[List.getElem?_set]
      split
      ·rename_i e; subst e; exact hr.symm
      ·rfl
     rw[he]
     have:yd (lk s.sto) (some l) (some (.uarr sz' rows))=lk s.sto:=by
      funext k
      simp only[yd]
      split
      ·rename_i e; rw[e]; exact hs.symm
      ·rfl
     rw[this]
     exact h
    ·have h0:0<cap*sz':=Nat.mul_pos (by omega) (by omega)
     obtain ⟨u1,u2,u3,u4⟩:=h.ublock hl h0
     have hex:∀ j,j<sz'→(∃ v,w.cell? ⟨b,q+i*sz'+j,none⟩=some v)∧w.frozen? ⟨b,q+i*sz'+j,none⟩=false:=fun j hj=>by
      obtain ⟨h1,h2,_⟩:=u4 (i*sz'+j) (by omega)
      rw[← Nat.add_assoc] at h1 h2
      exact ⟨h1,h2⟩
     have hc:∀ j,j<(a.eval y).cells.toList.length→(w.cell? ⟨b,q+i*sz'+off+j,none⟩).isSome=true:=fun j hj=>by
      obtain ⟨⟨v,hv⟩,_⟩:=hex (off+j) (by omega)
      rw[← Nat.add_assoc] at hv
      simp[hv]
     have hrun:(execOp a.eval o).run P w=.ok .skip (w.setCells b (q+i*sz'+off) (a.eval y).cells.toList):=by
      simp only[execOp,ho,hv]
      refine mC (tj hn (by omega) (fun j hj=>hc j (by omega)) (fun j hj=>?_) (lc fun j hj=>?_))
      ·have:=(hex (off+j) (by omega)).2
       rw[← Nat.add_assoc] at this
       exact this
      ·obtain ⟨c,hc'⟩:∃ c,cs[j]?=some c:=⟨cs[j]'(by omega),by simp[show j<cs.length by omega]⟩
       exact (g2 j c hc').2
     refine eN hrun ?_
     rw[hdst]
     refine hk _ _ hst ⟨I,β,lam,?_⟩
     simp only[xa]
     rw[wI]
     have hcell:=xe b (a.eval y).cells.toList (q+i*sz'+off) w hc
     have hw:∀ b' p v,I b' p→w.cell? ⟨b',p,none⟩=some v→(w.setCells b (q+i*sz'+off) (a.eval y).cells.toList).cell? ⟨b',p,none⟩=some v:=fun b' p v hi hcv=>by
      by_cases e:b'=b
      ·subst e
       rw[hcell,if_neg]
       ·exact hcv
       ·rintro ⟨c1,c2⟩
        refine (u4 (p-q) (by omega)).2.2 ?_
        rwa [show q+(p-q)=p by omega]
      ·rw[yA e]; exact hcv
     refine h.writeU hs hl h0 (by omega) ⟨some ⟨b,q,none⟩,cap,hl,by simpa using hcl,fun m r' hm'=>?_,fun _=>⟨b,q,rfl,fun m r' p c hm' hp=>?_⟩⟩
     ·by_cases em:i=m
      ·subst em
       rw[List.getElem?_set_self hil] at hm'
       simp only[Option.some.injEq] at hm'
       subst hm'
       simp[splice]
       omega
      ·rw[List.getElem?_set_ne em] at hm'
       exact (hU.row hl hm').1
     ·by_cases em:i=m
      ·subst em
       rw[List.getElem?_set_self hil] at hm'
       simp only[Option.some.injEq] at hm'
       subst hm'
       rcases eA (by omega) hp with ⟨c1,c2,c3⟩ | ⟨c1,c2⟩
       ·obtain ⟨r1,r2⟩:=g2 _ c c3
        have hlt:p-off<(a.eval y).cells.size:=by omega
        refine ⟨(a.eval y).cells.getD (p-off) undef,?_,r2,r1.mono (fun _ _ h=>h) hw (fun _ _ h=>h) (fun _ _ h=>h)⟩
        rw[hcell,if_pos ⟨by omega,by omega⟩,show q+i*sz'+p-(q+i*sz'+off)=p-off by omega]
        simp[hlt]
       ·obtain ⟨v,e1,e3,e4⟩:=(hU.row hl hr).2 p c c2
        refine ⟨v,?_,e3,e4.mono (fun _ _ h=>h) hw (fun _ _ h=>h) (fun _ _ h=>h)⟩
        rw[hcell,if_neg (by rw[hvl]; omega)]
        exact e1
      ·rw[List.getElem?_set_ne em] at hm'
       obtain ⟨k1,k2⟩:=hU.row hl hm'
       obtain ⟨v,e1,e3,e4⟩:=k2 p c hp
       have hpl:p<sz':=by
        have:=(List.getElem?_eq_some_iff.1 hp).1
        omega
       refine ⟨v,?_,e3,e4.mono (fun _ _ h=>h) hw (fun _ _ h=>h) (fun _ _ h=>h)⟩
       rw[hcell,if_neg]
       ·exact e1
       ·rw[hvl]
        rcases Nat.lt_or_gt_of_ne em with em | em
        ·have:(i+1)*sz'≤m*sz':=Nat.mul_le_mul_right _ em
         rw[Nat.add_mul] at this
         omega
        ·have:(m+1)*sz'≤i*sz':=Nat.mul_le_mul_right _ em
         rw[Nat.add_mul] at this
         omega
   ·exact hst.elim
  ·exact hst.elim
 ·exact hst.elim
end
section
variable {P:Program} {F:z9} {e:Nat × Nat→Option AV} {σ:Nat→Option zb} {I:Nat→Nat→Prop} {w:World} {β:zR} {lam:ya} {a:Act} {o:Oper}
  {Q:Exit→Act→World→Prop}
theorem sK {α γ:Type} (f:α→γ) (l:List (Nat × α)) (n:Nat):lk (l.map fun p=>(p.1,f p.2)) n=(lk l n).map f:=by
 induction l with
 | nil=>rfl
 | cons p l ih =>
  simp only[List.map_cons,lk]
  split
  ·rfl
  ·exact ih
theorem S5 {l:Nat} {x:AV} (h:nP l x=false) (hn:∀ sz l' rows,x≠.list sz (.own l') rows):dg l x=x:=by
 cases x with
 | list sz m rows=>cases m<;>first | rfl | exact absurd rfl (hn _ _ _)
 | us l' sz off len =>
  simp only[nP,beq_eq_false_iff_ne,ne_eq] at h
  simp[Am.dg,h]
 | up l' sz off len =>
  simp only[nP,beq_eq_false_iff_ne,ne_eq] at h
  simp[Am.dg,h]
 | fn f caps=>cases h
 | tuple cells=>cases h
 | lit sz rows=>cases h
 | raw cells=>cases h
 | _=>rfl
theorem X0 {l:Nat} {x:AV} (h:qw l x=false):dg l x=x:=by
 cases x with
 | list sz m rows =>
  cases m with
  | own l' =>
   simp only[qw,beq_eq_false_iff_ne,ne_eq] at h
   simp[Am.dg,h]
  | _=>rfl
 | _=>exact S5 h (by simp)
theorem R.dg {l:Nat} {I':Nat→Nat→Prop} {w':World} {lam':ya} (hI:∀ b o,I b o→I' b o)
  (hw:∀ b o v,I b o→w.cell? ⟨b,o,none⟩=some v→w'.cell? ⟨b,o,none⟩=some v) (hl:∀ l',l'≠l→lam' l'=lam l') {x:AV} {v:Value}
  (h:R I w β lam x v):R I' w' β lam' (dg l x) v:=by
 induction h with
 | base h =>
  cases h with
  | listNil sz m a cap hm ho=>cases m<;>first | exact .base (.listNil _ _ _ _ hm ho) | exact absurd rfl (ho _)
  | list sz m rows b o cap g hcap hm ho hrow hcell hc =>
   cases m<;>first | exact .base (R0.mono hI hw (.list _ _ rows b o cap g hcap hm ho hrow hcell hc)) | exact absurd rfl (ho _)
  | fn f caps vs hs hc =>
   simp only[Am.dg]
   split
   ·exact yv _
   ·exact .base (R0.mono hI hw (.fn f caps vs hs hc))
  | tuple cells vs hs hc =>
   simp only[Am.dg]
   split
   ·exact yv _
   ·exact .base (R0.mono hI hw (.tuple cells vs hs hc))
  | undef=>exact .base (.undef _)
  | val=>exact .base (.val _)
  | agg cells vs hs h1 hc=>exact .base (R0.mono hI hw (.agg cells vs hs h1 hc))
  | ro cells b o g hcell hc=>exact .base (R0.mono hI hw (.ro cells b o g hcell hc))
  | iface t x v h=>exact .base (R0.mono hI hw (.iface t x v h))
 | ptr k off b h=>exact .ptr k off b h
 | eptr k sz i off b h=>exact .eptr k sz i off b h
 | sl k sz off len cap b av h hc ha=>exact .sl k sz off len cap b av h hc ha
 | own sz l' rows a cap h hl' =>
  simp only[Am.dg]
  split
  ·exact .base (h.mono hI hw)
  ·rename_i hne
   exact .own sz l' rows a cap (h.mono hI hw) (by rw[hl l' hne]; exact hl')
 | fn f caps vs hs hn _ ih =>
  simp only[Am.dg]
  split
  ·exact yv _
  ·rename_i hany
   refine .fn f caps vs hs hn fun i c hi=>?_
   have:=ih i c hi
   have ht:=List.any_eq_false.1 (by simpa using hany) c (List.mem_iff_getElem?.2 ⟨i,hi⟩)
   rwa [S5 (by simpa using ht) (fun sz l' rows e=>hn sz l' rows (by rw[← e]; exact List.mem_iff_getElem?.2 ⟨i,hi⟩))] at this
 | us l' sz off len cap cp a av h hc ho ha =>
  simp only[Am.dg]
  split
  ·exact yv _
  ·rename_i hne
   exact .us l' sz off len cap cp a av (by rw[hl l' hne]; exact h) hc ho ha
 | up l' sz i off cap b o h =>
  simp only[Am.dg]
  split
  ·exact yv _
  ·rename_i hne
   exact .up l' sz i off cap b o (by rw[hl l' hne]; exact h)
 | tuple cells vs hs hn _ ih =>
  simp only[Am.dg]
  split
  ·exact yv _
  ·rename_i hany
   refine .tuple cells vs hs hn fun i c hi=>?_
   have:=ih i c hi
   have ht:=List.any_eq_false.1 (by simpa using hany) c (List.mem_iff_getElem?.2 ⟨i,hi⟩)
   rwa [S5 (by simpa using ht) (fun sz l' rows e=>hn sz l' rows (by rw[← e]; exact List.mem_iff_getElem?.2 ⟨i,hi⟩))] at this
 | mp k b h=>exact .mp k b h
 | litNil sz a=>exact .litNil sz a
 | lit sz rows b o g hrow hcell _ ih =>
  simp only[Am.dg]
  split
  ·exact yv _
  ·rename_i hany
   refine .lit sz rows b o g hrow (fun i r j c h1 h2=>⟨hI _ _ (hcell i r j c h1 h2).1,hw _ _ _ (hcell i r j c h1 h2).1 (hcell i r j c h1 h2).2.1,(hcell i r j c h1 h2).2.2⟩) fun i r j c hi hj=>?_
   have:=ih i r j c hi hj
   have h1:=List.any_eq_false.1 (by simpa only[Bool.not_eq_true] using hany) r (List.mem_iff_getElem?.2 ⟨i,hi⟩)
   have ht:=List.any_eq_false.1 (by simpa only[Bool.not_eq_true] using h1) c (List.mem_iff_getElem?.2 ⟨j,hj⟩)
   rwa [X0 (by simpa using ht)] at this
 | raw cells vs hs h1 _ ih =>
  simp only[Am.dg]
  split
  ·exact yv _
  ·rename_i hany
   refine .raw cells vs hs h1 fun i c hi=>?_
   have:=ih i c hi
   have ht:=List.any_eq_false.1 (by simpa only[Bool.not_eq_true] using hany) c (List.mem_iff_getElem?.2 ⟨i,hi⟩)
   rwa [X0 (by simpa using ht)] at this
theorem bq {l:Nat} {en:zb}:(dgE l en).isU=en.isU:=by cases en<;>rfl
theorem RE.dg {l:Nat} {I':Nat→Nat→Prop} {w':World} {lam':ya} (hI:∀ b o,I b o→I' b o)
  (hw:∀ b o v,I b o→w.cell? ⟨b,o,none⟩=some v→w'.cell? ⟨b,o,none⟩=some v) (hl:∀ l',l'≠l→lam' l'=lam l') {b:Nat}
  (hb:w'.heap[b]?=w.heap[b]?) {en:zb} (h:RE I w β lam b en):RE I' w' β lam' b (dgE l en):=by
 have hc:∀ o,w'.cell? ⟨b,o,none⟩=w.cell? ⟨b,o,none⟩:=fun o=>by simp only[World.cell?,hb]
 have hf:∀ o,w'.frozen? ⟨b,o,none⟩=w.frozen? ⟨b,o,none⟩:=fun o=>by simp only[World.frozen?,hb]
 cases en with
 | var cells =>
  intro j c hj
  simp only[List.getElem?_map,Option.map_eq_some_iff] at hj
  obtain ⟨c',hj,rfl⟩:=hj
  obtain ⟨v,h1,h2,h3,h4⟩:=h j c' hj
  exact ⟨v,by rw[hc]; exact h1,by rw[hf]; exact h2,h3,h4.dg hI hw hl⟩
 | arr sz rows =>
  refine ⟨h.1,fun i r j c hi hj=>?_⟩
  obtain ⟨v,h1,h2,h3,h4⟩:=h.2 i r j c hi hj
  exact ⟨v,by rw[hc]; exact h1,by rw[hf]; exact h2,h3,h4.mono hI hw⟩
 | uarr sz rows=>exact h
 | map es clock=>exact hb.trans h
theorem RU.dg {l k sz:Nat} {I':Nat→Nat→Prop} {w':World} {lam':ya} {rows:List (List AV)} (hne:k≠l) (hI:∀ b o,I b o→I' b o)
  (hw:∀ b o v,I b o→w.cell? ⟨b,o,none⟩=some v→w'.cell? ⟨b,o,none⟩=some v) (hl:∀ l',l'≠l→lam' l'=lam l')
  (hb:∀ b o cap q v,lam k=some (some ⟨b,o,none⟩,0,cap,sz)→q<cap*sz→w.cell? ⟨b,o+q,none⟩=some v→w'.cell? ⟨b,o+q,none⟩=some v) (h:RU I w β lam k sz rows) :
  RU I' w' β lam' k sz (zU l rows):=by
 obtain ⟨a,cap,h1,h2,h3,h4⟩:=h
 have get:∀ (i:Nat) (r:List AV),(zU l rows)[i]?=some r→∃ r0,rows[i]?=some r0∧r=r0.map (Am.dg l):=fun i r hi=>by
  simp only[zU,List.getElem?_map,Option.map_eq_some_iff] at hi
  obtain ⟨r0,h,rfl⟩:=hi
  exact ⟨r0,h,rfl⟩
 refine ⟨a,cap,by rw[hl k hne]; exact h1,by simpa [zU] using h2,fun i r hi=>?_,fun hnn=>?_⟩
 ·obtain ⟨r0,g,rfl⟩:=get i r hi
  rw[List.length_map]; exact h3 i r0 g
 ·obtain ⟨b,o,rfl,h5⟩:=h4 (by intro e; subst e; exact hnn rfl)
  refine ⟨b,o,rfl,fun i r j c hi hj=>?_⟩
  obtain ⟨r0,g,rfl⟩:=get i r hi
  simp only[List.getElem?_map,Option.map_eq_some_iff] at hj
  obtain ⟨c0,hj,rfl⟩:=hj
  obtain ⟨v,g1,g2,g3⟩:=h5 i r0 j c0 g hj
  have hil:i<rows.length:=(List.getElem?_eq_some_iff.1 g).1
  have hjl:j<sz:=by have:=(List.getElem?_eq_some_iff.1 hj).1; have:=h3 i r0 g; omega
  have hm:(i+1)*sz≤cap*sz:=Nat.mul_le_mul_right _ (by omega)
  rw[Nat.add_mul] at hm
  refine ⟨v,?_,g2,g3.dg hI hw hl⟩
  rw[Nat.add_assoc] at g1 ⊢
  exact hb b o cap _ v h1 (by omega) g1
theorem Inv.owner (h:Inv F e σ I β lam a w) (l:Nat) (hσl:σ l=none) {I':Nat→Nat→Prop} {w':World} {q:Option Addr × Nat × Nat × Nat}
  (hb:Below F.w0.heap.size w w') (hI:∀ b o,I b o→I' b o) (hI2:∀ b o,I' b o→I b o∨(F.w0.heap.size≤b∧b<w'.heap.size∧∀ k,β k≠some b))
  (hw:∀ b o v,I b o→w.cell? ⟨b,o,none⟩=some v→w'.cell? ⟨b,o,none⟩=some v) (hβ:∀ k b,β k=some b→w'.heap[b]?=w.heap[b]?)
  (hs:∀ c,q.2.1*q.2.2.2≤c→c<q.2.2.1*q.2.2.2→∃ b o,q.1=some ⟨b,o,none⟩∧F.w0.heap.size≤b∧(∃ v,w'.cell? ⟨b,o+c,none⟩=some v) ∧
   w'.frozen? ⟨b,o+c,none⟩=false∧¬ I' b (o+c)∧∀ k,β k≠some b)
  (ho:∀ l' av len cap sz,l'≠l→lam l'=some (av,len,cap,sz)→∀ c,len*sz≤c→c<cap*sz→∀ b o,av=some ⟨b,o,none⟩ →
   w'.heap[b]?=w.heap[b]?∧(∀ p,I' b p→I b p)∧∀ o',q.1=some ⟨b,o',none⟩→¬ q.2.1*q.2.2.2<q.2.2.1*q.2.2.2) :
  Inv F (fun t=>(e t).map (dg l)) (fun k=>(σ k).map (dgE l)) I' β (fun l'=>if l'=l then some q else lam l') a w':=by
 have hl:∀ l',l'≠l→(if l'=l then some q else lam l')=lam l':=fun l' h=>by rw[if_neg h]
 exact
  {defers:=h.defers
   size:=h.size
   below:=h.below.trans hb
   env:=fun t x ht=>by
    simp only[Option.map_eq_some_iff] at ht
    obtain ⟨x',ht,rfl⟩:=ht
    obtain ⟨v,h1,h2⟩:=h.env t x' ht
    exact ⟨v,h1,h2.dg hI hw hl⟩
   sto:=fun k en hk hu=>by
    simp only[Option.map_eq_some_iff] at hk
    obtain ⟨en',hk,rfl⟩:=hk
    rw[bq] at hu
    obtain ⟨b,hb',hE⟩:=h.sto k en' hk hu
    exact ⟨b,hb',hE.dg hI hw hl (hβ k b hb')⟩
   usto:=fun k sz rows hk=>by
    simp only[Option.map_eq_some_iff] at hk
    obtain ⟨en',hk,he⟩:=hk
    cases en' with
    | uarr sz' rows' =>
     simp only[dgE,zb.uarr.injEq] at he
     obtain ⟨rfl,rfl⟩:=he
     have hne:k≠l:=fun e=>by rw[e,hσl] at hk; cases hk
     refine (h.usto k _ _ hk).dg hne hI hw hl (fun b o cap p v hl' hp hv=>?_)
     obtain ⟨g1,_⟩:=ho k _ _ _ _ hne hl' p (by omega) hp b o rfl
     simp only[World.cell?,g1]; exact hv
    | _=>cases he
   bdom:=fun k b hk=>by
    obtain ⟨en,hk,hu⟩:=h.bdom k b hk
    exact ⟨dgE l en,by rw[hk]; rfl,by rw[bq]; exact hu⟩
   binj:=h.binj
   bnew:=fun k b hk=>⟨(h.bnew k b hk).1,Nat.lt_of_lt_of_le (h.bnew k b hk).2.1 hb.size,fun o hi=>by
    rcases hI2 b o hi with hi | hi
    ·exact (h.bnew k b hk).2.2 o hi
    ·exact hi.2.2 k hk⟩
   Isub:=fun b o hi=>by
    rcases hI2 b o hi with hi | hi
    ·exact Nat.lt_of_lt_of_le (h.Isub b o hi) hb.size
    ·exact hi.2.1
   I0sub:=fun b o hi=>hI _ _ (h.I0sub b o hi)
   Inew:=fun b o hi=>by
    rcases hI2 b o hi with hi | hi
    ·exact h.Inew b o hi
    ·exact .inr hi.1
   spare:=fun l' av len cap sz hl' c h1 h2=>by
    by_cases el:l'=l
    ·rw[if_pos el] at hl'
     simp only[Option.some.injEq] at hl'
     subst hl'
     exact hs c h1 h2
    ·rw[if_neg el] at hl'
     obtain ⟨b,o,e1,e2,⟨v,e3⟩,e4,e5,e6⟩:=h.spare l' av len cap sz hl' c h1 h2
     obtain ⟨g1,g2,_⟩:=ho l' av len cap sz el hl' c h1 h2 b o e1
     exact ⟨b,o,e1,e2,⟨v,by simp only[World.cell?,g1]; exact e3⟩,by simp only[World.frozen?,g1]; exact e4,fun hi=>e5 (g2 _ hi),e6⟩
   ldis:=fun l1 l2 b o o' len len' cap cap' sz sz' hne h1 h2 h3 h4=>by
    by_cases e1:l1=l
    ·rw[if_pos e1] at h1
     simp only[Option.some.injEq] at h1
     subst h1
     by_cases e2:l2=l
     ·exact hne (e1.trans e2.symm)
     ·rw[if_neg e2] at h2
      exact (ho l2 _ len' cap' sz' e2 h2 (len'*sz') (Nat.le_refl _) h4 b o' rfl).2.2 o rfl h3
    ·rw[if_neg e1] at h1
     by_cases e2:l2=l
     ·rw[if_pos e2] at h2
      simp only[Option.some.injEq] at h2
      subst h2
      exact (ho l1 _ len cap sz e1 h1 (len*sz) (Nat.le_refl _) h3 b o rfl).2.2 o' rfl h4
     ·rw[if_neg e2] at h2
      exact h.ldis l1 l2 b o o' len len' cap cap' sz sz' hne h1 h2 h3 h4}
theorem Gs {sz:Nat} {rows:List (List AV)} {b q:Nat} (hrow:∀ (i:Nat) (r:List AV),rows[i]?=some r→r.length=sz)
  (hc:∀ (i:Nat) (r:List AV) j c,rows[i]?=some r→r[j]?=some c→∃ u,w.cell? ⟨b,q+i*sz+j,none⟩=some u∧single u=true∧R0 I w c u) (h0:0<sz) :
  ∃ news:List Value,news.length=rows.length*sz∧(∀ j u,news[j]?=some u→w.cell? ⟨b,q+j,none⟩=some u)∧(∀ u∈news,u.oneCell'=true)∧RowsIn I w sz rows news.toArray:=by
 have key:∀ m,m<rows.length*sz→∃ u,w.cell? ⟨b,q+m,none⟩=some u∧single u=true:=by
  intro m hm
  have hi:m/sz<rows.length:=(Nat.div_lt_iff_lt_mul h0).2 hm
  have hj:m%sz<sz:=Nat.mod_lt _ h0
  have hr:rows[m/sz]?=some rows[m/sz]:=List.getElem?_eq_getElem hi
  have hlen:=hrow _ _ hr
  have hj':m%sz<rows[m/sz].length:=by omega
  obtain ⟨u,h1,h2,_⟩:=hc _ _ (m%sz) rows[m/sz][m%sz] hr (List.getElem?_eq_getElem hj')
  refine ⟨u,?_,h2⟩
  rw[← h1]
  congr 2
  have:=Nat.div_add_mod m sz
  rw[Nat.mul_comm] at this
  omega
 refine ⟨(List.range (rows.length*sz)).map fun m=>(w.cell? ⟨b,q+m,none⟩).getD undef,by simp,fun j u hj=>?_,fun u hu=>?_,by simp,hrow,fun i r j c hi hj=>?_⟩
 ·simp only[List.getElem?_map,Option.map_eq_some_iff] at hj
  obtain ⟨m,hm,rfl⟩:=hj
  have hlt:j<rows.length*sz:=by
   have:=(List.getElem?_eq_some_iff.1 hm).1
   simpa using this
  have:m=j:=by
   rw[List.getElem?_range hlt] at hm
   exact (Option.some.inj hm).symm
  subst this
  obtain ⟨u,h1,_⟩:=key m hlt
  simp[h1]
 ·simp only[List.mem_map,List.mem_range] at hu
  obtain ⟨m,hm,rfl⟩:=hu
  obtain ⟨u,h1,h2⟩:=key m hm
  simpa [h1] using h2
 ·obtain ⟨u,h1,h2,h3⟩:=hc i r j c hi hj
  have hir:i<rows.length:=(List.getElem?_eq_some_iff.1 hi).1
  have hjr:j<sz:=by
   have:=(List.getElem?_eq_some_iff.1 hj).1
   have:=hrow i r hi
   omega
  have h4:(i+1)*sz≤rows.length*sz:=Nat.mul_le_mul_right _ hir
  rw[Nat.add_mul] at h4
  have e:((List.range (rows.length*sz)).map fun m=>(w.cell? ⟨b,q+m,none⟩).getD undef).toArray.getD (i*sz+j) undef=u:=by
   have hlt:i*sz+j<rows.length*sz:=by omega
   rw[Nat.add_assoc] at h1
   simp[hlt,h1]
  rw[e]
  exact ⟨h3,h2⟩
theorem ew {sz:Nat}:RowsIn I w sz [] #[]:=⟨by simp,by simp,by simp⟩
theorem qW {sz:Nat} {tx:TypeId} {av:Option Addr} {cap:Nat} (hk:(∃ e',P.underlying tx=some (.slice e'))∨P.underlying tx=some .string):Src P sz tx (.slice av 0 cap) 0 [] w:=by
 refine ⟨hk,fun _=>rfl,?_,?_,by simp,by simp⟩
 ·cases av with
  | none=>exact run_firstCells_none w sz 0 0 cap
  | some a=>exact run_firstCells_some w sz 0 a 0 cap [] (by simp) (by simp)
 ·cases av with
  | none=>exact run_firstCells_none w.drew sz 0 0 cap
  | some a=>exact run_firstCells_some w.drew sz 0 a 0 cap [] (by simp) (by simp)
theorem bf {sz:Nat} {tx:TypeId} {X:AV} {v:Value} {kk:List (List AV)→Prop} (hk:(∃ e',P.underlying tx=some (.slice e'))∨P.underlying tx=some .string)
  (h0:∀ rows,kk rows→0<sz) (hσ:∀ k en b,σ k=some en→β k=some b→RE I w β lam b en) (hυ:∀ l sz rows,σ l=some (.uarr sz rows)→RU I w β lam l sz rows) (hX:R I w β lam X v) (h:y6 σ sz X kk) :
  ∃ rows news,kk rows∧Src P sz tx v rows.length news w∧RowsIn I w sz rows news.toArray:=by
 have cells:∀ {rows:List (List AV)} {b q cap:Nat},0<sz→(∀ (i:Nat) (r:List AV),rows[i]?=some r→r.length=sz) →
   (∀ (i:Nat) (r:List AV) j c,rows[i]?=some r→r[j]?=some c→∃ u,w.cell? ⟨b,q+i*sz+j,none⟩=some u∧single u=true∧R0 I w c u) →
   ∃ news,Src P sz tx (.slice (some ⟨b,q,none⟩) rows.length cap) rows.length news w∧RowsIn I w sz rows news.toArray:=by
  intro rows b q cap hz hrow hc
  obtain ⟨news,n1,n2,n3,n4⟩:=Gs hrow hc hz
  refine ⟨news,⟨hk,fun _=>rfl,?_,?_,n1,n3⟩,n4⟩
  ·exact run_firstCells_some w sz _ _ _ _ news n1 (fun j u hj=>by rw[addr_add]; exact n2 j u hj)
  ·exact run_firstCells_some w.drew sz _ _ _ _ news n1 (fun j u hj=>by rw[addr_add]; exact n2 j u hj)
 unfold y6 at h
 split at h
 ·rename_i sz' m rows
  obtain ⟨hs,h⟩:=h
  obtain ⟨av,cap,rfl,hcap,_,hne⟩:=hX.list_inv
  by_cases hr:rows=[]
  ·subst hr
   exact ⟨[],[],h,qW hk,ew⟩
  ·obtain ⟨b,q,rfl,hrow,hc⟩:=hne hr
   have hs':=hs.resolve_left hr
   subst hs'
   obtain ⟨news,n1,n2⟩:=cells (cap:=cap) (h0 _ h) hrow (fun i r j c hi hj=>(hc i r j c hi hj).imp fun u hu=>⟨hu.2.1,hu.2.2.1,hu.2.2.2⟩)
   exact ⟨rows,news,h,n1,n2⟩
 ·rename_i j sz' off len
  obtain ⟨rfl,h⟩:=h
  split at h
  ·rename_i sz'' rows hs
   obtain ⟨rfl,hle,h⟩:=h
   obtain ⟨b,cap,av,hb,rfl,hcap,hav⟩:=hX.sl_inv
   have hE:=hσ _ _ _ hs hb
   have hlen:((rows.drop off).take len).length=len:=by simp; omega
   by_cases hz:len=0
   ·have hnil:(rows.drop off).take len=[]:=List.eq_nil_of_length_eq_zero (by omega)
    rw[hnil] at h
    rw[hz]
    exact ⟨[],[],h,qW hk,ew⟩
   ·have hav':=hav hz
    subst hav'
    have hget:∀ (i:Nat) (r:List AV),((rows.drop off).take len)[i]?=some r→rows[off+i]?=some r:=by
     intro i r hi
     rw[List.getElem?_take] at hi
     split at hi
     ·rw[List.getElem?_drop] at hi; exact hi
     ·cases hi
    obtain ⟨news,n1,n2⟩:=cells (cap:=cap) (b:=b) (q:=off*sz'') (rows:=(rows.drop off).take len) (h0 _ h) (fun i r hi=>hE.1 _ _ (hget i r hi)) (fun i r j' c hi hj=>by
     obtain ⟨u,e1,_,e3,e4⟩:=hE.2 _ _ _ _ (hget i r hi) hj
     rw[Nat.add_mul] at e1
     exact ⟨u,e1,e3,e4⟩)
    rw[hlen] at n1
    exact ⟨_,news,h,by rw[hlen]; exact n1,n2⟩
  ·exact h.elim
 ·rename_i j sz' off len
  obtain ⟨rfl,h⟩:=h
  split at h
  ·rename_i sz'' rows hs
   obtain ⟨rfl,hle,hrf,h⟩:=h
   obtain ⟨cap,cp,av0,av,hl,rfl,hlc,hoc,hav⟩:=hX.us_inv
   have hU:=hυ _ _ _ hs
   have hlen:(zQ ((rows.drop off).take len)).length=len:=by simp[zQ]; omega
   by_cases hz:len=0
   ·have hnil:zQ ((rows.drop off).take len)=[]:=List.eq_nil_of_length_eq_zero (by omega)
    rw[hnil] at h
    rw[hz]
    exact ⟨[],[],h,qW hk,ew⟩
   ·obtain ⟨b,q,rfl,rfl⟩:=hav (by omega)
    have hget:∀ (i:Nat) (r:List AV),(zQ ((rows.drop off).take len))[i]?=some r→∃ r0,rows[off+i]?=some r0∧r=r0.map strip∧r0.all rf=true:=by
     intro i r hi
     simp only[zQ,List.getElem?_map,Option.map_eq_some_iff] at hi
     obtain ⟨r0,hi,rfl⟩:=hi
     have hm:=List.all_eq_true.1 hrf r0 (List.mem_iff_getElem?.2 ⟨i,hi⟩)
     rw[List.getElem?_take] at hi
     split at hi
     ·rw[List.getElem?_drop] at hi; exact ⟨r0,hi,rfl,hm⟩
     ·cases hi
    obtain ⟨news,n1,n2⟩:=cells (cap:=cp) (b:=b) (q:=q+off*sz'') (rows:=zQ ((rows.drop off).take len)) (h0 _ h) (fun i r hi=>by
     obtain ⟨r0,g1,rfl,_⟩:=hget i r hi
     rw[List.length_map]
     exact (hU.row hl g1).1) (fun i r j' c hi hj=>by
     obtain ⟨r0,g1,rfl,g3⟩:=hget i r hi
     simp only[List.getElem?_map,Option.map_eq_some_iff] at hj
     obtain ⟨c0,hj,rfl⟩:=hj
     obtain ⟨u,e1,e3,e4⟩:=(hU.row hl g1).2 j' c0 hj
     have hr:=List.all_eq_true.1 g3 c0 (List.mem_iff_getElem?.2 ⟨j',hj⟩)
     rw[Nat.add_mul,← Nat.add_assoc] at e1
     exact ⟨u,e1,e3,e4.to0 hr⟩)
    rw[hlen] at n1
    exact ⟨_,news,h,by rw[hlen]; exact n1,n2⟩
  ·exact h.elim
 ·rename_i s
  obtain ⟨rfl,h⟩:=h
  have hv:=hX.val_eq
  subst hv
  have hl:(s.data.toList.map fun x=>[AV.val (.int .u8 x.toNat)]).length=s.size:=by
   rw[List.length_map,Array.length_toList]; rfl
  refine ⟨_,byteCells s,h,⟨hk,fun _=>by rw[hl]; rfl,by rw[hl]; exact firstCells_string s w,by rw[hl]; exact firstCells_string s w.drew,by rw[hl,byteCells_length,Nat.mul_one],fun u hu=>?_⟩,?_⟩
  ·obtain ⟨_,_,rfl⟩:=List.mem_map.1 hu
   rfl
  ·refine ⟨by rw[hl]; simp[byteCells_length],fun i r hi=>?_,fun i r j c hi hj=>?_⟩
   ·simp only[List.getElem?_map,Option.map_eq_some_iff] at hi
    obtain ⟨u,_,rfl⟩:=hi
    rfl
   ·simp only[List.getElem?_map,Option.map_eq_some_iff] at hi
    obtain ⟨u,hu,rfl⟩:=hi
    cases j with
    | zero =>
     simp at hj
     subst hj
     have e:(byteCells s).toArray.getD (i*1+0) undef=.int .u8 u.toNat:=by
      simp at hu
      simp[byteCells,hu]
     rw[e]
     exact ⟨.val _,rfl⟩
    | succ j=>simp at hj
 ·rename_i sz' rows
  obtain ⟨rfl,hr,h⟩:=h
  have hlen:(zQ rows).length=rows.length:=by simp[zQ]
  obtain ⟨av,cap,hv,hcap,_,hne⟩:=(R.base (β:=β) (lam:=lam) (hX.lit_low hr)).list_inv
  subst hv
  by_cases hnil:zQ rows=[]
  ·rw[hnil] at h ⊢
   exact ⟨[],[],h,qW hk,ew⟩
  ·obtain ⟨b,q,rfl,hrow,hc⟩:=hne hnil
   obtain ⟨news,n1,n2⟩:=cells (cap:=cap) (h0 _ h) hrow (fun i r j c hi hj=>(hc i r j c hi hj).imp fun u hu=>⟨hu.2.1,hu.2.2.1,hu.2.2.2⟩)
   exact ⟨zQ rows,news,h,n1,n2⟩
 ·exact h.elim
end
section
variable {P:Program} {F:z9} {e:Nat × Nat→Option AV} {σ:Nat→Option zb} {I:Nat→Nat→Prop} {w:World} {β:zR} {lam:ya} {a:Act} {o:Oper}
  {Q:Exit→Act→World→Prop}
theorem R.own_inv {sz l:Nat} {rows:List (List AV)} {v:Value} (h:R I w β lam (.list sz (.own l) rows) v) :
  ∃ av cap,v=.slice av rows.length cap∧lam l=some (av,rows.length,cap,sz)∧R0 I w (.list sz .plain rows) v:=by
 cases h with
 | base h =>
  cases h with
  | listNil _ _ _ _ _ ho=>exact absurd rfl (ho l)
  | list _ _ _ _ _ _ _ _ _ ho=>exact absurd rfl (ho l)
 | own _ _ _ a cap h hl=>exact ⟨a,cap,rfl,hl,h⟩
theorem R9 {sz l n cap:Nat} {rows:List (List AV)} {av:Option Addr} (h:R0 I w (.list sz .plain rows) (.slice av n cap)) (hn:n=rows.length)
  (hl:lam l=some (av,n,cap,sz)):R I w β lam (.list sz (.own l) rows) (.slice av n cap):=by
 subst hn
 exact .own _ _ _ _ _ h hl
theorem RowsIn.append {sz:Nat} {r1 r2:List (List AV)} {A B:List Value} (h1:RowsIn I w sz r1 A.toArray) (h2:RowsIn I w sz r2 B.toArray):RowsIn I w sz (r1++r2) (A++B).toArray:=by
 have hA:A.length=r1.length*sz:=by simpa using h1.1
 have hB:B.length=r2.length*sz:=by simpa using h2.1
 refine ⟨by simp[hA,hB,Nat.add_mul],fun i r hi=>?_,fun i r j c hi hj=>?_⟩
 ·rw[List.getElem?_append] at hi
  split at hi
  ·exact h1.2.1 _ _ hi
  ·exact h2.2.1 _ _ hi
 ·rw[List.getElem?_append] at hi
  split at hi
  ·rename_i hlt
   have hg:=h1.get hi hj
   have:=h1.2.2 i r j c hi hj
   have e:(A++B).toArray.getD (i*sz+j) undef=A.toArray.getD (i*sz+j) undef:=by
    have:i*sz+j<A.length:=by simpa using hg
    simp[List.getElem?_append,this]
   rw[e]
   exact this
  ·rename_i hlt
   have:=h2.2.2 _ r j c hi hj
   have e:(A++B).toArray.getD (i*sz+j) undef=B.toArray.getD ((i-r1.length)*sz+j) undef:=by
    have h3:r1.length*sz≤i*sz:=Nat.mul_le_mul_right _ (by omega)
    have h4:¬ i*sz+j<A.length:=by omega
    have h5:i*sz+j-A.length=(i-r1.length)*sz+j:=by rw[hA,Nat.sub_mul]; omega
    simp[List.getElem?_append,h4,h5]
   rw[e]
   exact this
theorem R0.of_rows {I':Nat→Nat→Prop} {w':World} {sz:Nat} {rows:List (List AV)} {A:Array Value} {b q cap:Nat} (h:RowsIn I w sz rows A) (hcap:rows.length≤cap)
  (hI:∀ m,m<rows.length*sz→I' b (q+m)) (hc:∀ m,m<A.size→w'.cell? ⟨b,q+m,none⟩=some (A.getD m Go.undef))
  (hm:∀ x v,R0 I w x v→R0 I' w' x v):R0 I' w' (.list sz .plain rows) (.slice (some ⟨b,q,none⟩) rows.length cap):=by
 refine R0.mk_list hcap (by simp) (by simp) h.2.1 fun i r j c hi hj=>?_
 have hlt:=h.get hi hj
 obtain ⟨h1,h2⟩:=h.2.2 i r j c hi hj
 refine ⟨A.getD (i*sz+j) Go.undef,?_,?_,h2,hm _ _ h1⟩
 ·rw[Nat.add_assoc]
  exact hI _ (by rw[← h.1]; exact hlt)
 ·rw[Nat.add_assoc]
  exact hc _ hlt
theorem pP {t u ty e:TypeId} {i:TypeInfo} {x:Value} {base:Option Addr} {sLen sCap:Nat} (ht:P.underlying t=some (.slice e)) (hi:P.info? e=some i)
  (hs:Src P i.size u x 0 [] w) (hroom:sLen≤sCap) :
  (Builtin.append_ #[t,u] ty #[.slice base sLen sCap,x]).run P w=.ok (.slice base sLen sCap) w:=by
 rcases hs.kind with ⟨e',hk⟩ | hk<;>cases base <;>
  simp[Builtin.append_,run_underlying ht,run_underlying hk,sizeOf,typeInfo,hi,hs.len,hroom,hs.cells,storeCells]
def dn (P:Program) (F:z9) (e:Nat × Nat→Option AV) (σ:Nat→Option zb) (β:zR) (lam:ya) (a:Act) (w:World) (t u ty:TypeId) (s x:Value) (l sz:Nat) (rows:List (List AV)):Prop :=
 ∃ v w' I' q,(Builtin.append_ #[t,u] ty #[s,x]).run P w=.ok v w' ∧
  Inv F (fun t=>(e t).map (dg l)) (fun k=>(σ k).map (dgE l)) I' β (fun l'=>if l'=l then some q else lam l') a w' ∧
  R I' w' β (fun l'=>if l'=l then some q else lam l') (.list sz (.own l) rows) v
theorem FF {t u ty e':TypeId} {i:TypeInfo} {x:Value} {av:Option Addr} {cap sz l:Nat} {rows:List (List AV)} (ht:P.underlying t=some (.slice e')) (hi:P.info? e'=some i) (hsz:i.size=sz)
  (h:Inv F e σ I β lam a w) (hσl:σ l=none) (hs:Src P sz u x 0 [] w) (hcap:rows.length≤cap) (hR:R0 I w (.list sz .plain rows) (.slice av rows.length cap))
  (hl:lam l=some (av,rows.length,cap,sz)∨cap=rows.length):dn P F e σ β lam a w t u ty (.slice av rows.length cap) x l sz rows:=by
 subst hsz
 refine ⟨_,w,I,(av,rows.length,cap,i.size),pP ht hi hs hcap,?_,.own _ _ _ _ _ hR (by simp)⟩
 refine h.owner l hσl (Below.refl _ _) (fun _ _ h=>h) (fun _ _ h=>.inl h) (fun _ _ _ _ h=>h) (fun _ _ _=>rfl) (fun c h1 h2=>?_) (fun l' av' len' cap' sz' hne hl' c h1 h2 b o ha=>⟨rfl,fun _ h=>h,fun o' hq hlt=>?_⟩)
 ·rcases hl with hl | hl
  ·exact h.spare l _ _ _ _ hl c h1 h2
  ·subst hl; simp only at h1 h2; omega
 ·rcases hl with hl | hl
  ·simp only at hq
   subst hq ha
   exact h.ldis l l' b o' o _ _ _ _ _ _ (fun e=>hne e.symm) hl hl' hlt (Nat.lt_of_le_of_lt h1 h2)
  ·subst hl; exact Nat.lt_irrefl _ hlt
theorem FE {t u ty e':TypeId} {i:TypeInfo} {x:Value} {av:Option Addr} {cap sz l:Nat} {rows rows2:List (List AV)} {news:List Value} (ht:P.underlying t=some (.slice e')) (hi:P.info? e'=some i) (hsz:i.size=sz)
  (h:Inv F e σ I β lam a w) (hσl:σ l=none) (hs:Src P sz u x rows2.length news w) (hn:RowsIn I w sz rows2 news.toArray) (h0:0<sz) (hne:rows2≠[]) (hcap:rows.length+rows2.length≤cap)
  (hR:R I w β lam (.list sz (.own l) rows) (.slice av rows.length cap)) (hl:lam l=some (av,rows.length,cap,sz)):dn P F e σ β lam a w t u ty (.slice av rows.length cap) x l sz (rows++rows2):=by
 subst hsz
 have hn0:0<rows2.length:=by
  cases rows2 with
  | nil=>exact absurd rfl hne
  | cons=>simp
 have hm1:(rows.length+rows2.length)*i.size≤cap*i.size:=Nat.mul_le_mul_right _ hcap
 have hm2:0<rows2.length*i.size:=Nat.mul_pos hn0 h0
 have hm3:(rows.length+rows2.length)*i.size=rows.length*i.size+rows2.length*i.size:=Nat.add_mul _ _ _
 obtain ⟨b,o,hav,hbB,⟨v0,hv0⟩,_,_,hβb⟩:=h.spare l _ _ _ _ hl (rows.length*i.size) (Nat.le_refl _) (by omega)
 subst hav
 have hsp:∀ c,rows.length*i.size≤c→c<cap*i.size→(∃ v,w.cell? ⟨b,o+c,none⟩=some v)∧w.frozen? ⟨b,o+c,none⟩=false∧¬ I b (o+c):=by
  intro c h1 h2
  obtain ⟨b',o',e1,_,e3,e4,e5,_⟩:=h.spare l _ _ _ _ hl c h1 h2
  cases e1
  exact ⟨e3,e4,e5⟩
 have hbw:b<w.heap.size:=World.block_lt_of_cell? _ _ hv0
 have hnl:news.length=rows2.length*i.size:=by simpa using hn.1
 have hc:∀ j,j<news.length→(w.cell? ⟨b,o+rows.length*i.size+j,none⟩).isSome=true:=fun j hj=>by
  obtain ⟨⟨v,hv⟩,_⟩:=hsp (rows.length*i.size+j) (by omega) (by omega)
  rw[Nat.add_assoc,hv]; rfl
 have hf:∀ j,j<news.length→w.frozen? ⟨b,o+rows.length*i.size+j,none⟩=false:=fun j hj=>by
  rw[Nat.add_assoc]
  exact (hsp (rows.length*i.size+j) (by omega) (by omega)).2.1
 have hrun:=run_append_room_src (P:=P) w t u ty e' i ht hi b o rows.length cap x rows2.length news hs hcap hc hf
 obtain ⟨g1,g2,g3,g4,g5⟩:=tB b news (o+rows.length*i.size) w
 have hcell:=xe b news (o+rows.length*i.size) w hc
 have hw:∀ b' p v,I b' p→w.cell? ⟨b',p,none⟩=some v→(w.setCells b (o+rows.length*i.size) news).cell? ⟨b',p,none⟩=some v:=fun b' p v hip hv=>by
  by_cases e:b'=b
  ·subst e
   rw[hcell,if_neg]
   ·exact hv
   ·rintro ⟨c1,c2⟩
    refine (hsp (p-o) (by omega) (by omega)).2.2 ?_
    rwa [show o+(p-o)=p by omega]
  ·rw[yA e]; exact hv
 refine ⟨_,_,fun b' p=>I b' p∨(b'=b∧o+rows.length*i.size≤p∧p<o+(rows.length+rows2.length)*i.size),(some ⟨b,o,none⟩,rows.length+rows2.length,cap,i.size),hrun,?_,?_⟩
 ·refine h.owner l hσl ⟨g2,g3,g4,by rw[g1]; exact Nat.le_refl _,fun k hk=>g5 k (by omega)⟩ (fun _ _ h=>.inl h) (fun b' p hp=>?_) hw (fun k b' hk=>g5 b' (fun e=>hβb k (e▸hk))) (fun c h1 h2=>?_)
   (fun l' av' len' cap' sz' hne' hl' c h1 h2 b' o' ha=>?_)
  ·rcases hp with hp | ⟨rfl,_⟩
   ·exact .inl hp
   ·exact .inr ⟨hbB,by rw[g1]; exact hbw,hβb⟩
  ·simp only at h1 h2
   obtain ⟨⟨v,e3⟩,e4,e5⟩:=hsp c (by omega) h2
   refine ⟨b,o,rfl,hbB,⟨v,?_⟩,by rw[yF]; exact e4,?_,hβb⟩
   ·rw[hcell,if_neg (by omega)]; exact e3
   ·rintro (hp | ⟨_,_,hp⟩)
    ·exact e5 hp
    ·omega
  ·subst ha
   have hbb:b'≠b:=fun e=>by
    subst e
    exact h.ldis l l' b' o o' _ _ _ _ _ _ (fun e=>hne' e.symm) hl hl' (by omega) (Nat.lt_of_le_of_lt h1 h2)
   refine ⟨g5 b' hbb,fun p hp=>hp.resolve_right (fun hp=>hbb hp.1),fun o'' hq _=>?_⟩
   simp only[Option.some.injEq,Addr.mk.injEq] at hq
   exact hbb hq.1.symm
 ·obtain ⟨_,_,hv,_,hR0⟩:=hR.own_inv
  have:=R0.mk_list (I:=fun b' p=>I b' p∨(b'=b∧o+rows.length*i.size≤p∧p<o+(rows.length+rows2.length)*i.size))
   (w:=w.setCells b (o+rows.length*i.size) news) (sz:=i.size) (m:=.plain) (rows:=rows++rows2) (b:=b) (q:=o) (cap:=cap) (by simpa using hcap) (by simp) (by simp) (fun j r hj=>?_) (fun j r m c hj hm=>?_)
  ·simp only[List.length_append] at this
   exact R9 this (by simp) (by simp)
  ·rw[List.getElem?_append] at hj
   split at hj
   ·cases hR0 with
    | listNil=>simp at hj
    | list _ _ _ _ _ _ _ _ _ _ hrow=>exact hrow j r hj
   ·exact hn.2.1 _ _ hj
  ·rw[List.getElem?_append] at hj
   split at hj
   ·rename_i hlt
    have hne0:rows≠[]:=by intro e; subst e; simp at hlt
    obtain ⟨av',cap',hv',_,_,hne1⟩:=R.list_inv (β:=β) (lam:=lam) (.base hR0)
    cases hv'
    obtain ⟨b',q',hbq,hrow,hcc⟩:=hne1 hne0
    cases hbq
    obtain ⟨u',k1,k2,k3,k4⟩:=hcc j r m c hj hm
    exact ⟨u',.inl k1,hw _ _ _ k1 k2,k3,k4.mono (fun _ _ h=>.inl h) hw⟩
   ·rename_i hlt
    have hg:=hn.get hj hm
    obtain ⟨k1,k2⟩:=hn.2.2 _ r m c hj hm
    have h3:rows.length*i.size≤j*i.size:=Nat.mul_le_mul_right _ (by omega)
    have h5:(j-rows.length)*i.size+m<news.length:=by simpa using hg
    have h6:(j-rows.length)*i.size=j*i.size-rows.length*i.size:=Nat.sub_mul _ _ _
    refine ⟨news.toArray.getD ((j-rows.length)*i.size+m) undef,.inr ⟨rfl,by omega,by omega⟩,?_,k2,k1.mono (fun _ _ h=>.inl h) hw⟩
    rw[hcell,if_pos ⟨by omega,by omega⟩,show o+j*i.size+m-(o+rows.length*i.size)=(j-rows.length)*i.size+m by omega]
    simp[h5]
theorem FD {t u ty e':TypeId} {i:TypeInfo} {z:Value} {x:Value} {av:Option Addr} {cap sz l:Nat} {rows rows2:List (List AV)} {olds news:List Value} (ht:P.underlying t=some (.slice e')) (hi:P.info? e'=some i) (hsz:i.size=sz)
  (hz:i.zero=some z) (hzs:z.cells.size=sz) (h:Inv F e σ I β lam a w) (hσl:σ l=none) (hs:Src P sz u x rows2.length news w) (hn:RowsIn I w sz rows2 news.toArray)
  (ho:(Builtin.firstCells sz rows.length (.slice av rows.length cap)).run P w.drew=.ok olds.toArray w.drew) (hol:RowsIn I w sz rows olds.toArray)
  (hcap:cap<rows.length+rows2.length) (hb1:(rows.length+rows2.length)*i.bytes≤140737488355328) (hb2:rows.length+rows2.length≤9223372036854775807) :
  dn P F e σ β lam a w t u ty (.slice av rows.length cap) x l sz (rows++rows2):=by
 subst hsz
 have hrun:=run_append_grow_src (P:=P) w t u ty e' i z ht hi hz av rows.length cap olds ho x rows2.length news hs hcap (by omega) (growslice_fits hcap hb1)
 have hge:=grownCap_ge w (rows.length+rows2.length) cap e'
 generalize grownCap w (rows.length+rows2.length) cap e'=newCap at hrun hge
 have hall:=hol.append hn
 have hsize:(olds++news).length=(rows.length+rows2.length)*i.size:=by
  have:=hall.1
  simpa using this
 have hzc:(Builtin.zeroCells z.cells (newCap-(rows.length+rows2.length))).size=(newCap-(rows.length+rows2.length))*i.size:=by rw[size_zeroCells,hzs]
 generalize Builtin.zeroCells z.cells (newCap-(rows.length+rows2.length))=Z at hrun hzc
 have hb:Below w.heap.size w (w.drew.alloc (.cells ((olds++news).toArray++Z) e')):=(Below.refl _ _).drew.alloc (Nat.le_refl _) _
 have hcells:∀ m,(w.drew.alloc (.cells ((olds++news).toArray++Z) e')).cell? ⟨w.heap.size,m,none⟩=((olds++news).toArray++Z)[m]?:=fun m=>World.cell?_alloc_new w.drew _ _ _
 have hmul:(newCap-(rows.length+rows2.length))*i.size=newCap*i.size-(rows.length+rows2.length)*i.size:=Nat.sub_mul _ _ _
 have hw:∀ b p v,I b p→w.cell? ⟨b,p,none⟩=some v→(w.drew.alloc (.cells ((olds++news).toArray++Z) e')).cell? ⟨b,p,none⟩=some v:=fun b p v hip hv=>by
  rw[hb.cell (p:=⟨b,p,none⟩) (h.Isub _ _ hip)]; exact hv
 refine ⟨_,_,fun b p=>I b p∨(b=w.heap.size∧p<(rows.length+rows2.length)*i.size),(some ⟨w.heap.size,0,none⟩,rows.length+rows2.length,newCap,i.size),hrun,?_,?_⟩
 ·refine h.owner l hσl (hb.mono h.le) (fun _ _ h=>.inl h) (fun b p hp=>?_) hw (fun k b hk=>hb.block b (h.bnew k b hk).2.1) (fun c h1 h2=>?_) (fun l' av' len' cap' sz' hne' hl' c h1 h2 b o' ha=>?_)
  ·rcases hp with hp | ⟨rfl,_⟩
   ·exact .inl hp
   ·exact .inr ⟨h.le,by simp,fun k hk=>Nat.lt_irrefl _ (h.bnew k _ hk).2.1⟩
  ·simp only at h1 h2
   refine ⟨w.heap.size,0,rfl,h.le,?_,World.frozen?_alloc_new w.drew _ _ _,?_,fun k hk=>Nat.lt_irrefl _ (h.bnew k _ hk).2.1⟩
   ·rw[Nat.zero_add,hcells]
    refine ⟨_,Array.getElem?_eq_getElem (by simp; simp at hsize; omega)⟩
   ·rintro (hp | ⟨_,hp⟩)
    ·exact Nat.lt_irrefl _ (h.Isub _ _ hp)
    ·omega
  ·obtain ⟨b1,o1,e1,_,⟨v1,e3⟩,_⟩:=h.spare l' _ _ _ _ hl' c h1 h2
   rw[ha] at e1
   cases e1
   have hlt:b<w.heap.size:=World.block_lt_of_cell? _ _ e3
   refine ⟨hb.block b hlt,fun p hp=>hp.resolve_right (fun hp=>by omega),fun o'' hq _=>?_⟩
   simp only[Option.some.injEq,Addr.mk.injEq] at hq
   omega
 ·have:=R0.of_rows (I':=fun b p=>I b p∨(b=w.heap.size∧p<(rows.length+rows2.length)*i.size)) (w':=w.drew.alloc (.cells ((olds++news).toArray++Z) e')) (b:=w.heap.size) (q:=0) (cap:=newCap)
   hall (by simpa using hge) (fun m hm=>.inr ⟨rfl,by simpa using hm⟩) (fun m hm=>?_) (fun x v hx=>hx.mono (fun _ _ h=>.inl h) hw)
  ·simp only[List.length_append] at this
   exact R9 this (by simp) (by simp)
  ·rw[Nat.zero_add,hcells]
   have hm':m<(olds++news).length:=by simpa using hm
   rw[Array.getElem?_append_left (by simpa using hm')]
   generalize olds++news=L at *
   simp[hm']
end
section
variable {P:Program} {F:z9} {e:Nat × Nat→Option AV} {σ:Nat→Option zb} {I:Nat→Nat→Prop} {w:World} {β:zR} {lam:ya} {a:Act} {o:Oper}
  {Q:Exit→Act→World→Prop}
theorem XJ {t:TypeId} {z:List AV} (h:wL P t=some z):∃ i v,P.info? t=some i∧i.zero=some v∧v.cells.size=z.length:=by
 unfold wL at h
 cases hi:P.info? t with
 | none=>simp[hi] at h
 | some i =>
  cases hz:i.zero with
  | none=>simp[hi,hz] at h
  | some v =>
   simp only[hi,Option.bind_some,hz] at h
   split at h
   ·simp only[Option.some.injEq] at h
    subst h
    exact ⟨i,v,rfl,hz,by simp⟩
   ·cases h
theorem bC {u:TypeId} (h:uH P u=true∨(elT P u).isSome=true):(∃ e',P.underlying u=some (.slice e'))∨P.underlying u=some .string:=by
 rcases h with h | h
 ·right
  unfold uH at h
  split at h<;>simp_all
 ·left
  unfold elT at h
  split at h
  ·exact ⟨_,by assumption⟩
  ·simp at h
theorem yB {t e':TypeId} (he:elT P t=some e'):P.underlying t=some (.slice e'):=by
 unfold elT at he
 split at he<;>simp_all
theorem P7 {t u ty e':TypeId} {sz by_:Nat} {z:List AV} {x:Value} {av:Option Addr} {cap l:Nat} {rows rows2:List (List AV)} {news:List Value} (he:elT P t=some e') (hsz:szT P e'=some sz) (hby:byT P e'=some by_)
  (hz:wL P e'=some z) (hzl:z.length=sz) (h:Inv F e σ I β lam a w) (hσl:σ l=none) (hs:Src P sz u x rows2.length news w) (hn:RowsIn I w sz rows2 news.toArray) (h0:0<sz)
  (hR0:R0 I w (.list sz .plain rows) (.slice av rows.length cap)) (hcap:rows.length≤cap)
  (hl:(R I w β lam (.list sz (.own l) rows) (.slice av rows.length cap)∧lam l=some (av,rows.length,cap,sz))∨cap=rows.length)
  (hb1:(rows.length+rows2.length)*by_≤140737488355328) (hb2:rows.length+rows2.length≤9223372036854775807) :
  dn P F e σ β lam a w t u ty (.slice av rows.length cap) x l sz (rows++rows2):=by
 obtain ⟨i,zv,hi,hiz,hzs⟩:=XJ hz
 have hisz:i.size=sz:=by
  unfold szT at hsz
  simpa [hi] using hsz
 have hiby:i.bytes=by_:=by
  unfold byT at hby
  simpa [hi] using hby
 by_cases hr2:rows2=[]
 ·subst hr2
  have hnil:news=[]:=by
   have:=hs.newsLen
   simpa using this
  subst hnil
  rw[List.append_nil]
  exact FF (yB he) hi hisz h hσl (by rw[hisz] at *; exact hs) hcap hR0 (hl.imp (fun h=>h.2) id)
 ·by_cases hroom:rows.length+rows2.length≤cap
  ·rcases hl with ⟨hR,hl⟩ | hl
   ·exact FE (yB he) hi hisz h hσl hs hn h0 hr2 hroom hR hl
   ·exfalso
    have:0<rows2.length:=by
     cases rows2 with
     | nil=>exact absurd rfl hr2
     | cons=>simp
    omega
  ·obtain ⟨rows',olds,rfl,hos,hol⟩:=bf (P:=P) (σ:=fun _=>none) (kk:=fun r=>r=rows) (tx:=t) (.inl ⟨e',yB he⟩) (fun _ _=>h0) (fun _ _ _ h=>by cases h) (fun _ _ _ h=>by cases h) (R.base (β:=β) (lam:=lam) hR0)
    (show y6 (fun _=>none) sz (.list sz .plain rows) (fun r=>r=rows) from ⟨.inr rfl,rfl⟩)
   exact FD (yB he) hi hisz hiz (by omega) h hσl hs hn hos.cellsD hol (by omega) (by rw[hiby]; exact hb1) hb2
theorem tZ (s:St) (l:Nat):(s.dg l).look=(fun t=>(s.look t).map (dg l))∧lk (s.dg l).sto=(fun k=>(lk s.sto k).map (dgE l)):=by
 refine ⟨funext fun t=>?_,funext fun _=>sK _ _ _⟩
 obtain ⟨f,t⟩:=t
 cases f with
 | zero=>exact sK _ _ _
 | succ f =>
  simp only[St.look,St.dg,List.getElem?_map]
  cases s.out[f]? with
  | none=>rfl
  | some q=>exact sK _ _ _
theorem LD {c:Call} {xs xx:Operand} {t u e':TypeId} {sz by_:Nat} {z:List AV} {X Y:AV} {s:St} {K:St→Prop} {Kr:Act→World→Prop} (ho:o.op=.call c)
  (hc:c.callee=.builtin .append) (hargs:c.args=#[xs,xx]) (hts:c.argTypes=#[t,u]) (he:elT P t=some e') (hsz:szT P e'=some sz) (hby:byT P e'=some by_)
  (hz:wL P e'=some z) (hzl:z.length=sz) (hu:uH P u=true∨(elT P u).isSome=true) (h:Inv F s.look (lk s.sto) I β lam a w) (hd:te F.N o.dst=true)
  (hX:R I w β lam X (a.eval xs)) (hY:R I w β lam Y (a.eval xx)) (hst:xH sz by_ s o.dst K [X,Y])
  (hk:∀ s' a' w',K s'→Holds F s' a' w'→Kr a' w'):o.wp P a w Kr Q:=by
 unfold xH at hst
 split at hst
 ·rename_i sz1 m rows Y' heq
  simp only[List.cons.injEq,and_true] at heq
  obtain ⟨rfl,rfl⟩:=heq
  have hσ:∀ k en b,lk s.sto k=some en→β k=some b→RE I w β lam b en:=fun k en b h1 h2=>by
   obtain ⟨en',h3,h4⟩:=h.bdom k b h2
   rw[h1] at h3; cases h3
   obtain ⟨b',hb',hE⟩:=h.sto k en h1 h4
   rw[h2] at hb'; cases hb'
   exact hE
  obtain ⟨rows2,news,⟨h0,hb1,hb2,hst⟩,hs,hn⟩:=bf (P:=P) (w:=w) (tx:=u) (bC hu) (fun rows h=>h.1) hσ h.usto hY hst
  have fin:∀ (l d:Nat),o.dst=some d→dn P F s.look (lk s.sto) β lam a w t u o.type (a.eval xs) (a.eval xx) l sz (rows++rows2) →
    K ((s.dg l).put (some d) (.list sz (.own l) (rows++rows2)))→o.wp P a w Kr Q:=by
   intro l d hdd ⟨v,w',I',q,hrun,hI,hR⟩ hK
   have hrun':(execOp a.eval o).run P w=.ok (.value v) w':=by
    simp[execOp,ho,resolve,hc,hargs,invoke,builtin,hts,hrun]
   refine ub hrun' ?_
   rw[hdd]
   refine hk _ _ w' hK ⟨I',β,(fun l'=>if l'=l then some q else lam l'),?_⟩
   rw[hdd] at hd
   have:=hI.put hd hR
   obtain ⟨e1,e2⟩:=tZ s l
   rw[vN,e1,show ((s.dg l).put (some d) (AV.list sz (.own l) (rows++rows2))).sto=(s.dg l).sto from rfl,e2]
   exact this
  split at hst
  ·rename_i d' hdd _
   obtain ⟨hs1,hσl,hst⟩:=hst
   obtain ⟨av,cap,hv,hcap,hfull,_⟩:=hX.list_inv
   rw[hfull rfl] at hv
   refine fin (s.base+d') d' hdd ?_ hst
   rw[hv]
   have hR0:R0 I w (.list sz .plain rows) (.slice av rows.length rows.length):=by
    have hX0:=hX
    rw[hv] at hX0
    cases hX0 with
    | base h =>
     cases h with
     | listNil _ _ _ _ _ _=>exact .listNil _ _ _ _ (by simp) (by simp)
     | list _ _ _ b q cap g hc1 hm ho2 hrow hcell hcc =>
      have hne:rows≠[]∨rows=[]:=by cases rows<;>simp
      rcases hne with hne | hne
      ·have:=hs1.resolve_left hne
       subst this
       exact .list _ _ _ b q _ g hc1 (by simp) (by simp) hrow hcell hcc
      ·subst hne
       exact .listNil _ _ _ _ (by simp) (by simp)
   exact P7 he hsz hby hz hzl h hσl hs hn h0 hR0 (Nat.le_refl _) (.inr rfl) hb1 hb2
  ·rename_i l' d' hdd _
   obtain ⟨rfl,hσl,hst⟩:=hst
   obtain ⟨av,cap,hv,hl,hR0⟩:=hX.own_inv
   obtain ⟨av',cap',hv',hcap,_⟩:=hX.list_inv
   rw[hv] at hv'
   cases hv'
   refine fin l' d' hdd ?_ hst
   rw[hv] at hX hR0 ⊢
   exact P7 he hsz hby hz hzl h hσl hs hn h0 hR0 hcap (.inl ⟨hX,hl⟩) hb1 hb2
  ·exact hst.elim
 ·rename_i heq
  simp at heq
 ·exact hst.elim
theorem DA {b:ByteArray}:RowsIn I w 1 (b.data.toList.map fun x=>[AV.val (.int .u8 x.toNat)]) (b.data.map fun x=>Value.int .u8 x.toNat):=by
 refine ⟨by simp,fun i r hi=>?_,fun i r j c hi hj=>?_⟩
 ·simp only[List.getElem?_map,Option.map_eq_some_iff] at hi
  obtain ⟨u,_,rfl⟩:=hi
  rfl
 ·simp only[List.getElem?_map,Option.map_eq_some_iff] at hi
  obtain ⟨u,hu,rfl⟩:=hi
  cases j with
  | zero =>
   simp at hj
   subst hj
   have e:(b.data.map fun x=>Value.int .u8 x.toNat).getD (i*1+0) undef=.int .u8 u.toNat:=by
    simp at hu
    simp[hu]
   rw[e]
   exact ⟨.val _,rfl⟩
  | succ j=>simp at hj
theorem AM {s0 t:TypeId} {x:Operand} {X:AV} {by_:Nat} {s:St} {K:St→Prop} {Kr:Act→World→Prop} (ho:o.op=.convert s0 t x) (ht:So P s0 t=true)
  (h:Inv F s.look (lk s.sto) I β lam a w) (hd:te F.N o.dst=true) (hX:R I w β lam X (a.eval x)) (hst:xH 0 by_ s o.dst K [X])
  (hk:∀ s' a' w',K s'→Holds F s' a' w'→Kr a' w'):o.wp P a w Kr Q:=by
 obtain ⟨e',hs,hd',he⟩:∃ e',P.underlying s0=some .string∧P.underlying t=some (.slice e')∧P.underlying e'=some (.int .u8):=by
  unfold So at ht
  split at ht
  ·rename_i e' h1 h2
   split at ht
   ·rename_i h3
    exact ⟨e',h1,h2,h3⟩
   ·cases ht
  ·cases ht
 unfold xH at hst
 split at hst
 ·rename_i heq; simp at heq
 ·rename_i b heq
  simp only[List.cons.injEq,and_true] at heq
  subst heq
  have hv:=hX.val_eq
  obtain ⟨_,hst⟩:=hst
  split at hst
  ·rename_i d hdd
   obtain ⟨hσl,hK⟩:=hst
   have hrun:=run_bytes_of_string (P:=P) w s0 t e' b hs hd' he
   have hge:b.size≤grownCap w b.size 0 e':=grownCap_ge w b.size 0 e'
   generalize grownCap w b.size 0 e'=nc at hrun hge
   have hsz:(bytesRow b nc).size=nc:=by
    have:b.data.size=b.size:=rfl
    unfold bytesRow
    simp
    omega
   rw[hsz] at hrun
   obtain ⟨C,hC⟩:∃ C,bytesRow b nc=C:=⟨_,rfl⟩
   rw[hC] at hrun hsz
   have hb:Below w.heap.size w (w.drew.alloc (.cells C e' (nc,nc+1))):=(Below.refl _ _).drew.alloc (Nat.le_refl _) _
   have hcells:∀ m,(w.drew.alloc (.cells C e' (nc,nc+1))).cell? ⟨w.heap.size,m,none⟩=C[m]?:=fun m=>World.cell?_alloc_mark w.drew _ _ _ _
   have hw:∀ b p v,I b p→w.cell? ⟨b,p,none⟩=some v→(w.drew.alloc (.cells C e' (nc,nc+1))).cell? ⟨b,p,none⟩=some v:=fun b p v hip hv=>by
    rw[hb.cell (p:=⟨b,p,none⟩) (h.Isub _ _ hip)]; exact hv
   have hrow:=DA (I:=I) (w:=w) (b:=b)
   have hlen:(b.data.toList.map fun x=>[AV.val (.int .u8 x.toNat)]).length=b.size:=by
    rw[List.length_map,Array.length_toList]; rfl
   have hI:=h.owner (s.base+d) hσl (I':=fun b' p=>I b' p∨(b'=w.heap.size∧p<b.size)) (q:=(some ⟨w.heap.size,0,none⟩,b.size,nc,1)) (hb.mono h.le) (fun _ _ h=>.inl h) (fun b p hp=>by
    rcases hp with hp | ⟨rfl,_⟩
    ·exact .inl hp
    ·exact .inr ⟨h.le,by simp,fun k hk=>Nat.lt_irrefl _ (h.bnew k _ hk).2.1⟩) hw (fun k b hk=>hb.block b (h.bnew k b hk).2.1) (fun c h1 h2=>by
    simp only[Nat.mul_one] at h1 h2
    refine ⟨w.heap.size,0,rfl,h.le,?_,?_,?_,fun k hk=>Nat.lt_irrefl _ (h.bnew k _ hk).2.1⟩
    ·rw[Nat.zero_add,hcells]
     exact ⟨_,Array.getElem?_eq_getElem (by omega)⟩
    ·rw[Nat.zero_add]
     refine (World.frozen?_alloc_mark w.drew _ _ _ _ _).trans ?_
     simp
     omega
    ·rintro (hp | ⟨_,hp⟩)
     ·exact Nat.lt_irrefl _ (h.Isub _ _ hp)
     ·omega) (fun l' av' len' cap' sz' hne' hl' c h1 h2 b o' ha=>by
    obtain ⟨b1,o1,e1,_,⟨v1,e3⟩,_⟩:=h.spare l' _ _ _ _ hl' c h1 h2
    rw[ha] at e1
    cases e1
    have hlt:b<w.heap.size:=World.block_lt_of_cell? _ _ e3
    refine ⟨hb.block b hlt,fun p hp=>hp.resolve_right (fun hp=>by omega),fun o'' hq _=>?_⟩
    simp only[Option.some.injEq,Addr.mk.injEq] at hq
    omega)
   have hR0:=R0.of_rows (I':=fun b' p=>I b' p∨(b'=w.heap.size∧p<b.size)) (w':=w.drew.alloc (.cells C e' (nc,nc+1))) (b:=w.heap.size) (q:=0) (cap:=nc)
    hrow (by rw[hlen]; exact hge) (fun m hm=>.inr ⟨rfl,by rw[hlen] at hm; omega⟩) (fun m hm=>by
     rw[Nat.zero_add,hcells]
     subst hC
     unfold bytesRow
     rw[Array.getElem?_append_left hm]
     generalize (b.data.map fun x=>Value.int .u8 x.toNat)=L at *
     simp[hm]) (fun x v hx=>hx.mono (fun _ _ h=>.inl h) hw)
   rw[hlen] at hR0
   have hR:=R9 (β:=β) (lam:=fun l'=>if l'=s.base+d then some (some ⟨w.heap.size,0,none⟩,b.size,nc,1) else lam l') (l:=s.base+d) hR0 hlen.symm (by simp)
   have hrun':(execOp a.eval o).run P w=.ok (.value (.slice (some ⟨w.heap.size,0,none⟩) b.size nc)) (w.drew.alloc (.cells C e' (nc,nc+1))):=by
    simp only[execOp,ho,hv]
    exact wz hrun
   refine ub hrun' ?_
   rw[hdd]
   refine hk _ _ _ hK ⟨fun b' p=>I b' p∨(b'=w.heap.size∧p<b.size),β,(fun l'=>if l'=s.base+d then some (some ⟨w.heap.size,0,none⟩,b.size,nc,1) else lam l'),?_⟩
   rw[hdd] at hd
   have:=hI.put hd hR
   obtain ⟨e1,e2⟩:=tZ s (s.base+d)
   rw[vN,e1]
   simp only[St.put,e2]
   exact this
  ·exact hst.elim
 ·exact hst.elim
end
section
variable {P:Program} {F:z9} {e:Nat × Nat→Option AV} {σ:Nat→Option zb} {I:Nat→Nat→Prop} {w:World} {β:zR} {lam:ya} {a:Act} {o:Oper}
  {Q:Exit→Act→World→Prop}
theorem PM {dT sT ty elem:TypeId} {i:TypeInfo} {dLen dCap n:Nat} {av:Option Addr} {x:Value} {cs:List Value} {w':World} (hu:P.underlying dT=some (.slice elem)) (hi:P.info? elem=some i)
  (hs:Src P i.size sT x n cs w) (hle:n≤dLen) (hst:∀ d,av=some d→(storeCells d cs 0).run P w=.ok () w') (hn:av=none→w'=w) :
  (Builtin.copy_ #[dT,sT] ty #[.slice av dLen dCap,x]).run P w=.ok (goInt n) w':=by
 have h1:=hs.len w
 have h2:=hs.cells
 have hmin:Nat.min n dLen=n:=Nat.min_eq_left hle
 cases av with
 | none =>
  rw[hn rfl]
  simp[Builtin.copy_,run_underlying hu,h1,sizeOf,typeInfo,hi,hmin,h2]
 | some d =>
  have h3:=hst d rfl
  simp[Builtin.copy_,run_underlying hu,h1,sizeOf,typeInfo,hi,hmin,h2,h3]
theorem dj {rows rows2:List (List AV)} {off:Nat} (hle:off+rows2.length≤rows.length) {i:Nat} {r:List AV} (h:(rows.take off++rows2++rows.drop (off+rows2.length))[i]?=some r) :
  (off≤i∧i<off+rows2.length∧rows2[i-off]?=some r)∨(¬ (off≤i∧i<off+rows2.length)∧rows[i]?=some r):=by
 by_cases c1:i<off
 ·rw[List.append_assoc,List.getElem?_append_left (by simp; omega),List.getElem?_take,if_pos c1] at h
  exact .inr ⟨by omega,h⟩
 ·by_cases c2:i<off+rows2.length
  ·rw[List.append_assoc,List.getElem?_append_right (by simp; omega)] at h
   have ht:(rows.take off).length=off:=by simp; omega
   rw[ht,List.getElem?_append_left (by omega)] at h
   exact .inl ⟨by omega,c2,h⟩
  ·rw[List.getElem?_append_right (by simp; omega)] at h
   have ht:(rows.take off++rows2).length=off+rows2.length:=by simp; omega
   rw[ht,List.getElem?_drop] at h
   have e:off+rows2.length+(i-(off+rows2.length))=i:=by omega
   rw[e] at h
   exact .inr ⟨by omega,h⟩
theorem DR {c:Call} {xs xx:Operand} {t u e':TypeId} {sz:Nat} {X Y:AV} {s:St} {K:St→Prop} {Kr:Act→World→Prop} (ho:o.op=.call c)
  (hc:c.callee=.builtin .copy) (hargs:c.args=#[xs,xx]) (hts:c.argTypes=#[t,u]) (he:elT P t=some e') (hsz:szT P e'=some sz)
  (hu:uH P u=true∨(elT P u).isSome=true) (h:Inv F s.look (lk s.sto) I β lam a w) (hd:te F.N o.dst=true)
  (hX:R I w β lam X (a.eval xs)) (hY:R I w β lam Y (a.eval xx)) (hst:fz sz s o.dst K [X,Y])
  (hk:∀ s' a' w',K s'→Holds F s' a' w'→Kr a' w'):o.wp P a w Kr Q:=by
 unfold fz at hst
 split at hst
 rotate_left
 ·exact hst.elim
 rename_i j sz1 off len Y' heq
 simp only[List.cons.injEq,and_true] at heq
 obtain ⟨rfl,rfl⟩:=heq
 obtain ⟨rfl,h0,hst⟩:=hst
 have hσ:∀ k en b,lk s.sto k=some en→β k=some b→RE I w β lam b en:=fun k en b h1 h2=>by
  obtain ⟨en',h3,h4⟩:=h.bdom k b h2
  rw[h1] at h3; cases h3
  obtain ⟨b',hb',hE⟩:=h.sto k en h1 h4
  rw[h2] at hb'; cases hb'
  exact hE
 obtain ⟨i,hi,hisz⟩:∃ i,P.info? e'=some i∧i.size=sz1:=by
  simp only[szT,Option.map_eq_some_iff] at hsz
  exact hsz
 have hst2:y6 (lk s.sto) sz1 Y fun rows2=>(match lk s.sto j with
   | some (.arr sz' rows)=>sz'=sz1∧off+len≤rows.length∧rows2.length≤len ∧
     K (({s with sto:=pt s.sto j (.arr sz1 (rows.take off++rows2++rows.drop (off+rows2.length)))}).put o.dst (.val (.int .i64 (rows2.length:Nat))))
   | _=>False):=by
  unfold gu at hst
  split at hst
  ·exact hst.elim
  ·exact hst
 obtain ⟨rows2,news,hk2,hs,hn⟩:=bf (P:=P) (w:=w) (tx:=u) (bC hu) (fun rows _=>h0) hσ h.usto hY hst2
 split at hk2
 rotate_left
 ·exact hk2.elim
 rename_i sz' rows hsj
 obtain ⟨rfl,hle,hle2,hK⟩:=hk2
 obtain ⟨b,cap,av,hb,hv,hcap,hav⟩:=hX.sl_inv
 obtain ⟨b',hb',hE⟩:=h.sto _ _ hsj rfl
 rw[hb] at hb'; cases hb'
 subst hisz
 have hnl:news.length=rows2.length*i.size:=hs.newsLen
 have hex:∀ q,q<rows.length*i.size→∃ v,w.cell? ⟨b,q,none⟩=some v∧w.frozen? ⟨b,q,none⟩=false:=fun q hq=>by
  have hlt:q/i.size<rows.length:=(Nat.div_lt_iff_lt_mul h0).2 hq
  have hr:rows[q/i.size]?=some rows[q/i.size]:=List.getElem?_eq_getElem hlt
  have hrl:=hE.1 _ _ hr
  have hj':q%i.size<rows[q/i.size].length:=by rw[hrl]; exact Nat.mod_lt _ h0
  obtain ⟨v,e1,e2,_⟩:=hE.2 _ _ (q%i.size) _ hr (List.getElem?_eq_getElem hj')
  have e3:q/i.size*i.size+q%i.size=q:=by rw[Nat.mul_comm]; exact Nat.div_add_mod q i.size
  rw[e3] at e1 e2
  exact ⟨v,e1,e2⟩
 have hmul:off*i.size+rows2.length*i.size≤rows.length*i.size:=by
  rw[← Nat.add_mul]
  exact Nat.mul_le_mul_right _ (by omega)
 have hc':∀ q,q<news.length→(w.cell? ⟨b,off*i.size+q,none⟩).isSome=true:=fun q hq=>by
  obtain ⟨v,e1,_⟩:=hex (off*i.size+q) (by omega)
  simp[e1]
 have hf':∀ q,q<news.length→w.frozen? ⟨b,off*i.size+q,none⟩=false:=fun q hq=>(hex (off*i.size+q) (by omega)).elim fun v hv=>hv.2
 have hrun:(Builtin.copy_ #[t,u] o.type #[.slice av len cap,a.eval xx]).run P w=.ok (goInt rows2.length) (w.setCells b (off*i.size) news):=by
  refine PM (yB he) hi hs hle2 (fun d hd'=>?_) (fun hn'=>?_)
  ·by_cases hz:news=[]
   ·subst hz; rfl
   ·have hl0:len≠0:=by
     intro e0
     have:rows2.length=0:=by omega
     rw[this] at hnl
     simp at hnl
     exact hz hnl
    rw[hav hl0] at hd'
    cases hd'
    have:=run_storeCells_cells (P:=P) b (off*i.size) news 0 w (fun q hq=>by simpa using hc' q hq) (fun q hq=>by simpa using hf' q hq) hs.one
    simpa using this
  ·have:len=0:=by
    by_cases hl0:len=0
    ·exact hl0
    ·rw[hav hl0] at hn'; cases hn'
   have:rows2.length=0:=by omega
   rw[this] at hnl
   simp at hnl
   subst hnl
   rfl
 have hrun':(execOp a.eval o).run P w=.ok (.value (goInt rows2.length)) (w.setCells b (off*i.size) news):=by
  have hv':(#[xs,xx].map a.eval)=#[.slice av len cap,a.eval xx]:=by simp[hv]
  simp only[execOp,ho,resolve,hc,hargs,invoke,builtin,hts]
  simp[hv,hrun]
 refine ub hrun' ?_
 refine hk _ _ _ hK ⟨I,β,lam,?_⟩
 have hw:∀ b' o v,I b' o→w.cell? ⟨b',o,none⟩=some v→(w.setCells b (off*i.size) news).cell? ⟨b',o,none⟩=some v:=fun b' q v hi hv=>by
  rw[yA (fun e=>by rw[e] at hi; exact (h.bnew j b hb).2.2 q hi)]; exact hv
 have hwr:Inv F s.look (yd (lk s.sto) (some j) (some (.arr i.size (rows.take off++rows2++rows.drop (off+rows2.length))))) I β lam a (w.setCells b (off*i.size) news):=by
  refine h.write rfl hb ⟨fun m r hm=>?_,fun m r q c hm hq=>?_⟩
  ·rcases dj (by omega) hm with ⟨_,_,h3⟩ | ⟨_,h3⟩
   ·exact hn.2.1 _ _ h3
   ·exact hE.1 _ _ h3
  ·rcases dj (by omega) hm with ⟨h1,h2,h3⟩ | ⟨h1,h3⟩
   ·have hg:=hn.get h3 hq
    obtain ⟨k1,k2⟩:=hn.2.2 _ r q c h3 hq
    have h5:(m-off)*i.size+q<news.length:=by simpa using hg
    have h6:(m-off)*i.size=m*i.size-off*i.size:=Nat.sub_mul _ _ _
    have h7:off*i.size≤m*i.size:=Nat.mul_le_mul_right _ h1
    refine ⟨news.toArray.getD ((m-off)*i.size+q) undef,?_,?_,k2,k1.mono (fun _ _ h=>h) hw⟩
    ·rw[xe b _ _ w hc',if_pos ⟨by omega,by omega⟩,show m*i.size+q-off*i.size=(m-off)*i.size+q by omega]
     simp[h5]
    ·rw[yF]
     have:=hf' ((m-off)*i.size+q) h5
     rwa [show off*i.size+((m-off)*i.size+q)=m*i.size+q by omega] at this
   ·obtain ⟨v,e1,e2,e3,e4⟩:=hE.2 m r q c h3 hq
    have hql:q<i.size:=by
     have:=hE.1 m r h3
     have:=(List.getElem?_eq_some_iff.1 hq).1
     omega
    refine ⟨v,?_,by rw[yF]; exact e2,e3,e4.mono (fun _ _ h=>h) hw⟩
    rw[xe b _ _ w hc',if_neg]
    ·exact e1
    ·rw[hnl]
     rintro ⟨c1,c2⟩
     have:off*i.size+rows2.length*i.size=(off+rows2.length)*i.size:=(Nat.add_mul _ _ _).symm
     rw[this] at c2
     have:off≤m:=by
      refine Classical.byContradiction fun hlt=>?_
      have:(m+1)*i.size≤off*i.size:=Nat.mul_le_mul_right _ (by omega)
      rw[Nat.add_mul] at this
      omega
     have:m<off+rows2.length:=by
      refine Classical.byContradiction fun hlt=>?_
      have:(off+rows2.length)*i.size≤m*i.size:=Nat.mul_le_mul_right _ (by omega)
      omega
     exact h1 ⟨by omega,by omega⟩
 have:=hwr.put hd (x:=.val (.int .i64 (rows2.length:Nat))) (v:=goInt rows2.length) (uh _)
 rw[vN,xa]
 have e2:lk (({s with sto:=pt s.sto j (.arr i.size (rows.take off++rows2++rows.drop (off+rows2.length)))}:St).put o.dst (.val (.int .i64 (rows2.length:Nat)))).sto=yd (lk s.sto) (some j) (some (.arr i.size (rows.take off++rows2++rows.drop (off+rows2.length)))):=by
  rw[← wI]
  cases o.dst<;>rfl
 rw[e2]
 exact this
end
section
variable {P:Program} {F:z9} {e:Nat × Nat→Option AV} {σ:Nat→Option zb} {I:Nat→Nat→Prop} {w:World} {β:zR} {lam:ya} {a:Act} {o:Oper}
  {Q:Exit→Act→World→Prop}
theorem ui.append {sz:Nat} {r1 r2:List (List AV)} {A B:List Value} (h1:ui I w β lam sz r1 A) (h2:ui I w β lam sz r2 B):ui I w β lam sz (r1++r2) (A++B):=by
 refine ⟨by simp[h1.1,h2.1,Nat.add_mul],fun i r hi=>?_,fun i r j c hi hj=>?_⟩
 ·rw[List.getElem?_append] at hi
  split at hi
  ·exact h1.2.1 _ _ hi
  ·exact h2.2.1 _ _ hi
 ·rw[List.getElem?_append] at hi
  split at hi
  ·rename_i hlt
   obtain ⟨v,g1,g2⟩:=h1.2.2 i r j c hi hj
   have:i*sz+j<A.length:=(List.getElem?_eq_some_iff.1 g1).1
   exact ⟨v,by rw[List.getElem?_append_left this]; exact g1,g2⟩
  ·rename_i hlt
   obtain ⟨v,g1,g2⟩:=h2.2.2 _ r j c hi hj
   have h3:r1.length*sz≤i*sz:=Nat.mul_le_mul_right _ (by omega)
   refine ⟨v,?_,g2⟩
   rw[List.getElem?_append_right (by rw[h1.1]; omega),h1.1]
   rw[show i*sz+j-r1.length*sz=(i-r1.length)*sz+j by rw[Nat.sub_mul]; omega]
   exact g1
theorem et {sz:Nat} {rows:List (List AV)} {b q:Nat} (hrow:∀ (i:Nat) (r:List AV),rows[i]?=some r→r.length=sz)
  (hc:∀ (i:Nat) (r:List AV) j c,rows[i]?=some r→r[j]?=some c→∃ u,w.cell? ⟨b,q+i*sz+j,none⟩=some u∧single u=true∧R I w β lam c u) (h0:0<sz) :
  ∃ news:List Value,news.length=rows.length*sz∧(∀ j u,news[j]?=some u→w.cell? ⟨b,q+j,none⟩=some u)∧(∀ u∈news,u.oneCell'=true)∧ui I w β lam sz rows news:=by
 have key:∀ m,m<rows.length*sz→∃ u,w.cell? ⟨b,q+m,none⟩=some u∧single u=true:=by
  intro m hm
  have hi:m/sz<rows.length:=(Nat.div_lt_iff_lt_mul h0).2 hm
  have hj:m%sz<sz:=Nat.mod_lt _ h0
  have hr:rows[m/sz]?=some rows[m/sz]:=List.getElem?_eq_getElem hi
  have hlen:=hrow _ _ hr
  have hj':m%sz<rows[m/sz].length:=by omega
  obtain ⟨u,h1,h2,_⟩:=hc _ _ (m%sz) rows[m/sz][m%sz] hr (List.getElem?_eq_getElem hj')
  refine ⟨u,?_,h2⟩
  rw[← h1]
  congr 2
  have:=Nat.div_add_mod m sz
  rw[Nat.mul_comm] at this
  omega
 have get:∀ m,m<rows.length*sz→((List.range (rows.length*sz)).map fun m=>(w.cell? ⟨b,q+m,none⟩).getD undef)[m]?=w.cell? ⟨b,q+m,none⟩:=fun m hm=>by
  obtain ⟨u,h1,_⟩:=key m hm
  rw[List.getElem?_map,List.getElem?_range hm]
  simp[h1]
 refine ⟨(List.range (rows.length*sz)).map fun m=>(w.cell? ⟨b,q+m,none⟩).getD undef,by simp,fun j u hj=>?_,fun u hu=>?_,by simp,hrow,fun i r j c hi hj=>?_⟩
 ·have hlt:j<rows.length*sz:=by
   have:=(List.getElem?_eq_some_iff.1 hj).1
   simpa using this
  rw[get j hlt] at hj
  exact hj
 ·simp only[List.mem_map,List.mem_range] at hu
  obtain ⟨m,hm,rfl⟩:=hu
  obtain ⟨u,h1,h2⟩:=key m hm
  simpa [h1] using h2
 ·obtain ⟨u,h1,h2,h3⟩:=hc i r j c hi hj
  have hir:i<rows.length:=(List.getElem?_eq_some_iff.1 hi).1
  have hjr:j<sz:=by
   have:=(List.getElem?_eq_some_iff.1 hj).1
   have:=hrow i r hi
   omega
  have h4:(i+1)*sz≤rows.length*sz:=Nat.mul_le_mul_right _ hir
  rw[Nat.add_mul] at h4
  refine ⟨u,?_,h3,h2⟩
  rw[get _ (by omega),← Nat.add_assoc]
  exact h1
theorem SE {sz:Nat} {tx:TypeId} {X:AV} {v:Value} {kk:List (List AV)→Prop} (hk:(∃ e',P.underlying tx=some (.slice e'))∨P.underlying tx=some .string)
  (h0:∀ rows,kk rows→0<sz) (hσ:∀ k en b,σ k=some en→β k=some b→RE I w β lam b en) (hυ:∀ l sz rows,σ l=some (.uarr sz rows)→RU I w β lam l sz rows) (hX:R I w β lam X v) (h:y9 σ sz X kk) :
  ∃ rows news,kk rows∧Src P sz tx v rows.length news w∧ui I w β lam sz rows news:=by
 unfold y9 at h
 split at h
 ·rename_i j sz' off len
  obtain ⟨rfl,h⟩:=h
  split at h
  ·rename_i sz'' rows hs
   obtain ⟨rfl,hle,h⟩:=h
   obtain ⟨cap,cp,av0,av,hl,rfl,hlc,hoc,hav⟩:=hX.us_inv
   have hU:=hυ _ _ _ hs
   have hlen:((rows.drop off).take len).length=len:=by simp; omega
   by_cases hz:len=0
   ·have hnil:(rows.drop off).take len=[]:=List.eq_nil_of_length_eq_zero (by omega)
    rw[hnil] at h
    rw[hz]
    exact ⟨[],[],h,qW hk,⟨by simp,by simp,by simp⟩⟩
   ·obtain ⟨b,q,rfl,rfl⟩:=hav (by omega)
    have hget:∀ (i:Nat) (r:List AV),((rows.drop off).take len)[i]?=some r→rows[off+i]?=some r:=by
     intro i r hi
     rw[List.getElem?_take] at hi
     split at hi
     ·rw[List.getElem?_drop] at hi; exact hi
     ·cases hi
    obtain ⟨news,n1,n2,n3,n4⟩:=et (b:=b) (q:=q+off*sz'') (rows:=(rows.drop off).take len) (I:=I) (w:=w) (β:=β) (lam:=lam) (fun i r hi=>(hU.row hl (hget i r hi)).1) (fun i r j' c hi hj=>by
     obtain ⟨u,e1,e3,e4⟩:=(hU.row hl (hget i r hi)).2 j' c hj
     rw[Nat.add_mul,← Nat.add_assoc] at e1
     exact ⟨u,e1,e3,e4⟩) (h0 _ h)
    rw[hlen] at n1
    refine ⟨_,news,h,?_,n4⟩
    rw[hlen]
    refine ⟨hk,fun _=>rfl,?_,?_,n1,n3⟩
    ·exact run_firstCells_some w sz'' _ _ _ _ news n1 (fun j u hj=>by rw[addr_add]; exact n2 j u hj)
    ·exact run_firstCells_some w.drew sz'' _ _ _ _ news n1 (fun j u hj=>by rw[addr_add]; exact n2 j u hj)
  ·exact h.elim
 ·rename_i sz' rows
  obtain ⟨rfl,h⟩:=h
  cases hX with
  | base h=>cases h
  | litNil _ a=>exact ⟨[],[],h,qW hk,⟨by simp,by simp,by simp⟩⟩
  | lit _ _ b q g hrow hcell hc =>
   obtain ⟨news,n1,n2,n3,n4⟩:=et (b:=b) (q:=q) (rows:=rows) (I:=I) (w:=w) (β:=β) (lam:=lam) hrow (fun i r j' c hi hj=>⟨g i j',(hcell i r j' c hi hj).2.1,(hcell i r j' c hi hj).2.2,hc i r j' c hi hj⟩) (h0 _ h)
   refine ⟨rows,news,h,⟨hk,fun _=>rfl,?_,?_,n1,n3⟩,n4⟩
   ·exact run_firstCells_some w sz' _ _ _ _ news n1 (fun j u hj=>by rw[addr_add]; exact n2 j u hj)
   ·exact run_firstCells_some w.drew sz' _ _ _ _ news n1 (fun j u hj=>by rw[addr_add]; exact n2 j u hj)
 ·obtain ⟨rows,news,h1,h2,h3⟩:=bf hk h0 hσ hυ hX h
  exact ⟨rows,news,h1,h2,h3.toR⟩
theorem Inv.ownerU (h:Inv F e σ I β lam a w) (l:Nat) (hσl:∀ en,σ l=some en→en.isU=true) {w':World} {ad:Option Addr} {cap sz:Nat} {rows:List (List AV)}
  (hb:Below F.w0.heap.size w w') (hw:∀ b o v,I b o→w.cell? ⟨b,o,none⟩=some v→w'.cell? ⟨b,o,none⟩=some v) (hβ:∀ k b,β k=some b→w'.heap[b]?=w.heap[b]?)
  (hs:∀ c,c<cap*sz→∃ b o,ad=some ⟨b,o,none⟩∧F.w0.heap.size≤b∧(∃ v,w'.cell? ⟨b,o+c,none⟩=some v)∧w'.frozen? ⟨b,o+c,none⟩=false∧¬ I b (o+c)∧∀ k,β k≠some b)
  (ho:∀ l' av len cap' sz',l'≠l→lam l'=some (av,len,cap',sz')→∀ c,len*sz'≤c→c<cap'*sz'→∀ b o,av=some ⟨b,o,none⟩ →
   w'.heap[b]?=w.heap[b]?∧∀ o',ad=some ⟨b,o',none⟩→¬ 0<cap*sz)
  (hU:∀ lam':ya,(∀ l',l'≠l→lam' l'=lam l')→lam' l=some (ad,0,cap,sz)→RU I w' β lam' l sz rows) :
  Inv F (fun t=>(e t).map (dg l)) (yd (fun k=>(σ k).map (dgE l)) (some l) (some (.uarr sz rows))) I β (fun l'=>if l'=l then some (ad,0,cap,sz) else lam l') a w':=by
 have hl:∀ l',l'≠l→(if l'=l then some (ad,0,cap,sz) else lam l')=lam l':=fun l' h=>by rw[if_neg h]
 exact
  {defers:=h.defers
   size:=h.size
   below:=h.below.trans hb
   env:=fun t x ht=>by
    simp only[Option.map_eq_some_iff] at ht
    obtain ⟨x',ht,rfl⟩:=ht
    obtain ⟨v,h1,h2⟩:=h.env t x' ht
    exact ⟨v,h1,h2.dg (fun _ _ h=>h) hw hl⟩
   sto:=fun k en hk hu=>by
    simp only[yd] at hk
    split at hk
    ·simp only[Option.some.injEq] at hk
     subst hk
     cases hu
    ·simp only[Option.map_eq_some_iff] at hk
     obtain ⟨en',hk,rfl⟩:=hk
     rw[bq] at hu
     obtain ⟨b,hb',hE⟩:=h.sto k en' hk hu
     exact ⟨b,hb',hE.dg (fun _ _ h=>h) hw hl (hβ k b hb')⟩
   usto:=fun k sz' rows' hk=>by
    simp only[yd] at hk
    split at hk
    ·rename_i e
     simp only[Option.some.injEq,zb.uarr.injEq] at hk
     obtain ⟨rfl,rfl⟩:=hk
     rw[e]
     exact hU _ hl (by simp)
    ·rename_i hne
     simp only[Option.map_eq_some_iff] at hk
     obtain ⟨en',hk,he⟩:=hk
     cases en' with
     | uarr sz2 rows2 =>
      simp only[dgE,zb.uarr.injEq] at he
      obtain ⟨rfl,rfl⟩:=he
      refine (h.usto k _ _ hk).dg hne (fun _ _ h=>h) hw hl (fun b o cap p v hl' hp hv=>?_)
      obtain ⟨g1,_⟩:=ho k _ _ _ _ hne hl' p (by omega) hp b o rfl
      simp only[World.cell?,g1]; exact hv
     | _=>cases he
   bdom:=fun k b hk=>by
    obtain ⟨en,hk',hu⟩:=h.bdom k b hk
    refine ⟨dgE l en,?_,by rw[bq]; exact hu⟩
    simp only[yd]
    rw[if_neg]
    ·rw[hk']; rfl
    ·intro e
     subst e
     have:=hσl en hk'
     rw[hu] at this
     cases this
   binj:=h.binj
   bnew:=fun k b hk=>⟨(h.bnew k b hk).1,Nat.lt_of_lt_of_le (h.bnew k b hk).2.1 hb.size,(h.bnew k b hk).2.2⟩
   Isub:=fun b o hi=>Nat.lt_of_lt_of_le (h.Isub b o hi) hb.size
   I0sub:=h.I0sub
   Inew:=h.Inew
   spare:=fun l' av len cap' sz' hl' c h1 h2=>by
    by_cases el:l'=l
    ·rw[if_pos el] at hl'
     simp only[Option.some.injEq,Prod.mk.injEq] at hl'
     obtain ⟨rfl,rfl,rfl,rfl⟩:=hl'
     exact hs c h2
    ·rw[if_neg el] at hl'
     obtain ⟨b,o,e1,e2,⟨v,e3⟩,e4,e5,e6⟩:=h.spare l' av len cap' sz' hl' c h1 h2
     obtain ⟨g1,_⟩:=ho l' av len cap' sz' el hl' c h1 h2 b o e1
     exact ⟨b,o,e1,e2,⟨v,by simp only[World.cell?,g1]; exact e3⟩,by simp only[World.frozen?,g1]; exact e4,e5,e6⟩
   ldis:=fun l1 l2 b o o' len len' cap1 cap2 sz1 sz2 hne h1 h2 h3 h4=>by
    by_cases e1:l1=l
    ·rw[if_pos e1] at h1
     simp only[Option.some.injEq,Prod.mk.injEq] at h1
     obtain ⟨rfl,rfl,rfl,rfl⟩:=h1
     by_cases e2:l2=l
     ·exact hne (e1.trans e2.symm)
     ·rw[if_neg e2] at h2
      exact (ho l2 _ len' cap2 sz2 e2 h2 (len'*sz2) (Nat.le_refl _) h4 b o' rfl).2 o rfl (by omega)
    ·rw[if_neg e1] at h1
     by_cases e2:l2=l
     ·rw[if_pos e2] at h2
      simp only[Option.some.injEq,Prod.mk.injEq] at h2
      obtain ⟨rfl,rfl,rfl,rfl⟩:=h2
      exact (ho l1 _ len cap1 sz1 e1 h1 (len*sz1) (Nat.le_refl _) h3 b o rfl).2 o' rfl (by omega)
     ·rw[if_neg e2] at h2
      exact h.ldis l1 l2 b o o' len len' cap1 cap2 sz1 sz2 hne h1 h2 h3 h4}
theorem Sc {l sz cap b q:Nat} {rows:List (List AV)} {w':World} {lam':ya} (hw:∀ b o v,I b o→w.cell? ⟨b,o,none⟩=some v→w'.cell? ⟨b,o,none⟩=some v)
  (hl:∀ l',l'≠l→lam' l'=lam l') (hl':lam' l=some (some ⟨b,q,none⟩,0,cap,sz)) (hcap:rows.length≤cap) (hrow:∀ (i:Nat) (r:List AV),rows[i]?=some r→r.length=sz)
  (hc:∀ (i:Nat) (r:List AV) j c,rows[i]?=some r→r[j]?=some c→∃ v,w'.cell? ⟨b,q+i*sz+j,none⟩=some v∧single v=true∧R I w β lam c v) :
  RU I w' β lam' l sz (zU l rows):=by
 have get:∀ (i:Nat) (r:List AV),(zU l rows)[i]?=some r→∃ r0,rows[i]?=some r0∧r=r0.map (dg l):=fun i r hi=>by
  simp only[zU,List.getElem?_map,Option.map_eq_some_iff] at hi
  obtain ⟨r0,h,rfl⟩:=hi
  exact ⟨r0,h,rfl⟩
 refine ⟨_,cap,hl',by simpa [zU] using hcap,fun i r hi=>?_,fun _=>⟨b,q,rfl,fun i r j c hi hj=>?_⟩⟩
 ·obtain ⟨r0,g,rfl⟩:=get i r hi
  rw[List.length_map]; exact hrow i r0 g
 ·obtain ⟨r0,g,rfl⟩:=get i r hi
  simp only[List.getElem?_map,Option.map_eq_some_iff] at hj
  obtain ⟨c0,hj,rfl⟩:=hj
  obtain ⟨v,g1,g2,g3⟩:=hc i r0 j c0 g hj
  exact ⟨v,g1,g2,g3.dg (fun _ _ h=>h) hw hl⟩
theorem SB {l sz:Nat} {ad:Option Addr} {w':World} {lam':ya} {cap:Nat} (hl':lam' l=some (ad,0,cap,sz)):RU I w' β lam' l sz []:=⟨ad,cap,hl',Nat.zero_le _,by simp,fun h=>absurd rfl h⟩
def FA (P:Program) (F:z9) (e:Nat × Nat→Option AV) (σ:Nat→Option zb) (β:zR) (a:Act) (w:World) (t u ty:TypeId) (s x:Value) (l sz:Nat) (rows:List (List AV)):Prop :=
 ∃ v w' I' lam',(Builtin.append_ #[t,u] ty #[s,x]).run P w=.ok v w' ∧
  Inv F (fun t=>(e t).map (dg l)) (yd (fun k=>(σ k).map (dgE l)) (some l) (some (.uarr sz (zU l rows)))) I' β lam' a w' ∧
  R I' w' β lam' (.us l sz 0 rows.length) v

theorem dy {t u ty e':TypeId} {i:TypeInfo} {z:Value} {x:Value} {av:Option Addr} {cap sz l:Nat} {rows rows2:List (List AV)} {olds news:List Value} (ht:P.underlying t=some (.slice e')) (hi:P.info? e'=some i) (hsz:i.size=sz)
  (hz:i.zero=some z) (hzs:z.cells.size=sz) (h0:0<sz) (h:Inv F e σ I β lam a w) (hσl:∀ en,σ l=some en→en.isU=true) (hs:Src P sz u x rows2.length news w) (hn:ui I w β lam sz rows2 news)
  (ho:(Builtin.firstCells sz rows.length (.slice av rows.length cap)).run P w.drew=.ok olds.toArray w.drew) (hol:ui I w β lam sz rows olds)
  (hcap:cap<rows.length+rows2.length) (hb1:(rows.length+rows2.length)*i.bytes≤140737488355328) (hb2:rows.length+rows2.length≤9223372036854775807) :
  FA P F e σ β a w t u ty (.slice av rows.length cap) x l sz (rows++rows2):=by
 subst hsz
 have hrun:=run_append_grow_src (P:=P) w t u ty e' i z ht hi hz av rows.length cap olds ho x rows2.length news hs hcap (by omega) (growslice_fits hcap hb1)
 have hge:=grownCap_ge w (rows.length+rows2.length) cap e'
 generalize grownCap w (rows.length+rows2.length) cap e'=newCap at hrun hge
 have hall:=hol.append hn
 have hsize:(olds++news).length=(rows.length+rows2.length)*i.size:=by
  have:=hall.1
  simpa using this
 have hzc:(Builtin.zeroCells z.cells (newCap-(rows.length+rows2.length))).size=(newCap-(rows.length+rows2.length))*i.size:=by rw[size_zeroCells,hzs]
 generalize Builtin.zeroCells z.cells (newCap-(rows.length+rows2.length))=Z at hrun hzc
 have hb:Below w.heap.size w (w.drew.alloc (.cells ((olds++news).toArray++Z) e')):=(Below.refl _ _).drew.alloc (Nat.le_refl _) _
 have hcells:∀ m,(w.drew.alloc (.cells ((olds++news).toArray++Z) e')).cell? ⟨w.heap.size,m,none⟩=((olds++news).toArray++Z)[m]?:=fun m=>World.cell?_alloc_new w.drew _ _ _
 have hmul:(newCap-(rows.length+rows2.length))*i.size=newCap*i.size-(rows.length+rows2.length)*i.size:=Nat.sub_mul _ _ _
 have hge2:(rows.length+rows2.length)*i.size≤newCap*i.size:=Nat.mul_le_mul_right _ hge
 have hw:∀ b p v,I b p→w.cell? ⟨b,p,none⟩=some v→(w.drew.alloc (.cells ((olds++news).toArray++Z) e')).cell? ⟨b,p,none⟩=some v:=fun b p v hip hv=>by
  rw[hb.cell (p:=⟨b,p,none⟩) (h.Isub _ _ hip)]; exact hv
 have hall2:=hall.2.1
 have hall3:=hall.2.2
 have hpos:0<newCap*i.size:=by
  have:0<newCap:=by omega
  exact Nat.mul_pos this h0
 refine ⟨_,_,I,_,hrun,h.ownerU l hσl (ad:=some ⟨w.heap.size,0,none⟩) (cap:=newCap) (sz:=i.size) (hb.mono h.le) hw (fun k b hk=>hb.block b (h.bnew k b hk).2.1) (fun c hc=>?_)
   (fun l' av' len' cap' sz' hne' hl' c h1 h2 b o' ha=>?_) (fun lam' hlam hlam2=>Sc hw hlam hlam2 (by simpa using hge) hall2 (fun j r m c hj hm=>?_)),?_⟩
 ·refine ⟨w.heap.size,0,rfl,h.le,?_,World.frozen?_alloc_new w.drew _ _ _,fun hp=>?_,fun k hk=>Nat.lt_irrefl _ (h.bnew k _ hk).2.1⟩
  ·rw[Nat.zero_add,hcells]
   refine ⟨_,Array.getElem?_eq_getElem (by simp; simp at hsize; omega)⟩
  ·exact Nat.lt_irrefl _ (h.Isub _ _ hp)
 ·obtain ⟨b1,o1,e1,_,⟨v1,e3⟩,_⟩:=h.spare l' _ _ _ _ hl' c h1 h2
  rw[ha] at e1
  cases e1
  have hlt:b<w.heap.size:=World.block_lt_of_cell? _ _ e3
  refine ⟨hb.block b hlt,fun o'' hq=>?_⟩
  simp only[Option.some.injEq,Addr.mk.injEq] at hq
  omega
 ·obtain ⟨v,g1,g2,g3⟩:=hall3 j r m c hj hm
  refine ⟨v,?_,g3,g2⟩
  have hlt:=(List.getElem?_eq_some_iff.1 g1).1
  rw[Nat.zero_add,hcells,Array.getElem?_append_left (by simpa using hlt)]
  simpa using g1
 ·have:=R.us (I:=I) (w:=w.drew.alloc (.cells ((olds++news).toArray++Z) e')) (β:=β) (lam:=fun l'=>if l'=l then some (some ⟨w.heap.size,0,none⟩,0,newCap,i.size) else lam l') l i.size 0 (rows++rows2).length newCap newCap
   (some ⟨w.heap.size,0,none⟩) (some ⟨w.heap.size,0,none⟩) (by simp) (by simpa using hge) (by omega) (fun _=>⟨w.heap.size,0,rfl,by simp⟩)
  simpa using this

theorem Km {t u ty e':TypeId} {i:TypeInfo} {x:Value} {av:Option Addr} {cp sz l:Nat} {rows rows2:List (List AV)} {news:List Value} (ht:P.underlying t=some (.slice e')) (hi:P.info? e'=some i) (hsz:i.size=sz)
  (h:Inv F e σ I β lam a w) (hσl:σ l=some (.uarr sz rows)) (hs:Src P sz u x rows2.length news w) (hn:ui I w β lam sz rows2 news) (h0:0<sz) (hne:rows2≠[]) (hcap:rows.length+rows2.length≤cp)
  (hR:R I w β lam (.us l sz 0 rows.length) (.slice av rows.length cp)):FA P F e σ β a w t u ty (.slice av rows.length cp) x l sz (rows++rows2):=by
 subst hsz
 have hn0:0<rows2.length:=by
  cases rows2 with
  | nil=>exact absurd rfl hne
  | cons=>simp
 obtain ⟨cap,cp',av0,av',hl,hv,hlc,hoc,hav⟩:=hR.us_inv
 cases hv
 obtain ⟨b,o,rfl,rfl⟩:=hav (by omega)
 simp only[Nat.zero_mul,Nat.add_zero] at *
 have hm0:cp*i.size≤cap*i.size:=Nat.mul_le_mul_right _ (by omega)
 have hm1:(rows.length+rows2.length)*i.size≤cp*i.size:=Nat.mul_le_mul_right _ hcap
 have hm2:0<rows2.length*i.size:=Nat.mul_pos hn0 h0
 have hm3:(rows.length+rows2.length)*i.size=rows.length*i.size+rows2.length*i.size:=Nat.add_mul _ _ _
 obtain ⟨u1,u2,u3,u4⟩:=h.ublock hl (by omega)
 have hnl:news.length=rows2.length*i.size:=hn.1
 have hc:∀ j,j<news.length→(w.cell? ⟨b,o+rows.length*i.size+j,none⟩).isSome=true:=fun j hj=>by
  obtain ⟨⟨v,hv⟩,_⟩:=u4 (rows.length*i.size+j) (by omega)
  rw[Nat.add_assoc,hv]; rfl
 have hf:∀ j,j<news.length→w.frozen? ⟨b,o+rows.length*i.size+j,none⟩=false:=fun j hj=>by
  rw[Nat.add_assoc]
  exact (u4 (rows.length*i.size+j) (by omega)).2.1
 have hrun:=run_append_room_src (P:=P) w t u ty e' i ht hi b o rows.length cp x rows2.length news hs hcap hc hf
 obtain ⟨g1,g2,g3,g4,g5⟩:=tB b news (o+rows.length*i.size) w
 have hcell:=xe b news (o+rows.length*i.size) w hc
 have hw:∀ b' p v,I b' p→w.cell? ⟨b',p,none⟩=some v→(w.setCells b (o+rows.length*i.size) news).cell? ⟨b',p,none⟩=some v:=fun b' p v hip hcv=>by
  by_cases e:b'=b
  ·subst e
   rw[hcell,if_neg]
   ·exact hcv
   ·rintro ⟨c1,c2⟩
    refine (u4 (p-o) (by omega)).2.2 ?_
    rwa [show o+(p-o)=p by omega]
  ·rw[yA e]; exact hcv
 have hU:=h.usto _ _ _ hσl
 refine ⟨_,_,I,_,hrun,h.ownerU l (fun en he=>by rw[hσl] at he; cases he; rfl) (ad:=some ⟨b,o,none⟩) (cap:=cap) (sz:=i.size) ⟨g2,g3,g4,by rw[g1]; exact Nat.le_refl _,fun k hk=>g5 k (by omega)⟩ hw
   (fun k b' hk=>g5 b' (fun e=>u3 k (e▸hk))) (fun c hc'=>?_) (fun l' av' len' cap' sz' hne' hl' c h1 h2 b' o' ha=>?_) (fun lam' hlam hlam2=>Sc hw hlam hlam2 (by simp; omega) (fun j r hj=>?_) (fun j r m c hj hm=>?_)),?_⟩
 ·obtain ⟨⟨v,e3⟩,e4,e5⟩:=u4 c hc'
  refine ⟨b,o,rfl,u1,?_,by rw[yF]; exact e4,e5,u3⟩
  rw[hcell]
  split
  ·rename_i c3
   exact ⟨news[o+c-(o+rows.length*i.size)]'(by omega),by simp⟩
  ·exact ⟨v,e3⟩
 ·subst ha
  have hbb:b'≠b:=fun e=>by
   subst e
   exact h.ldis l l' b' o o' _ _ _ _ _ _ (fun e=>hne' e.symm) hl hl' (by omega) (Nat.lt_of_le_of_lt h1 h2)
  refine ⟨g5 b' hbb,fun o'' hq=>?_⟩
  simp only[Option.some.injEq,Addr.mk.injEq] at hq
  exact absurd hq.1.symm hbb
 ·rw[List.getElem?_append] at hj
  split at hj
  ·exact (hU.row hl hj).1
  ·exact hn.2.1 _ _ hj
 ·rw[List.getElem?_append] at hj
  split at hj
  ·rename_i hlt
   obtain ⟨v,e1,e2,e3⟩:=(hU.row hl hj).2 m c hm
   have hml:m<i.size:=by
    have:=(List.getElem?_eq_some_iff.1 hm).1
    have:=(hU.row hl hj).1
    omega
   have h3:(j+1)*i.size≤rows.length*i.size:=Nat.mul_le_mul_right _ hlt
   rw[Nat.add_mul] at h3
   refine ⟨v,?_,e2,e3⟩
   rw[hcell,if_neg (by omega)]; exact e1
  ·rename_i hlt
   obtain ⟨v,e1,e2,e3⟩:=hn.2.2 _ r m c hj hm
   have h3:rows.length*i.size≤j*i.size:=Nat.mul_le_mul_right _ (by omega)
   have h6:(j-rows.length)*i.size=j*i.size-rows.length*i.size:=Nat.sub_mul _ _ _
   have hlt2:=(List.getElem?_eq_some_iff.1 e1).1
   refine ⟨v,?_,e3,e2⟩
   rw[hcell,if_pos ⟨by omega,by omega⟩,show o+j*i.size+m-(o+rows.length*i.size)=(j-rows.length)*i.size+m by omega]
   exact e1
 ·have:=R.us (I:=I) (w:=w.setCells b (o+rows.length*i.size) news) (β:=β) (lam:=fun l'=>if l'=l then some (some ⟨b,o,none⟩,0,cap,i.size) else lam l') l i.size 0 (rows++rows2).length cap cp
   (some ⟨b,o,none⟩) (some ⟨b,o,none⟩) (by simp) (by simpa using hcap) (by omega) (fun _=>⟨b,o,rfl,by simp⟩)
  simpa using this
end
section
variable {P:Program} {F:z9} {I:Nat→Nat→Prop} {w:World} {β:zR} {lam:ya} {a:Act} {o:Oper}
  {Q:Exit→Act→World→Prop}
theorem Inv.hread {e:Nat × Nat→Option AV} {σ:Nat→Option zb} (h:Inv F e σ I β lam a w):∀ k en b,σ k=some en→β k=some b→RE I w β lam b en:=fun k en b h1 h2=>by
 obtain ⟨en',h3,h4⟩:=h.bdom k b h2
 rw[h1] at h3; cases h3
 obtain ⟨b',hb',hE⟩:=h.sto k en h1 h4
 rw[h2] at hb'; cases hb'
 exact hE
theorem aK {s:St} {l d:Nat} {x:AV}:((s.dg l).put (some d) x).look=yd (fun t=>(s.look t).map (dg l)) (slot (some d)) (some x):=by
 rw[vN,(tZ s l).1]
theorem PP {c:Call} {xs xx:Operand} {t u e':TypeId} {sz by_:Nat} {z:List AV} {X Y:AV} {s:St} {K:St→Prop} {Kr:Act→World→Prop} (ho:o.op=.call c)
  (hc:c.callee=.builtin .append) (hargs:c.args=#[xs,xx]) (hts:c.argTypes=#[t,u]) (he:elT P t=some e') (hsz:szT P e'=some sz) (hby:byT P e'=some by_)
  (hz:wL P e'=some z) (hzl:z.length=sz) (hu:uH P u=true∨(elT P u).isSome=true) (h:Inv F s.look (lk s.sto) I β lam a w) (hd:te F.N o.dst=true)
  (hX:R I w β lam X (a.eval xs)) (hY:R I w β lam Y (a.eval xx)) (hst:yQ sz by_ s o.dst K [X,Y])
  (hk:∀ s' a' w',K s'→Holds F s' a' w'→Kr a' w'):o.wp P a w Kr Q:=by
 obtain ⟨i,zv,hi,hiz,hzs⟩:=XJ hz
 have hisz:i.size=sz:=by
  unfold szT at hsz
  simpa [hi] using hsz
 have hiby:i.bytes=by_:=by
  unfold byT at hby
  simpa [hi] using hby
 have fin:∀ (l d:Nat) (rows:List (List AV)) (s':St),o.dst=some d→FA P F s.look (lk s.sto) β a w t u o.type (a.eval xs) (a.eval xx) l sz rows →
   s'.look=yd (fun t=>(s.look t).map (dg l)) (slot (some d)) (some (.us l sz 0 rows.length))→lk s'.sto=yd (fun k=>(lk s.sto k).map (dgE l)) (some l) (some (.uarr sz (zU l rows))) →
   K s'→o.wp P a w Kr Q:=by
  intro l d rows s' hdd ⟨v,w',I',lam',hrun,hI,hR⟩ hlook hsto hK
  have hrun':(execOp a.eval o).run P w=.ok (.value v) w':=by
   simp[execOp,ho,resolve,hc,hargs,invoke,builtin,hts,hrun]
  refine ub hrun' ?_
  rw[hdd]
  rw[hdd] at hd
  refine hk _ _ w' hK ⟨I',β,lam',?_⟩
  rw[hlook,hsto]
  exact hI.put hd hR
 unfold yQ at hst
 split at hst
 ·rename_i sz1 rows1 Y' heq
  simp only[List.cons.injEq,and_true] at heq
  obtain ⟨rfl,rfl⟩:=heq
  obtain ⟨rows2,news,⟨h0,hb1,hb2,hst⟩,hs,hn⟩:=SE (P:=P) (w:=w) (tx:=u) (bC hu) (fun rows h=>h.1) h.hread h.usto hY hst
  split at hst
  ·rename_i d hdd
   obtain ⟨rfl,hσl,hst⟩:=hst
   obtain ⟨av,cap,hv,hcap,hfull,_⟩:=hX.list_inv
   have hc0:cap=0:=by simpa using hfull rfl
   subst hc0
   have hσl':∀ en,lk s.sto (s.base+d)=some en→en.isU=true:=fun en he=>by rw[hσl] at he; cases he
   have hst':lk (((s.dg (s.base+d)).put (some d) (.us (s.base+d) sz 0 rows2.length)).new (some d) (some (.uarr sz (zU (s.base+d) rows2)))).sto =
     yd (fun k=>(lk s.sto k).map (dgE (s.base+d))) (some (s.base+d)) (some (.uarr sz (zU (s.base+d) rows2))):=by
    simp only[St.new]
    rw[show ((s.dg (s.base+d)).put (some d) (AV.us (s.base+d) sz 0 rows2.length)).base=s.base from rfl,wI,
     show ((s.dg (s.base+d)).put (some d) (AV.us (s.base+d) sz 0 rows2.length)).sto=(s.dg (s.base+d)).sto from rfl,(tZ s (s.base+d)).2]
   have hlk:(((s.dg (s.base+d)).put (some d) (.us (s.base+d) sz 0 rows2.length)).new (some d) (some (.uarr sz (zU (s.base+d) rows2)))).look =
     yd (fun t=>(s.look t).map (dg (s.base+d))) (slot (some d)) (some (.us (s.base+d) sz 0 rows2.length)):=by
    rw[← aK]; simp only[St.new]; exact xa
   refine fin (s.base+d) d rows2 _ hdd ?_ hlk hst' hst
   by_cases hr2:rows2=[]
   ·subst hr2
    have hnil:news=[]:=by simpa using hs.newsLen
    subst hnil
    rw[hv]
    refine ⟨_,w,I,_,pP (yB he) hi (by rw[hisz]; exact hs) (Nat.le_refl _),h.ownerU (s.base+d) hσl' (ad:=none) (cap:=0) (sz:=sz) (Below.refl _ _) (fun _ _ _ _ h=>h) (fun _ _ _=>rfl) (fun c hc=>by omega)
     (fun _ _ _ _ _ _ _ _ _ _ _ _ _=>⟨rfl,fun _ h=>by cases h⟩) (fun lam' _ hl2=>SB hl2),?_⟩
    exact .us _ _ _ _ 0 0 none av (by simp) (Nat.le_refl _) (Nat.le_refl _) (fun h=>absurd rfl h)
   ·have:=dy (P:=P) (u:=u) (ty:=o.type) (rows:=[]) (rows2:=rows2) (olds:=[]) (av:=av) (cap:=0) (l:=s.base+d) (yB he) hi hisz hiz (by omega) h0 h hσl' hs hn
     ((qW (P:=P) (av:=av) (cap:=0) (sz:=sz) (tx:=t) (w:=w) (.inl ⟨e',yB he⟩)).cellsD) ⟨by simp,by simp,by simp⟩ (by cases rows2 with | nil=>exact absurd rfl hr2 | cons=>simp) (by rw[hiby]; simpa using hb1) (by simpa using hb2)
    rw[hv]
    exact this
  ·exact hst.elim
 ·rename_i l sz1 off len Y' heq
  simp only[List.cons.injEq,and_true] at heq
  obtain ⟨rfl,rfl⟩:=heq
  obtain ⟨rows2,news,⟨h0,hb1,hb2,hst⟩,hs,hn⟩:=SE (P:=P) (w:=w) (tx:=u) (bC hu) (fun rows h=>h.1) h.hread h.usto hY hst
  split at hst
  ·rename_i sz' rows1 d hσl hdd
   obtain ⟨rfl,rfl,rfl,rfl,hst⟩:=hst
   have hσl':∀ en,lk s.sto l=some en→en.isU=true:=fun en he=>by rw[hσl] at he; cases he; rfl
   obtain ⟨cap,cp,av0,av,hl,hv,hlc,hoc,hav⟩:=hX.us_inv
   have hU:=h.usto _ _ _ hσl
   have hlen:(rows1++rows2).length=rows1.length+rows2.length:=List.length_append
   refine fin l d (rows1++rows2) _ hdd ?_ (by rw[hlen]; exact (vN (s:={(s.dg l) with sto:=pt (s.dg l).sto l (.uarr sz1 (zU l (rows1++rows2)))})).trans (by rw[xa,(tZ s l).1])) (by
    rw[show (({(s.dg l) with sto:=pt (s.dg l).sto l (.uarr sz1 (zU l (rows1++rows2)))}:St).put (some d) (.us l sz1 0 (rows1.length+rows2.length))).sto=pt (s.dg l).sto l (.uarr sz1 (zU l (rows1++rows2))) from rfl,
     wI,(tZ s l).2]) hst
   by_cases hr2:rows2=[]
   ·subst hr2
    have hnil:news=[]:=by simpa using hs.newsLen
    subst hnil
    rw[hv,List.append_nil]
    refine ⟨_,w,I,_,pP (yB he) hi (by rw[hisz]; exact hs) hlc,h.ownerU l hσl' (ad:=av0) (cap:=cap) (sz:=sz1) (Below.refl _ _) (fun _ _ _ _ h=>h) (fun _ _ _=>rfl) (fun c hc=>?_)
     (fun l' av' len' cap' sz'' hne' hl' c h1 h2 b' o' ha=>⟨rfl,fun o'' hq h0'=>?_⟩) (fun lam' hlam hl2=>?_),?_⟩
    ·obtain ⟨b,o,e1,e2,e3,e4,e5,e6⟩:=h.spare l _ _ _ _ hl c (by omega) hc
     exact ⟨b,o,e1,e2,e3,e4,e5,e6⟩
    ·subst hq ha
     exact h.ldis l l' b' o'' o' _ _ _ _ _ _ (fun e=>hne' e.symm) hl hl' (by omega) (Nat.lt_of_le_of_lt h1 h2)
    ·by_cases hr1:rows1=[]
     ·subst hr1; exact SB hl2
     ·obtain ⟨a',cap',k1,k2,k3,k4⟩:=hU
      rw[hl] at k1
      cases k1
      obtain ⟨b,q,rfl,k5⟩:=k4 hr1
      exact Sc (fun _ _ _ _ h=>h) hlam hl2 k2 k3 k5
    ·exact .us _ _ _ _ cap cp av0 av (by simp) hlc hoc hav
   ·by_cases hroom:rows1.length+rows2.length≤cp
    ·have hXX:=hX
     rw[hv] at hXX ⊢
     exact Km (yB he) hi hisz h hσl hs hn h0 hr2 hroom hXX
    ·rw[hv]
     by_cases hr1:rows1=[]
     ·subst hr1
      exact dy (P:=P) (u:=u) (ty:=o.type) (rows:=[]) (rows2:=rows2) (olds:=[]) (av:=av) (cap:=cp) (l:=l) (yB he) hi hisz hiz (by omega) h0 h hσl' hs hn
       ((qW (P:=P) (av:=av) (cap:=cp) (sz:=sz1) (tx:=t) (w:=w) (.inl ⟨e',yB he⟩)).cellsD) ⟨by simp,by simp,by simp⟩ (by omega) (by rw[hiby]; exact hb1) hb2
     ·have hne:cp≠0:=by
       have:0<rows1.length:=by cases rows1 with | nil=>exact absurd rfl hr1 | cons=>simp
       omega
      obtain ⟨b,q,rfl,rfl⟩:=hav hne
      obtain ⟨olds,n1,n2,n3,n4⟩:=et (b:=b) (q:=q+0*sz1) (rows:=rows1) (I:=I) (w:=w) (β:=β) (lam:=lam) (fun i r hi=>(hU.row hl hi).1) (fun i r j c hi hj=>by
       simpa using (hU.row hl hi).2 j c hj) h0
      exact dy (P:=P) (u:=u) (ty:=o.type) (yB he) hi hisz hiz (by omega) h0 h hσl' hs hn
       (run_firstCells_some w.drew sz1 _ _ _ _ olds n1 (fun j u hj=>by rw[addr_add]; exact n2 j u hj)) n4 (by omega) (by rw[hiby]; exact hb1) hb2
  ·exact hst.elim
 ·exact hst.elim
theorem S0 {f:FuncId} {vs:Array Value} {xs:List AV} {s:St} {K:St→Prop} {Kr:Act→World→Prop} (hrun:(execOp a.eval o).run P w=.ok (.enter f vs) w) (hs:vs.size=xs.length)
  (hR:∀ i x,xs[i]?=some x→R I w β lam x (vs.getD i undef)) (h:Inv F s.look (lk s.sto) I β lam a w) (hd:te F.N o.dst=true) (hst:uF P f xs s o.dst K)
  (hk:∀ s' a' w',K s'→Holds F s' a' w'→Kr a' w'):o.wp P a w Kr Q:=by
 have hcall:=hst F a w I β lam h vs hs hR
 unfold Oper.wp
 rw[hrun]
 refine hcall.mono fun e w' ⟨v,he,r,s',I',β',lam',⟨_,hK⟩,hI,hr⟩=>?_
 subst he
 refine hk _ _ _ hK ⟨I',β',lam',?_⟩
 rw[vN]
 have:(s'.put o.dst r).sto=s'.sto:=by cases o.dst<;>rfl
 rw[this]
 exact hI.put hd hr
theorem GG {c:Call} {fid:FuncId} {f:Opd→AV} {s:St} {K:St→Prop} {Kr:Act→World→Prop} (ho:o.op=.call c) (hc:c.callee=.value (.func fid)) (hok:yM P fid=true)
  (hR:∀ x∈c.args.toList,R I w β lam (f (zm x)) (a.eval x)) (h:Inv F s.look (lk s.sto) I β lam a w) (hd:te F.N o.dst=true) (hst:uF P fid ((c.args.toList.map zm).map f) s o.dst K)
  (hk:∀ s' a' w',K s'→Holds F s' a' w'→Kr a' w'):o.wp P a w Kr Q:=by
 refine S0 (vs:=(c.args.toList.map a.eval).toArray) ?_ (by simp) (gh hR) h hd hst hk
 have hargs:c.args.map a.eval=(c.args.toList.map a.eval).toArray:=by apply Array.ext'; simp
 have:=uM (w:=w) (vs:=(c.args.toList.map a.eval).toArray) hok
 simp only[execOp,ho,resolve,hc,hargs,Act.eval,Deferred.ofValue]
 simp[invoke,this]
theorem LF {c:Call} {fv:Operand} {fid:FuncId} {caps:List AV} {f:Opd→AV} {s:St} {K:St→Prop} {Kr:Act→World→Prop} (ho:o.op=.call c) (hc:c.callee=.value fv) (hok:yM P fid=true)
  (hv:R I w β lam (.fn (.func fid) caps) (a.eval fv))
  (hR:∀ x∈c.args.toList,R I w β lam (f (zm x)) (a.eval x)) (h:Inv F s.look (lk s.sto) I β lam a w) (hd:te F.N o.dst=true) (hst:uF P fid ((c.args.toList.map zm).map f++caps) s o.dst K)
  (hk:∀ s' a' w',K s'→Holds F s' a' w'→Kr a' w'):o.wp P a w Kr Q:=by
 obtain ⟨us,hv',hs,hcR⟩:=hv.fn_inv
 simp only[fF] at hv'
 refine S0 (vs:=(c.args.toList.map a.eval).toArray++us) ?_ (by simp[hs]) (fun i x hi=>?_) h hd hst hk
 ·have hargs:c.args.map a.eval=(c.args.toList.map a.eval).toArray:=by apply Array.ext'; simp
  simp only[execOp,ho,resolve,hc,hargs,hv',Deferred.ofValue]
  simp[invoke,uM hok]
 ·by_cases hlt:i<c.args.toList.length
  ·rw[List.getElem?_append_left (by simpa using hlt)] at hi
   have:=gh hR i x hi
   have e:((c.args.toList.map a.eval).toArray++us).getD i undef=(c.args.toList.map a.eval).toArray.getD i undef:=by
    have:i<c.args.size:=by simpa using hlt
    simp[Array.getElem?_append,this]
   rw[e]
   exact this
  ·rw[List.getElem?_append_right (by simpa using hlt)] at hi
   simp only[List.length_map] at hi
   have:=hcR _ x hi
   have e:((c.args.toList.map a.eval).toArray++us).getD i undef=us.getD (i-c.args.toList.length) undef:=by
    have:¬ i<c.args.size:=by simpa using hlt
    simp[Array.getElem?_append,this]
   rw[e]
   exact this
theorem Qy {t e:TypeId} {n sz:Nat} {parts:Array (Nat × Operand)} {z:List AV} {s:St} {K:St→Prop} {Kr:Act→World→Prop} (ho:o.op=.buildSlice t n parts)
  (he:elT P t=some e) (hsz:szT P e=some sz) (hz:wL P e=some z) (hlim:n*sz≤16777216) (h:Inv F s.look (lk s.sto) I β lam a w) (hd:te F.N o.dst=true)
  (hx:∀ p∈parts.toList,R I w β lam (ev s (zm p.2)) (a.eval p.2))
  (hst:qN sz n z (parts.toList.map (·.1)) s o.dst K ((parts.toList.map fun p=>zm p.2).map (ev s)))
  (hk:∀ s' a' w',K s'→Holds F s' a' w'→Kr a' w'):o.wp P a w Kr Q:=by
 unfold qN at hst
 split at hst
 rotate_left
 ·exact hst.elim
 rename_i rows d hf hdd
 obtain ⟨hzl,h0,hσd,hK⟩:=hst
 obtain ⟨v,hv,hvs,hA⟩:=jN (P:=P) (I:=I) (w:=w) (n:=n) hz hzl
 have hu:P.underlying t=some (.slice e):=by
  unfold elT at he
  split at he<;>simp_all
 have hpl:(parts.map fun (i,x)=>(i,a.eval x)).toList=parts.toList.map fun p=>(p.1,a.eval p.2):=by simp
 obtain ⟨A',e1,e2,hrl⟩:=TG (I:=I) (w:=w) (β:=β) (lam:=lam) (parts.toList.map fun p=>(p.1,a.eval p.2)) ((parts.toList.map fun p=>zm p.2).map (ev s)) (List.replicate n z) rows ((Array.range (n*sz)).map fun i=>v.cells[i%v.cells.size]!) (fun j i u hj=>by
   simp only[List.getElem?_map,Option.map_eq_some_iff] at hj
   obtain ⟨p,hp',he⟩:=hj
   simp only[Prod.mk.injEq] at he
   obtain ⟨rfl,rfl⟩:=he
   exact ⟨ev s (zm p.2),by simp[hp'],hx p (List.mem_iff_getElem?.2 ⟨j,hp'⟩)⟩) (by simp) (by simpa [Function.comp_def] using hf) (RowsIn.toR (A:=((Array.range (n*sz)).map fun i=>v.cells[i%v.cells.size]!).toList) hA)
 rw[List.length_replicate] at hrl
 have hr:(execOp a.eval o).run P w=.ok (.value (.slice (some ⟨w.heap.size,0,none⟩) n n)) (w.alloc (.cells A' e)):=by
  simp only[execOp,ho]
  have:(Instr.buildSlice t n (parts.map fun (i,x)=>(i,a.eval x))).run P w=.ok (.slice (some ⟨w.heap.size,0,none⟩) n n) (w.alloc (.cells A' e)):=by
   unfold Instr.buildSlice
   simp only[Sem.run_bind,run_underlying hu,Result.andThen_ok,wt hsz]
   rw[if_neg (by simpa using hlim)]
   by_cases hn:n*sz=0
   ·have hn0:n=0:=by
     rcases Nat.mul_eq_zero.1 hn with h | h<;>omega
    subst hn0
    have hz1:∀ g:Nat→Value,(Array.range 0).map g=#[]:=fun g=>by simp
    rw[Nat.zero_mul,hz1] at e1
    simp only[Nat.zero_mul,if_true,Sem.run_bind,Sem.run_pure,Result.andThen_ok,hpl,hz1]
    rw[e1]
    simp[newRow]
   ·simp only[hn,if_false,Sem.run_bind,hv,Result.andThen_ok,Sem.run_pure,hpl]
    rw[e1]
    simp[newRow]
  exact wz this
 have hb:Below w.heap.size w (w.alloc (.cells A' e)):=(Below.refl _ _).alloc (Nat.le_refl _) _
 have hw:∀ b p v,I b p→w.cell? ⟨b,p,none⟩=some v→(w.alloc (.cells A' e)).cell? ⟨b,p,none⟩=some v:=fun b p v hip hv=>by
  rw[hb.cell (p:=⟨b,p,none⟩) (h.Isub _ _ hip)]; exact hv
 have hcells:∀ m,(w.alloc (.cells A' e)).cell? ⟨w.heap.size,m,none⟩=A'[m]?:=fun m=>World.cell?_alloc_new w _ _ _
 have hsize:A'.size=n*sz:=by have:=e2.1; rw[hrl] at this; simpa using this
 refine ub hr ?_
 rw[hdd]
 rw[hdd] at hd
 have hσ':∀ en,lk s.sto (s.base+d)=some en→en.isU=true:=fun en he=>by rw[hσd] at he; cases he
 refine hk _ _ _ hK ⟨I,β,(fun l'=>if l'=s.base+d then some (some ⟨w.heap.size,0,none⟩,0,n,sz) else lam l'),?_⟩
 have hst':lk (((s.dg (s.base+d)).put (some d) (.us (s.base+d) sz 0 n)).new (some d) (some (.uarr sz (zU (s.base+d) rows)))).sto =
   yd (fun k=>(lk s.sto k).map (dgE (s.base+d))) (some (s.base+d)) (some (.uarr sz (zU (s.base+d) rows))):=by
  simp only[St.new]
  rw[show ((s.dg (s.base+d)).put (some d) (AV.us (s.base+d) sz 0 n)).base=s.base from rfl,wI,
   show ((s.dg (s.base+d)).put (some d) (AV.us (s.base+d) sz 0 n)).sto=(s.dg (s.base+d)).sto from rfl,(tZ s (s.base+d)).2]
 have hlk:(((s.dg (s.base+d)).put (some d) (.us (s.base+d) sz 0 n)).new (some d) (some (.uarr sz (zU (s.base+d) rows)))).look =
   yd (fun t=>(s.look t).map (dg (s.base+d))) (slot (some d)) (some (.us (s.base+d) sz 0 n)):=by
  rw[← aK]; simp only[St.new]; exact xa
 rw[hst',hlk]
 refine (h.ownerU (s.base+d) hσ' (ad:=some ⟨w.heap.size,0,none⟩) (cap:=n) (sz:=sz) (hb.mono h.le) hw (fun k b hk=>hb.block b (h.bnew k b hk).2.1) (fun c hc=>?_)
   (fun l' av' len' cap' sz' hne' hl' c h1 h2 b o' ha=>?_) (fun lam' hlam hlam2=>Sc hw hlam hlam2 (by omega) e2.2.1 (fun j r m c hj hm=>?_))).put hd ?_
 ·refine ⟨w.heap.size,0,rfl,h.le,?_,World.frozen?_alloc_new w _ _ _,fun hp=>?_,fun k hk=>Nat.lt_irrefl _ (h.bnew k _ hk).2.1⟩
  ·rw[Nat.zero_add,hcells]
   exact ⟨_,Array.getElem?_eq_getElem (by omega)⟩
  ·exact Nat.lt_irrefl _ (h.Isub _ _ hp)
 ·obtain ⟨b1,o1,e1,_,⟨v1,e3⟩,_⟩:=h.spare l' _ _ _ _ hl' c h1 h2
  rw[ha] at e1
  cases e1
  have hlt:b<w.heap.size:=World.block_lt_of_cell? _ _ e3
  refine ⟨hb.block b hlt,fun o'' hq=>?_⟩
  simp only[Option.some.injEq,Addr.mk.injEq] at hq
  omega
 ·obtain ⟨v,g1,g2,g3⟩:=e2.2.2 j r m c hj hm
  refine ⟨v,?_,g3,g2⟩
  rw[Nat.zero_add,hcells]
  simpa using g1
 ·exact .us _ _ _ _ n n (some ⟨w.heap.size,0,none⟩) (some ⟨w.heap.size,0,none⟩) (by simp) (Nat.le_refl _) (by omega) (fun _=>⟨w.heap.size,0,rfl,by simp⟩)
end
section
variable {P:Program} {F:z9} {I:Nat→Nat→Prop} {w:World} {β:zR} {lam:ya} {a:Act} {o:Oper} {Q:Exit→Act→World→Prop}
theorem E2 {op:BinOp} {t:TypeId} {y:Operand} {neg:Bool} (h:RY P op t y=some neg) :
  y=.const (.slice none 0 0)∧(∃ e,P.underlying t=some (.slice e))∧((op=.eql∧neg=false)∨(op=.neq∧neg=true)):=by
 unfold RY at h
 split at h
 ·rename_i e he
  simp only[Option.some.injEq] at h
  exact ⟨rfl,⟨e,he⟩,.inl ⟨rfl,h.symm⟩⟩
 ·rename_i e he
  simp only[Option.some.injEq] at h
  exact ⟨rfl,⟨e,he⟩,.inr ⟨rfl,h.symm⟩⟩
 ·cases h
theorem Qq {t e:TypeId} {av:Option Addr} {n c:Nat} (hu:P.underlying t=some (.slice e)):(Op.equal t (.slice av n c) (.slice none 0 0)).run P w=.ok av.isNone w:=by
 have:∀ d:Nat,(Op.equalIn (d+1) t (.slice av n c) (.slice none 0 0)).run P w=.ok av.isNone w:=fun d=>by
  cases av<;>simp[Op.equalIn,run_underlying hu]
 exact this 9999
theorem abg {x:AV} {v:Value} {n:Nat} (hx:R I w β lam x v) (hn:RX x=some n):∃ av cap,v=.slice av n cap∧(n≠0→av.isNone=false):=by
 cases x<;>simp only[RX,reduceCtorEq,Option.some.injEq] at hn
 ·subst hn
  obtain ⟨av,cap,hv,_,_,h⟩:=hx.list_inv
  refine ⟨av,cap,hv,fun h0=>?_⟩
  obtain ⟨b,q,rfl,_⟩:=h (by intro e; subst e; exact h0 rfl)
  rfl
 ·subst hn
  obtain ⟨b,cap,av,_,hv,_,h⟩:=hx.sl_inv
  exact ⟨av,cap,hv,fun h0=>by rw[h h0]; rfl⟩
 ·subst hn
  obtain ⟨cap,cp,a,av,_,hv,hle,_,h⟩:=hx.us_inv
  refine ⟨av,cp,hv,fun h0=>?_⟩
  obtain ⟨b,q,_,rfl⟩:=h (by omega)
  rfl
theorem DX {op:BinOp} {t t':TypeId} {x y:Operand} {neg:Bool} {X:AV} {s:St} {K:St→Prop} {Kr:Act→World→Prop} (ho:o.op=.binOp op t x y t') (hq:RY P op t y=some neg)
  (h:Inv F s.look (lk s.sto) I β lam a w) (hd:te F.N o.dst=true) (hx:R I w β lam X (a.eval x)) (hst:jt neg s o.dst K [X])
  (hk:∀ s' a' w',K s'→Holds F s' a' w'→Kr a' w'):o.wp P a w Kr Q:=by
 obtain ⟨rfl,⟨e,hu⟩,hop⟩:=E2 hq
 simp only[jt] at hst
 split at hst
 rotate_left
 ·exact hst.elim
 rename_i n hn
 obtain ⟨av,cap,hv,hne⟩:=abg hx hn
 have fin:∀ b,K (s.put o.dst (.val (.bool b)))→(execOp a.eval o).run P w=.ok (.value (.bool b)) w→o.wp P a w Kr Q:=by
  intro b hK hr
  refine ub hr (hk _ _ _ hK ⟨I,β,lam,?_⟩)
  rw[vN]
  have:(s.put o.dst (.val (.bool b))).sto=s.sto:=by cases o.dst<;>rfl
  rw[this]
  exact h.put hd (uh _)
 rcases hop with ⟨rfl,rfl⟩ | ⟨rfl,rfl⟩
 ·have hr:(execOp a.eval o).run P w=.ok (.value (.bool av.isNone)) w:=by
   have e1:binOp .eql t (.slice av n cap) (.slice none 0 0)=(do pure (.bool (← Op.equal t (.slice av n cap) (.slice none 0 0)))):=rfl
   have e2:(eqGuard .eql t x (.const (.slice none 0 0)) (.slice av n cap) (.slice none 0 0)).run P w=.ok () w:=rfl
   simp only[execOp,ho,hv,(show a.eval (.const (.slice none 0 0))=.slice none 0 0 from rfl),e1,Sem.run_bind,e2,Result.andThen_ok,Qq hu,Sem.run_pure]
  by_cases h0:n=0
  ·have:=hst.1 h0
   cases hb:av.isNone with
   | true=>exact fin _ this.1 (by rw[hr,hb])
   | false=>exact fin _ this.2 (by rw[hr,hb])
  ·exact fin _ (hst.2 h0) (by rw[hr,hne h0])
 ·have hr:(execOp a.eval o).run P w=.ok (.value (.bool (!av.isNone))) w:=by
   have e1:binOp .neq t (.slice av n cap) (.slice none 0 0)=(do pure (.bool (!(← Op.equal t (.slice av n cap) (.slice none 0 0))))):=rfl
   have e2:(eqGuard .neq t x (.const (.slice none 0 0)) (.slice av n cap) (.slice none 0 0)).run P w=.ok () w:=rfl
   simp only[execOp,ho,hv,(show a.eval (.const (.slice none 0 0))=.slice none 0 0 from rfl),e1,Sem.run_bind,e2,Result.andThen_ok,Qq hu,Sem.run_pure]
  by_cases h0:n=0
  ·have:=hst.1 h0
   cases hb:av.isNone with
   | true=>exact fin _ this.2 (by rw[hr,hb]; rfl)
   | false=>exact fin _ this.1 (by rw[hr,hb]; rfl)
  ·exact fin _ (hst.2 h0) (by rw[hr,hne h0]; rfl)
theorem DM {t:TypeId} {kv v:Value} {es es':Array MapEntry} {clock clock' b:Nat} (hf:LC P t kv v es clock=some (es',clock')) (hb:w.heap[b]?=some (.map es clock)) :
  (Instr.mapUpdate t (.map (some b)) kv v).run P w=.ok () {w with heap:=w.heap.setIfInBounds b (.map es' clock')}:=by
 unfold LC at hf
 split at hf
 ·rename_i key elem hu
  split at hf
  ·rename_i hk
   have h1:=wJ hk w
   split at hf
   ·rename_i i v' hfk
    have h2:=wJ hfk w
    simp only[Option.map_eq_some_iff,Prod.mk.injEq] at hf
    obtain ⟨k',hk',rfl,rfl⟩:=hf
    have h3:=wJ hk' w
    simp[Instr.mapUpdate,run_underlying hu,getObj,setObj,Sem.run,hb,Sem.run_bind,h1,h2,h3]
   ·rename_i hfk
    have h2:=wJ hfk w
    simp only[Option.some.injEq,Prod.mk.injEq] at hf
    obtain ⟨rfl,rfl⟩:=hf
    simp[Instr.mapUpdate,run_underlying hu,getObj,setObj,Sem.run,hb,Sem.run_bind,h1,h2]
   ·cases hf
  ·cases hf
 ·cases hf
theorem LK {t:TypeId} {m y x:Operand} {X Y Z:AV} {s:St} {K:St→Prop} {Kr:Act→World→Prop} (ho:o.op=.mapUpdate t m y x∨o.op=.insert t m y x)
  (h:Inv F s.look (lk s.sto) I β lam a w) (_hd:te F.N o.dst=true) (hx:R I w β lam X (a.eval m)) (hy:R I w β lam Y (a.eval y)) (hz:R I w β lam Z (a.eval x)) (hst:qM P t s o.dst K [X,Y,Z])
  (hk:∀ s' a' w',K s'→Holds F s' a' w'→Kr a' w'):o.wp P a w Kr Q:=by
 unfold qM at hst
 split at hst
 rotate_left
 ·exact hst.elim
 rename_i j Y' Z' heq
 simp only[List.cons.injEq,and_true] at heq
 obtain ⟨rfl,rfl,rfl⟩:=heq
 split at hst
 rotate_left
 ·exact hst.elim
 rename_i es clock kv v hs hkv hv
 split at hst
 rotate_left
 ·exact hst.elim
 rename_i es' clock' hset
 obtain ⟨hdn,hK⟩:=hst
 obtain ⟨b,hb,hbv⟩:=hx.mp_inv
 have hE:w.heap[b]?=some (.map es clock):=h.hread _ _ _ hs hb
 have hbl:b<w.heap.size:=(h.bnew j b hb).2.1
 have e1:=gL hkv hy
 have e2:=gL hv hz
 have hr:=DM hset hE
 generalize hw':({w with heap:=w.heap.setIfInBounds b (.map es' clock')}:World)=w' at hr
 have hrun:(execOp a.eval o).run P w=.ok .skip w':=by
  rcases ho with ho | ho<;>(simp only[execOp,ho,hbv,e1,e2]; exact mC hr)
 have hheap:∀ c,c≠b→w'.heap[c]?=w.heap[c]?:=fun c hc=>by
  subst hw'; simp only[Array.getElem?_setIfInBounds]; rw[if_neg (fun e=>hc e.symm)]
 have hsize:w'.heap.size=w.heap.size:=by subst hw'; simp
 have hBelow:Below F.w0.heap.size w w':=⟨by subst hw'; rfl,by subst hw'; rfl,by subst hw'; rfl,by omega,fun c hc=>hheap c (by have:=(h.bnew j b hb).1; omega)⟩
 have hcI:∀ b' o v,I b' o→w.cell? ⟨b',o,none⟩=some v→w'.cell? ⟨b',o,none⟩=some v:=fun b' o v hi hv=>by
  have hne:b'≠b:=fun e=>(h.bnew j b hb).2.2 o (by rw[← e]; exact hi)
  simp only[World.cell?,hheap b' hne] at hv ⊢; exact hv
 unfold Oper.wp
 rw[hrun]
 show Kr (a.put o.dst undef) w'
 rw[hdn]
 show Kr a w'
 refine hk _ _ _ hK ⟨I,β,lam,?_⟩
 have hcell:∀ b' o v,w.cell? ⟨b',o,none⟩=some v→w'.cell? ⟨b',o,none⟩=some v:=fun b' o v hv=>by
  have hne:b'≠b:=fun e=>by subst e; simp[World.cell?,hE] at hv
  simp only[World.cell?,hheap b' hne] at hv ⊢; exact hv
 exact
  {defers:=h.defers
   size:=h.size
   below:=h.below.trans hBelow
   env:=fun t x ht=>by
    rw[show St.look {s with sto:=pt s.sto j (.map es' clock')}=s.look from xa] at ht
    obtain ⟨v,h1,h2⟩:=h.env t x ht
    exact ⟨v,h1,h2.mono (fun _ _ h=>h) hcI (fun _ _ h=>h) (fun _ _ h=>h)⟩
   sto:=fun k en hk hu=>by
    simp only[xS] at hk
    split at hk
    ·rename_i e
     subst e
     simp only[Option.some.injEq] at hk
     subst hk
     refine ⟨b,hb,?_⟩
     show w'.heap[b]?=some (.map es' clock')
     subst hw'; simp[hbl]
    ·rename_i hne
     obtain ⟨b',g1,g2⟩:=h.sto k en hk hu
     have hbb:b'≠b:=fun e=>hne (h.binj j k b hb (by rw[← e]; exact g1))
     exact ⟨b',g1,g2.mono (fun _ _ h=>h) hcI (fun _ _ h=>h) (fun _ _ h=>h) (hheap b' hbb)⟩
   usto:=fun l sz rows hk=>by
    simp only[xS] at hk
    split at hk
    ·simp at hk
    ·exact (h.usto l sz rows hk).mono (fun _ _ h=>h) hcI (fun _ _ h=>h) (fun _ _ h=>h) (fun b' o cap q v _ _ hv=>hcell _ _ _ hv)
   bdom:=fun k b' hk=>by
    obtain ⟨en,g1,g2⟩:=h.bdom k b' hk
    by_cases e:j=k
    ·exact ⟨.map es' clock',by simp[xS,e],rfl⟩
    ·exact ⟨en,by simp only[xS,if_neg e]; exact g1,g2⟩
   binj:=h.binj
   bnew:=fun k b' hk=>by
    obtain ⟨g1,g2,g3⟩:=h.bnew k b' hk
    exact ⟨g1,by omega,g3⟩
   Isub:=fun b' o hi=>by have:=h.Isub b' o hi; omega
   I0sub:=h.I0sub
   Inew:=h.Inew
   spare:=fun l av len cap sz hl c h1 h2=>by
    obtain ⟨b',o,q1,q2,⟨v,q3⟩,q4,q5,q6⟩:=h.spare l av len cap sz hl c h1 h2
    have hne:b'≠b:=fun e=>q6 j (by rw[e]; exact hb)
    refine ⟨b',o,q1,q2,⟨v,hcell _ _ _ q3⟩,?_,q5,q6⟩
    simp only[World.frozen?,hheap b' hne]
    exact q4
   ldis:=h.ldis}
end
end Go.Am
