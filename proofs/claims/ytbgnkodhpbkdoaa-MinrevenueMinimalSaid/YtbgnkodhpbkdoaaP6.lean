/- What the proof rests on, part 6: Am41 Am42 Am43 Am44. -/
import Derived.Test.YtbgnkodhpbkdoaaP5
set_option maxRecDepth 100000
set_option maxHeartbeats 4000000
namespace Go.Am
open Go.RowKit
def sw (a b k:Nat):Nat:=if k=a then b else if k=b then a else k
theorem rE {a b k:Nat}:sw a b (sw a b k)=k:=by unfold sw; repeat' split<;>try omega
theorem G8 {a b k k':Nat} (h:sw a b k=sw a b k'):k=k':=by rw[← rE (a:=a) (b:=b) (k:=k),h,rE]
def rn1 (a b:Nat):AV→AV
 | .ptr k off=>.ptr (sw a b k) off
 | .eptr k sz i off=>.eptr (sw a b k) sz i off
 | .sl k sz off len=>.sl (sw a b k) sz off len
 | .us k sz off len=>.us (sw a b k) sz off len
 | .up k sz i off=>.up (sw a b k) sz i off
 | .mp k=>.mp (sw a b k)
 | .list sz (.own l) rows=>.list sz (.own (sw a b l)) rows
 | .fn _ _=>.undef
 | .tuple _=>.undef
 | .lit _ _=>.undef
 | .raw _=>.undef
 | x=>x
def rn (a b:Nat):AV→AV
 | .fn f caps=>.fn f (caps.map (rn1 a b))
 | .tuple cells=>.tuple (cells.map (rn1 a b))
 | x=>rn1 a b x
def rnE (a b:Nat):zb→zb
 | .var cells=>.var (cells.map (rn a b))
 | .uarr sz rows=>.uarr sz (rows.map fun r=>r.map (rn a b))
 | e=>e
def St.rn (s:St) (a b:Nat):St :=
 {env:=s.env.map fun p=>(p.1,Am.rn a b p.2),sto:=s.sto.map fun p=>(sw a b p.1,rnE a b p.2),out:=s.out.map fun f=>f.map fun p=>(p.1,Am.rn a b p.2),base:=s.base}
section
variable {I:Nat→Nat→Prop} {w:World} {β:zR} {lam:ya} {a b:Nat}
theorem Qn {x:AV} {v:Value} (h:R0 I w x v):R0 I w (rn1 a b x) v:=by
 cases h with
 | listNil sz m a cap hm ho=>cases m<;>first | exact .listNil _ _ _ _ hm ho | exact absurd rfl (ho _)
 | list sz m rows b o cap g hcap hm ho hrow hcell hc=>cases m<;>first | exact .list _ _ rows b o cap g hcap hm ho hrow hcell hc | exact absurd rfl (ho _)
 | fn=>exact .undef _
 | tuple=>exact .undef _
 | undef=>exact .undef _
 | val=>exact .val _
 | agg cells vs hs h1 hc=>exact .agg cells vs hs h1 hc
 | ro cells b o g hcell hc=>exact .ro cells b o g hcell hc
 | iface t x v h=>exact .iface t x v h
theorem Lz {x:AV} {v:Value} (h:R I w β lam x v):R I w (fun k=>β (sw a b k)) (fun l=>lam (sw a b l)) (rn1 a b x) v:=by
 cases h with
 | base h=>exact .base (Qn h)
 | ptr k off b h=>exact .ptr _ off b (by rw[rE]; exact h)
 | eptr k sz i off b h=>exact .eptr _ sz i off b (by rw[rE]; exact h)
 | sl k sz off len cap b av h hc ha=>exact .sl _ sz off len cap b av (by rw[rE]; exact h) hc ha
 | own sz l rows a cap h hl=>exact .own sz _ rows a cap h (by rw[rE]; exact hl)
 | us l sz off len cap cp a av h hc ho ha=>exact .us _ sz off len cap cp a av (by rw[rE]; exact h) hc ho ha
 | up l sz i off cap b o h=>exact .up _ sz i off cap b o (by rw[rE]; exact h)
 | mp k b h=>exact .mp _ b (by rw[rE]; exact h)
 | fn=>exact yv _
 | tuple=>exact yv _
 | litNil=>exact yv _
 | lit=>exact yv _
 | raw=>exact yv _
theorem Mh {x:AV} {sz l:Nat} {rows:List (List AV)} (h:rn1 a b x=.list sz (.own l) rows):∃ l',x=.list sz (.own l') rows:=by
 cases x<;>simp only[rn1,reduceCtorEq] at h
 rename_i sz' m rows'
 cases m<;>simp only[AV.list.injEq,reduceCtorEq,false_and,and_false,Mode.own.injEq] at h
 obtain ⟨rfl,_,rfl⟩:=h
 exact ⟨_,rfl⟩
theorem Dy {x:AV} {v:Value} (h:R I w β lam x v):R I w (fun k=>β (sw a b k)) (fun l=>lam (sw a b l)) (rn a b x) v:=by
 cases x with
 | fn f caps =>
  cases h with
  | base h =>
   cases h with
   | fn _ _ vs hs hc =>
    refine .base (.fn f _ vs (by simpa using hs) fun i c hi=>?_)
    simp only[List.getElem?_map,Option.map_eq_some_iff] at hi
    obtain ⟨c0,hi,rfl⟩:=hi
    exact Qn (hc i c0 hi)
  | fn _ _ vs hs hn hc =>
   refine .fn f _ vs (by simpa using hs) (fun sz l rows hm=>?_) fun i c hi=>?_
   ·obtain ⟨c0,hm,he⟩:=List.mem_map.1 hm
    obtain ⟨l',rfl⟩:=Mh he
    exact hn _ _ _ hm
   ·simp only[List.getElem?_map,Option.map_eq_some_iff] at hi
    obtain ⟨c0,hi,rfl⟩:=hi
    exact Lz (hc i c0 hi)
 | tuple cells =>
  cases h with
  | base h =>
   cases h with
   | tuple _ vs hs hc =>
    refine .base (.tuple _ vs (by simpa using hs) fun i c hi=>?_)
    simp only[List.getElem?_map,Option.map_eq_some_iff] at hi
    obtain ⟨c0,hi,rfl⟩:=hi
    exact Qn (hc i c0 hi)
  | tuple _ vs hs hn hc =>
   refine .tuple _ vs (by simpa using hs) (fun sz l rows hm=>?_) fun i c hi=>?_
   ·obtain ⟨c0,hm,he⟩:=List.mem_map.1 hm
    obtain ⟨l',rfl⟩:=Mh he
    exact hn _ _ _ hm
   ·simp only[List.getElem?_map,Option.map_eq_some_iff] at hi
    obtain ⟨c0,hi,rfl⟩:=hi
    exact Lz (hc i c0 hi)
 | _=>exact Lz h
theorem Mi {en:zb}:(rnE a b en).isU=en.isU:=by cases en<;>rfl
theorem acM {bk:Nat} {en:zb} (h:RE I w β lam bk en):RE I w (fun k=>β (sw a b k)) (fun l=>lam (sw a b l)) bk (rnE a b en):=by
 cases en with
 | var cells =>
  intro j c hj
  simp only[List.getElem?_map,Option.map_eq_some_iff] at hj
  obtain ⟨c',hj,rfl⟩:=hj
  obtain ⟨v,h1,h2,h3,h4⟩:=h j c' hj
  exact ⟨v,h1,h2,h3,Dy h4⟩
 | arr sz rows=>exact h
 | uarr sz rows=>exact h
 | map es clock=>exact h
theorem acN {l sz:Nat} {rows:List (List AV)} (h:RU I w β lam l sz rows):RU I w (fun k=>β (sw a b k)) (fun l=>lam (sw a b l)) (sw a b l) sz (rows.map fun r=>r.map (rn a b)):=by
 obtain ⟨ad,cap,h1,h2,h3,h4⟩:=h
 refine ⟨ad,cap,by show lam (sw a b (sw a b l))=_; rw[rE]; exact h1,by simpa using h2,fun i r hi=>?_,fun hne=>?_⟩
 ·simp only[List.getElem?_map,Option.map_eq_some_iff] at hi
  obtain ⟨r0,hi,rfl⟩:=hi
  rw[List.length_map]; exact h3 i r0 hi
 ·obtain ⟨bk,o,rfl,h5⟩:=h4 (by intro e; subst e; exact hne rfl)
  refine ⟨bk,o,rfl,fun i r j c hi hj=>?_⟩
  simp only[List.getElem?_map,Option.map_eq_some_iff] at hi
  obtain ⟨r0,hi,rfl⟩:=hi
  simp only[List.getElem?_map,Option.map_eq_some_iff] at hj
  obtain ⟨c0,hj,rfl⟩:=hj
  obtain ⟨v,g1,g2,g3⟩:=h5 i r0 j c0 hi hj
  exact ⟨v,g1,g2,Dy g3⟩
end
theorem acp {a b:Nat} (l:List (Nat × zb)) (k:Nat):lk (l.map fun p=>(sw a b p.1,rnE a b p.2)) k=(lk l (sw a b k)).map (rnE a b):=by
 induction l with
 | nil=>rfl
 | cons p l ih =>
  obtain ⟨m,e⟩:=p
  simp only[List.map_cons,lk]
  by_cases h:m=sw a b k
  ·rw[if_pos h,if_pos (by rw[h,rE])]; rfl
  ·rw[if_neg h,if_neg (fun e=>h (by rw[← e,rE]))]; exact ih
theorem AC {s:St} {a b:Nat}:(s.rn a b).look=fun t=>(s.look t).map (rn a b):=by
 funext t
 obtain ⟨f,t⟩:=t
 cases f with
 | zero=>exact sK _ _ _
 | succ f =>
  simp only[St.look,St.rn,List.getElem?_map]
  cases s.out[f]? with
  | none=>rfl
  | some q=>exact sK _ _ _
theorem St.imp_rn {s:St} (a b:Nat):St.imp s (s.rn a b):=by
 rintro F ac w ⟨I,β,lam,h⟩
 refine ⟨I,fun k=>β (sw a b k),fun l=>lam (sw a b l),?_⟩
 have hs:∀ k,lk (s.rn a b).sto k=(lk s.sto (sw a b k)).map (rnE a b):=fun k=>acp _ _
 exact
  {defers:=h.defers
   size:=h.size
   below:=h.below
   env:=fun t x ht=>by
    rw[AC] at ht
    simp only[Option.map_eq_some_iff] at ht
    obtain ⟨x0,ht,rfl⟩:=ht
    obtain ⟨v,h1,h2⟩:=h.env t x0 ht
    exact ⟨v,h1,Dy h2⟩
   sto:=fun k en hk hu=>by
    rw[hs] at hk
    simp only[Option.map_eq_some_iff] at hk
    obtain ⟨e0,hk,rfl⟩:=hk
    rw[Mi] at hu
    obtain ⟨bk,h1,h2⟩:=h.sto _ e0 hk hu
    exact ⟨bk,h1,acM h2⟩
   usto:=fun l sz rows hk=>by
    rw[hs] at hk
    simp only[Option.map_eq_some_iff] at hk
    obtain ⟨e0,hk,he⟩:=hk
    cases e0<;>simp only[rnE,reduceCtorEq,zb.uarr.injEq] at he
    obtain ⟨rfl,rfl⟩:=he
    have:=acN (a:=a) (b:=b) (h.usto _ _ _ hk)
    rw[rE] at this
    exact this
   bdom:=fun k bk hk=>by
    obtain ⟨en,h1,h2⟩:=h.bdom _ bk hk
    exact ⟨rnE a b en,by rw[hs,h1]; rfl,by rw[Mi]; exact h2⟩
   binj:=fun k k' bk h1 h2=>G8 (h.binj _ _ bk h1 h2)
   bnew:=fun k bk hk=>h.bnew _ bk hk
   Isub:=h.Isub
   I0sub:=h.I0sub
   Inew:=h.Inew
   spare:=fun l av len cap sz hl c h1 h2=>by
    obtain ⟨bk,o,q1,q2,q3,q4,q5,q6⟩:=h.spare _ av len cap sz hl c h1 h2
    exact ⟨bk,o,q1,q2,q3,q4,q5,fun k=>q6 _⟩
   ldis:=fun l l' bk o o' len len' cap cap' sz sz' hne h1 h2=>h.ldis _ _ bk o o' len len' cap cap' sz sz' (fun e=>hne (G8 e)) h1 h2}
theorem St.imp_freeze {s t:St} {k:Nat} (h:xf k s fun s'=>s'=t):St.imp s t:=by
 rintro F a w ⟨I,β,lam,hI⟩
 obtain ⟨s',rfl,hH⟩:=dW (K:=fun s'=>s'=t) ⟨I,β,lam,hI⟩ h
 exact hH
theorem St.imp_tok {s:St} (l sz:Nat) (hl:lk s.sto l=none):St.imp s {(s.dg l) with sto:=pt (s.dg l).sto l (.uarr sz [])}:=by
 rintro F a w ⟨I,β,lam,h⟩
 have:=h.ownerU l (fun en he=>by rw[hl] at he; cases he) (ad:=none) (cap:=0) (sz:=sz) (rows:=[]) (w':=w) (Below.refl _ _) (fun _ _ _ _ h=>h) (fun _ _ _=>rfl) (fun c hc=>by omega)
  (fun _ _ _ _ _ _ _ _ _ _ _ _ _=>⟨rfl,fun _ h=>by cases h⟩) (fun lam' _ hl2=>SB hl2)
 refine ⟨I,β,(fun l'=>if l'=l then some (none,0,0,sz) else lam l'),?_⟩
 show Inv F (St.look {(s.dg l) with sto:=pt (s.dg l).sto l (.uarr sz [])}) (lk (pt (s.dg l).sto l (.uarr sz []))) I β _ a w
 rw[xa,(tZ s l).1]
 have e:lk (pt (s.dg l).sto l (.uarr sz []))=yd (fun k=>(lk s.sto k).map (dgE l)) (some l) (some (.uarr sz [])):=by
  rw[wI,(tZ s l).2]
 rw[e]
 exact this
def St.impW (s t:St):Prop:=∀ (F:z9) (a:Act) (w:World) (I:Nat→Nat→Prop) (β:zR) (lam:ya),Inv F s.look (lk s.sto) I β lam a w→Inv F t.look (lk t.sto) I β lam a w
theorem St.impW.imp {s t:St} (h:St.impW s t):St.imp s t:=fun F a w ⟨I,β,lam,hI⟩=>⟨I,β,lam,h F a w I β lam hI⟩
theorem St.impW.refl {s:St}:St.impW s s:=fun _ _ _ _ _ _ h=>h
theorem St.impW.trans {s t u:St} (h:St.impW s t) (k:St.impW t u):St.impW s u:=fun F a w I β lam g=>k F a w I β lam (h F a w I β lam g)
theorem afN.pre {P:Program} {f:FuncId} {xs:List AV} {s t:St} {K:AV→St→Prop} (h:St.impW s t) (hc:afN P f xs t K):afN P f xs s K:=fun F a w I β lam hI=>hc F a w I β lam (h F a w I β lam hI)
theorem ab5 {I I':Nat→Nat→Prop} {w:World} {β β':zR} {lam lam':ya} {v:Value} (h:R I w β lam (.tuple []) v):R I' w β' lam' (.tuple []) v:=by
 cases h with
 | base h=>cases h with | tuple _ vs hs _=>exact .base (.tuple _ vs hs fun i c hc=>by simp at hc)
 | tuple _ vs hs _ _=>exact .base (.tuple _ vs hs fun i c hc=>by simp at hc)
theorem afN.post {P:Program} {f:FuncId} {xs:List AV} {s:St} {K K':AV→St→Prop} (hc:afN P f xs s K) (h:∀ r s',K r s'→(∃ t,St.impW s' t∧K' r t)∨(r=.tuple []∧∃ t,St.imp s' t∧K' r t)):afN P f xs s K' :=
 fun F a w I β lam hI vs hn hv=>Calls.mono (hc F a w I β lam hI vs hn hv) fun e w' ⟨v,e1,r,s',I',β',lam',hK,hI',hR⟩=>by
  refine ⟨v,e1,r,?_⟩
  rcases h r s' hK with ⟨t,ht,hk⟩ | ⟨rfl,t,ht,hk⟩
  ·exact ⟨t,I',β',lam',hk,ht _ _ _ _ _ _ hI',hR⟩
  ·obtain ⟨I2,β2,lam2,h2⟩:=ht _ _ _ ⟨I',β',lam',hI'⟩
   refine ⟨t,I2,β2,lam2,hk,h2,?_⟩
   exact ab5 hR
theorem St.impW_cell {s:St} {k j:Nat} {cells:List AV} {x y:AV} (hk:lk s.sto k=some (.var cells)) (hj:cells[j]?=some x)
  (hxy:∀ (F:z9) (a:Act) (w:World) (I:Nat→Nat→Prop) (β:zR) (lam:ya) (v:Value),Inv F s.look (lk s.sto) I β lam a w→R I w β lam x v→R I w β lam y v) :
  St.impW s {s with sto:=pt s.sto k (.var (cells.set j y))}:=by
 intro F a w I β lam h
 show Inv F (St.look {s with sto:=pt s.sto k (.var (cells.set j y))}) (lk (pt s.sto k (.var (cells.set j y)))) I β lam a w
 rw[xa]
 exact
  {h with
   sto:=fun k' en hk' hu=>by
    simp only[xS] at hk'
    split at hk'
    ·rename_i e
     subst e
     simp only[Option.some.injEq] at hk'
     subst hk'
     obtain ⟨b,hb,hE⟩:=h.sto k _ hk rfl
     refine ⟨b,hb,fun i c hi=>?_⟩
     rw[List.getElem?_set] at hi
     split at hi
     ·rename_i e
      subst e
      split at hi
      ·simp only[Option.some.injEq] at hi
       subst hi
       obtain ⟨v,h1,h2,h3,h4⟩:=hE j x hj
       exact ⟨v,h1,h2,h3,hxy _ _ _ _ _ _ _ h h4⟩
      ·cases hi
     ·exact hE i c hi
    ·exact h.sto k' en hk' hu
   usto:=fun l sz rows hk'=>by
    simp only[xS] at hk'
    split at hk'
    ·simp at hk'
    ·exact h.usto l sz rows hk'
   bdom:=fun k' b hb=>by
    obtain ⟨en,h1,h2⟩:=h.bdom k' b hb
    by_cases e:k=k'
    ·exact ⟨.var (cells.set j y),by simp[e],rfl⟩
    ·exact ⟨en,by simp only[xS,if_neg e]; exact h1,h2⟩}
theorem St.imp_cell {s:St} {k j:Nat} {cells:List AV} {x y:AV} (hk:lk s.sto k=some (.var cells)) (hj:cells[j]?=some x)
  (hxy:∀ (F:z9) (a:Act) (w:World) (I:Nat→Nat→Prop) (β:zR) (lam:ya) (v:Value),Inv F s.look (lk s.sto) I β lam a w→R I w β lam x v→R I w β lam y v) :
  St.imp s {s with sto:=pt s.sto k (.var (cells.set j y))}:=(St.impW_cell hk hj hxy).imp
theorem St.imp_cell_nil {s:St} {k j n l sz:Nat} {cells:List AV} (hk:lk s.sto k=some (.var cells)) (hj:cells[j]?=some (.list n .full [])) (hl:lk s.sto l=some (.uarr sz [])) :
  St.imp s {s with sto:=pt s.sto k (.var (cells.set j (.us l sz 0 0)))} :=
 St.imp_cell hk hj fun F a w I β lam v h hx=>by
  obtain ⟨av,cap,rfl,_,hf,_⟩:=hx.list_inv
  have hc:=hf rfl
  simp only[List.length_nil] at hc
  subst hc
  obtain ⟨a',cap',h1,h2,h3,h4⟩:=h.usto l sz [] hl
  exact .us l sz 0 0 cap' 0 a' av h1 (Nat.le_refl _) (Nat.zero_le _) (fun h=>absurd rfl h)
section
variable {P:Program} {s:St} {K:Exit→St→Prop}
def Xx (st:Nat→St) (I:Nat→Prop) (k:Nat) (K:Exit→St→Prop):Exit→St→Prop
 | .normal,s=>St.imp s (st k)∧I k
 | e,s=>K e s
@[simp] theorem abN {st:Nat→St} {I:Nat→Prop} {k:Nat}:Xx st I k K .normal s=(St.imp s (st k)∧I k):=rfl
@[simp] theorem acT {st:Nat→St} {I:Nat→Prop} {k j:Nat}:Xx st I k K (.exit j) s=K (.exit j) s:=rfl
@[simp] theorem adh {st:Nat→St} {I:Nat→Prop} {k:Nat}:Xx st I k K .ret s=K .ret s:=rfl
@[simp] theorem acU {st:Nat→St} {I:Nat→Prop} {k j:Nat}:Xx st I k K (.goto j) s=K (.goto j) s:=rfl
theorem sj {a:ze} (st:Nat→St) (I:Nat→Prop) (N:Nat) (h0:St.imp s (st 0)) (i0:I 0) (h1:∀ k,k<N→I k→awp P a (st k) (Xx st I (k+1) K)) (h2:I N→awp P a (st N) (fM K)) :
  awp P (.loop a) s K:=by
 refine ⟨fun n s=>∃ k,k≤N∧n=N-k∧s=st k∧I k,N,st 0,h0,⟨0,by omega,by omega,rfl,i0⟩,?_⟩
 rintro n s ⟨k,hk,rfl,rfl,hi⟩
 by_cases h:k<N
 ·refine xN (fun e s hs=>?_) (h1 k h hi)
  cases e with
  | normal=>exact ⟨N-(k+1),st (k+1),by omega,hs.1,k+1,by omega,rfl,rfl,hs.2⟩
  | _=>exact hs
 ·obtain rfl:k=N:=by omega
  refine xN (fun e s hs=>?_) (h2 hi)
  cases e with
  | normal=>exact hs.elim
  | _=>exact hs
end
def yJ (M:Nat):AV→Bool
 | .ptr k _=>decide (k<M)
 | .eptr k _ _ _=>decide (k<M)
 | .sl k _ _ _=>decide (k<M)
 | .us k _ _ _=>decide (k<M)
 | .up k _ _ _=>decide (k<M)
 | .mp k=>decide (k<M)
 | .list _ (.own l) _=>decide (l<M)
 | .fn _ _=>false
 | .tuple _=>false
 | .lit _ _=>false
 | .raw _=>false
 | _=>true
def low (M:Nat):AV→Bool
 | .fn _ caps=>caps.all (yJ M)
 | .tuple cells=>cells.all (yJ M)
 | x=>yJ M x
def sL (M:Nat):zb→Bool
 | .var cells=>cells.all (low M)
 | .uarr _ rows=>rows.all fun r=>r.all (low M)
 | _=>true
def yS (M:Nat) (f:List (Nat × AV)):Prop:=∀ p∈f,low M p.2=true
def yh (M:Nat) (l:List (List (Nat × AV))):Prop:=∀ f∈l,yS M f
theorem yK {α:Type} {f:α→α} {l:List α} (h:∀ x∈l,f x=x):l.map f=l:=by
 rw[List.map_congr_left (g:=id) h]; simp
section
variable {M k:Nat} (hk:M≤k)
include hk
theorem Tl {x:AV} (h:yJ M x=true):qw k x=false:=by
 cases x with
 | list sz m rows=>cases m<;>simp[yJ,qw,nP] at h ⊢; omega
 | _=>simp[yJ,qw,nP] at h ⊢<;>try omega
theorem Jz {x:AV} (h:yJ M x=true):nP k x=false:=by
 have:=Tl hk h
 cases x with
 | list sz m rows=>rfl
 | _=>exact this
theorem Jy {x:AV} (h:yJ M x=true):vR k x=false:=by
 cases x with
 | list sz m rows=>rfl
 | _=>simp[yJ,vR] at h ⊢<;>try omega
theorem RK {j:Nat} (hj:M≤j) {x:AV} (h:yJ M x=true):rn1 k j x=x:=by
 have e:∀ i,i<M→sw k j i=i:=fun i hi=>by unfold sw; rw[if_neg (by omega),if_neg (by omega)]
 cases x with
 | list sz m rows=>cases m<;>simp[yJ,rn1] at h ⊢; exact e _ h
 | _=>simp[yJ,rn1] at h ⊢<;>try exact e _ h
theorem aN {l:List AV} (h:l.all (yJ M)=true):l.any (nP k)=false :=
 List.any_eq_false.2 fun x hx=>by rw[Jz hk (List.all_eq_true.1 h x hx)]; simp
theorem aM {l:List AV} (h:l.all (yJ M)=true):l.any (vR k)=false :=
 List.any_eq_false.2 fun x hx=>by rw[Jy hk (List.all_eq_true.1 h x hx)]; simp
theorem JC {x:AV} (h:low M x=true):dg k x=x:=by
 cases x with
 | fn f caps=>simp only[dg,aN hk h]; rfl
 | tuple caps=>simp only[dg,aN hk h]; rfl
 | lit=>cases h
 | raw=>cases h
 | _=>simp only[low] at h; exact X0 (Tl hk h)
theorem RN {x:AV} (h:low M x=true):zT k x=false:=by
 cases x with
 | fn f caps=>exact aM hk h
 | tuple caps=>exact aM hk h
 | lit=>cases h
 | raw=>cases h
 | list=>rfl
 | _=>simp[low,yJ,zT] at h ⊢<;>try omega
theorem NO {e:zb} {x:AV} (h:low M x=true):frz k e x=x:=by
 cases x with
 | lit=>cases h
 | raw=>cases h
 | list sz m rows =>
  cases m with
  | own l =>
   have h:yJ M (.list sz (.own l) rows)=true:=h
   simp only[yJ,decide_eq_true_eq] at h
   simp only[frz]; rw[if_neg (by omega)]
  | _=>rfl
 | ptr j off =>
  have h:yJ M (.ptr j off)=true:=h
  simp only[yJ,decide_eq_true_eq] at h
  simp only[frz]; rw[if_neg (by omega)]
 | eptr j sz i off =>
  have h:yJ M (.eptr j sz i off)=true:=h
  simp only[yJ,decide_eq_true_eq] at h
  simp only[frz]; rw[if_neg (by omega)]
 | sl j sz off len =>
  have h:yJ M (.sl j sz off len)=true:=h
  simp only[yJ,decide_eq_true_eq] at h
  simp only[frz]; rw[if_neg (by omega)]
 | us j sz off len =>
  have h:yJ M (.us j sz off len)=true:=h
  simp only[yJ,decide_eq_true_eq] at h
  simp only[frz]; rw[if_neg (by omega)]
 | up j sz i off =>
  have h:yJ M (.up j sz i off)=true:=h
  simp only[yJ,decide_eq_true_eq] at h
  simp only[frz]; rw[if_neg (by omega)]
 | mp j =>
  have h:yJ M (.mp j)=true:=h
  simp only[yJ,decide_eq_true_eq] at h
  simp only[frz]; rw[if_neg (by omega)]
 | _=>rfl
theorem JE {j:Nat} (hj:M≤j) {x:AV} (h:low M x=true):rn k j x=x:=by
 have all:∀ {l:List AV},l.all (yJ M)=true→l.map (rn1 k j)=l:=fun {l} h=>by
  exact yK fun x hx=>RK hk hj (List.all_eq_true.1 h x hx)
 cases x with
 | fn f caps=>simp only[rn,all h]
 | tuple caps=>simp only[rn,all h]
 | lit=>cases h
 | raw=>cases h
 | _=>simp only[low] at h; exact RK hk hj h
theorem BN {e:zb} (h:sL M e=true):dgE k e=e:=by
 have all:∀ {l:List AV},l.all (low M)=true→l.map (dg k)=l:=fun {l} h=>by
  exact yK fun x hx=>JC hk (List.all_eq_true.1 h x hx)
 cases e with
 | var cells=>simp only[dgE,all h]
 | uarr sz rows =>
  simp only[dgE,zU]
  rw[yK fun r hr=>all (List.all_eq_true.1 h r hr)]
 | _=>rfl
theorem RL {e0 e:zb} (h:sL M e=true):uf k e0 e=e:=by
 have all:∀ {l:List AV},l.all (low M)=true→l.map (frz k e0)=l:=fun {l} h=>by
  exact yK fun x hx=>NO hk (List.all_eq_true.1 h x hx)
 cases e with
 | var cells=>simp only[uf,all h]
 | uarr sz rows =>
  simp only[uf]
  rw[yK fun r hr=>all (List.all_eq_true.1 h r hr)]
 | _=>rfl
theorem BO {j:Nat} (hj:M≤j) {e:zb} (h:sL M e=true):rnE k j e=e:=by
 have all:∀ {l:List AV},l.all (low M)=true→l.map (rn k j)=l:=fun {l} h=>by
  exact yK fun x hx=>JE hk hj (List.all_eq_true.1 h x hx)
 cases e with
 | var cells=>simp only[rnE,all h]
 | uarr sz rows =>
  simp only[rnE]
  rw[yK fun r hr=>all (List.all_eq_true.1 h r hr)]
 | _=>rfl
theorem Uf {f:List (Nat × AV)} (h:yS M f):(f.map fun p=>(p.1,dg k p.2))=f:=by
 exact yK fun p hp=>by rw[JC hk (h p hp)]
theorem Zz {e:zb} {f:List (Nat × AV)} (h:yS M f):(f.map fun p=>(p.1,frz k e p.2))=f:=by
 exact yK fun p hp=>by rw[NO hk (h p hp)]
theorem bE {j:Nat} (hj:M≤j) {f:List (Nat × AV)} (h:yS M f):(f.map fun p=>(p.1,rn k j p.2))=f:=by
 exact yK fun p hp=>by rw[JE hk hj (h p hp)]
theorem m9 {f:List (Nat × AV)} (h:yS M f):rz k f=true:=by
 induction f with
 | nil=>rfl
 | cons p f ih =>
  obtain ⟨m,x⟩:=p
  have h1:=h (m,x) (by simp)
  simp only[rz,RN hk h1,ih fun p hp=>h p (by simp[hp])]; rfl
theorem YW {l:List AV} (h:l.all (low M)=true):wM k l=false:=by
 induction l with
 | nil=>rfl
 | cons x l ih =>
  simp only[List.all_cons,Bool.and_eq_true] at h
  simp only[wM,RN hk h.1,ih h.2]; rfl
theorem JA {e:zb} (h:sL M e=true):nK k e=false:=by
 cases e with
 | var cells=>exact YW hk h
 | uarr sz rows =>
  have h:(rows.all fun r=>r.all (low M))=true:=h
  show yN k rows=false
  induction rows with
  | nil=>rfl
  | cons r rows ih =>
   have h':=h
   simp only[List.all_cons,Bool.and_eq_true] at h'
   simp only[yN,YW hk h'.1,ih h'.2 h'.2]; rfl
 | _=>rfl
theorem YV {f:List (List (Nat × AV))} (h:yh M f):pI k f=true:=by
 induction f with
 | nil=>rfl
 | cons p f ih=>simp only[pI,m9 hk (h p (by simp)),ih fun p hp=>h p (by simp[hp])]; rfl
theorem NN {f:List (List (Nat × AV))} (h:yh M f):(f.map fun f=>f.map fun p=>(p.1,dg k p.2))=f:=by
 exact yK fun p hp=>Uf hk (h p hp)
theorem EM {e:zb} {f:List (List (Nat × AV))} (h:yh M f):(f.map fun f=>f.map fun p=>(p.1,frz k e p.2))=f:=by
 exact yK fun p hp=>Zz hk (h p hp)
theorem Ug {j:Nat} (hj:M≤j) {f:List (List (Nat × AV))} (h:yh M f):(f.map fun f=>f.map fun p=>(p.1,rn k j p.2))=f:=by
 exact yK fun p hp=>bE hk hj (h p hp)
end
theorem yo {M:Nat} {t:Nat} {x:AV} {f:List (Nat × AV)}:yS M ((t,x)::f)↔low M x=true∧yS M f:=by simp[yS]
theorem yy {M:Nat}:yS M []:=fun _ h=>by cases h
theorem qU {M:Nat} {x:List (Nat × AV)} {f:List (List (Nat × AV))}:yh M (x::f)↔yS M x∧yh M f:=by simp[yh]
theorem Tk {M N:Nat} (h:M≤N) {x:AV} (hx:yJ M x=true):yJ N x=true:=by
 cases x with
 | list sz m rows=>cases m<;>simp[yJ] at hx ⊢; omega
 | _=>simp[yJ] at hx ⊢<;>try omega
theorem low_mono {M N:Nat} (h:M≤N) {x:AV} (hx:low M x=true):low N x=true:=by
 have all:∀ {l:List AV},l.all (yJ M)=true→l.all (yJ N)=true:=fun {l} hl=>List.all_eq_true.2 fun y hy=>Tk h (List.all_eq_true.1 hl y hy)
 cases x with
 | fn f caps=>exact all hx
 | tuple caps=>exact all hx
 | lit=>cases hx
 | raw=>cases hx
 | _=>simp only[low] at hx ⊢; exact Tk h hx
theorem Tm {M N:Nat} (h:M≤N) {f:List (Nat × AV)} (hf:yS M f):yS N f:=fun p hp=>low_mono h (hf p hp)
theorem JB {M N:Nat} (h:M≤N) {f:List (List (Nat × AV))} (hf:yh M f):yh N f:=fun p hp=>Tm h (hf p hp)
section
variable {I:Nat→Nat→Prop} {w:World} {β:zR} {lam:ya}
theorem R.own_plain {sz:Nat} {m:Mode} {rows:List (List AV)} {v:Value} (h:R I w β lam (.list sz m rows) v):R I w β lam (.list sz .plain rows) v:=by
 cases h with
 | base h =>
  cases h with
  | listNil sz m a cap hm ho=>exact .base (.listNil _ _ _ _ (fun h=>by cases h) (fun _ h=>by cases h))
  | list sz m rows b o cap g hcap hm ho hrow hcell hc=>exact .base (.list _ _ rows b o cap g hcap (fun h=>by cases h) (fun _ h=>by cases h) hrow hcell hc)
 | own sz l' rows a cap h hl'=>exact .base h
theorem R.nil_plain {sz sz':Nat} {m:Mode} {v:Value} (h:R I w β lam (.list sz m []) v):R I w β lam (.list sz' .plain []) v:=by
 cases h with
 | base h=>cases h<;>exact .base (.listNil _ _ _ _ (fun h=>by cases h) (fun _ h=>by cases h))
 | own sz l' rows a cap h hl'=>exact .base (.listNil _ _ _ _ (fun h=>by cases h) (fun _ h=>by cases h))
end
def wB (x y:AV):Prop:=x=y∨(∃ sz m rows,x=.list sz m rows∧y=.list sz .plain rows)∨∃ sz sz' m,x=.list sz m []∧y=.list sz' .plain []
theorem wB.refl {x:AV}:wB x x:=.inl rfl
theorem wB.list {sz:Nat} {m:Am.Mode} {rows:List (List AV)}:wB (.list sz m rows) (.list sz .plain rows):=.inr (.inl ⟨_,_,_,rfl,rfl⟩)
theorem wB.nil {sz sz':Nat} {m:Am.Mode}:wB (.list sz m []) (.list sz' .plain []):=.inr (.inr ⟨_,_,_,rfl,rfl⟩)
theorem wB.R {x y:AV} (h:wB x y) {I:Nat→Nat→Prop} {w:World} {β:zR} {lam:ya} {v:Value} (hx:R I w β lam x v):R I w β lam y v:=by
 rcases h with rfl | ⟨sz,m,rows,rfl,rfl⟩ | ⟨sz,sz',m,rfl,rfl⟩
 ·exact hx
 ·exact hx.own_plain
 ·exact hx.nil_plain
theorem St.impW_uarr {s:St} {l sz:Nat} {rows rows':List (List AV)} (hk:lk s.sto l=some (.uarr sz rows)) (hl:rows'.length=rows.length)
  (h:∀ (i:Nat) r r',rows[i]?=some r→rows'[i]?=some r'→r'.length=r.length∧∀ (j:Nat) c c',r[j]?=some c→r'[j]?=some c'→wB c c') :
  St.impW s {s with sto:=pt s.sto l (.uarr sz rows')}:=by
 intro F a w I β lam hI
 show Inv F (St.look {s with sto:=pt s.sto l (.uarr sz rows')}) (lk (pt s.sto l (.uarr sz rows'))) I β lam a w
 rw[xa]
 exact
  {hI with
   sto:=fun k en hk' hu=>by
    simp only[xS] at hk'
    split at hk'
    ·simp only[Option.some.injEq] at hk'
     subst hk'
     cases hu
    ·exact hI.sto k en hk' hu
   usto:=fun k sz' rows'' hk'=>by
    simp only[xS] at hk'
    split at hk'
    ·rename_i e
     subst e
     simp only[Option.some.injEq,zb.uarr.injEq] at hk'
     obtain ⟨rfl,rfl⟩:=hk'
     obtain ⟨ad,cap,h1,h2,h3,h4⟩:=hI.usto _ _ _ hk
     have get:∀ (i:Nat) r',rows'[i]?=some r'→∃ r,rows[i]?=some r:=fun i r' hi=>by
      have:i<rows.length:=by rw[← hl]; exact (List.getElem?_eq_some_iff.1 hi).1
      exact ⟨rows[i],by simp[this]⟩
     refine ⟨ad,cap,h1,by omega,fun i r' hi=>?_,fun hne=>?_⟩
     ·obtain ⟨r,hr⟩:=get i r' hi
      rw[(h i r r' hr hi).1]
      exact h3 i r hr
     ·obtain ⟨b,o,rfl,h5⟩:=h4 (by rintro rfl; exact hne (List.eq_nil_of_length_eq_zero (by simpa using hl)))
      refine ⟨b,o,rfl,fun i r' j c' hi hj=>?_⟩
      obtain ⟨r,hr⟩:=get i r' hi
      obtain ⟨e1,e2⟩:=h i r r' hr hi
      have hjl:j<r.length:=by rw[← e1]; exact (List.getElem?_eq_some_iff.1 hj).1
      have hc:r[j]?=some r[j]:=by simp[hjl]
      obtain ⟨v,g1,g2,g3⟩:=h5 i r j _ hr hc
      exact ⟨v,g1,g2,(e2 j _ c' hc hj).R g3⟩
    ·exact hI.usto k sz' rows'' hk'
   bdom:=fun k' b hb=>by
    obtain ⟨en,h1,h2⟩:=hI.bdom k' b hb
    by_cases e:l=k'
    ·subst e; rw[hk] at h1; cases h1; cases h2
    ·exact ⟨en,by simp only[xS,if_neg e]; exact h1,h2⟩}
theorem St.imp_uarr {s:St} {l sz:Nat} {rows rows':List (List AV)} (hk:lk s.sto l=some (.uarr sz rows)) (hl:rows'.length=rows.length)
  (h:∀ (i:Nat) r r',rows[i]?=some r→rows'[i]?=some r'→r'.length=r.length∧∀ (j:Nat) c c',r[j]?=some c→r'[j]?=some c'→wB c c') :
  St.imp s {s with sto:=pt s.sto l (.uarr sz rows')}:=(St.impW_uarr hk hl h).imp
theorem St.impW_cell_weak {s:St} {k j:Nat} {cells:List AV} {x y:AV} (hk:lk s.sto k=some (.var cells)) (hj:cells[j]?=some x) (h:wB x y) :
  St.impW s {s with sto:=pt s.sto k (.var (cells.set j y))} :=
 St.impW_cell hk hj fun _ _ _ _ _ _ _ _ hx=>h.R hx
theorem St.imp_cell_weak {s:St} {k j:Nat} {cells:List AV} {x y:AV} (hk:lk s.sto k=some (.var cells)) (hj:cells[j]?=some x) (h:wB x y) :
  St.imp s {s with sto:=pt s.sto k (.var (cells.set j y))}:=(St.impW_cell_weak hk hj h).imp
theorem St.impW_drop {s:St} {l sz:Nat} {rows:List (List AV)} (hk:lk s.sto l=some (.uarr sz rows)):St.impW s {s with sto:=del [l] s.sto}:=by
 intro F a w I β lam hI
 have hd:∀ k e,lk (del [l] s.sto) k=some e→k≠l∧lk s.sto k=some e:=fun k e h=>by
  rw[tv] at h
  split at h
  ·cases h
  ·rename_i hn; exact ⟨fun e=>hn (by simp[e]),h⟩
 have hd':∀ k e,k≠l→lk s.sto k=some e→lk (del [l] s.sto) k=some e:=fun k e hne h=>by rw[tv,if_neg (by simpa using hne)]; exact h
 exact
  {hI with
   sto:=fun k en h hu=>hI.sto k en (hd k en h).2 hu
   usto:=fun k sz' rows' h=>hI.usto k sz' rows' (hd k _ h).2
   bdom:=fun k b hb=>by
    obtain ⟨en,h1,h2⟩:=hI.bdom k b hb
    exact ⟨en,hd' k en (fun e=>by subst e; rw[hk] at h1; cases h1; cases h2) h1,h2⟩}
def adB (k:List Int):Value:=.agg (k.map (Value.int .i64)).toArray
structure afD (P:Program) (t key:TypeId) (n:Nat):Prop where
 kd:kds P Op.maxDepth key=some (List.replicate n (.i .i64))
 ag:agT P key=true
 chk:∀ (b:Bool) (k:List Int),k.length=n→zr P (Instr.checkKey b 10000 key (adB k))=some ()
def Ny (P:Program) (s:St) (d:Option Nat) (K:St→Prop):List AV→Prop
 | .fn (.func f) caps::ys=>yM P f=true∧uF P f (ys++caps) s d K
 | _=>False
@[simp] theorem acj {P:Program} {s:St} {d:Option Nat} {K:St→Prop} {f:FuncId} {caps ys:List AV} :
  Ny P s d K (.fn (.func f) caps::ys)=(yM P f=true∧uF P f (ys++caps) s d K):=rfl
@[simp] theorem acx {P:Program} {xs:List Opd} {d:Option Nat} {os:List zi} {s:St} {KS:St→Prop} :
  zj P (⟨d,.callvI,xs,none⟩::os) s KS=Ny P s d (kP P os KS) (xs.map (ev s)):=propext Iff.rfl
theorem St.imp_gone {s t:St} {k:Nat} {e:zb} (hk:lk s.sto k=some e) (h1:s.env.map (fun p=>(p.1,frz k e p.2))=t.env) (h2:(del [k] s.sto).map (fun p=>(p.1,uf k e p.2))=t.sto)
  (h3:s.out.map (fun f=>f.map fun p=>(p.1,frz k e p.2))=t.out) (hb:s.base=t.base) (hu:t.unmet k=true):St.imp s t :=
 St.imp_freeze (k:=k) (by
  unfold xf
  rw[hk]
  obtain ⟨e0,s0,o0,b0⟩:=t
  simp only at h1 h2 h3 hb
  simp only[h1,h2,h3,hb]
  exact ⟨hu,trivial⟩)
end Go.Am
